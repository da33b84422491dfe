/-
  Texts joined by program: Gen Kept Sep BorC WkM Ran Chk Simp F13M SurA.
-/
import Derived.Test.YtghlnknncahkgaaGreatF7
import Derived.Test.YtghlnknncahkgaaGreatF1
import Derived.Test.YtghlnknncahkgaaGreatF5
import Derived.Deep.RegionHeld3
import Derived.RangeFuncNested
import Derived.RangeFuncCalls
import Derived.RangeFuncBound
import Derived.Shelf.Abstract
import Derived.RangeFuncLeaves
import Derived.OwnWalkIn
import Derived.TacticsInMore
import Derived.LoopNIn
import Derived.LoopIn
import Derived.Lib.Hide
import Derived.Lib.Slices
import Derived.Test.YtghlnknncahkgaaGreatF4
import Derived.RegionTactic
import Derived.BigRegion
import Derived.BigQuiet
import Derived.Deep.QuietTactic
import Derived.Deep.DeepCutAuto
/-
  genus.Of, by walking its text.
-/
namespace Go.Proofs.YtghlnknncahkgaaGreat
open Go.RowKit Go.Maps

/-- The border's loops, as border.Loops hands them back. -/
def LoopsPost (n : Nat) (T : List Tr) (w : World) (e : Ending) (w' : World) : Prop :=
  ∃ v us, ∃ L : List (List Int), e = .returned v ∧ w'.ownsRow w.heap.size 28 1 v L.length us ∧ L.length ≤ n ∧
    (∀ (i : Nat) (u : Value) (r : List Int), us[i]? = some u → L[i]? = some r → w'.ownsRow w.heap.size 3 1 u r.length (intsV r) ∧ ∃ a r', r = a :: r' ∧ 0 ≤ a ∧ a < n) ∧ (L = [] ↔ ClosedT T) ∧ Below w.heap.size w w'
theorem own_base {w : World} {base base' n s : Nat} {e : TypeId} {v : Value} {xs : List Value} (h : w.ownsRow base e s v n xs) (hb : base' ≤ base) : w.ownsRow base' e s v n xs := by
  obtain ⟨h1, h2 | ⟨g, cap, cur, rfl, a1, a2⟩⟩ := h
  · exact ⟨h1, .inl h2⟩
  · exact ⟨h1, .inr ⟨g, cap, cur, rfl, Nat.le_trans hb a1, a2⟩⟩
theorem cnt_ge {out : List Int} : ∀ (k : Nat), k ≤ out.length → ∀ j, j < k → at_ out j + 1 ≤ cntL (out.take k)
  | 0, _, j, hj => by omega
  | k + 1, hk, j, hj => by
    rw [cntL_take (j := k) (out := out) (by omega)]
    rcases Nat.lt_or_ge j k with h | h
    · have := cnt_ge (out := out) k (by omega) j h
      omega
    · obtain rfl : j = k := by omega
      omega
theorem at_lt {out : List Int} {j : Nat} (hj : j < out.length) : at_ out j < cntL out := by
  have := cnt_ge (out := out) out.length (Nat.le_refl _) j hj
  rw [List.take_length] at this
  omega
/-- The numbers while they are counted: rows of the shells' numbers and of the ends of edges. -/
structure GI (W2 : World) (T : List Tr) (m : Nat) (vO vT : Value) (cs tw : List Int) (W : World) : Prop where
  below : Below W2.heap.size W2 W
  out : W.ownsRow W2.heap.size 142 6 vO m (intsV cs)
  two : W.ownsRow W2.heap.size 3 1 vT m (intsV tw)
  cl : cs.length = m * 6
  tl : tw.length = m
  cb : ∀ x ∈ cs, 0 ≤ x ∧ x ≤ 30000
  tb : ∀ x ∈ tw, 0 ≤ x ∧ x ≤ 60000
theorem at_mem {l : List Int} {j : Nat} (h : j < l.length) : at_ l j ∈ l := by
  unfold at_
  rw [List.getD_eq_getElem?_getD, List.getElem?_eq_getElem h]
  exact List.getElem_mem _
section
variable {W2 W W' : World} {T : List Tr} {m i : Nat} {vO vT : Value} {cs tw : List Int}
theorem GI.le (h : GI W2 T m vO vT cs tw W) (hb : Below W.heap.size W W') : GI W2 T m vO vT cs tw W' :=
  ⟨h.below.trans (hb.mono h.below.size), own_below h.out hb, own_below h.two hb, h.cl, h.tl, h.cb, h.tb⟩
theorem GI.putO {gO cO : Nat} (h : GI W2 T m (.slice (some ⟨gO, 0, none⟩) m cO) vT cs tw W) (j : Nat) (x : Int) (hx : 0 ≤ x ∧ x ≤ 30000) : GI W2 T m (.slice (some ⟨gO, 0, none⟩) m cO) vT (cs.set j x) tw (W.setCell ⟨gO, j, none⟩ (.int .i64 x)) := by
  obtain ⟨k1, k2⟩ := h.out.stored j (.int .i64 x)
  rw [intsV_set] at k1
  refine ⟨h.below.grown k2 h.below.size (fun k e => (h.out.lt k e).1), k1, h.two.kept k2 (own_own_ne h.two h.out (by decide)), by rw [List.length_set]; exact h.cl, h.tl, fun y hy => ?_, h.tb⟩
  rcases List.mem_or_eq_of_mem_set hy with hy | rfl
  · exact h.cb y hy
  · exact hx
theorem GI.putT {gT cT : Nat} (h : GI W2 T m vO (.slice (some ⟨gT, 0, none⟩) m cT) cs tw W) (j : Nat) (x : Int) (hx : 0 ≤ x ∧ x ≤ 60000) : GI W2 T m vO (.slice (some ⟨gT, 0, none⟩) m cT) cs (tw.set j x) (W.setCell ⟨gT, j, none⟩ (.int .i64 x)) := by
  obtain ⟨k1, k2⟩ := h.two.stored j (.int .i64 x)
  rw [intsV_set] at k1
  refine ⟨h.below.grown k2 h.below.size (fun k e => (h.two.lt k e).1), h.out.kept k2 (own_own_ne h.out h.two (by decide)), k1, h.cl, by rw [List.length_set]; exact h.tl, h.cb, fun y hy => ?_⟩
  rcases List.mem_or_eq_of_mem_set hy with hy | rfl
  · exact h.tb y hy
  · exact hx
theorem GI.cellO {gO cO : Nat} (h : GI W2 T m (.slice (some ⟨gO, 0, none⟩) m cO) vT cs tw W) (f : Nat) (hi : i < m) (hf : f < 6) : W.cell? ⟨gO, i * 6 + f, none⟩ = some (.int .i64 (at_ cs (i * 6 + f))) ∧ W.frozen? ⟨gO, i * 6 + f, none⟩ = false ∧ 0 ≤ at_ cs (i * 6 + f) ∧ at_ cs (i * 6 + f) ≤ 30000 ∧ gO < W.heap.size := by
  have hj : i * 6 + f < cs.length := by rw [h.cl]; omega
  refine ⟨by rw [h.out.cellAt _ (by omega)]; exact intsV_at hj, h.out.frozenAt _, ?_⟩
  have hm : at_ cs (i * 6 + f) ∈ cs := by
    unfold at_
    rw [List.getD_eq_getElem?_getD, List.getElem?_eq_getElem hj]
    exact List.getElem_mem _
  exact ⟨(h.cb _ hm).1, (h.cb _ hm).2, (h.out.lt gO rfl).2⟩
theorem GI.cellT {gT cT : Nat} (h : GI W2 T m vO (.slice (some ⟨gT, 0, none⟩) m cT) cs tw W) (hi : i < m) : W.cell? ⟨gT, i, none⟩ = some (.int .i64 (at_ tw i)) ∧ W.frozen? ⟨gT, i, none⟩ = false ∧ 0 ≤ at_ tw i ∧ at_ tw i ≤ 60000 ∧ gT < W.heap.size := by
  have hj : i < tw.length := by rw [h.tl]; omega
  refine ⟨by rw [h.two.cellAt _ (by omega)]; exact intsV_at hj, h.two.frozenAt _, ?_⟩
  have hm : at_ tw i ∈ tw := by
    unfold at_
    rw [List.getD_eq_getElem?_getD, List.getElem?_eq_getElem hj]
    exact List.getElem_mem _
  exact ⟨(h.tb _ hm).1, (h.tb _ hm).2, (h.two.lt gT rfl).2⟩
end

set_option maxRecDepth 100000 in
set_option maxHeartbeats 4000000 in
theorem genus_any (g n : Nat) (T : List Tr) (w : World) (hT : Tab w g n T) (hS : Surf n T) (hL : ∀ W, Below w.heap.size w W → Calls Tryz.prog 109 #[.pointer (some ⟨g, 0, none⟩)] W (LoopsPost n T W)) :
    Calls Tryz.prog 82 #[.pointer (some ⟨g, 0, none⟩)] w fun e w' => ∃ (v : Value) (out : List Int) (m : Nat) (cs : List Int), e = .returned v ∧ Shl T out ∧ cntL out = m ∧ w'.ownsRow w.heap.size 142 6 v m (intsV cs) ∧
      (m = 1 → ∃ E b : Int, cs = [(n : Int), E, T.length, b, n - E + T.length, (2 - b - (n - E + T.length)).tdiv 2] ∧ 0 ≤ b ∧ (b = 0 ↔ ClosedT T) ∧ (ClosedT T → E = 3 * (T.length : Int) / 2)) ∧ Below w.heap.size w w' := by
  have hl := hT.len
  have hn1 := hS.n1
  have b1 := Blk.new w 26 #[.pointer (some ⟨g, 0, none⟩)]
  have hB1 : Below w.heap.size w (w.alloc (.cells #[.pointer (some ⟨g, 0, none⟩)] 26)) := (Below.refl _ _).alloc (Nat.le_refl _) _
  have HOf := Lib.hid (of_any g n T _ (hT.below hB1) hS.twice)
  have HT := Lib.hid hT
  have HS := Lib.hid hS
  have HL := Lib.hid hL
  obtain ⟨F, hF⟩ : ∃ F, T.length = F := ⟨_, rfl⟩
  rw [hF] at hl HOf ⊢
  have HF := Lib.hid hF
  clear hF hT hS hL
  obtain ⟨i0, hi0, hx0, hx1, hx2⟩ := info_parts infoNums
  obtain ⟨i2, hi2, hy0, hy1, hy2⟩ := info_parts infoInt
  go_enter Tryz.func82, Tryz.ntmps82
  go_wp2_with fail
  refine HOf.out.mono ?_
  rintro e w1 ⟨v, out, rfl, hr, hSh, hlt, hB⟩
  obtain ⟨av, cv, rfl⟩ := ownsRow_slice hr
  have hz1 := hB.size
  have hB2 : Below w.heap.size w (w1.alloc (.cells #[.slice av F cv] 28)) := (hB1.trans (hB.mono hB1.size)).alloc (by have := hB1.size; omega) _
  have bt2 := (b1.below hB b1.lt).alloc (.cells #[.slice av F cv] 28)
  have bs2 := Blk.new w1 28 #[.slice av F cv]
  have hr2 := hr.alloc (.cells #[.slice av F cv] 28)
  have HB2 := Lib.hid hB2
  have HBt := Lib.hid bt2
  have HBs := Lib.hid bs2
  have HR2 := Lib.hid hr2
  have HSh := Lib.hid hSh
  have HLT := Lib.hid hlt
  clear hB hB1 hB2 b1 bt2 bs2 hr hr2 hSh hlt HOf
  go_upto_region 2 with fail
  generalize w1.alloc (.cells #[.slice av F cv] 28) = W2 at *
  have HTW := Lib.hid (fun (W : World) (hW : Below W2.heap.size W2 W) => HT.out.below (HB2.out.trans (hW.mono HB2.out.size)))
  have HCn := Lib.hid (count_any g n T W2 (HTW.out W2 (Below.refl _ _)) HS.out.twice)
  have hz2 := HB2.out.size
  obtain ⟨lt0, x0, -⟩ := HBt.out.one
  obtain ⟨ls0, y0, -⟩ := HBs.out.one
  go_wp2_with fail
  refine HCn.out.mono ?_
  rintro e w3 ⟨out', rfl, hSh', -, hB3⟩
  obtain rfl := HSh.out.one hSh'
  clear hSh' HCn
  have hol : out.length = F := by rw [HSh.out.len]; exact HF.out
  have HOL := Lib.hid hol
  have hcm0 : 0 ≤ cntL out ∧ cntL out ≤ F := by
    have := cntL_bd (out := out) (m := (F : Int)) (fun j hj => HLT.out j (by omega)) (by omega) out.length (Nat.le_refl _)
    rwa [List.take_length] at this
  obtain ⟨m, hm⟩ : ∃ m : Nat, cntL out = m := ⟨(cntL out).toNat, by omega⟩
  have HM := Lib.hid hm
  have hlm : ∀ j, j < F → 0 ≤ at_ out j ∧ at_ out j < m := fun j hj => ⟨HSh.out.nn j (by rw [HF.out]; exact hj), by rw [← hm]; exact at_lt (by rw [hol]; exact hj)⟩
  have HLM := Lib.hid hlm
  have hmF : m ≤ F := by omega
  rw [hm]
  clear hol hcm0 hm hlm
  go_upto_region 5 with (first
    | (at_make; refine wpList_make_full _ rfl (.tmp 17) (.tmp 17) 139 rfl W2.heap.size 142 i0 _ 6 Tryz.underlying139 hi0 hx0 hx1 .i64 .i64 _ _ m rfl rfl rfl rfl (by rw [hx2]; omega) (by unfold maxLen; omega) hB3.size ?_; intro w4 hr4 hg4)
    | (at_make; refine wpList_make_full _ rfl (.tmp 20) (.tmp 20) 28 rfl W2.heap.size 3 i2 _ 1 Tryz.underlying28 hi2 hy0 hy1 .i64 .i64 _ _ m rfl rfl rfl rfl (by rw [hy2]; omega) (by unfold maxLen; omega) (Nat.le_trans hB3.size hg4.size) ?_; intro w5 hr5 hg5))
  rw [made6] at hr4
  rw [made_ints] at hr5
  have hG0 : GI W2 T m (.slice (some ⟨w3.heap.size, 0, none⟩) m m) (.slice (some ⟨w4.heap.size, 0, none⟩) m m) (List.replicate (m * 6) 0) (List.replicate m 0) w5 :=
    ⟨(hB3.grown hg4 hB3.size (fun j e => by cases e)).grown hg5 (Nat.le_trans hB3.size hg4.size) (fun j e => by cases e), hr4.kept hg5 (.inr (by simp [Value.ownBlock])), by simpa [intsV] using hr5, by simp, by simp, fun x hx => by rw [List.eq_of_mem_replicate hx]; omega, fun x hx => by rw [List.eq_of_mem_replicate hx]; omega⟩
  have HG0 := Lib.hid hG0
  clear hr4 hg4 hr5 hg5 hB3 hG0 hi0 hx0 hx1 hx2 hi2 hy0 hy1 hy2
  generalize w3.heap.size = gO at *
  generalize w4.heap.size = gT at *
  rename World => wA
  have hBA := HG0.out.below
  have hzA := hBA.size
  have xA := (hBA.cell (p := ⟨w.heap.size, 0, none⟩) lt0).trans x0
  have yA := (hBA.cell (p := ⟨w1.heap.size, 0, none⟩) ls0).trans y0
  clear hBA
  go_wp2
  go_loopw [25] (fun ix wr => ∃ (k : Nat) (cs tw : List Int), k ≤ F ∧ ix = .int .i64 k ∧ GI W2 T m (.slice (some ⟨gO, 0, none⟩) m m) (.slice (some ⟨gT, 0, none⟩) m m) cs tw wr ∧ (∀ x ∈ cs, x ≤ k) ∧ (∀ x ∈ tw, x ≤ 6 * k) ∧ (m = 1 → cs = [0, 0, (k : Int), 0, 0, 0] ∧ (ClosedT T → tw = [3 * (k : Int)]))) (fun ix _ => F - (intOf ix).toNat)
  case atStart => exact ⟨0, _, _, Nat.zero_le _, rfl, HG0.out, fun x hx => by rw [List.eq_of_mem_replicate hx]; omega, fun x hx => by rw [List.eq_of_mem_replicate hx]; omega, fun h => by subst h; exact ⟨rfl, fun _ => rfl⟩⟩
  case round =>
    clear HG0 xA yA hzA
    rename World => wr
    obtain ⟨k, cs, tw, hk, rfl, hG, hc1, ht1, h1⟩ := hrel
    have hBr := hG.below
    have hzr := hBr.size
    have xr := (hBr.cell (p := ⟨w.heap.size, 0, none⟩) lt0).trans x0
    have yr := (hBr.cell (p := ⟨w1.heap.size, 0, none⟩) ls0).trans y0
    by_cases hlt : k < F
    · obtain ⟨g0, cap, e0, hg1, hg2⟩ := HR2.out.form (by omega)
      cases e0
      have hrc := (hBr.cell (p := ⟨g0, k, none⟩) hg2).trans (HR2.out.cellAt k (by omega))
      rw [intsV_at (by rw [HOL.out]; exact hlt)] at hrc
      obtain ⟨i, hi⟩ : ∃ i : Nat, at_ out k = i := ⟨(at_ out k).toNat, by have := HLM.out k hlt; omega⟩
      have him : i < m := by have := HLM.out k hlt; omega
      rw [hi] at hrc
      obtain ⟨o1, o2, o3, o4, o5⟩ := hG.cellO 2 him (by omega)
      have hmO : at_ cs (i * 6 + 2) ∈ cs := by
        have hj : i * 6 + 2 < cs.length := by rw [hG.cl]; omega
        unfold at_
        rw [List.getD_eq_getElem?_getD, List.getElem?_eq_getElem hj]
        exact List.getElem_mem _
      have o6 := hc1 _ hmO
      have hG2 := hG.putO (i * 6 + 2) (at_ cs (i * 6 + 2) + 1) (by omega)
      have hc2 : ∀ x ∈ cs.set (i * 6 + 2) (at_ cs (i * 6 + 2) + 1), x ≤ (k : Int) + 1 := fun x hx => by
        rcases List.mem_or_eq_of_mem_set hx with hx | rfl
        · have := hc1 x hx; omega
        · omega
      have h2 : m = 1 → cs.set (i * 6 + 2) (at_ cs (i * 6 + 2) + 1) = [0, 0, (k : Int) + 1, 0, 0, 0] := fun h => by
        obtain rfl : i = 0 := by omega
        rw [(h1 h).1]
        rfl
      have h3 : m = 1 → ClosedT T → tw = [3 * (k : Int)] := fun h hc => (h1 h).2 hc
      have k3 : (k : Int) < (F : Int) := by omega
      have i3 : (i : Int) < (m : Int) := by omega
      have HG2 := Lib.hid hG2
      have HC2 := Lib.hid hc2
      have HT1 := Lib.hid ht1
      have H2 := Lib.hid h2
      have H3 := Lib.hid h3
      have HI := Lib.hid hi
      generalize cs.set (i * 6 + 2) (at_ cs (i * 6 + 2) + 1) = cs2 at *
      generalize at_ cs (i * 6 + 2) = z at *
      clear hG hG2 hc1 hc2 ht1 h1 h2 h3 hmO hBr hi
      go_wp2
      generalize (wr.setCell ⟨gO, i * 6 + 2, none⟩ (.int .i64 (z + 1))) = wB at *
      go_loopw [9] (fun cq wq => ∃ (j : Nat) (tw2 : List Int), j ≤ 3 ∧ cq = .int .i64 (3 * (k : Int) + (j : Int)) ∧ GI W2 T m (.slice (some ⟨gO, 0, none⟩) m m) (.slice (some ⟨gT, 0, none⟩) m m) cs2 tw2 wq ∧ (∀ x ∈ tw2, x ≤ 6 * (k : Int) + 2 * (j : Int)) ∧ (m = 1 → ClosedT T → tw2 = [3 * (k : Int) + (j : Int)])) (fun cq _ => 3 * k + 3 - (intOf cq).toNat)
      case atStart => exact ⟨0, tw, by omega, by simp, HG2.out, fun x hx => by have := HT1.out x hx; omega, fun h hc => by rw [H3.out h hc]; simp⟩
      case round =>
        rename World => wq
        obtain ⟨j, tw2, hj, rfl, hG, ht2, h4⟩ := hrel
        clear HG2 H3 HT1
        have hBr := hG.below
        have hzr := hBr.size
        have xr := (hBr.cell (p := ⟨w.heap.size, 0, none⟩) lt0).trans x0
        by_cases hj3 : j < 3
        · obtain ⟨o1, o2, o3, o4, o5⟩ := hG.cellT him
          have o6 := ht2 _ (at_mem (l := tw2) (j := i) (by rw [hG.tl]; exact him))
          have hG3 := hG.putT i (at_ tw2 i + 1) (by omega)
          have ht3 : ∀ x ∈ tw2.set i (at_ tw2 i + 1), x ≤ 6 * (k : Int) + 2 * (j : Int) + 1 := fun x hx => by
            rcases List.mem_or_eq_of_mem_set hx with hx | rfl
            · have := ht2 x hx; omega
            · omega
          have h5 : m = 1 → ClosedT T → tw2.set i (at_ tw2 i + 1) = [3 * (k : Int) + (j : Int) + 1] := fun h hc => by
            obtain rfl : i = 0 := by omega
            rw [h4 h hc]
            rfl
          have HG3 := Lib.hid hG3
          have HT3 := Lib.hid ht3
          have H5 := Lib.hid h5
          have j3 : 3 * (k : Int) + (j : Int) < 3 * (k : Int) + 3 := by omega
          generalize tw2.set i (at_ tw2 i + 1) = tw3 at *
          generalize at_ tw2 i = y at *
          clear hG hG3 ht2 ht3 h4 h5 hBr
          go_upto_region 13 with fail
          generalize (wq.setCell ⟨gT, i, none⟩ (.int .i64 (y + 1))) = wC at *
          have hBC := HG3.out.below
          have xC := (hBC.cell (p := ⟨w.heap.size, 0, none⟩) lt0).trans x0
          have HOp := Lib.hid (opp_any g n (3 * (k : Int) + (j : Int)) T wC (HTW.out wC hBC))
          clear hBC
          go_wp2_with fail
          refine HOp.out.mono ?_
          rintro e wD ⟨rfl, hbD⟩
          have hG4 := HG3.out.le hbD
          have hcl : ClosedT T → 0 ≤ oppI T (3 * (k : Int) + (j : Int)) := fun hc => by
            have := hc (3 * k + j) (by rw [HF.out]; omega)
            have e : ((3 * k + j : Nat) : Int) = 3 * (k : Int) + (j : Int) := by omega
            rwa [e] at this
          have HCl := Lib.hid hcl
          clear hcl hbD xC
          by_cases hop : oppI T (3 * (k : Int) + (j : Int)) < 0
          · obtain ⟨p1, p2, p3, p4, p5⟩ := hG4.cellT him
            have p6 := HT3.out _ (at_mem (l := tw3) (j := i) (by rw [hG4.tl]; exact him))
            have hG5 := hG4.putT i (at_ tw3 i + 1) (by omega)
            have ht5 : ∀ x ∈ tw3.set i (at_ tw3 i + 1), x ≤ 6 * (k : Int) + 2 * ((j : Int) + 1) := fun x hx => by
              rcases List.mem_or_eq_of_mem_set hx with hx | rfl
              · have := HT3.out x hx; omega
              · omega
            have HG5 := Lib.hid hG5
            have HT5 := Lib.hid ht5
            generalize tw3.set i (at_ tw3 i + 1) = tw5 at *
            generalize at_ tw3 i = x at *
            clear hG4 hG5 ht5
            go_wp2
            go_roundw
            case measure => simp [intOf]; omega
            case rel => exact ⟨j + 1, tw5, by omega, by go_num, HG5.out, fun x hx => by have := HT5.out x hx; push_cast; omega, fun h hc => by have := HCl.out hc; omega⟩
          · have HG4 := Lib.hid hG4
            clear hG4
            go_wp2
            go_roundw
            case measure => simp [intOf]; omega
            case rel => exact ⟨j + 1, tw3, by omega, by go_num, HG4.out, fun x hx => by have := HT3.out x hx; push_cast; omega, fun h hc => by rw [H5.out h hc]; congr 1⟩
        · obtain rfl : j = 3 := by omega
          have HG := Lib.hid hG
          have HT2 := Lib.hid ht2
          have H4 := Lib.hid h4
          clear hG ht2 h4
          go_wp2
          go_roundw
          case measure => simp [intOf]; omega
          case rel => exact ⟨k + 1, cs2, tw2, by omega, by go_num, HG.out, fun x hx => by have := HC2.out x hx; push_cast; omega, fun x hx => by have := HT2.out x hx; push_cast; omega, fun h => ⟨by rw [H2.out h]; push_cast; rfl, fun hc => by rw [H4.out h hc]; congr 1⟩⟩
    · obtain rfl : F = k := by omega
      have HG := Lib.hid hG
      have HC1 := Lib.hid hc1
      have HT1 := Lib.hid ht1
      have H1 := Lib.hid h1
      have HVs := Lib.hid (vertices_any g n T wr (HTW.out wr hBr).toTabS)
      have hn : n ≤ 4096 := by omega
      have HAt := Lib.hid (fun (W : World) (hW : Below W2.heap.size W2 W) (v : Int) (hv : 0 ≤ v ∧ v < n) => (show Calls Tryz.prog 107 #[.int .i64 v, .pointer (some ⟨w1.heap.size, 0, none⟩), .pointer (some ⟨w.heap.size, 0, none⟩)] W fun e w' => ∃ q : Nat, e = .returned (.int .i64 (q : Int)) ∧ q < m ∧ Below W.heap.size W w' from by
        have hzW := hW.size
        have hrW := own_below HR2.out hW
        rw [← HF.out] at hrW
        refine (gat_any g w1.heap.size w.heap.size n v T out av cv _ W HS.out (HTW.out W hW) ((hW.cell (p := ⟨w1.heap.size, 0, none⟩) ls0).trans (by rw [HF.out]; exact y0)) ((hW.cell (p := ⟨w.heap.size, 0, none⟩) lt0).trans x0) (by omega) (by omega) hrW HSh.out.len hv).mono ?_
        rintro e w' ⟨i, rfl, hi, hb⟩
        rw [HF.out] at hi
        have := HLM.out i hi
        exact ⟨(at_ out i).toNat, by congr 2; omega, by omega, hb⟩))
      clear hG hc1 ht1 h1 yr hBr hzr
      go_wp2_with fail
      refine HVs.out.mono ?_
      rintro e wE ⟨rfl, rfl⟩
      clear HVs
      go_upto_region 17 with fail
      go_loopw [66] (fun ix wr => ∃ (v : Nat) (cs : List Int), v ≤ n ∧ ix = .int .i64 v ∧ GI W2 T m (.slice (some ⟨gO, 0, none⟩) m m) (.slice (some ⟨gT, 0, none⟩) m m) cs tw wr ∧ (∀ x ∈ cs, x ≤ (F : Int) + v) ∧ (m = 1 → cs = [(v : Int), 0, (F : Int), 0, 0, 0])) (fun ix _ => n - (intOf ix).toNat)
      case atStart => exact ⟨0, cs, Nat.zero_le _, rfl, HG.out, fun x hx => by have := HC1.out x hx; omega, fun h => (H1.out h).1⟩
      case round =>
        clear HG HC1 xr
        rename World => wq
        obtain ⟨v, cs3, hv, rfl, hG, hc1, h1⟩ := hrel
        by_cases hvn : v < n
        · have k3 : (v : Int) < (n : Int) := by omega
          have HAv := Lib.hid (HAt.out wq hG.below (v : Int) (by omega))
          have HG := Lib.hid hG
          clear hG
          go_wp2_with fail
          refine HAv.out.mono ?_
          rintro e wF ⟨q, rfl, hqm, hbF⟩
          have hG := HG.out.le hbF
          obtain ⟨o1, o2, o3, o4, o5⟩ := hG.cellO 0 hqm (by omega)
          simp only [Nat.add_zero] at o1 o2 o3 o4
          have o6 := hc1 _ (at_mem (l := cs3) (j := q * 6) (by rw [hG.cl]; omega))
          have hG2 := hG.putO (q * 6) (at_ cs3 (q * 6) + 1) (by omega)
          have hc2 : ∀ x ∈ cs3.set (q * 6) (at_ cs3 (q * 6) + 1), x ≤ (F : Int) + (v : Int) + 1 := fun x hx => by
            rcases List.mem_or_eq_of_mem_set hx with hx | rfl
            · have := hc1 x hx; omega
            · omega
          have h2 : m = 1 → cs3.set (q * 6) (at_ cs3 (q * 6) + 1) = [(v : Int) + 1, 0, (F : Int), 0, 0, 0] := fun h => by
            obtain rfl : q = 0 := by omega
            rw [h1 h]
            rfl
          have q3 : (q : Int) < (m : Int) := by omega
          have HG2 := Lib.hid hG2
          have HC2 := Lib.hid hc2
          have H2 := Lib.hid h2
          generalize cs3.set (q * 6) (at_ cs3 (q * 6) + 1) = cs4 at *
          generalize at_ cs3 (q * 6) = z at *
          clear hG hG2 hc1 hc2 h1 h2 hbF HG
          go_wp2
          go_roundw
          case measure => simp [intOf]; omega
          case rel => exact ⟨v + 1, cs4, by omega, by go_num, HG2.out, fun x hx => by have := HC2.out x hx; push_cast; omega, fun h => by rw [H2.out h]; push_cast; rfl⟩
        · obtain rfl : n = v := by omega
          have HG := Lib.hid hG
          have HC1 := Lib.hid hc1
          have H3 := Lib.hid h1
          have hBq := hG.below
          have xq := (hBq.cell (p := ⟨w.heap.size, 0, none⟩) lt0).trans x0
          have HLq := Lib.hid (HL.out wq (HB2.out.trans (hBq.mono HB2.out.size)))
          clear hG hc1 h1 hBq
          go_upto_region 21 with fail
          go_wp2_with fail
          refine HLq.out.mono ?_
          rintro e wG ⟨vL, us, L, rfl, hrL, hLn, hLr, hLc, hbG⟩
          obtain ⟨aL, cL, rfl⟩ := ownsRow_slice hrL
          have HG' := Lib.hid (HG.out.le hbG)
          have HLc := Lib.hid hLc
          obtain ⟨lL, hlL⟩ : ∃ l, L.length = l := ⟨_, rfl⟩
          rw [hlL] at hrL hLn
          have HRL := Lib.hid hrL
          have HLr := Lib.hid hLr
          have HlL := Lib.hid hlL
          rw [hlL]
          clear hrL hLr hLc hbG HLq HG hlL
          go_upto_region 22 with fail
          go_loopw [83] (fun ix wr => ∃ (k : Nat) (cs : List Int), k ≤ lL ∧ ix = .int .i64 k ∧ GI W2 T m (.slice (some ⟨gO, 0, none⟩) m m) (.slice (some ⟨gT, 0, none⟩) m m) cs tw wr ∧ (∀ x ∈ cs, x ≤ (F : Int) + n + k) ∧ (m = 1 → cs = [(n : Int), 0, (F : Int), (k : Int), 0, 0]) ∧
            wr.ownsRow wq.heap.size 28 1 (.slice aL lL cL) lL us ∧ (∀ (i : Nat) (u : Value) (r : List Int), us[i]? = some u → L[i]? = some r → wr.ownsRow wq.heap.size 3 1 u r.length (intsV r) ∧ ∃ a r', r = a :: r' ∧ 0 ≤ a ∧ a < n)) (fun ix _ => lL - (intOf ix).toNat)
          case atStart => exact ⟨0, cs3, Nat.zero_le _, rfl, HG'.out, fun x hx => by have := HC1.out x hx; omega, fun h => by rw [H3.out h]; rfl, HRL.out, HLr.out⟩
          case round =>
            clear HG' HC1 H3 HRL HLr xq
            rename World => wr
            obtain ⟨k, cs5, hk, rfl, hG, hc1, h1, hrL, hLr⟩ := hrel
            by_cases hkl : k < lL
            · have k3 : (k : Int) < (lL : Int) := by omega
              obtain ⟨gl, cl, e0, hg1, hg2⟩ := hrL.form (by omega)
              cases e0
              have hul : k < us.length := by have := hrL.1; omega
              have hLl : k < L.length := by rw [HlL.out]; exact hkl
              obtain ⟨hru, a, r', hra, ha0, han⟩ := hLr k us[k] L[k] (List.getElem?_eq_getElem hul) (List.getElem?_eq_getElem hLl)
              have hcu := hrL.cellAt k (by omega)
              rw [List.getElem?_eq_getElem hul] at hcu
              rw [hra] at hru
              obtain ⟨gu, cu, eu, hgu1, hgu2⟩ := hru.form (by simp)
              rw [eu] at hru hcu
              have hca := hru.cellAt 0 (by simp)
              have hca' : wr.cell? ⟨gu, 0, none⟩ = some (.int .i64 a) := hca
              obtain ⟨lr, hlr⟩ : ∃ l, (a :: r').length = l := ⟨_, rfl⟩
              have hlr0 : 0 < lr := by rw [← hlr]; simp
              rw [hlr] at hcu
              have lr3 : (0 : Int) < (lr : Int) := by omega
              have HAv := Lib.hid (HAt.out wr hG.below a ⟨ha0, han⟩)
              have HG := Lib.hid hG
              have HRL := Lib.hid hrL
              have HLr := Lib.hid hLr
              clear hG hrL hLr hru hca hra eu hlr
              go_wp2_with fail
              refine HAv.out.mono ?_
              rintro e wF ⟨q, rfl, hqm, hbF⟩
              have hG := HG.out.le hbF
              obtain ⟨o1, o2, o3, o4, o5⟩ := hG.cellO 3 hqm (by omega)
              have o6 := hc1 _ (at_mem (l := cs5) (j := q * 6 + 3) (by rw [hG.cl]; omega))
              have hG2 := hG.putO (q * 6 + 3) (at_ cs5 (q * 6 + 3) + 1) (by omega)
              have hc2 : ∀ x ∈ cs5.set (q * 6 + 3) (at_ cs5 (q * 6 + 3) + 1), x ≤ (F : Int) + (n : Int) + (k : Int) + 1 := fun x hx => by
                rcases List.mem_or_eq_of_mem_set hx with hx | rfl
                · have := hc1 x hx; omega
                · omega
              have h2 : m = 1 → cs5.set (q * 6 + 3) (at_ cs5 (q * 6 + 3) + 1) = [(n : Int), 0, (F : Int), (k : Int) + 1, 0, 0] := fun h => by
                obtain rfl : q = 0 := by omega
                rw [h1 h]
                rfl
              have q3 : (q : Int) < (m : Int) := by omega
              obtain ⟨st1, st2⟩ := hG.out.stored (q * 6 + 3) (.int .i64 (at_ cs5 (q * 6 + 3) + 1))
              have hrL2 := (own_below HRL.out hbF).kept st2 (own_own_ne (own_below HRL.out hbF) hG.out (by decide))
              have hLr2 : ∀ (i : Nat) (u : Value) (r : List Int), us[i]? = some u → L[i]? = some r → (wF.setCell ⟨gO, q * 6 + 3, none⟩ (.int .i64 (at_ cs5 (q * 6 + 3) + 1))).ownsRow wq.heap.size 3 1 u r.length (intsV r) ∧ ∃ a r', r = a :: r' ∧ 0 ≤ a ∧ a < n := fun i u r hu hr => by
                obtain ⟨b1, b2⟩ := HLr.out i u r hu hr
                exact ⟨(own_below b1 hbF).kept st2 (own_own_ne (own_below b1 hbF) hG.out (by decide)), b2⟩
              have HG2 := Lib.hid hG2
              have HC2 := Lib.hid hc2
              have H2 := Lib.hid h2
              have HRL2 := Lib.hid hrL2
              have HLr2 := Lib.hid hLr2
              generalize cs5.set (q * 6 + 3) (at_ cs5 (q * 6 + 3) + 1) = cs6 at *
              generalize at_ cs5 (q * 6 + 3) = z at *
              clear hG hG2 hc1 hc2 h1 h2 hbF HG st1 st2 hrL2 hLr2 HRL HLr
              go_wp2
              go_roundw
              case measure => simp [intOf]; omega
              case rel => exact ⟨k + 1, cs6, by omega, by go_num, HG2.out, fun x hx => by have := HC2.out x hx; push_cast; omega, fun h => by rw [H2.out h]; push_cast; rfl, HRL2.out, HLr2.out⟩
            · obtain rfl : lL = k := by omega
              have HG := Lib.hid hG
              have HC1 := Lib.hid hc1
              have H3 := Lib.hid h1
              clear hG hc1 h1 hrL hLr
              go_upto_region 27 with fail
              go_loopw [102] (fun ix wr => ∃ (k : Nat) (cs : List Int), k ≤ m ∧ ix = .int .i64 k ∧ Below W2.heap.size W2 wr ∧ wr.ownsRow W2.heap.size 142 6 (.slice (some ⟨gO, 0, none⟩) m m) m (intsV cs) ∧ wr.ownsRow W2.heap.size 3 1 (.slice (some ⟨gT, 0, none⟩) m m) m (intsV tw) ∧
                cs.length = m * 6 ∧ (∀ j, k * 6 ≤ j → at_ cs j = at_ cs5 j) ∧ (k = 0 → cs = cs5) ∧ (m = 1 → k = 1 → cs = [(n : Int), at_ tw 0 / 2, F, (lL : Int), n - at_ tw 0 / 2 + F, (2 - lL - (n - at_ tw 0 / 2 + F)).tdiv 2])) (fun ix _ => m - (intOf ix).toNat)
              case atStart => exact ⟨0, cs5, Nat.zero_le _, rfl, HG.out.below, HG.out.out, HG.out.two, HG.out.cl, fun j _ => rfl, fun _ => rfl, fun _ h => by omega⟩
              case round =>
                rename World => wz
                obtain ⟨k, cs7, hk, rfl, hB, hO, hT2, hcl, hsm, hz, h1⟩ := hrel
                have htl := HG.out.tl
                by_cases hkm : k < m
                · have k3 : (k : Int) < (m : Int) := by omega
                  have cellK : ∀ f, f < 6 → wz.cell? ⟨gO, k * 6 + f, none⟩ = some (.int .i64 (at_ cs5 (k * 6 + f))) := fun f hf => by
                    rw [hO.cellAt _ (by omega), intsV_at (by omega), hsm _ (by omega)]
                  have bdK : ∀ f, f < 6 → 0 ≤ at_ cs5 (k * 6 + f) ∧ at_ cs5 (k * 6 + f) ≤ 30000 := fun f hf => HG.out.cb _ (at_mem (by rw [HG.out.cl]; omega))
                  have tcell : wz.cell? ⟨gT, k, none⟩ = some (.int .i64 (at_ tw k)) := by rw [hT2.cellAt _ (by omega), intsV_at (by omega)]
                  have tbd := HG.out.tb _ (at_mem (l := tw) (j := k) (by omega))
                  have lgO := (hO.lt gO rfl).2
                  have HD := Lib.hid (fun (W : World) (hW : W.heap = wz.heap) => gdone_any gO (k * 6) (at_ cs5 (k * 6)) (at_ cs5 (k * 6 + 2)) (at_ cs5 (k * 6 + 3)) (at_ tw k) (at_ cs5 (k * 6 + 1)) (at_ cs5 (k * 6 + 4)) (at_ cs5 (k * 6 + 5)) W
                    (by unfold World.cell?; rw [hW]; exact cellK 0 (by omega)) (by unfold World.cell?; rw [hW]; exact cellK 1 (by omega)) (by unfold World.cell?; rw [hW]; exact cellK 2 (by omega)) (by unfold World.cell?; rw [hW]; exact cellK 3 (by omega)) (by unfold World.cell?; rw [hW]; exact cellK 4 (by omega)) (by unfold World.cell?; rw [hW]; exact cellK 5 (by omega))
                    (fun j => by unfold World.frozen?; rw [hW]; exact hO.frozenAt j) (by rw [hW]; exact lgO) (by have := bdK 0 (by omega); simp only [Nat.add_zero] at this; omega) (by have := bdK 2 (by omega); omega) (by have := bdK 3 (by omega); omega) (by omega))
                  go_upto_region 29 with fail
                  go_region_with (go_at_call 110; refine (HD.out wz.drew rfl).mono ?_; rintro e wY ⟨⟨vy, rfl⟩, rfl⟩)
                  obtain ⟨s1, s2⟩ := hO.stored (k * 6 + 1) (.int .i64 (at_ tw k / 2))
                  rw [intsV_set] at s1
                  obtain ⟨s3, s4⟩ := s1.stored (k * 6 + 4) (.int .i64 (at_ cs5 (k * 6) - at_ tw k / 2 + at_ cs5 (k * 6 + 2)))
                  rw [intsV_set] at s3
                  obtain ⟨s5, s6⟩ := s3.stored (k * 6 + 5) (.int .i64 ((2 - at_ cs5 (k * 6 + 3) - (at_ cs5 (k * 6) - at_ tw k / 2 + at_ cs5 (k * 6 + 2))).tdiv 2))
                  rw [intsV_set] at s5
                  have gB : ∀ j, some gO = some j → W2.heap.size ≤ j := fun j e => (hO.lt j (by rw [← e]; rfl)).1
                  have u1 := hT2.kept s2 (own_own_ne hT2 hO (by decide))
                  have u2 := u1.kept s4 (own_own_ne u1 s1 (by decide))
                  have u3 := u2.kept s6 (own_own_ne u2 s3 (by decide))
                  have d1 := hB.grown s2 hB.size gB
                  have d2 := d1.grown s4 d1.size gB
                  have d3 := d2.grown s6 d2.size gB
                  have hO3 : World.ownsRow ((((wz.setCell ⟨gO, k * 6 + 1, none⟩ (.int .i64 (at_ tw k / 2))).setCell ⟨gO, k * 6 + 4, none⟩ (.int .i64 (at_ cs5 (k * 6) - at_ tw k / 2 + at_ cs5 (k * 6 + 2)))).setCell ⟨gO, k * 6 + 5, none⟩ (.int .i64 ((2 - at_ cs5 (k * 6 + 3) - (at_ cs5 (k * 6) - at_ tw k / 2 + at_ cs5 (k * 6 + 2))).tdiv 2))).drew.drew.drew) W2.heap.size 142 6 (.slice (some ⟨gO, 0, none⟩) m m) m (intsV (((cs7.set (k * 6 + 1) (at_ tw k / 2)).set (k * 6 + 4) (at_ cs5 (k * 6) - at_ tw k / 2 + at_ cs5 (k * 6 + 2))).set (k * 6 + 5) ((2 - at_ cs5 (k * 6 + 3) - (at_ cs5 (k * 6) - at_ tw k / 2 + at_ cs5 (k * 6 + 2))).tdiv 2))) := s5
                  have hT3 : World.ownsRow ((((wz.setCell ⟨gO, k * 6 + 1, none⟩ (.int .i64 (at_ tw k / 2))).setCell ⟨gO, k * 6 + 4, none⟩ (.int .i64 (at_ cs5 (k * 6) - at_ tw k / 2 + at_ cs5 (k * 6 + 2)))).setCell ⟨gO, k * 6 + 5, none⟩ (.int .i64 ((2 - at_ cs5 (k * 6 + 3) - (at_ cs5 (k * 6) - at_ tw k / 2 + at_ cs5 (k * 6 + 2))).tdiv 2))).drew.drew.drew) W2.heap.size 3 1 (.slice (some ⟨gT, 0, none⟩) m m) m (intsV tw) := u3
                  have hB3 : Below W2.heap.size W2 ((((wz.setCell ⟨gO, k * 6 + 1, none⟩ (.int .i64 (at_ tw k / 2))).setCell ⟨gO, k * 6 + 4, none⟩ (.int .i64 (at_ cs5 (k * 6) - at_ tw k / 2 + at_ cs5 (k * 6 + 2)))).setCell ⟨gO, k * 6 + 5, none⟩ (.int .i64 ((2 - at_ cs5 (k * 6 + 3) - (at_ cs5 (k * 6) - at_ tw k / 2 + at_ cs5 (k * 6 + 2))).tdiv 2))).drew.drew.drew) := d3.drew.drew.drew
                  generalize ((((wz.setCell ⟨gO, k * 6 + 1, none⟩ (.int .i64 (at_ tw k / 2))).setCell ⟨gO, k * 6 + 4, none⟩ (.int .i64 (at_ cs5 (k * 6) - at_ tw k / 2 + at_ cs5 (k * 6 + 2)))).setCell ⟨gO, k * 6 + 5, none⟩ (.int .i64 ((2 - at_ cs5 (k * 6 + 3) - (at_ cs5 (k * 6) - at_ tw k / 2 + at_ cs5 (k * 6 + 2))).tdiv 2))).drew.drew.drew) = wX at *
                  have hcl3 : (((cs7.set (k * 6 + 1) (at_ tw k / 2)).set (k * 6 + 4) (at_ cs5 (k * 6) - at_ tw k / 2 + at_ cs5 (k * 6 + 2))).set (k * 6 + 5) ((2 - at_ cs5 (k * 6 + 3) - (at_ cs5 (k * 6) - at_ tw k / 2 + at_ cs5 (k * 6 + 2))).tdiv 2)).length = m * 6 := by simp [hcl]
                  have hsm3 : ∀ j, (k + 1) * 6 ≤ j → at_ (((cs7.set (k * 6 + 1) (at_ tw k / 2)).set (k * 6 + 4) (at_ cs5 (k * 6) - at_ tw k / 2 + at_ cs5 (k * 6 + 2))).set (k * 6 + 5) ((2 - at_ cs5 (k * 6 + 3) - (at_ cs5 (k * 6) - at_ tw k / 2 + at_ cs5 (k * 6 + 2))).tdiv 2)) j = at_ cs5 j := fun j hj => by
                    rw [← hsm j (by omega)]
                    unfold at_
                    simp only [List.getD_eq_getElem?_getD]
                    rw [List.getElem?_set_ne (by omega), List.getElem?_set_ne (by omega), List.getElem?_set_ne (by omega)]
                  have h5 : m = 1 → k + 1 = 1 → (((cs7.set (k * 6 + 1) (at_ tw k / 2)).set (k * 6 + 4) (at_ cs5 (k * 6) - at_ tw k / 2 + at_ cs5 (k * 6 + 2))).set (k * 6 + 5) ((2 - at_ cs5 (k * 6 + 3) - (at_ cs5 (k * 6) - at_ tw k / 2 + at_ cs5 (k * 6 + 2))).tdiv 2)) = [(n : Int), at_ tw 0 / 2, F, (lL : Int), n - at_ tw 0 / 2 + F, (2 - lL - (n - at_ tw 0 / 2 + F)).tdiv 2] := fun hm1 hk1 => by
                    obtain rfl : k = 0 := by omega
                    rw [hz rfl, H3.out hm1]
                    rfl
                  have HO3 := Lib.hid hO3
                  have HT3 := Lib.hid hT3
                  have HB3 := Lib.hid hB3
                  have HCL3 := Lib.hid hcl3
                  have HSM3 := Lib.hid hsm3
                  have H5 := Lib.hid h5
                  clear hO3 hT3 hB3 hcl3 hsm3 h5 s1 s2 s3 s4 s5 s6 u1 u2 u3 d1 d2 d3 hO hT2 hB hsm hz h1 hcl cellK bdK tcell HD
                  generalize ((cs7.set (k * 6 + 1) (at_ tw k / 2)).set (k * 6 + 4) (at_ cs5 (k * 6) - at_ tw k / 2 + at_ cs5 (k * 6 + 2))).set (k * 6 + 5) ((2 - at_ cs5 (k * 6 + 3) - (at_ cs5 (k * 6) - at_ tw k / 2 + at_ cs5 (k * 6 + 2))).tdiv 2) = cs8 at *
                  go_wp2
                  go_roundw
                  case measure => simp [intOf]; omega
                  case rel => exact ⟨k + 1, cs8, by omega, by go_num, HB3.out, HO3.out, HT3.out, HCL3.out, HSM3.out, fun h => by omega, H5.out⟩
                · obtain rfl : m = k := by omega
                  have HOz := Lib.hid (own_base hO HB2.out.size)
                  have HBz := Lib.hid (HB2.out.trans (hB.mono HB2.out.size))
                  have H6 := Lib.hid h1
                  clear hO hT2 hB hsm hz h1 hcl
                  go_wp2
                  go_ret
                  refine ⟨_, out, m, cs7, rfl, HSh.out, HM.out, HOz.out, fun hm1 => ⟨at_ tw 0 / 2, lL, H6.out hm1 hm1, by omega, ?_, fun hc => ?_⟩, HBz.out⟩
                  · rw [← HLc.out, ← HlL.out]
                    cases L <;> simp
                    omega
                  · rw [(H1.out hm1).2 hc]
                    rfl
end Go.Proofs.YtghlnknncahkgaaGreat
/-
  What a piece of code may change of what lay there: a set of blocks, and no others.
-/
namespace Go.Proofs.YtghlnknncahkgaaGreat
open Go.RowKit

/-- Of the blocks that lay there only those of S may be others now. -/
structure Kept (S : Nat → Prop) (w w' : World) : Prop where
  os : w'.os = w.os
  tape : w'.tape = w.tape
  output : w'.output = w.output
  size : w.heap.size ≤ w'.heap.size
  block : ∀ k, k < w.heap.size → ¬ S k → w'.heap[k]? = w.heap[k]?
section
variable {S S' : Nat → Prop} {a b c w w' : World}
theorem Kept.refl (S : Nat → Prop) (w : World) : Kept S w w := ⟨rfl, rfl, rfl, Nat.le_refl _, fun _ _ _ => rfl⟩
theorem Kept.trans (h : Kept S a b) (k : Kept S b c) : Kept S a c :=
  ⟨k.os.trans h.os, k.tape.trans h.tape, k.output.trans h.output, Nat.le_trans h.size k.size, fun i hi hs => (k.block i (Nat.lt_of_lt_of_le hi h.size) hs).trans (h.block i hi hs)⟩
theorem Kept.mono (h : Kept S w w') (hs : ∀ k, S k → S' k) : Kept S' w w' := ⟨h.os, h.tape, h.output, h.size, fun k hk hn => h.block k hk (fun x => hn (hs k x))⟩
theorem Kept.of (h : Below w.heap.size w w') : Kept S w w' := ⟨h.os, h.tape, h.output, h.size, fun k hk _ => h.block k hk⟩
theorem Kept.below {B : Nat} (h : Kept S w w') (hs : ∀ k, S k → B ≤ k) (hB : B ≤ w.heap.size) : Below B w w' := ⟨h.os, h.tape, h.output, h.size, fun k hk => h.block k (by omega) (fun x => by have := hs k x; omega)⟩
theorem Kept.drew (h : Kept S a w) : Kept S a w.drew := ⟨h.os, h.tape, h.output, h.size, h.block⟩
theorem Kept.alloc (h : Kept S a w) (o : Obj) : Kept S a (w.alloc o) :=
  ⟨h.os, h.tape, h.output, by rw [World.size_alloc]; have := h.size; omega, fun k hk hs => (Below.heap_alloc w o k (Nat.lt_of_lt_of_le hk h.size)).trans (h.block k hk hs)⟩
theorem Kept.setCell (h : Kept S a w) {p : Addr} (hp : S p.block ∨ a.heap.size ≤ p.block) (u : Value) : Kept S a (w.setCell p u) := by
  have hz : (w.setCell p u).heap.size = w.heap.size := by simp [World.setCell]
  exact ⟨h.os, h.tape, h.output, by rw [hz]; exact h.size, fun k hk hs => (Below.heap_setCell w p u k (fun e => by
    subst e
    rcases hp with hp | hp
    · exact hs hp
    · omega)).trans (h.block k hk hs)⟩
theorem Kept.grown (h : Kept S a w) {row : Option Nat} (hg : w.grownBy w' row) (hr : ∀ k, row = some k → S k ∨ a.heap.size ≤ k) : Kept S a w' :=
  ⟨hg.os.trans h.os, hg.tape.trans h.tape, hg.output.trans h.output, Nat.le_trans h.size hg.size, fun k hk hs => (hg.block k (Nat.lt_of_lt_of_le hk h.size) (fun e => by
    rcases hr k e.symm with x | x
    · exact hs x
    · omega)).trans (h.block k hk hs)⟩
theorem Kept.frown (h : Kept S a b) (k : Kept S' b c) (hs : ∀ k, S' k → S k ∨ a.heap.size ≤ k) : Kept S a c :=
  ⟨k.os.trans h.os, k.tape.trans h.tape, k.output.trans h.output, Nat.le_trans h.size k.size, fun i hi hn => (k.block i (Nat.lt_of_lt_of_le hi h.size) (fun x => by
    rcases hs i x with x | x
    · exact hn x
    · omega)).trans (h.block i hi hn)⟩
theorem own_same {base n s : Nat} {e : TypeId} {v : Value} {xs : List Value} (h : w.ownsRow base e s v n xs) (hs : ∀ k, v.ownBlock = some k → w'.heap[k]? = w.heap[k]?) : w'.ownsRow base e s v n xs := by
  obtain ⟨h1, h2 | ⟨g, cap, cur, rfl, a1, a2, a3⟩⟩ := h
  · exact ⟨h1, .inl h2⟩
  · exact ⟨h1, .inr ⟨g, cap, cur, rfl, a1, (hs g rfl).trans a2, a3⟩⟩
theorem blk_same {q : Nat} {t : TypeId} {cs : Array Value} (h : Blk w q t cs) (hs : w'.heap[q]? = w.heap[q]?) : Blk w' q t cs := hs.trans h
end
end Go.Proofs.YtghlnknncahkgaaGreat
/-
  A range over a function that has memory of its own: the iterator changes its own blocks alone, the rounds the caller's alone.
-/
namespace Go.Proofs.YtghlnknncahkgaaGreat
open Go.RowKit

/-- What speaks of the caller's blocks alone. -/
def Stable {α : Type} (B0 : Nat) (I : α → (Nat → Prop) → World → Prop) : Prop :=
  ∀ xs C A B, I xs C A → Below B0 A B → (∀ k, C k → B.heap[k]? = A.heap[k]?) → I xs C B
/-- A set of blocks is taken over: what is more was laid anew. -/
def Anew (C C' : Nat → Prop) (W W' : World) : Prop := ∀ k, C' k → C k ∨ (W.heap.size ≤ k ∧ k < W'.heap.size)
/-- The iterator's contract. -/
def SeqSep {α : Type} (F : Fence) (n : Nat) (P : Program) (g : Nat) (lb : Array Value) (encs : α → Array Value) (Fin Sp : List α → Prop) (N : Nat) (w0 : World) (R : Nat → Prop) (Pre : World → Prop) : Prop :=
  ∀ (l : Nat) (J Jx : List α → (Nat → Prop) → World → Prop) (W : World) (C : Nat → Prop), Below w0.heap.size w0 W → Pre W → (∀ k, R k → k < W.heap.size) → Stable w0.heap.size J → Stable w0.heap.size Jx →
    (∀ pre x C1 W1, J pre C1 W1 → pre.length < N → YieldAt F (n - 1) P l (encs x) W1 fun e W' =>
      Kept C1 W1 W' ∧ ∃ C', Anew C1 C' W1 W' ∧ ((e = .returned (.bool true) ∧ J (pre ++ [x]) C' W') ∨ (e = .returned (.bool false) ∧ Jx (pre ++ [x]) C' W'))) →
    J [] C W → (∀ k, C k → w0.heap.size ≤ k ∧ k < W.heap.size ∧ ¬ R k) →
    CallsIn F n P g (#[.func (.yield l) #[] #[]] ++ lb) W fun e W' => (∃ v, e = .returned v) ∧ ((∃ xs C', Fin xs ∧ J xs C' W') ∨ (∃ pre C', Sp pre ∧ Jx pre C' W'))
/-- How a round's body may be left. -/
def sepPost {α : Type} (I : List α → (Nat → Prop) → World → Prop) (Ix : Code → List α → (Nat → Prop) → World → Prop) (C : Nat → Prop) (xs : List α) (W : World) : Exit → Act → World → Prop
  | .normal, _, W' => Kept C W W' ∧ ∃ C', Anew C C' W W' ∧ I xs C' W'
  | .ret, _, W' => Kept C W W' ∧ ∃ C', Anew C C' W W' ∧ Ix .ret xs C' W'
  | .exit id, _, W' => Kept C W W' ∧ ∃ C', Anew C C' W W' ∧ Ix (.exit id) xs C' W'
  | .goto t, _, W' => Kept C W W' ∧ ∃ C', Anew C C' W W' ∧ Ix (.goto t) xs C' W'
  | .panic _, _, _ => False
  | .outgrown, _, _ => False

variable {F : Fence} {n : Nat} {P : Program} {w : World}
theorem putObj_below {B l : Nat} {W : World} {o : Obj} (h : B ≤ l) : Below B W (W.putObj l o) := ⟨rfl, rfl, rfl, by simp, fun k hk => World.putObj_heap_other (by omega)⟩
theorem putObj_kept {S : Nat → Prop} {l : Nat} {W : World} {o : Obj} (h : S l) : Kept S W (W.putObj l o) := ⟨rfl, rfl, rfl, by simp, fun k _ hn => World.putObj_heap_other (fun e => hn (by rw [e]; exact h))⟩

set_option maxHeartbeats 1000000 in
theorem wpIn_rangeFunc_sep {α : Type} {g : Operand} {ps : Array Tmp} {assign body : Code} {Q : Exit → Act → World → Prop} {a : Act} {w : World}
    (hro : F.round = none) (h1 : 1 ≤ n) {gf : Nat} {lb : Array Value} (hg : a.eval g = .func (.func gf) #[] lb) (hFg : F.fn gf) (eg : ∀ args w, (callFunc gf args).run P w = .ok (.enter gf args) w)
    {encs : α → Array Value} {Fin Sp : List α → Prop} {N : Nat} {w0 : World} {R : Nat → Prop} {Pre : World → Prop} (hseq : SeqSep F (n - 1) P gf lb encs Fin Sp N w0 R Pre) (hpre : ∀ W, Below w.heap.size w W → Pre W) (hR : ∀ k, R k → k < w.heap.size) (hb0 : Below w0.heap.size w0 w) (hps : ∀ x, (encs x).size = ps.size)
    (I : List α → (Nat → Prop) → World → Prop) (Ix : Code → List α → (Nat → Prop) → World → Prop) (hI : Stable w0.heap.size I) (hIx : ∀ c, Stable w0.heap.size (Ix c)) (C0 : Nat → Prop) (hC0 : ∀ k, C0 k → w0.heap.size ≤ k ∧ k < w.heap.size ∧ ¬ R k) (h0 : I [] C0 w)
    (hround : ∀ (l : Nat) (pre : List α) (x : α) (C : Nat → Prop) (W : World), w.heap.size ≤ l → l < W.heap.size → I pre C W → (∀ k, C k → w0.heap.size ≤ k ∧ k < W.heap.size) → pre.length < N →
      assign.wpIn (F.inRound l) (n - 1 - 1) P (Exit.then (fun a' W1 => Kept C W W1 ∧ I pre C W1 ∧ ∀ W2, Kept (fun k => k = l) W1 W2 → I pre C W2 → (∀ k, C k → w0.heap.size ≤ k ∧ k < W2.heap.size) → W2.heap.size = W1.heap.size → body.wpIn (F.inRound l) (n - 1 - 1) P (sepPost I Ix C (pre ++ [x]) W2) a' W2) (fun _ _ _ => False))
        { tmps := (ps.zip (encs x)).foldl (fun t (p, v) => t.setIfInBounds p v) a.tmps, defers := [] } W)
    (hdone : ∀ (D : Nat) (xs : List α) (C : Nat → Prop) (W : World), w.heap.size ≤ D → ¬ C D → Fin xs → I xs C W → W.heap[D]? = some (.deferred (some [])) → Q .normal { a with defers := { target := .collected D, args := #[] } :: a.defers } W)
    (hstop : ∀ (D : Nat) (c : Code) (pre : List α) (C : Nat → Prop) (W : World), w.heap.size ≤ D → ¬ C D → Sp pre → Ix c pre C W → W.heap[D]? = some (.deferred (some [])) → c.wpIn F n P Q { a with defers := { target := .collected D, args := #[] } :: a.defers } W) :
    (Code.rangeFunc g ps assign body).wpIn F n P Q a w := by
  refine wpIn_rangeFunc ?_
  intro fn hfn
  rw [hro]
  obtain ⟨rec, hrec⟩ : ∃ rec : LoopState → Option Code → Loop, rec = fun st pe => { state := st, pending := pe, fn, tmps := a.tmps, params := ps, assign, body, defers := w.heap.size } := ⟨_, rfl⟩
  obtain ⟨W1, hW1⟩ : ∃ W1, (w.alloc (.deferred (some []))).alloc (.loop (rec .ready none)) = W1 := ⟨_, rfl⟩
  have hL1 : W1.heap[w.heap.size + 1]? = some (.loop (rec .ready none)) := by
    rw [← hW1]; have := World.alloc_heap_new (w.alloc (.deferred (some []))) (.loop (rec .ready none)); rwa [World.size_alloc] at this
  have hK1 : W1.heap[w.heap.size]? = some (.deferred (some [])) := by
    rw [← hW1]; exact (Below.heap_alloc _ _ _ (by simp)).trans (World.alloc_heap_new w _)
  have hz1 : W1.heap.size = w.heap.size + 2 := by rw [← hW1]; simp
  have hbw : Below w.heap.size w W1 := by rw [← hW1]; exact ((Below.refl _ w).alloc (Nat.le_refl _) _).alloc (by simp) _
  have hz0 := hb0.size
  have hI1 : I [] C0 W1 := hI _ _ _ _ h0 (hbw.mono hz0) (fun k hk => hbw.block k (hC0 k hk).2.1)
  have hb1 : Below w0.heap.size w0 W1 := hb0.trans (hbw.mono hz0)
  -- the law's own set
  let J : (List α → (Nat → Prop) → World → Prop) → (World → Prop) → List α → (Nat → Prop) → World → Prop := fun I R pre C W => ∃ Cu, (∀ k, C k ↔ Cu k ∨ k = w.heap.size ∨ k = w.heap.size + 1) ∧ I pre Cu W ∧ (∀ k, Cu k → w0.heap.size ≤ k ∧ k < W.heap.size ∧ k ≠ w.heap.size ∧ k ≠ w.heap.size + 1) ∧ R W ∧ W.heap[w.heap.size]? = some (.deferred (some []))
  have hJ : ∀ (I : List α → (Nat → Prop) → World → Prop) (R : World → Prop), Stable w0.heap.size I → (∀ A B : World, R A → B.heap[w.heap.size + 1]? = A.heap[w.heap.size + 1]? → R B) → Stable w0.heap.size (J I R) := by
    rintro I R hI hR xs C A B ⟨Cu, hC, hi, hbd, hl, hd⟩ hbel hsame
    exact ⟨Cu, hC, hI _ _ _ _ hi hbel (fun k hk => hsame k ((hC k).2 (.inl hk))), fun k hk => by have := hbd k hk; have := hbel.size; omega, hR _ _ hl (hsame _ ((hC _).2 (.inr (.inr rfl)))), (hsame _ ((hC _).2 (.inr (.inl rfl)))).trans hd⟩
  refine ⟨w.heap.size + 1, [{ target := .collected w.heap.size, args := #[] }], W1, { target := .fn (.func gf) lb, args := #[.func (.yield (w.heap.size + 1)) #[] #[]] }, W1, gf,
    #[.func (.yield (w.heap.size + 1)) #[] #[]] ++ lb, W1, ?_, ?_, ?_, ?_, fun _ => h1, ?_⟩
  · rw [← hW1, hrec]; exact run_enterLoop_outer _ _ _ _ _
  · simp only [resolve, hg]
    simp [go_sem]
  · intro f' hf'; simp [Target.leads] at hf'; subst hf'; exact hFg
  · simp [invoke, go_sem, eg]
  · refine (hseq (w.heap.size + 1) (J I (fun W => W.heap[w.heap.size + 1]? = some (.loop (rec .ready none)))) (J (fun xs C W => ∃ c, Ix c xs C W ∧ W.heap[w.heap.size + 1]? = some (.loop (rec .done (some c)))) (fun _ => True)) W1
      (fun k => C0 k ∨ k = w.heap.size ∨ k = w.heap.size + 1) hb1 (hpre W1 hbw) (fun k hk => by have := hR k hk; omega) (hJ _ _ hI (fun A B h e => e.trans h)) ?_ ?_ ⟨C0, fun k => Iff.rfl, hI1, fun k hk => by have := hC0 k hk; omega, hL1, hK1⟩ (fun k hk => by
        have hR' := hR k
        rcases hk with hk | hk | hk
        · have := hC0 k hk; exact ⟨this.1, by omega, this.2.2⟩
        · exact ⟨by omega, by omega, fun h => by have := hR' h; omega⟩
        · exact ⟨by omega, by omega, fun h => by have := hR' h; omega⟩)).mono ?_
    · rintro xs C A B ⟨Cu, hC, ⟨c, hc, hl⟩, hbd, -, hd⟩ hbel hsame
      exact ⟨Cu, hC, ⟨c, hIx c _ _ _ _ hc hbel (fun k hk => hsame k ((hC k).2 (.inl hk))), (hsame _ ((hC _).2 (.inr (.inr rfl)))).trans hl⟩, fun k hk => by have := hbd k hk; have := hbel.size; omega, trivial, (hsame _ ((hC _).2 (.inr (.inl rfl)))).trans hd⟩
    · -- one round
      rintro pre x C W ⟨Cu, hC, hi, hbd, hl, hk⟩ hlen
      have hlt : w.heap.size + 1 < W.heap.size := (Array.getElem?_eq_some_iff.1 hl).1
      have hy := run_yield (P := P) (args := encs x) hl (by rw [hrec]; exact hps x)
      rw [hrec] at hy
      refine ⟨fn, _, assign, body, hy, roundIn_of_wpIn hfn (wpIn_mono (hround (w.heap.size + 1) pre x Cu W (by omega) hlt hi (fun k hk => ⟨(hbd k hk).1, (hbd k hk).2.1⟩) hlen) ?_)⟩
      clear hy
      intro e a' Wa hp
      cases e with
      | normal =>
        obtain ⟨hka, hia, hb⟩ := hp
        have hla := (hka.block _ hlt (fun h => (hbd _ h).2.2.2 rfl)).trans hl
        have hda := (hka.block _ (by omega) (fun h => (hbd _ h).2.2.1 rfl)).trans hk
        have hza := hka.size
        refine ⟨_, run_beginRound hla (by rw [hrec]), ?_⟩
        obtain ⟨W2, hW2⟩ : ∃ W2, Wa.putObj (w.heap.size + 1) (.loop { rec .ready none with state := .busy }) = W2 := ⟨_, rfl⟩
        have hl2 : W2.heap[w.heap.size + 1]? = some (.loop { rec .ready none with state := .busy }) := by rw [← hW2]; exact World.putObj_heap_same (by omega)
        have hd2 : W2.heap[w.heap.size]? = some (.deferred (some [])) := by rw [← hW2]; exact (World.putObj_heap_other (by omega)).trans hda
        have hz2 : W2.heap.size = Wa.heap.size := by rw [← hW2]; simp
        have hk2 : Kept (fun k => k = w.heap.size + 1) Wa W2 := by rw [← hW2]; exact putObj_kept rfl
        have hi2 : I pre Cu W2 := by
          refine hI _ _ _ _ hia ?_ (fun k hk => ?_)
          · rw [← hW2]; exact putObj_below (by omega)
          · rw [← hW2]; exact World.putObj_heap_other (hbd k hk).2.2.2
        rw [hW2]
        refine wpIn_mono (hb W2 hk2 hi2 (fun k hk => by have := hbd k hk; omega) hz2) ?_
        have fin : ∀ (jump : Option Code) (W3 : World) (C' : Nat → Prop), Kept Cu W2 W3 → Anew Cu C' W2 W3 →
            (Instr.endRound (w.heap.size + 1) jump).run P W3 = .ok (.bool jump.isNone) (W3.putObj (w.heap.size + 1) (.loop (rec (if jump.isNone then .ready else .done) jump))) ∧
            (W3.putObj (w.heap.size + 1) (.loop (rec (if jump.isNone then .ready else .done) jump))).heap[w.heap.size + 1]? = some (.loop (rec (if jump.isNone then .ready else .done) jump)) ∧
            (W3.putObj (w.heap.size + 1) (.loop (rec (if jump.isNone then .ready else .done) jump))).heap[w.heap.size]? = some (.deferred (some [])) ∧
            Kept C W (W3.putObj (w.heap.size + 1) (.loop (rec (if jump.isNone then .ready else .done) jump))) ∧
            Anew C (fun k => C' k ∨ k = w.heap.size ∨ k = w.heap.size + 1) W (W3.putObj (w.heap.size + 1) (.loop (rec (if jump.isNone then .ready else .done) jump))) ∧
            (∀ k, C' k → w0.heap.size ≤ k ∧ k < (W3.putObj (w.heap.size + 1) (.loop (rec (if jump.isNone then .ready else .done) jump))).heap.size ∧ k ≠ w.heap.size ∧ k ≠ w.heap.size + 1) := fun jump W3 C' hk3 hn3 => by
          have hl3 := (hk3.block _ (by omega) (fun h => (hbd _ h).2.2.2 rfl)).trans hl2
          have hd3 := (hk3.block _ (by omega) (fun h => (hbd _ h).2.2.1 rfl)).trans hd2
          have hz3 := hk3.size
          have := run_endRound (P := P) jump hl3
          rw [hrec] at this ⊢
          refine ⟨this, World.putObj_heap_same (by omega), (World.putObj_heap_other (by omega)).trans hd3, ?_, ?_, ?_⟩
          · have c1 : Kept C W Wa := hka.mono (fun k hk => (hC k).2 (.inl hk))
            have c2 : Kept C Wa W2 := hk2.mono (fun k hk => (hC k).2 (.inr (.inr hk)))
            have c3 : Kept C W2 W3 := hk3.mono (fun k hk => (hC k).2 (.inl hk))
            exact ((c1.trans c2).trans c3).trans (putObj_kept ((hC _).2 (.inr (.inr rfl))))
          · intro k hk
            rw [World.putObj_size]
            rcases hk with hk | hk | hk
            · rcases hn3 k hk with h | h
              · exact .inl ((hC k).2 (.inl h))
              · exact .inr (by omega)
            · exact .inl ((hC k).2 (.inr (.inl hk)))
            · exact .inl ((hC k).2 (.inr (.inr hk)))
          · intro k hk
            rw [World.putObj_size]
            rcases hn3 k hk with h | h
            · have := hbd k h
              omega
            · omega
        have put : ∀ {J : List α → (Nat → Prop) → World → Prop} (xs : List α) (C' : Nat → Prop) (W3 : World) (o : Obj), Stable w0.heap.size J → J xs C' W3 → (∀ k, C' k → k ≠ w.heap.size + 1) → J xs C' (W3.putObj (w.heap.size + 1) o) := fun xs C' W3 o hJ h hk => hJ _ _ _ _ h (putObj_below (by omega)) (fun k h' => World.putObj_heap_other (hk k h'))
        rintro e a3 W3 hp
        cases e with
        | normal =>
          obtain ⟨hk3, C', hn3, hi3⟩ := hp
          obtain ⟨hr, hl4, hd4, c4, n4, b4⟩ := fin none W3 C' hk3 hn3
          exact ⟨_, _, hr, c4, _, n4, .inl ⟨rfl, C', fun k => Iff.rfl, put _ _ _ _ hI hi3 (fun k h => (b4 k h).2.2.2), b4, hl4, hd4⟩⟩
        | ret =>
          obtain ⟨hk3, C', hn3, hi3⟩ := hp
          obtain ⟨hr, hl4, hd4, c4, n4, b4⟩ := fin (some .ret) W3 C' hk3 hn3
          exact ⟨_, _, hr, c4, _, n4, .inr ⟨rfl, C', fun k => Iff.rfl, ⟨.ret, put _ _ _ _ (hIx _) hi3 (fun k h => (b4 k h).2.2.2), hl4⟩, b4, trivial, hd4⟩⟩
        | exit id =>
          obtain ⟨hk3, C', hn3, hi3⟩ := hp
          obtain ⟨hr, hl4, hd4, c4, n4, b4⟩ := fin (some (.exit id)) W3 C' hk3 hn3
          exact ⟨_, _, hr, c4, _, n4, .inr ⟨rfl, C', fun k => Iff.rfl, ⟨.exit id, put _ _ _ _ (hIx _) hi3 (fun k h => (b4 k h).2.2.2), hl4⟩, b4, trivial, hd4⟩⟩
        | goto t =>
          obtain ⟨hk3, C', hn3, hi3⟩ := hp
          obtain ⟨hr, hl4, hd4, c4, n4, b4⟩ := fin (some (.goto t)) W3 C' hk3 hn3
          exact ⟨_, _, hr, c4, _, n4, .inr ⟨rfl, C', fun k => Iff.rfl, ⟨.goto t, put _ _ _ _ (hIx _) hi3 (fun k h => (b4 k h).2.2.2), hl4⟩, b4, trivial, hd4⟩⟩
        | panic ch => exact hp.elim
        | outgrown => exact hp.elim
      | ret => exact hp.elim
      | exit id => exact hp.elim
      | goto t => exact hp.elim
      | panic ch => exact hp.elim
      | outgrown => exact hp.elim
    · -- behind the iterator
      rintro e W2 ⟨⟨v, rfl⟩, (⟨xs, C', hS, Cu, hC, hi, hbd, hl, hd⟩ | ⟨pre, C', hSp, Cu, hC, ⟨c, hi, hl⟩, hbd, -, hd⟩)⟩
      · exact ⟨none, _, by have := run_endLoop (P := P) hl (by rw [hrec]; simp); rw [hrec] at this; exact this, hdone _ xs Cu _ (Nat.le_refl _) (fun h => (hbd _ h).2.2.1 rfl) hS (hI _ _ _ _ hi (putObj_below (by omega)) (fun k hk => World.putObj_heap_other (hbd k hk).2.2.2)) ((World.putObj_heap_other (by omega)).trans hd)⟩
      · exact ⟨some c, _, by have := run_endLoop (P := P) hl (by rw [hrec]; simp); rw [hrec] at this; exact this, hstop _ c pre Cu _ (Nat.le_refl _) (fun h => (hbd _ h).2.2.1 rfl) hSp (hIx c _ _ _ _ hi (putObj_below (by omega)) (fun k hk => World.putObj_heap_other (hbd k hk).2.2.2)) ((World.putObj_heap_other (by omega)).trans hd)⟩
end Go.Proofs.YtghlnknncahkgaaGreat
/-
  border: a closed surface has no border edges, and no loops.
-/
namespace Go.Proofs.YtghlnknncahkgaaGreat
open Go.RowKit Go.Maps Go.Shelf
attribute [local go_sem] Oper.semAt_some

set_option maxHeartbeats 1000000 in
theorem edgesC_any (g : Nat) (N : Int) (T : List Tr) (w : World) (h : Tab w g N T) (hc : ClosedT T) : Calls Tryz.prog 163 #[.pointer (some ⟨g, 0, none⟩)] w fun e w' => e = .returned (.slice none 0 0) ∧ Below w.heap.size w w' := by
  have H0 := Lib.hid (triangles_any g N T w h.toTabS)
  have HO := Lib.hid (fun (W : World) (c : Int) (hW : Below w.heap.size w W) => opp_any g N c T W (h.below hW))
  have HP := Lib.hid (fun c (hk : c < 3 * T.length) => hc c hk)
  have hl := h.len
  obtain ⟨F, hF⟩ : ∃ F, T.length = F := ⟨_, rfl⟩
  rw [hF] at hl H0 HP
  clear hF h hc
  go_enter Tryz.func163, Tryz.ntmps163
  go_wp2_with fail
  refine H0.out.mono ?_
  rintro e w0 ⟨rfl, rfl⟩
  go_wp2
  go_loopw [3, 10] (fun v3 ix wr => ∃ k : Nat, k ≤ 3 * F ∧ v3 = .slice none 0 0 ∧ ix = .int .i64 k ∧ Below w.heap.size w wr) (fun _ ix _ => 3 * F - (intOf ix).toNat)
  case atStart => exact ⟨0, Nat.zero_le _, rfl, rfl, Below.refl _ _⟩
  case round =>
    obtain ⟨k, hk, rfl, rfl, hB⟩ := hrel
    rename World => wr
    by_cases hlt : k < 3 * F
    · have k3 : (k : Int) < 3 * (F : Int) := by omega
      have hp := HP.out k hlt
      have HB := Lib.hid hB
      clear hB
      go_wp2_with fail
      refine (HO.out wr k HB.out).mono ?_
      rintro e w2 ⟨rfl, hb2⟩
      have hB2 := HB.out.trans (hb2.mono HB.out.size)
      have HB2 := Lib.hid hB2
      clear hb2 hB2
      go_wp2
      go_roundw
      case measure => simp [intOf]; omega
      case rel => exact ⟨k + 1, by omega, rfl, by go_num, HB2.out⟩
    · obtain rfl : k = 3 * F := by omega
      go_wp2
      go_ret
      exact ⟨rfl, hB⟩

set_option maxHeartbeats 1000000 in
theorem behindC_any (g : Nat) (N : Int) (T : List Tr) (w : World) (h : Tab w g N T) (hc : ClosedT T) : Calls Tryz.prog 146 #[.pointer (some ⟨g, 0, none⟩)] w fun e w' => ∃ b, e = .returned (.map (some b)) ∧ w.heap.size ≤ b ∧ MapP Tryz.prog 3 w' b (fun _ => none) ∧ Below w.heap.size w w' := by
  have hB : Below w.heap.size w (w.alloc (.map #[] 0)) := (Below.refl _ _).alloc (Nat.le_refl _) _
  have HB := Lib.hid hB
  have HM := Lib.hid (MapP.made w Tryz.prog 3)
  have HE := Lib.hid (edgesC_any g N T _ (h.below hB) hc)
  clear hB h hc
  have hmm := @run_makeMap Tryz.prog
  go_enter Tryz.func146, Tryz.ntmps146
  go_wp2_with fail
  refine HE.out.mono ?_
  rintro e w1 ⟨rfl, hb1⟩
  go_wp2
  go_loopw [10] (fun ix wr => ix = .int .i64 0 ∧ wr = w1) (fun _ _ => 0)
  case atStart => exact ⟨rfl, rfl⟩
  case round =>
    obtain ⟨rfl, rfl⟩ := hrel
    go_wp2
    go_ret
    exact ⟨_, rfl, Nat.le_refl _, HM.out.below hb1 (by simp), HB.out.trans (hb1.mono HB.out.size)⟩

set_option maxHeartbeats 1000000 in
/-- border.Walk: the function value holds the table and the vertex in boxes. -/
theorem bwalk_any (F : Fence) (n : Nat) (h6 : F.fn 128) (hro : F.round = none) (g : Nat) (v : Int) (w : World) :
    CallsIn F n Tryz.prog 128 #[.pointer (some ⟨g, 0, none⟩), .int .i64 v] w fun e w' => e = .returned (.func (.func 145) #[] #[.pointer (some ⟨w.heap.size, 0, none⟩), .pointer (some ⟨w.heap.size + 1, 0, none⟩)]) ∧ w' = (w.alloc (.cells #[.pointer (some ⟨g, 0, none⟩)] 26)).alloc (.cells #[.int .i64 v] 3) := by
  refine callsIn_of_wp Tryz.func128 rfl h6 ?_ hro
  simp only [Tryz.ntmps128, List.size_toArray, List.length_cons, List.length_nil, Nat.reduceAdd, Nat.reduceSub, Array.replicate_succ, Array.replicate_zero, List.push_toArray, List.append_toArray, List.nil_append, List.cons_append]
  gi_wp2
  go_ret
  exact ⟨rfl, rfl⟩

set_option maxRecDepth 100000 in
set_option maxHeartbeats 1000000 in
/-- On a closed surface it yields nothing. -/
theorem bwalk1C_in (n : Nat) (l Bt Bv g : Nat) (N : Int) (T : List Tr) (v : Nat) (hv : v ≤ 5000) (hc : ClosedT T) (W : World) (hT : Tab W g N T) (ht : W.cell? ⟨Bt, 0, none⟩ = some (.pointer (some ⟨g, 0, none⟩))) (hvc : W.cell? ⟨Bv, 0, none⟩ = some (.int .i64 v)) (lt : Bt < W.heap.size) (lv : Bv < W.heap.size) :
    CallsIn Fence.wide n Tryz.prog 145 #[.func (.yield l) #[] #[], .pointer (some ⟨Bt, 0, none⟩), .pointer (some ⟨Bv, 0, none⟩)] W fun e W' => (∃ v, e = .returned v) ∧ Below W.heap.size W W' := by
  refine callsIn_of_wp Tryz.func145 rfl trivial ?_ rfl
  have HE := Lib.hid (behindC_any g N T W hT hc)
  clear hT hc
  simp only [Tryz.ntmps145, List.size_toArray, List.length_cons, List.length_nil, Nat.reduceAdd, Nat.reduceSub, Array.replicate_succ, Array.replicate_zero, List.push_toArray, List.append_toArray, List.nil_append, List.cons_append]
  gi_wp2_with fail
  refine ⟨trivial, fun h => (by simp [Fence.wide] at h), (callsIn_wide.2 HE.out).mono ?_⟩
  rintro e w1 ⟨b, rfl, hb, hm, hB⟩
  have hkeyv := keyOf_int_mk (P := Tryz.prog) (k := 3) (q := .i64) Tryz.underlying3 (wfV (x := (v : Int)) ⟨by omega, by omega⟩)
  have hlk := hm.lookOk (t := 78) (int_keyed Tryz.underlying3) Tryz.underlying78 (zero_int _) hkeyv
  have t1 := (hB.cell (p := ⟨Bt, 0, none⟩) lt).trans ht
  have v1 := (hB.cell (p := ⟨Bv, 0, none⟩) lv).trans hvc
  have HB := Lib.hid hB
  clear hB hm
  gi_wp2
  refine ⟨fun f h => (by cases h), ?_⟩
  gi_wp2
  refine bodyPost_ret (results_none rfl _ _ _) rfl ?_
  exact ⟨⟨_, rfl⟩, HB.out⟩
theorem bwalk_sep0 {w : World} {n Bt Bv g : Nat} {N : Int} {T : List Tr} {v : Nat} (hv : v ≤ 5000) (hc : ClosedT T) (hT : Tab w g N T) (ht : w.cell? ⟨Bt, 0, none⟩ = some (.pointer (some ⟨g, 0, none⟩))) (hvc : w.cell? ⟨Bv, 0, none⟩ = some (.int .i64 v)) (lt : Bt < w.heap.size) (lv : Bv < w.heap.size) :
    SeqSep Fence.wide n Tryz.prog 145 #[.pointer (some ⟨Bt, 0, none⟩), .pointer (some ⟨Bv, 0, none⟩)] (fun x : Int => #[.int .i64 x]) (fun _ => True) (fun _ => True) 0 w (fun _ => False) (fun _ => True) := by
  intro l J Jx W C hW _ _ hJ _ _ h0 hC
  have hz := hW.size
  refine (bwalk1C_in n l Bt Bv g N T v hv hc W (hT.below hW) ((hW.cell (p := ⟨Bt, 0, none⟩) lt).trans ht) ((hW.cell (p := ⟨Bv, 0, none⟩) lv).trans hvc) (by omega) (by omega)).mono ?_
  rintro e W' ⟨h1, h2⟩
  exact ⟨h1, .inl ⟨[], C, trivial, hJ _ _ _ _ h0 (h2.mono hz) (fun k hk => h2.block k (hC k hk).2.1)⟩⟩
theorem put_calm2 {W : World} {D : Nat} (o : Obj) : W.grownBy (W.putObj D o) (some D) := grownBy_putObj' W D o

set_option maxRecDepth 100000 in
set_option maxHeartbeats 1000000 in
theorem appendSeq0 (w : World) (gf : Nat) (lb : Array Value) (eg : ∀ args w, (callFunc gf args).run Tryz.prog w = .ok (.enter gf args) w) (hseq : SeqSep Fence.wide 8 Tryz.prog gf lb (fun x : Int => #[.int .i64 x]) (fun _ => True) (fun _ => True) 0 w (fun _ => False) (fun _ => True)) :
    Calls Tryz.prog 144 #[.slice none 0 0, .func (.func gf) #[] lb] w fun e w' => e = .returned (.slice none 0 0) ∧ Below w.heap.size w w' := by
  refine (callsIn_wide (n := 9)).1 ?_
  refine callsIn_of_wp_marks Tryz.func144 rfl trivial ?_ rfl
  simp only [Tryz.ntmps144, List.size_toArray, List.length_cons, List.length_nil, Nat.reduceAdd, Nat.reduceSub, Array.replicate_succ, Array.replicate_zero, List.push_toArray, List.append_toArray, List.nil_append, List.cons_append]
  gi_wp2
  have hB : Below w.heap.size w (w.alloc (.cells #[.slice none 0 0] 28)) := (Below.refl _ _).alloc (Nat.le_refl _) _
  have bx := Blk.new w 28 #[.slice none 0 0]
  refine wpIn_rangeFunc_sep rfl (by omega) (gf := gf) (lb := lb) rfl trivial eg hseq (fun _ _ => trivial) (fun _ h => h.elim) hB (fun _ => rfl)
    (fun _ C W => C w.heap.size ∧ Blk W w.heap.size 28 #[.slice none 0 0] ∧ Below w.heap.size w W) (fun _ _ _ _ => False) ?_ ?_ (fun k => k = w.heap.size) (fun k hk => by subst hk; simp) ⟨rfl, bx, hB⟩ ?_ ?_ ?_
  · rintro xs C A B ⟨h1, h2, h3⟩ hb hs
    exact ⟨h1, blk_same h2 (hs _ h1), h3.trans hb⟩
  · rintro c xs C A B h
    exact h.elim
  · intro l pre x C W _ _ _ _ hl
    exact absurd hl (by omega)
  · rintro D xs C W hD hCD _ ⟨h1, h2, h3⟩ hK
    obtain ⟨q0, q1, q2⟩ := h2.one
    have hDw : D ≠ w.heap.size := fun e => hCD (by rw [e]; exact h1)
    gi_wp2
    refine ⟨by simp, .inl ⟨_, _, rfl, run_takeDeferred hK, ?_⟩⟩
    have g1 := put_calm2 (W := W) (D := D) (.deferred none)
    refine ⟨_, ?_, rfl, h3.grown g1 h3.size (fun k e => by cases e; simp at hD; omega)⟩
    simp [results, Tryz.results144, go_sem]
  · intro D c pre C W _ _ _ h _
    exact h.elim
set_option maxHeartbeats 1000000 in
theorem collect0 (w : World) (gf : Nat) (lb : Array Value) (eg : ∀ args w, (callFunc gf args).run Tryz.prog w = .ok (.enter gf args) w) (hseq : SeqSep Fence.wide 8 Tryz.prog gf lb (fun x : Int => #[.int .i64 x]) (fun _ => True) (fun _ => True) 0 w (fun _ => False) (fun _ => True)) :
    Calls Tryz.prog 127 #[.func (.func gf) #[] lb] w fun e w' => e = .returned (.slice none 0 0) ∧ Below w.heap.size w w' := by
  have H := Lib.hid (appendSeq0 w gf lb eg hseq)
  clear hseq
  go_enter Tryz.func127, Tryz.ntmps127
  go_wp2_with fail
  refine H.out.mono ?_
  rintro e w1 ⟨rfl, hb⟩
  go_wp2
  go_ret
  exact ⟨rfl, hb⟩

/-- The marks that loops over functions have left. -/
def Mks (base : Nat) (W : World) (ds : List Deferred) : Prop := (∀ d ∈ ds, ∃ r, d.target = .collected r ∧ base ≤ r ∧ W.heap[r]? = some (.deferred (some []))) ∧ ds.Pairwise (fun a b => a.target ≠ b.target)
theorem Mks.nil (base : Nat) (W : World) : Mks base W [] := ⟨fun _ h => (List.not_mem_nil h).elim, .nil⟩
theorem Mks.below {base : Nat} {W W' : World} {ds : List Deferred} (h : Mks base W ds) (hb : Below W.heap.size W W') : Mks base W' ds :=
  ⟨fun d hd => by
    obtain ⟨r, h1, h2, h3⟩ := h.1 d hd
    exact ⟨r, h1, h2, (hb.block r (Array.getElem?_eq_some_iff.1 h3).1).trans h3⟩, h.2⟩
theorem Mks.cons {base D : Nat} {W : World} {ds : List Deferred} {args : Array Value} (h : Mks base W ds) (hK : W.heap[D]? = some (.deferred (some []))) (hD : base ≤ D) (hn : ∀ d ∈ ds, d.target ≠ .collected D) : Mks base W ({ target := .collected D, args := args } :: ds) :=
  ⟨fun d hd => by
    rcases List.mem_cons.1 hd with rfl | hd
    · exact ⟨D, rfl, hD, hK⟩
    · exact h.1 d hd, List.pairwise_cons.2 ⟨fun d hd e => hn d hd e.symm, h.2⟩⟩
theorem leaves_marks {F : Fence} {n : Nat} {P : Program} {fn : Func} {tmps : Array Value} {R : Ending → World → Prop} {base : Nat} : ∀ (ds : List Deferred) (W : World), Mks base W ds →
    (∀ W', Kept (fun k => base ≤ k ∧ ∃ d ∈ ds, d.target = .collected k) W W' → LeavesInM F n P fn tmps R [] .returning W') → LeavesInM F n P fn tmps R ds .returning W
  | [], W, _, h => h W (Kept.refl _ _)
  | d :: ds, W, hM, h => by
    obtain ⟨r, h1, h2, h3⟩ := hM.1 d (List.mem_cons_self ..)
    have hp := List.pairwise_cons.1 hM.2
    refine ⟨by simp, .inl ⟨r, _, h1, run_takeDeferred h3, leaves_marks (base := base) ds _ ⟨fun d' hd' => ?_, hp.2⟩ fun W' hk => h W' ?_⟩⟩
    · obtain ⟨r', k1, k2, k3⟩ := hM.1 d' (List.mem_cons_of_mem _ hd')
      refine ⟨r', k1, k2, (World.putObj_heap_other (fun e => ?_)).trans k3⟩
      exact hp.1 d' hd' (by rw [h1, k1, e])
    · refine Kept.trans (b := W.putObj r (.deferred none)) ?_ (hk.mono (fun k ⟨a, d', b, c⟩ => ⟨a, d', List.mem_cons_of_mem _ b, c⟩))
      exact putObj_kept ⟨h2, d, List.mem_cons_self .., h1⟩

set_option maxRecDepth 100000 in
set_option maxHeartbeats 2000000 in
theorem loopsC_any (g n : Nat) (T : List Tr) (w : World) (h : Tab w g n T) (hc : ClosedT T) (hn : n ≤ 4096) :
    Calls Tryz.prog 109 #[.pointer (some ⟨g, 0, none⟩)] w fun e w' => e = .returned (.slice none 0 0) ∧ Below w.heap.size w w' := by
  have H0 := Lib.hid (fun (W : World) (hW : Below w.heap.size w W) => vertices_any g n T W (h.below hW).toTabS)
  have HT := Lib.hid (fun (W : World) (hW : Below w.heap.size w W) => h.below hW)
  have HC := Lib.hid hc
  clear h hc
  have hmm := @run_makeMap Tryz.prog
  refine (callsIn_wide (n := 9)).1 ?_
  refine callsIn_of_wp_marks Tryz.func109 rfl trivial ?_ rfl
  simp only [Tryz.ntmps109, List.size_toArray, List.length_cons, List.length_nil, Nat.reduceAdd, Nat.reduceSub, Array.replicate_succ, Array.replicate_zero, List.push_toArray, List.append_toArray, List.nil_append, List.cons_append]
  have hB0 : Below w.heap.size w ((w.alloc (.map #[] 0)).alloc (.cells #[.map (some w.heap.size)] 59)) := ((Below.refl _ _).alloc (Nat.le_refl _) _).alloc (by simp) _
  have hm0 : MapP Tryz.prog 3 ((w.alloc (.map #[] 0)).alloc (.cells #[.map (some w.heap.size)] 59)) w.heap.size (fun _ => none) := (MapP.made w Tryz.prog 3).alloc _
  have b0 : Blk ((w.alloc (.map #[] 0)).alloc (.cells #[.map (some w.heap.size)] 59)) (w.heap.size + 1) 59 #[.map (some w.heap.size)] := by
    have := Blk.new (w.alloc (.map #[] 0)) 59 #[.map (some w.heap.size)]
    rwa [World.size_alloc] at this
  have HB0 := Lib.hid hB0
  have HM0 := Lib.hid hm0
  have HBb0 := Lib.hid b0
  clear hB0 hm0 b0
  gi_wp2_with fail
  refine ⟨trivial, (callsIn_wide.2 (H0.out _ HB0.out)).mono ?_⟩
  rintro e w1 ⟨rfl, rfl⟩
  gi_wp2
  refine wpIn_loop (fun a' W => ∃ (k : Nat) (u5 u6 u7 u14 u15 u16 u17 u18 u19 u20 u21 u22 u23 u24 u25 u29 u30 u31 u36 : Value) (ds : List Deferred), a' = { tmps := List.toArray (.pointer (some ⟨g, 0, none⟩) :: undef :: .slice none 0 0 :: .slice none 0 0 :: .pointer (some ⟨w.heap.size + 1, 0, none⟩) :: u5 :: u6 :: u7 :: .pointer (some ⟨g, 0, none⟩) :: .bool false :: .map (some w.heap.size) :: .pointer (some ⟨g, 0, none⟩) :: .int .i64 (n : Int) :: .int .i64 (k : Int) :: u14 :: u15 :: u16 :: u17 :: u18 :: u19 :: u20 :: u21 :: u22 :: u23 :: u24 :: u25 :: undef :: undef :: undef :: u29 :: u30 :: u31 :: undef :: undef :: undef :: undef :: u36 :: undef :: []), defers := ds } ∧
    k ≤ n ∧ Mks w.heap.size W ds ∧ Blk W (w.heap.size + 1) 59 #[.map (some w.heap.size)] ∧ MapP Tryz.prog 3 W w.heap.size (fun _ => none) ∧ Below w.heap.size w W)
    (fun a' _ => n - (intOf (a'.tmps.getD 13 undef)).toNat) ?_ ?_
  · exact ⟨0, _, _, _, _, _, _, _, _, _, _, _, _, _, _, _, _, _, _, _, _, rfl, Nat.zero_le _, Mks.nil _ _, HBb0.out, HM0.out, HB0.out⟩
  · rintro a' W ⟨k, u5, u6, u7, u14, u15, u16, u17, u18, u19, u20, u21, u22, u23, u24, u25, u29, u30, u31, u36, ds, rfl, hk, hM, hb, hmp, hB⟩
    clear HB0 HM0 HBb0
    obtain ⟨q0, q1, q2⟩ := hb.one
    have hsz := hB.size
    by_cases hlt : k < n
    · have k3 : (k : Int) < (n : Int) := by omega
      have hkeyv := keyOf_int_mk (P := Tryz.prog) (k := 3) (q := .i64) Tryz.underlying3 (wfV (x := (k : Int)) ⟨by omega, by omega⟩)
      have hlk := hmp.look (t := 59) (int_keyed Tryz.underlying3) Tryz.underlying59 (zero_bool _) hkeyv
      simp only [Option.getD_none] at hlk
      have HM := Lib.hid hM
      have HBb := Lib.hid hb
      have HMp := Lib.hid hmp
      have HB := Lib.hid hB
      clear hM hb hmp hB
      gi_wp2_with fail
      refine ⟨trivial, (callsIn_wide.2 (callsIn_wide.1 (bwalk_any Fence.wide 8 trivial rfl g (k : Int) W))).mono ?_⟩
      rintro e w2 ⟨rfl, rfl⟩
      have hB2 : Below W.heap.size W ((W.alloc (.cells #[.pointer (some ⟨g, 0, none⟩)] 26)).alloc (.cells #[.int .i64 (k : Int)] 3)) := ((Below.refl _ _).alloc (Nat.le_refl _) _).alloc (by simp) _
      have bt : Blk ((W.alloc (.cells #[.pointer (some ⟨g, 0, none⟩)] 26)).alloc (.cells #[.int .i64 (k : Int)] 3)) W.heap.size 26 #[.pointer (some ⟨g, 0, none⟩)] := (Blk.new _ _ _).alloc _
      have bv : Blk ((W.alloc (.cells #[.pointer (some ⟨g, 0, none⟩)] 26)).alloc (.cells #[.int .i64 (k : Int)] 3)) (W.heap.size + 1) 3 #[.int .i64 (k : Int)] := by
        have := Blk.new (W.alloc (.cells #[.pointer (some ⟨g, 0, none⟩)] 26)) 3 #[.int .i64 (k : Int)]
        rwa [World.size_alloc] at this
      generalize (W.alloc (.cells #[.pointer (some ⟨g, 0, none⟩)] 26)).alloc (.cells #[.int .i64 (k : Int)] 3) = W2 at *
      have hBw2 := HB.out.trans (hB2.mono hsz)
      gi_wp2_with fail
      refine ⟨trivial, (callsIn_wide.2 (collect0 W2 145 _ (enters_of Tryz.func145 (by kernel_rfl) rfl) (bwalk_sep0 (v := k) (by omega) HC.out (HT.out W2 hBw2) (bt.cell 0) (bv.cell 0) bt.lt bv.lt))).mono ?_⟩
      rintro e w3 ⟨rfl, hb3⟩
      have hB3 := hB2.trans (hb3.mono hB2.size)
      clear bt bv hb3 hB2 hBw2
      have hBw3 := HB.out.trans (hB3.mono hsz)
      have h3s := hB3.size
      gi_wp2_with fail
      refine ⟨trivial, (callsIn_wide.2 (callsIn_wide.1 (bwalk_any Fence.wide 8 trivial rfl g (k : Int) w3))).mono ?_⟩
      rintro e w4 ⟨rfl, rfl⟩
      have hB4 : Below w3.heap.size w3 ((w3.alloc (.cells #[.pointer (some ⟨g, 0, none⟩)] 26)).alloc (.cells #[.int .i64 (k : Int)] 3)) := ((Below.refl _ _).alloc (Nat.le_refl _) _).alloc (by simp) _
      have bt : Blk ((w3.alloc (.cells #[.pointer (some ⟨g, 0, none⟩)] 26)).alloc (.cells #[.int .i64 (k : Int)] 3)) w3.heap.size 26 #[.pointer (some ⟨g, 0, none⟩)] := (Blk.new _ _ _).alloc _
      have bv : Blk ((w3.alloc (.cells #[.pointer (some ⟨g, 0, none⟩)] 26)).alloc (.cells #[.int .i64 (k : Int)] 3)) (w3.heap.size + 1) 3 #[.int .i64 (k : Int)] := by
        have := Blk.new (w3.alloc (.cells #[.pointer (some ⟨g, 0, none⟩)] 26)) 3 #[.int .i64 (k : Int)]
        rwa [World.size_alloc] at this
      generalize (w3.alloc (.cells #[.pointer (some ⟨g, 0, none⟩)] 26)).alloc (.cells #[.int .i64 (k : Int)] 3) = W4 at *
      have hBw4 := hBw3.trans (hB4.mono hBw3.size)
      have hsep := bwalk_sep0 (n := 8) (v := k) (by omega) HC.out (HT.out W4 hBw4) (bt.cell 0) (bv.cell 0) bt.lt bv.lt
      have hBk4 := hB3.trans (hB4.mono h3s)
      have HBk := Lib.hid hBk4
      have HSep := Lib.hid hsep
      have HBw := Lib.hid hBw4
      have h4s := hBk4.size
      clear bt bv hB3 hBw3 hB4 hBw4 hsep hBk4
      gi_wp2
      refine wpIn_rangeFunc_sep rfl (by omega) (gf := 145) (lb := #[.pointer (some ⟨w3.heap.size, 0, none⟩), .pointer (some ⟨w3.heap.size + 1, 0, none⟩)]) rfl trivial (enters_of Tryz.func145 (by kernel_rfl) rfl) HSep.out (fun _ _ => trivial) (fun _ h => h.elim) (Below.refl _ _) (fun _ => rfl)
        (fun _ _ W' => Below W4.heap.size W4 W') (fun _ _ _ _ => False) ?_ ?_ (fun _ => False) (fun _ h => h.elim) (Below.refl _ _) ?_ ?_ ?_
      · rintro xs C A B h hb hs
        exact h.trans hb
      · rintro c xs C A B h
        exact h.elim
      · intro l pre x C W _ _ _ _ hl
        exact absurd hl (by omega)
      · rintro D xs C W5 hD _ _ h5 hK
        have hB5 := HBk.out.trans (h5.mono h4s)
        gi_wp2
        refine ⟨⟨k + 1, _, _, _, _, _, _, _, _, _, _, _, _, _, _, _, _, _, _, _, _, by go_num, by omega, (HM.out.below hB5).cons hK (by omega) ?_, HBb.out.below hB5 HBb.out.lt, HMp.out.below hB5 (by omega), HB.out.trans (hB5.mono hsz)⟩, ?_⟩
        · intro d hd e
          obtain ⟨r, e1, e2, e3⟩ := HM.out.1 d hd
          rw [e] at e1
          have := (Array.getElem?_eq_some_iff.1 e3).1
          injection e1 with e1
          omega
        · simp [intOf]
          omega
      · intro D c pre C W' _ _ _ h _
        exact h.elim
    · obtain rfl : k = n := by omega
      gi_wp2
      refine leaves_marks (base := w.heap.size) ds _ hM fun W' hk => ?_
      refine ⟨_, ?_, rfl, hB.trans (hk.below (fun k h => h.1) hsz)⟩
      simp [results, Tryz.results109, go_sem]
end Go.Proofs.YtghlnknncahkgaaGreat
/-
  A walk's steps on numbers: what the loop, the loops that wait and the vertices come to become.
-/
namespace Go.Proofs.YtghlnknncahkgaaGreat
open Go.RowKit

structure WSt where
  come : List Int
  loop : List Int
  wait : List (List Int)
structure WStep where
  letter : Int
  corner : Int
  loops : Nat
  length : Nat
/-- One step; none: there is no sense in it. -/
def stepM (T : List Tr) (s : WSt) : Option (WStep × WSt) :=
  match s.loop with
  | a :: b :: r =>
    if facI T (a, b) < 0 then none
    else if vertI T (facI T (a, b)) ∉ s.come then some (⟨67, facI T (a, b), s.wait.length, r.length + 2⟩, ⟨s.come ++ [vertI T (facI T (a, b))], a :: vertI T (facI T (a, b)) :: b :: r, s.wait⟩)
    else if r.length = 1 then some (⟨69, facI T (a, b), s.wait.length, r.length + 2⟩, ⟨s.come, s.wait.getLast?.getD [], s.wait.dropLast⟩)
    else if Lib.idxOf (a :: b :: r) (vertI T (facI T (a, b))) = r.length + 1 then some (⟨76, facI T (a, b), s.wait.length, r.length + 2⟩, ⟨s.come, vertI T (facI T (a, b)) :: (b :: r).dropLast, s.wait⟩)
    else if Lib.idxOf (a :: b :: r) (vertI T (facI T (a, b))) = 2 then some (⟨82, facI T (a, b), s.wait.length, r.length + 2⟩, ⟨s.come, a :: r, s.wait⟩)
    else if 2 < Lib.idxOf (a :: b :: r) (vertI T (facI T (a, b))) then some (⟨83, facI T (a, b), s.wait.length, r.length + 2⟩, ⟨s.come, a :: (a :: b :: r).drop (Lib.idxOf (a :: b :: r) (vertI T (facI T (a, b)))).toNat, s.wait ++ [vertI T (facI T (a, b)) :: (b :: r).take ((Lib.idxOf (a :: b :: r) (vertI T (facI T (a, b)))).toNat - 1)]⟩)
    else none
  | _ => none
def hdI (T : List Tr) (c : Nat) : Int := vertN T (Jor.nx c)
/-- The numbers are those of the corners. -/
structure WRel (T : List Tr) (D : List Nat) (Xs : List (List Nat)) (s : WSt) : Prop where
  come : ∀ c, c < 3 * T.length → (vertN T c ∈ s.come ↔ Jor.Come T.length (verN T) D (verN T c))
  nd : s.come.Nodup
  rng : ∀ v ∈ s.come, ∃ c, c < 3 * T.length ∧ vertN T c = v
  loop : s.loop = (Xs.headD []).map (hdI T)
  wait : s.wait = (Xs.tail.map fun X => X.map (hdI T)).reverse
theorem idxOf_at {l m : List Int} {v : Int} (h : v ∉ l) : Lib.idxOf (l ++ v :: m) v = l.length := by
  have := Lib.idxOf_hit (l ++ v :: m) (l ++ v :: m).length l.length v (by simp) (Nat.le_refl _) (by simp [List.getD]) (fun j hj e => h (by
    have : (l ++ v :: m).getD j 0 = l[j] := by simp [List.getD, List.getElem?_append_left hj, List.getElem?_eq_getElem hj]
    rw [this] at e
    rw [← e]
    exact List.getElem_mem _))
  rwa [List.take_length] at this
variable {N : Int} {T : List Tr} {d0 : Nat} {D : List Nat}
theorem hdI_opp (hc : ClosedT T) {c : Nat} (h : c < 3 * T.length) : hdI T (oppN T c) = vertN T (Jor.pv c) := by
  obtain ⟨_, h2⟩ := opp_some h (hc.opp h)
  have := congrArg Prod.fst h2
  simpa [edgeN, hdI] using this
theorem stepM_ok (hS : Surf N T) (hc : ClosedT T) (K : Jor.Walks T.length N.toNat (oppN T) (verN T)) {c0 : Nat} {r : List Nat} {W : List (List Nat)} {s : WSt}
    (h : Jor.WInv T.length (oppN T) (verN T) d0 D ((c0 :: r) :: W)) (R : WRel T D ((c0 :: r) :: W) s) :
    ∃ l s' Xs', stepM T s = some (⟨l, (c0 : Int), W.length, r.length + 1⟩, s') ∧ Jor.WInv T.length (oppN T) (verN T) d0 (c0 / 3 :: D) Xs' ∧ WRel T (c0 / 3 :: D) Xs' s' ∧
      ((l = 67 ∧ s'.come = s.come ++ [vertN T c0] ∧ Xs'.length = W.length + 1 ∧ s'.loop.length = r.length + 2) ∨ (l = 69 ∧ s'.come = s.come ∧ Xs'.length = W.length ∧ r.length = 2) ∨ ((l = 76 ∨ l = 82) ∧ s'.come = s.come ∧ Xs'.length = W.length + 1 ∧ s'.loop.length = r.length) ∨ (l = 83 ∧ s'.come = s.come ∧ Xs'.length = W.length + 2)) := by
  have hX : (c0 :: r) ∈ (c0 :: r) :: W := List.mem_cons_self ..
  have h0 : Jor.Bd T.length (oppN T) D c0 := h.mem hX (List.mem_cons_self ..)
  have hl0 := h0.1
  have ha : Jor.pv c0 < 3 * T.length := Jor.pv_lt hl0
  have hb : Jor.nx c0 < 3 * T.length := Jor.nx_lt hl0
  have hlen := h.len _ hX
  obtain ⟨b, r', rfl⟩ : ∃ b r', r = b :: r' := List.exists_cons_of_ne_nil (by rintro rfl; simp at hlen)
  have hbm : b ∈ c0 :: b :: r' := by simp
  have hbl := (h.mem hX hbm).1
  have e1 : vertN T (Jor.pv c0) = hdI T b := by
    obtain ⟨c', r'', e', hcyc⟩ := h.cyc _ hX
    cases e'
    simp only [List.map_cons, List.cons_append, List.cons.injEq] at hcyc
    exact (verN_eq hS ha (Jor.nx_lt hbl)).1 hcyc.1
  have hloop : s.loop = hdI T c0 :: hdI T b :: r'.map (hdI T) := R.loop
  have hwl : s.wait.length = W.length := by rw [R.wait]; simp
  have hfac : facI T (hdI T c0, hdI T b) = (c0 : Int) := by
    rw [← e1]
    exact facI_of hS.twice hl0
  have hv : vertI T (c0 : Int) = vertN T c0 := vertI_nat hl0
  have hrl : (r'.map (hdI T)).length = r'.length := by simp
  have hcs := Jor.come_step K h0
  have hoa : hdI T (oppN T (Jor.pv c0)) = hdI T c0 := by rw [hdI_opp hc ha, Jor.pv_pv]; rfl
  have hob : hdI T (oppN T (Jor.nx c0)) = vertN T c0 := by rw [hdI_opp hc hb, Jor.pv_nx]
  rcases h.next K with ⟨hn, hI⟩ | ⟨hcm, r1, e, r2, hr, hev, hr1, hI⟩
  · have hnv : vertN T c0 ∉ s.come := fun hm => hn ((R.come c0 hl0).1 hm)
    refine ⟨67, ⟨s.come ++ [vertN T c0], hdI T c0 :: vertN T c0 :: hdI T b :: r'.map (hdI T), s.wait⟩, _, ?_, hI, ⟨?_, ?_, ?_, ?_, ?_⟩, .inl ⟨rfl, rfl, by simp, by simp⟩⟩
    · unfold stepM
      rw [hloop]
      simp only [hfac, hv]
      rw [if_neg (by omega), if_pos hnv, hwl, hrl]
      rfl
    · intro c hcl
      rw [hcs, ← R.come c hcl, List.mem_append, List.mem_singleton, verN_eq hS hcl hl0]
    · rw [List.nodup_append]
      exact ⟨R.nd, by simp, fun a ha b hb e => by rw [List.mem_singleton.1 hb] at e; exact hnv (by rw [← e]; exact ha)⟩
    · intro v hvm
      rcases List.mem_append.1 hvm with hvm | hvm
      · exact R.rng v hvm
      · rw [List.mem_singleton.1 hvm]
        exact ⟨c0, hl0, rfl⟩
    · simp [hoa, hob]
    · exact R.wait
  · have hvm : vertN T c0 ∈ s.come := (R.come c0 hl0).2 hcm
    have hem : e ∈ c0 :: b :: r' := by rw [hr]; simp
    have hel := (h.mem hX hem).1
    have hev' : hdI T e = vertN T c0 := (verN_eq hS (Jor.nx_lt hel) hl0).1 hev
    have hcome : ∀ c, c < 3 * T.length → (vertN T c ∈ s.come ↔ Jor.Come T.length (verN T) (c0 / 3 :: D) (verN T c)) := by
      intro c hcl
      rw [hcs, ← R.come c hcl, verN_eq hS hcl hl0]
      exact ⟨.inl, fun h => by rcases h with h | h; exact h; rw [h]; exact hvm⟩
    have hvl : hdI T b :: r'.map (hdI T) = r1.map (hdI T) ++ vertN T c0 :: r2.map (hdI T) := by
      rw [← hev', ← List.map_cons, ← List.map_cons, ← List.map_append, hr]
    have hnot : vertN T c0 ∉ hdI T c0 :: r1.map (hdI T) := by
      have hnd := h.vnd _ hX
      rw [hr] at hnd
      intro hm
      rcases List.mem_cons.1 hm with hm | hm
      · exact (vert_ne hS.simple hl0).1 hm.symm
      · obtain ⟨x, hx, hxe⟩ := List.mem_map.1 hm
        have hxm : x ∈ c0 :: b :: r' := by rw [hr]; simp [hx]
        have e2 : Jor.hd (verN T) x = Jor.hd (verN T) e := by
          rw [hev]
          exact (verN_eq hS (Jor.nx_lt (h.mem hX hxm).1) hl0).2 hxe
        simp only [List.map_cons, List.map_append, List.nodup_cons, List.nodup_append, List.mem_cons] at hnd
        exact hnd.2.2.2 _ (List.mem_map_of_mem hx) _ (.inl rfl) e2
    have hidx : Lib.idxOf (hdI T c0 :: hdI T b :: r'.map (hdI T)) (vertN T c0) = r1.length + 1 := by
      rw [hvl, ← List.cons_append, idxOf_at hnot]
      simp
    have hlr : r'.length + 1 = r1.length + r2.length + 1 := by
      have := congrArg List.length hr
      simp only [List.length_cons, List.length_append] at this
      omega
    have h1pos : 0 < r1.length := List.length_pos_iff.2 hr1
    have hl3 : 3 ≤ r'.length + 2 := by simpa using hlen
    by_cases z1 : r1.length = 1
    · by_cases z2 : r2 = []
      · have hz2 : r2.length = 0 := by rw [z2]; rfl
        unfold Jor.parted at hI
        rw [if_pos z1, if_pos z2] at hI
        refine ⟨69, ⟨s.come, s.wait.getLast?.getD [], s.wait.dropLast⟩, W, ?_, hI, ⟨hcome, R.nd, R.rng, ?_, ?_⟩, .inr (.inl ⟨rfl, rfl, rfl, by simp only [List.length_cons]; omega⟩)⟩
        · unfold stepM
          rw [hloop]
          simp only [hfac, hv]
          rw [if_neg (by omega), if_neg (by simpa using hvm), if_pos (by rw [hrl]; omega), hwl, hrl]
          rfl
        · rw [R.wait]
          cases W <;> simp
        · rw [R.wait]
          cases W <;> simp
      · have hz2 := List.length_pos_iff.2 z2
        unfold Jor.parted at hI
        rw [if_pos z1, if_neg z2] at hI
        refine ⟨82, ⟨s.come, hdI T c0 :: r'.map (hdI T), s.wait⟩, _, ?_, hI, ⟨hcome, R.nd, R.rng, ?_, R.wait⟩, .inr (.inr (.inl ⟨.inr rfl, rfl, by simp, by simp⟩))⟩
        · unfold stepM
          rw [hloop]
          simp only [hfac, hv]
          rw [if_neg (by omega), if_neg (by simpa using hvm), if_neg (by rw [hrl]; omega), hidx, if_neg (by rw [hrl]; omega), if_pos (by omega), hwl, hrl]
          rfl
        · obtain ⟨x, hx⟩ : ∃ x, r1 = [x] := List.length_eq_one_iff.1 z1
          subst hx
          simp only [List.map_cons, List.map_nil, List.cons_append, List.nil_append, List.cons.injEq] at hvl
          simp [hoa, hev', hvl.2]
    · by_cases z2 : r2 = []
      · have hz2 : r2.length = 0 := by rw [z2]; rfl
        unfold Jor.parted at hI
        rw [if_neg z1, if_pos z2] at hI
        refine ⟨76, ⟨s.come, vertN T c0 :: (hdI T b :: r'.map (hdI T)).dropLast, s.wait⟩, _, ?_, hI, ⟨hcome, R.nd, R.rng, ?_, R.wait⟩, .inr (.inr (.inl ⟨.inl rfl, rfl, by simp, by simp⟩))⟩
        · unfold stepM
          rw [hloop]
          simp only [hfac, hv]
          rw [if_neg (by omega), if_neg (by simpa using hvm), if_neg (by rw [hrl]; omega), hidx, if_pos (by rw [hrl]; omega), hwl, hrl]
          rfl
        · rw [hvl, z2]
          simp [hob]
      · have hz2 := List.length_pos_iff.2 z2
        unfold Jor.parted at hI
        rw [if_neg z1, if_neg z2] at hI
        refine ⟨83, ⟨s.come, hdI T c0 :: (hdI T c0 :: hdI T b :: r'.map (hdI T)).drop ((r1.length : Int) + 1).toNat, s.wait ++ [vertN T c0 :: (hdI T b :: r'.map (hdI T)).take (((r1.length : Int) + 1).toNat - 1)]⟩, _, ?_, hI, ⟨hcome, R.nd, R.rng, ?_, ?_⟩, .inr (.inr (.inr ⟨rfl, rfl, by simp⟩))⟩
        · unfold stepM
          rw [hloop]
          simp only [hfac, hv]
          rw [if_neg (by omega), if_neg (by simpa using hvm), if_neg (by rw [hrl]; omega), hidx, if_neg (by rw [hrl]; omega), if_neg (by omega), if_pos (by omega), hwl, hrl]
          rfl
        · have e3 : ((r1.length : Int) + 1).toNat = r1.length + 1 := by omega
          rw [e3, List.drop_succ_cons, hvl, List.drop_append_of_le_length (by simp), show r1.length = (r1.map (hdI T)).length from by simp, List.drop_length]
          simp [hoa, hev']
        · have e3 : ((r1.length : Int) + 1).toNat - 1 = r1.length := by omega
          rw [e3, hvl, List.take_append_of_le_length (by simp), show r1.length = (r1.map (hdI T)).length from by simp, List.take_length, R.wait]
          simp [hob]
end Go.Proofs.YtghlnknncahkgaaGreat
/-
  A whole walk on numbers: the steps so far, what holds behind each, and where it ends.
-/
namespace Go.Proofs.YtghlnknncahkgaaGreat
open Go.RowKit

/-- A simple surface: closed, of one part, of Euler number 2. -/
structure Simp (N : Int) (T : List Tr) : Prop where
  surf : Surf N T
  closed : ClosedT T
  conn : ∀ S : Nat → Prop, S 0 → (∀ c, c < 3 * T.length → S (c / 3) → S (oppN T c / 3)) → ∀ t, t < T.length → S t
  pos : 0 < T.length
  euler : 2 * N = T.length + 4
theorem Simp.K {N : Int} {T : List Tr} (h : Simp N T) : Jor.Walks T.length N.toNat (oppN T) (verN T) := walks_of h.surf h.closed h.conn h.pos h.euler
/-- The walk begins at corner c. -/
def beginS (T : List Tr) (c : Nat) : WSt := ⟨[vertN T c, vertN T (Jor.nx c), vertN T (Jor.pv c)], [vertN T (Jor.nx c), vertN T c, vertN T (Jor.pv c)], []⟩
/-- The triangles gone over, the last one ahead. -/
def dOf (c : Nat) (L : List WStep) : List Nat := (L.map fun x => x.corner.toNat / 3).reverse ++ [c / 3]
/-- The vertices come to by the steps. -/
def newV (T : List Tr) (L : List WStep) : List Int := (L.filter fun x => decide (x.letter = 67)).map fun x => vertI T x.corner
theorem dOf_len (c : Nat) (L : List WStep) : (dOf c L).length = L.length + 1 := by simp [dOf]
theorem dOf_snoc (c : Nat) (L : List WStep) (x : WStep) : dOf c (L ++ [x]) = x.corner.toNat / 3 :: dOf c L := by simp [dOf]
theorem newV_snoc (T : List Tr) (L : List WStep) (x : WStep) : newV T (L ++ [x]) = newV T L ++ (if x.letter = 67 then [vertI T x.corner] else []) := by
  unfold newV
  rw [List.filter_append, List.map_append]
  by_cases h : x.letter = 67 <;> simp [h]
/-- The steps so far. -/
inductive Ran (T : List Tr) (s0 : WSt) : List WStep → WSt → Prop
  | nil : Ran T s0 [] s0
  | snoc {L : List WStep} {s s' : WSt} {x : WStep} : Ran T s0 L s → stepM T s = some (x, s') → Ran T s0 (L ++ [x]) s'
theorem Ran.one {T : List Tr} {s0 s s' : WSt} {L L' : List WStep} (h : Ran T s0 L s) (h' : Ran T s0 L' s') (hl : L.length = L'.length) : L = L' ∧ s = s' := by
  induction h generalizing L' s' with
  | nil =>
    cases h' with
    | nil => exact ⟨rfl, rfl⟩
    | snoc _ _ => simp at hl
  | snoc h1 h2 ih =>
    cases h' with
    | nil => simp at hl
    | snoc k1 k2 =>
      obtain ⟨rfl, rfl⟩ := ih k1 (by simpa using hl)
      rw [h2] at k2
      cases k2
      exact ⟨rfl, rfl⟩
theorem Ran.take {T : List Tr} {s0 s : WSt} {L : List WStep} (h : Ran T s0 L s) : ∀ k, k ≤ L.length → ∃ s', Ran T s0 (L.take k) s' := by
  induction h with
  | nil => intro k _; exact ⟨s0, by simpa using Ran.nil⟩
  | @snoc L s s' x h1 h2 ih =>
    intro k hk
    by_cases e : k = L.length + 1
    · subst e
      exact ⟨s', by rw [List.take_of_length_le (by simp)]; exact .snoc h1 h2⟩
    · have hk' : k ≤ L.length := by simp at hk; omega
      obtain ⟨s2, h3⟩ := ih k hk'
      exact ⟨s2, by rw [List.take_append_of_le_length hk']; exact h3⟩
/-- A walk that is over is no beginning of another one. -/
theorem Ran.end_ {T : List Tr} {s0 s s' : WSt} {L L' : List WStep} (h : Ran T s0 L s) (he : s.loop = []) (h' : Ran T s0 L' s') : L'.length ≤ L.length := by
  induction h' with
  | nil => simp
  | @snoc M s1 s2 x h1 h2 ih =>
    rcases Nat.lt_or_ge M.length L.length with hl | hl
    · simp; omega
    · obtain ⟨e1, e2⟩ := h1.one h (by omega)
      subst e2
      unfold stepM at h2
      rw [he] at h2
      cases h2
theorem Ran.same {T : List Tr} {s0 s s' : WSt} {L L' : List WStep} (h : Ran T s0 L s) (he : s.loop = []) (h' : Ran T s0 L' s') (he' : s'.loop = []) : L' = L ∧ s' = s := by
  have h1 := h.end_ he h'
  have h2 := h'.end_ he' h
  exact h'.one h (by omega)

/-- What holds behind the steps. -/
structure Gone (N : Int) (T : List Tr) (c : Nat) (L : List WStep) (s : WSt) (Xs : List (List Nat)) : Prop where
  inv : Jor.WInv T.length (oppN T) (verN T) (c / 3) (dOf c L) Xs
  rel : WRel T (dOf c L) Xs s
  come : s.come = (beginS T c).come ++ newV T L
  cnt : Xs.length + L.countP (fun x => decide (x.letter = 69)) = 1 + L.countP (fun x => decide (x.letter = 83))
  each : ∀ x ∈ L, ∃ d : Nat, x.corner = d ∧ d < 3 * T.length ∧ 3 ≤ x.length ∧ x.length ≤ 3 * T.length ∧ x.loops ≤ 3 * T.length ∧ (x.letter = 67 ∨ x.letter = 69 ∨ x.letter = 76 ∨ x.letter = 82 ∨ x.letter = 83)
  over : ∀ i x, L[i]? = some x → oppN T x.corner.toNat / 3 ∈ dOf c (L.take i)
theorem nodup_len : ∀ {l m : List Nat}, l.Nodup → l ⊆ m → l.length ≤ m.length
  | [], _, _, _ => by simp
  | a :: l, m, hn, hs => by
    have ha := hs (List.mem_cons_self ..)
    have hn' := List.nodup_cons.1 hn
    have : l ⊆ m.erase a := fun x hx => (List.mem_erase_of_ne (fun e => hn'.1 (by rw [← e]; exact hx))).2 (hs (List.mem_cons_of_mem _ hx))
    have := nodup_len hn'.2 this
    rw [List.length_erase_of_mem ha] at this
    have := List.length_pos_of_mem ha
    simp only [List.length_cons]
    omega
theorem WInv_flat {F : Nat} {opp vert : Nat → Nat} {d0 : Nat} {D : List Nat} {Xs : List (List Nat)} (h : Jor.WInv F opp vert d0 D Xs) : Xs.flatten.length ≤ 3 * F := by
  have h1 : Xs.flatten ⊆ List.range (3 * F) := fun c hc => List.mem_range.2 ((h.bd c).1 hc).1
  have := nodup_len h.nd h1
  simpa using this
theorem flat_count {Xs : List (List Nat)} (h : ∀ X ∈ Xs, 3 ≤ X.length) : 3 * Xs.length ≤ Xs.flatten.length := by
  induction Xs with
  | nil => simp
  | cons X R ih =>
    have h1 := h X (List.mem_cons_self ..)
    have h2 := ih (fun Y hY => h Y (List.mem_cons_of_mem _ hY))
    simp only [List.length_cons, List.flatten_cons, List.length_append]
    omega
variable {N : Int} {T : List Tr} {c : Nat}
theorem begin_gone (h : Simp N T) (hc : c < 3 * T.length) : Gone N T c [] (beginS T c) [[oppN T (Jor.pv c), oppN T (Jor.nx c), oppN T c]] where
  inv := by simpa [dOf] using Jor.WInv.start h.K hc
  rel := by
    have hb := Jor.nx_lt hc
    have hd := Jor.pv_lt hc
    obtain ⟨n1, n2, n3⟩ := vert_ne h.surf.simple hc
    refine ⟨fun d hdl => ?_, ?_, ?_, ?_, by simp [beginS]⟩
    · show _ ↔ Jor.Come T.length (verN T) [c / 3] (verN T d)
      rw [Jor.come_start hc, verN_eq h.surf hdl hc, verN_eq h.surf hdl hb, verN_eq h.surf hdl hd]
      simp [beginS]
    · simp only [beginS, List.nodup_cons, List.mem_cons, List.not_mem_nil, or_false, not_or, not_false_eq_true, List.nodup_nil, and_true]
      exact ⟨⟨fun e => n1 e.symm, fun e => n2 e.symm⟩, n3⟩
    · intro v hv
      simp only [beginS, List.mem_cons, List.not_mem_nil, or_false] at hv
      rcases hv with rfl | rfl | rfl
      · exact ⟨c, hc, rfl⟩
      · exact ⟨_, hb, rfl⟩
      · exact ⟨_, hd, rfl⟩
    · simp [beginS, hdI_opp h.closed hd, hdI_opp h.closed hb, hdI_opp h.closed hc, Jor.pv_pv, Jor.pv_nx]
  come := by simp [newV]
  cnt := by simp
  each := by simp
  over := by simp
/-- One step more. -/
theorem Gone.next (h : Simp N T) {L : List WStep} {s : WSt} {Xs : List (List Nat)} (G : Gone N T c L s Xs) (hl : s.loop ≠ []) :
    ∃ x s' Xs', stepM T s = some (x, s') ∧ Gone N T c (L ++ [x]) s' Xs' ∧ x.loops = s.wait.length ∧ x.length = s.loop.length ∧
      ((x.letter = 67 ∧ Xs'.length = Xs.length ∧ s'.loop.length = s.loop.length + 1) ∨ (x.letter = 69 ∧ Xs'.length + 1 = Xs.length ∧ s.loop.length = 3) ∨ ((x.letter = 76 ∨ x.letter = 82) ∧ Xs'.length = Xs.length ∧ s'.loop.length + 1 = s.loop.length) ∨ (x.letter = 83 ∧ Xs'.length = Xs.length + 1)) := by
  obtain ⟨c0, r, W, rfl⟩ : ∃ c0 r W, Xs = (c0 :: r) :: W := by
    cases Xs with
    | nil => exact absurd (by simpa using G.rel.loop) hl
    | cons X W =>
      cases X with
      | nil => exact absurd (by simpa using G.rel.loop) hl
      | cons c0 r => exact ⟨c0, r, W, rfl⟩
  obtain ⟨l, s', Xs', h1, h2, h3, h4⟩ := stepM_ok h.surf h.closed h.K G.inv G.rel
  have hX : (c0 :: r) ∈ (c0 :: r) :: W := List.mem_cons_self ..
  have h0 : Jor.Bd T.length (oppN T) (dOf c L) c0 := G.inv.mem hX (List.mem_cons_self ..)
  have hloop : s.loop.length = r.length + 1 := by rw [G.rel.loop]; simp
  have hwait : s.wait.length = W.length := by rw [G.rel.wait]; simp
  have hlen := G.inv.len _ hX
  simp only [List.length_cons] at hlen
  have hfl := WInv_flat G.inv
  have hfc := flat_count G.inv.len
  have hcn := G.cnt
  simp only [List.flatten_cons, List.length_append, List.length_cons] at hfl hfc hcn
  have hv : vertI T ((c0 : Nat) : Int) = vertN T c0 := vertI_nat h0.1
  refine ⟨_, s', Xs', h1, ⟨?_, ?_, ?_, ?_, ?_, ?_⟩, hwait.symm, hloop.symm, ?_⟩
  · rw [dOf_snoc]; exact h2
  · rw [dOf_snoc]; exact h3
  · rw [newV_snoc, ← List.append_assoc, ← G.come]
    rcases h4 with ⟨rfl, e, _⟩ | ⟨rfl, e, _⟩ | ⟨e1 | e1, e, _⟩ | ⟨rfl, e, _⟩
    · rw [e, if_pos rfl, hv]
    · rw [e]; simp
    · subst e1; rw [e]; simp
    · subst e1; rw [e]; simp
    · rw [e]; simp
  · rw [List.countP_append, List.countP_append]
    rcases h4 with ⟨rfl, e, e2, _⟩ | ⟨rfl, e, e2, _⟩ | ⟨e1 | e1, e, e2, _⟩ | ⟨rfl, e, e2⟩
    · simp; omega
    · simp; omega
    · subst e1; simp; omega
    · subst e1; simp; omega
    · simp; omega
  · intro x hx
    rcases List.mem_append.1 hx with hx | hx
    · exact G.each x hx
    · rw [List.mem_singleton.1 hx]
      refine ⟨c0, rfl, h0.1, hlen, by show r.length + 1 ≤ _; omega, by show W.length ≤ _; omega, ?_⟩
      show l = 67 ∨ l = 69 ∨ l = 76 ∨ l = 82 ∨ l = 83
      rcases h4 with ⟨e, _⟩ | ⟨e, _⟩ | ⟨e | e, _⟩ | ⟨e, _⟩ <;> simp [e]
  · intro i x hx
    rcases Nat.lt_or_ge i L.length with hi | hi
    · rw [List.getElem?_append_left hi] at hx
      rw [List.take_append_of_le_length (by omega)]
      exact G.over i x hx
    · rw [List.getElem?_append_right hi] at hx
      have hi0 : i - L.length = 0 := by
        have := (List.getElem?_eq_some_iff.1 hx).1
        simp at this
        omega
      rw [hi0] at hx
      simp only [List.getElem?_cons_zero, Option.some.injEq] at hx
      subst hx
      have hi' : i = L.length := by omega
      subst hi'
      rw [List.take_left]
      exact h0.2.2
  · rcases h4 with ⟨e1, e, e2, e3⟩ | ⟨e1, e, e2, e3⟩ | ⟨e1, e, e2, e3⟩ | ⟨e1, e, e2⟩
    · exact .inl ⟨e1, by simpa using e2, by omega⟩
    · exact .inr (.inl ⟨e1, by simp; omega, by omega⟩)
    · exact .inr (.inr (.inl ⟨e1, by simpa using e2, by omega⟩))
    · exact .inr (.inr (.inr ⟨e1, by simp; omega⟩))
/-- Whatever was gone over so far. -/
theorem Ran.gone (h : Simp N T) (hc : c < 3 * T.length) {L : List WStep} {s : WSt} (R : Ran T (beginS T c) L s) : ∃ Xs, Gone N T c L s Xs := by
  induction R with
  | nil => exact ⟨_, begin_gone h hc⟩
  | @snoc L s s' x h1 h2 ih =>
    obtain ⟨Xs, G⟩ := ih
    have hl : s.loop ≠ [] := by
      intro e
      unfold stepM at h2
      rw [e] at h2
      cases h2
    obtain ⟨x2, s2, Xs2, e, G2, _⟩ := G.next h hl
    rw [h2] at e
    cases e
    exact ⟨Xs2, G2⟩
theorem Gone.lt (h : Simp N T) {L : List WStep} {s : WSt} {Xs : List (List Nat)} (G : Gone N T c L s Xs) : L.length + 1 ≤ T.length ∧ (s.loop = [] ↔ L.length + 1 = T.length) := by
  have h1 := G.inv.len_le
  rw [dOf_len] at h1
  refine ⟨h1, fun e => ?_, fun e => ?_⟩
  · have hX : Xs = [] := by
      cases Xs with
      | nil => rfl
      | cons X W =>
        have := G.rel.loop
        rw [e] at this
        have h3 := G.inv.len X (List.mem_cons_self ..)
        simp at this
        rw [this] at h3
        simp at h3
    subst hX
    have := G.inv.finish_len h.K
    rwa [dOf_len] at this
  · cases Xs with
    | nil => simpa using G.rel.loop
    | cons X W =>
      have := G.inv.len_lt
      rw [dOf_len] at this
      omega
/-- What the step wants of the state. -/
theorem Gone.wants (h : Simp N T) {L : List WStep} {s : WSt} {Xs : List (List Nat)} (G : Gone N T c L s Xs) :
    (∀ z ∈ s.loop, 0 ≤ z ∧ z < N) ∧ s.loop.length ≤ 3 * T.length ∧ s.wait.length ≤ 3 * T.length ∧ (s.loop ≠ [] → 3 ≤ s.loop.length) ∧ ∀ l ∈ s.wait, l ≠ [] := by
  have hfl := WInv_flat G.inv
  have hfc := flat_count G.inv.len
  cases Xs with
  | nil =>
    have e1 : s.loop = [] := by simpa using G.rel.loop
    have e2 : s.wait = [] := by simpa using G.rel.wait
    rw [e1, e2]
    simp
  | cons X W =>
    have e1 : s.loop = X.map (hdI T) := by simpa using G.rel.loop
    have e2 := G.rel.wait
    simp only [List.tail_cons] at e2
    simp only [List.flatten_cons, List.length_append, List.length_cons] at hfl hfc
    have h3 := G.inv.len X (List.mem_cons_self ..)
    refine ⟨fun z hz => ?_, by rw [e1, List.length_map]; omega, by rw [e2]; simp; omega, fun _ => by rw [e1, List.length_map]; exact h3, fun l hl => ?_⟩
    · rw [e1] at hz
      obtain ⟨d, hd, rfl⟩ := List.mem_map.1 hz
      exact vert_rng h.surf (Jor.nx_lt (G.inv.mem (List.mem_cons_self ..) hd).1)
    · rw [e2, List.mem_reverse] at hl
      obtain ⟨Y, hY, rfl⟩ := List.mem_map.1 hl
      have := G.inv.len Y (List.mem_cons_of_mem _ hY)
      intro e
      have : Y = [] := by simpa using e
      subst this
      simp at *
theorem ends_aux (h : Simp N T) (hc : c < 3 * T.length) : ∀ (k : Nat) (L : List WStep) (s : WSt), Ran T (beginS T c) L s → T.length = L.length + 1 + k → ∃ L' s', Ran T (beginS T c) L' s' ∧ s'.loop = []
  | 0, L, s, R, hk => by
    obtain ⟨Xs, G⟩ := R.gone h hc
    exact ⟨L, s, R, (G.lt h).2.2 (by omega)⟩
  | k + 1, L, s, R, hk => by
    obtain ⟨Xs, G⟩ := R.gone h hc
    have hl : s.loop ≠ [] := fun e => by
      have := (G.lt h).2.1 e
      omega
    obtain ⟨x, s', Xs', e, _⟩ := G.next h hl
    exact ends_aux h hc k (L ++ [x]) s' (.snoc R e) (by simp; omega)
/-- The walk comes to an end. -/
theorem ends (h : Simp N T) (hc : c < 3 * T.length) : ∃ L s, Ran T (beginS T c) L s ∧ s.loop = [] := ends_aux h hc (T.length - 1) [] _ .nil (by have := h.pos; simp; omega)
/-- The steps, reckoned. -/
def runM (T : List Tr) : Nat → WSt → List WStep × WSt
  | 0, s => ([], s)
  | n + 1, s => match stepM T s with
    | some (x, s') => (x :: (runM T n s').1, (runM T n s').2)
    | none => ([], s)
theorem runM_ran (T : List Tr) (s0 : WSt) : ∀ (n : Nat) (L : List WStep) (s : WSt), Ran T s0 L s → Ran T s0 (L ++ (runM T n s).1) (runM T n s).2
  | 0, L, s, R => by simpa [runM] using R
  | n + 1, L, s, R => by
    unfold runM
    cases hs : stepM T s with
    | none => simpa using R
    | some p =>
      obtain ⟨x, s'⟩ := p
      have := runM_ran T s0 n (L ++ [x]) s' (.snoc R hs)
      simpa using this
/-- The steps of the whole walk. -/
def stepsM (T : List Tr) (c : Nat) : List WStep := (runM T T.length (beginS T c)).1
theorem runM_len (T : List Tr) : ∀ (n : Nat) (s : WSt), (runM T n s).1.length = n ∨ stepM T (runM T n s).2 = none
  | 0, s => .inl rfl
  | n + 1, s => by
    unfold runM
    cases hs : stepM T s with
    | none => exact .inr hs
    | some p =>
      obtain ⟨x, s'⟩ := p
      rcases runM_len T n s' with h | h
      · exact .inl (by simp [h])
      · exact .inr h
/-- Whichever way a walk has come to its end: these are its steps. -/
theorem Ran.steps (h : Simp N T) (hc : c < 3 * T.length) {L : List WStep} {s : WSt} (R : Ran T (beginS T c) L s) (he : s.loop = []) : L = stepsM T c := by
  have R2 := runM_ran T (beginS T c) T.length [] _ .nil
  rw [List.nil_append] at R2
  have hl := R.end_ he R2
  obtain ⟨Xs, G⟩ := R2.gone h hc
  have hlt := (G.lt h).1
  have he2 : (runM T T.length (beginS T c)).2.loop = [] := by
    by_cases e : (runM T T.length (beginS T c)).2.loop = []
    · exact e
    · obtain ⟨x, s', Xs', e2, _⟩ := G.next h e
      rcases runM_len T T.length (beginS T c) with h3 | h3
      · omega
      · rw [h3] at e2
        cases e2
  exact ((R.same he R2 he2).1).symm
end Go.Proofs.YtghlnknncahkgaaGreat
/-
  walk.check: may it be walked? A closed surface's numbers.
-/
namespace Go.Proofs.YtghlnknncahkgaaGreat
open Go.RowKit Go.Maps

theorem loopsPost_closed {n : Nat} {T : List Tr} {w : World} {g : Nat} (h : Tab w g n T) (hc : ClosedT T) (hn : n ≤ 4096) : Calls Tryz.prog 109 #[.pointer (some ⟨g, 0, none⟩)] w (LoopsPost n T w) := by
  refine (loopsC_any g n T w h hc hn).mono ?_
  rintro e w' ⟨rfl, hb⟩
  exact ⟨_, [], [], rfl, World.ownsRow_nil _ _ _ _, Nat.zero_le _, fun i u r hu => by simp at hu, ⟨fun _ => hc, fun _ => rfl⟩, hb⟩
/-- The decision: one part, no border, Euler number 1, 2 or 3. -/
def ChkOk (n : Nat) (T : List Tr) : Prop := ∃ out, Shl T out ∧ cntL out = 1 ∧ ClosedT T ∧ (2 - 0 - ((n : Int) - 3 * (T.length : Int) / 2 + T.length)).tdiv 2 = 0
open Classical in
set_option maxRecDepth 100000 in
set_option maxHeartbeats 2000000 in
theorem check_walk (g n : Nat) (T : List Tr) (w : World) (r : Int) (hT : Tab w g n T) (hS : Surf n T) (hr : -1000000 ≤ r ∧ r ≤ 1000000) (hL : ∀ W, Below w.heap.size w W → Calls Tryz.prog 109 #[.pointer (some ⟨g, 0, none⟩)] W (LoopsPost n T W)) :
    Calls Tryz.prog 52 #[.pointer (some ⟨g, 0, none⟩), .int .i64 r] w fun e w' => e = .returned (.int .i64 (if r < 0 ∨ 3 * (T.length : Int) ≤ r then 2 else if ChkOk n T then 0 else 12)) ∧ Below w.heap.size w w' := by
  have H0 := Lib.hid (triangles_any g n T w hT.toTabS)
  have HG := Lib.hid (genus_any g n T w hT hS hL)
  have hl := hT.len
  obtain ⟨F, hF⟩ : ∃ F, T.length = F := ⟨_, rfl⟩
  rw [hF] at hl H0 ⊢
  have HF := Lib.hid hF
  have HS := Lib.hid hS
  clear hT hS hL hF
  go_enter Tryz.func52, Tryz.ntmps52
  by_cases h0 : r < 0
  · rw [if_pos (.inl h0)]
    go_wp2
    go_ret
    exact ⟨rfl, Below.refl _ _⟩
  · by_cases h1 : 3 * (F : Int) ≤ r
    · rw [if_pos (.inr h1)]
      go_wp2_with fail
      refine H0.out.mono ?_
      rintro e w0 ⟨rfl, rfl⟩
      go_wp2
      go_ret
      exact ⟨rfl, Below.refl _ _⟩
    · rw [if_neg (by omega)]
      obtain ⟨A, hA⟩ : ∃ A : Int, A = if ChkOk n T then 0 else 12 := ⟨_, rfl⟩
      rw [← hA]
      go_wp2_with fail
      refine H0.out.mono ?_
      rintro e w0 ⟨rfl, rfl⟩
      go_wp2_with fail
      refine HG.out.mono ?_
      rintro e w1 ⟨v, out, m, cs, rfl, hSh, hm, hr1, h6, hb⟩
      obtain ⟨av, cv, rfl⟩ := ownsRow_slice hr1
      have HB := Lib.hid hb
      clear HG H0 hb
      by_cases hm1 : m = 1
      · subst hm1
        obtain ⟨E, b, rfl, hb0, hb1, hE⟩ := h6 rfl
        obtain ⟨gO, cap, e0, hg1, hg2⟩ := hr1.form (by omega)
        cases e0
        have c3 : w1.cell? ⟨gO, 3, none⟩ = some (.int .i64 b) := by rw [hr1.cellAt 3 (by omega)]; rfl
        have c5 : w1.cell? ⟨gO, 5, none⟩ = some (.int .i64 ((2 - b - ((n : Int) - E + T.length)).tdiv 2)) := by rw [hr1.cellAt 5 (by omega)]; rfl
        generalize hz : (2 - b - ((n : Int) - E + T.length)).tdiv 2 = z at *
        have hok : ChkOk n T ↔ b = 0 ∧ z = 0 := by
          constructor
          · rintro ⟨out', h1, h2, h3, h4⟩
            have hb' := hb1.2 h3
            refine ⟨hb', ?_⟩
            rw [← hz, hb', hE h3]
            exact h4
          · rintro ⟨h1, h2⟩
            have hc := hb1.1 h1
            refine ⟨out, hSh, by rw [hm]; rfl, hc, ?_⟩
            rw [h1, hE hc, h2] at hz
            exact hz
        clear hr1 h6 hb1 hE hz hSh hm
        by_cases hb2 : b = 0
        · by_cases hz2 : z = 0
          · rw [if_pos (hok.2 ⟨hb2, hz2⟩)] at hA
            subst hb2 hz2 hA
            clear hok
            go_wp2
            go_ret
            exact ⟨rfl, HB.out⟩
          · rw [if_neg (fun h => hz2 (hok.1 h).2)] at hA
            subst hb2 hA
            have nz : (z == 0) = false := by simpa using hz2
            clear hok
            go_wp2
            go_ret
            exact ⟨rfl, HB.out⟩
        · rw [if_neg (fun h => hb2 (hok.1 h).1)] at hA
          subst hA
          have nz : (b == 0) = false := by simpa using hb2
          clear hok
          go_wp2
          go_ret
          exact ⟨rfl, HB.out⟩
      · have hno : ¬ ChkOk n T := by
          rintro ⟨out', h1, h2, h3, h4⟩
          have := hSh.one h1
          subst this
          omega
        rw [if_neg hno] at hA
        subst hA
        have nm : ((m : Int) == 1) = false := by simp; omega
        clear hr1 h6 hSh hm hno
        go_wp2
        go_ret
        exact ⟨rfl, HB.out⟩
end Go.Proofs.YtghlnknncahkgaaGreat
/-
  The program's decision is: simple.
-/
namespace Go.Proofs.YtghlnknncahkgaaGreat
open Go.RowKit Go.Maps

theorem cnt_rep : ∀ (k : Nat), cntL (List.replicate (k + 1) 0) = 1
  | 0 => rfl
  | k + 1 => by
    have := cnt_rep k
    unfold cntL at this ⊢
    rw [List.replicate_succ', List.foldl_append, this]
    rfl
theorem chk_simp {n : Nat} {T : List Tr} (hS : Surf n T) : ChkOk n T ↔ Simp n T := by
  constructor
  · rintro ⟨out, h1, h2, h3, h4⟩
    have h0 : ∀ j, j < T.length → at_ out j = 0 := fun j hj => by
      have a := h1.nn j hj
      have b := at_lt (out := out) (j := j) (by rw [h1.len]; exact hj)
      omega
    have hpos : 0 < T.length := by
      rcases Nat.eq_zero_or_pos T.length with e | e
      · have : out = [] := List.eq_nil_of_length_eq_zero (by rw [h1.len, e])
        rw [this] at h2
        cases h2
      · exact e
    have hc := conn_of h1 h3 h0
    obtain ⟨m, e1, e2⟩ := even_of hS h3 hc
    refine ⟨hS, h3, hc, hpos, ?_⟩
    have e3 : 3 * (T.length : Int) / 2 = 3 * (m : Int) := by rw [e1]; push_cast; omega
    rw [e3, e1] at h4
    have h5 : -1 ≤ 2 - 0 - ((n : Int) - 3 * (m : Int) + ((2 * m : Nat) : Int)) ∧ 2 - 0 - ((n : Int) - 3 * (m : Int) + ((2 * m : Nat) : Int)) ≤ 1 := by
      generalize 2 - 0 - ((n : Int) - 3 * (m : Int) + ((2 * m : Nat) : Int)) = x at h4
      rcases Int.le_total 0 x with h | h
      · rw [Int.tdiv_eq_ediv_of_nonneg h] at h4
        omega
      · have h5 : (-x).tdiv 2 = 0 := by rw [Int.neg_tdiv, h4]; rfl
        rw [Int.tdiv_eq_ediv_of_nonneg (by omega)] at h5
        omega
    have e4 : ((n : Int)).toNat = n := Int.toNat_natCast n
    rw [e4] at e2
    omega
  · intro h
    obtain ⟨k, hk⟩ : ∃ k, T.length = k + 1 := ⟨T.length - 1, by have := h.pos; omega⟩
    have hat : ∀ j, j < T.length → at_ (List.replicate T.length 0) j = 0 := fun j hj => by
      unfold at_
      simp [List.getD_eq_getElem?_getD, hj]
    refine ⟨List.replicate T.length 0, ⟨by simp, fun j hj => by rw [hat j hj]; omega, fun c o hc ho => ?_, fun j hj => ?_⟩, by rw [hk]; exact cnt_rep k, h.closed, ?_⟩
    · have h1 := oppI_bd T (c : Int)
      rw [hat _ (by omega), hat _ (by omega)]
    · rcases Nat.eq_zero_or_pos j with e | e
      · subst e
        exact .inr ⟨fun i hi => by omega, .inl (hat 0 hj)⟩
      · refine .inl ⟨0, e, by rw [hat 0 (by omega), hat j hj], fun S s0 hs => h.conn S s0 (fun c hc hSc => hs c (oppN T c) hc (h.closed.opp hc) hSc) j hj⟩
    · have := h.euler
      obtain ⟨m, hm⟩ : ∃ m : Nat, T.length = 2 * m := ⟨T.length / 2, by omega⟩
      have e3 : 3 * (T.length : Int) / 2 = 3 * (m : Int) := by rw [hm]; push_cast; omega
      rw [e3, hm]
      have e5 : 2 - 0 - ((n : Int) - 3 * (m : Int) + ((2 * m : Nat) : Int)) = 0 := by omega
      rw [e5]
      rfl
end Go.Proofs.YtghlnknncahkgaaGreat
/-
  The document's shells (gypsumref13.Of), in plain words: labels that sink till they stand; all are 0 just if all triangles hang together.
-/
namespace Go.Proofs.YtghlnknncahkgaaGreat
open Go.RowKit Go.Maps

def tv (t : Tr) (k : Nat) : Int := if k = 0 then t.1 else if k = 1 then t.2.1 else t.2.2
/-- Have two triangles an edge in common, the one this way, the other one the other way round? -/
def Nb (t u : Tr) : Prop := ∃ i k, i < 3 ∧ k < 3 ∧ tv t i = tv u ((k + 1) % 3) ∧ tv t ((i + 1) % 3) = tv u k
def trs (T : List Tr) (i : Nat) : Tr := T.getD i (0, 0, 0)
def NbT (T : List Tr) (i k : Nat) : Prop := Nb (trs T i) (trs T k)
theorem Nb.symm {t u : Tr} (h : Nb t u) : Nb u t := by
  obtain ⟨i, k, hi, hk, h1, h2⟩ := h
  refine ⟨k, i, hk, hi, h2.symm, h1.symm⟩
/-- Do the triangles hang together? -/
def Hang (F : Nat) (R : Nat → Nat → Prop) : Prop := ∀ S : Nat → Prop, S 0 → (∀ i k, i < F → k < F → R i k → S k → S i) → ∀ i, i < F → S i
section
variable {F : Nat} {R : Nat → Nat → Prop}
/-- What holds of the labels throughout. -/
structure Lab (F : Nat) (R : Nat → Nat → Prop) (o : Nat → Int) : Prop where
  lo : ∀ i, i < F → 0 ≤ o i ∧ o i ≤ i
  hang : ∀ S : Nat → Prop, (∀ i k, i < F → k < F → R i k → S k → S i) → ∀ i, i < F → S (o i).toNat → S i
/-- Within a round: the labels that stood ahead of it, and those that stand. -/
structure Rnd (F : Nat) (R : Nat → Nat → Prop) (p o : Nat → Int) (i k : Nat) : Prop where
  lab : Lab F R o
  le : ∀ j, j < F → o j ≤ p j
  done : ∀ j, j < i → ∀ l, l < F → R j l → o j ≤ p l
  now : ∀ l, l < k → R i l → o i ≤ p l
def updN (o : Nat → Int) (i : Nat) (x : Int) : Nat → Int := fun j => if j = i then x else o j
theorem Rnd.begin_ {o : Nat → Int} (h : Lab F R o) : Rnd F R o o 0 0 := ⟨h, fun _ _ => Int.le_refl _, fun _ h => absurd h (by omega), fun _ h => absurd h (by omega)⟩
theorem Rnd.row {p o : Nat → Int} {i : Nat} (h : Rnd F R p o i F) : Rnd F R p o (i + 1) 0 :=
  ⟨h.lab, h.le, fun j hj l hl hr => by
    rcases Nat.lt_or_ge j i with e | e
    · exact h.done j e l hl hr
    · obtain rfl : j = i := by omega
      exact h.now l hl hr, fun _ h => absurd h (by omega)⟩
theorem Rnd.skip {p o : Nat → Int} {i k : Nat} (h : Rnd F R p o i k) (hk : k < F) (hc : ¬ (o k < o i ∧ R i k)) : Rnd F R p o i (k + 1) :=
  ⟨h.lab, h.le, h.done, fun l hl hr => by
    rcases Nat.lt_or_ge l k with e | e
    · exact h.now l e hr
    · obtain rfl : l = k := by omega
      have h1 := h.le l hk
      have h2 : ¬ o l < o i := fun e => hc ⟨e, hr⟩
      omega⟩
theorem Rnd.take {p o : Nat → Int} {i k : Nat} (h : Rnd F R p o i k) (hi : i < F) (hk : k < F) (h1 : o k < o i) (h2 : R i k) : Rnd F R p (updN o i (o k)) i (k + 1) := by
  have hu : ∀ j, updN o i (o k) j ≤ o j := fun j => by
    unfold updN
    split
    · rename_i e; subst e; omega
    · exact Int.le_refl _
  refine ⟨⟨fun j hj => ?_, fun S hS j hj hs => ?_⟩, fun j hj => Int.le_trans (hu j) (h.le j hj), fun j hj l hl hr => Int.le_trans (hu j) (h.done j hj l hl hr), fun l hl hr => ?_⟩
  · unfold updN
    split
    · rename_i e
      subst e
      have a := h.lab.lo k hk
      have b := h.lab.lo j hi
      omega
    · exact h.lab.lo j hj
  · unfold updN at hs
    split at hs
    · rename_i e
      subst e
      exact hS j k hi hk h2 (h.lab.hang S hS k hk hs)
    · exact h.lab.hang S hS j hj hs
  · rcases Nat.lt_or_ge l k with e | e
    · exact Int.le_trans (hu i) (h.now l e hr)
    · obtain rfl : l = k := by omega
      have h3 := h.le l hk
      unfold updN
      rw [if_pos rfl]
      exact h3
/-- How many labels are 0. -/
def zs (F : Nat) (o : Nat → Int) : Nat := (List.range F).countP fun i => decide (o i = 0)
theorem zs_lt {p o : Nat → Int} (h : ∀ i, i < F → p i = 0 → o i = 0) {i : Nat} (hi : i < F) (h1 : p i ≠ 0) (h2 : o i = 0) : zs F p < zs F o := by
  unfold zs
  have hh : ∀ l : List Nat, (∀ j ∈ l, j < F) → i ∈ l → l.countP (fun i => decide (p i = 0)) < l.countP (fun i => decide (o i = 0)) := by
    have hle : ∀ l : List Nat, (∀ j ∈ l, j < F) → l.countP (fun i => decide (p i = 0)) ≤ l.countP (fun i => decide (o i = 0)) := fun l hl =>
      List.countP_mono_left (fun j hj hp => by simp only [decide_eq_true_eq] at hp ⊢; exact h j (hl j hj) hp)
    intro l
    induction l with
    | nil => intro _ hm; exact (List.not_mem_nil hm).elim
    | cons x r ih =>
      intro hl hm
      rw [List.countP_cons, List.countP_cons]
      rcases List.mem_cons.1 hm with rfl | hm
      · have := hle r (fun j hj => hl j (List.mem_cons_of_mem _ hj))
        rw [if_neg (by simpa using h1), if_pos (by simpa using h2)]
        omega
      · have := ih (fun j hj => hl j (List.mem_cons_of_mem _ hj)) hm
        have hx := h x (hl x (List.mem_cons_self ..))
        by_cases e : p x = 0
        · rw [if_pos (by simpa using e), if_pos (by simpa using hx e)]
          omega
        · rw [if_neg (by simpa using e)]
          split <;> omega
  exact hh _ (fun j hj => List.mem_range.1 hj) (List.mem_range.2 hi)
theorem zs_all {o : Nat → Int} (h : F ≤ zs F o) : ∀ i, i < F → o i = 0 := by
  unfold zs at h
  have h2 := List.countP_le_length (p := fun i => decide (o i = 0)) (l := List.range F)
  rw [List.length_range] at h2
  have h3 : (List.range F).countP (fun i => decide (o i = 0)) = (List.range F).length := by rw [List.length_range]; omega
  have := List.countP_eq_length.1 h3
  intro i hi
  simpa using this i (List.mem_range.2 hi)
/-- A round brings one label more to 0. -/
theorem Rnd.more {p o : Nat → Int} (h : Rnd F R p o F 0) (hp : Lab F R p) (hF : 0 < F) (hH : Hang F R) {r : Nat} (hz : r ≤ zs F p) (hr : r < F) : r + 1 ≤ zs F o := by
  have hm : ∀ i, i < F → p i = 0 → o i = 0 := fun i hi e => by
    have a := h.le i hi
    have b := h.lab.lo i hi
    omega
  by_cases hall : ∀ i, i < F → p i = 0
  · have : zs F o = F := by
      unfold zs
      have : (List.range F).countP (fun i => decide (o i = 0)) = (List.range F).length := List.countP_eq_length.2 (fun i hi => by simpa using hm i (List.mem_range.1 hi) (hall i (List.mem_range.1 hi)))
      rw [this, List.length_range]
    omega
  · have h0 : p 0 = 0 := by have := hp.lo 0 hF; omega
    have : ∃ i k, i < F ∧ k < F ∧ R i k ∧ p k = 0 ∧ p i ≠ 0 := Classical.byContradiction fun hno => hall (hH (fun i => p i = 0) h0 (fun i k hi hk hR hs => Classical.byContradiction fun he => hno ⟨i, k, hi, hk, hR, hs, he⟩))
    obtain ⟨i, k, hi, hk, hR, h1, h2⟩ := this
    have h3 := h.done i hi k hk hR
    have h4 := h.lab.lo i hi
    have := zs_lt hm hi h2 (by omega)
    omega
theorem Lab.one {o : Nat → Int} (h : Lab F R o) (hF : 0 < F) : 1 ≤ zs F o := by
  unfold zs
  have h0 : o 0 = 0 := by have := h.lo 0 hF; omega
  exact List.countP_pos_iff.2 ⟨0, List.mem_range.2 hF, by simpa using h0⟩
/-- The numbers, made of the labels. -/
structure Num (F : Nat) (o : Nat → Int) (i : Nat) (many : Int) (m : Nat → Int) : Prop where
  many : many = ((List.range i).countP fun j => decide (o j = j) : Nat)
  fix : ∀ j, j < i → o j = j → m j = ((List.range j).countP fun l => decide (o l = l) : Nat)
  rest : ∀ j, j < i → o j ≠ j → m j = m (o j).toNat
theorem Num.begin_ (o m : Nat → Int) : Num F o 0 0 m := ⟨rfl, fun _ h => absurd h (by omega), fun _ h => absurd h (by omega)⟩
theorem Num.new {o m : Nat → Int} {i : Nat} {c : Int} (hl : ∀ j, j < F → 0 ≤ o j ∧ o j ≤ j) (hi : i < F) (h : Num F o i c m) (e : o i = i) : Num F o (i + 1) (c + 1) (updN m i c) where
  many := by
    rw [List.range_succ, List.countP_append, h.many]
    simp [e]
  fix := fun j hj he => by
    unfold updN
    split
    · rename_i e'; subst e'; exact h.many
    · exact h.fix j (by omega) he
  rest := fun j hj he => by
    have hne : j ≠ i := fun e' => he (by rw [e']; exact e)
    have h2 := hl j (by omega)
    unfold updN
    rw [if_neg hne, if_neg (by omega)]
    exact h.rest j (by omega) he
theorem Num.old {o m : Nat → Int} {i : Nat} {c : Int} (hl : ∀ j, j < F → 0 ≤ o j ∧ o j ≤ j) (hi : i < F) (h : Num F o i c m) (e : o i ≠ i) : Num F o (i + 1) c (updN m i (m (o i).toNat)) where
  many := by
    rw [List.range_succ, List.countP_append, h.many]
    simp [e]
  fix := fun j hj he => by
    have hne : j ≠ i := fun e' => e (by rw [← e']; exact he)
    unfold updN
    rw [if_neg hne]
    exact h.fix j (by omega) he
  rest := fun j hj he => by
    have h2 := hl j (by omega)
    have h3 := hl i hi
    unfold updN
    by_cases e' : j = i
    · subst e'
      rw [if_pos rfl, if_neg (by omega)]
    · rw [if_neg e', if_neg (by omega)]
      exact h.rest j (by omega) he
theorem Num.zero {o m : Nat → Int} {c : Int} (hl : ∀ j, j < F → 0 ≤ o j ∧ o j ≤ j) (h : Num F o F c m) : (∀ j, j < F → m j = 0) ↔ ∀ j, j < F → o j = j → j = 0 := by
  constructor
  · intro h0 j hj he
    rcases Nat.eq_zero_or_pos j with e | e
    · exact e
    · exfalso
      have h1 := h.fix j hj he
      rw [h0 j hj] at h1
      have h2 : o 0 = 0 := by have := hl 0 (by omega); omega
      have := List.countP_pos_iff (p := fun l => decide (o l = (l : Int))) (l := List.range j) |>.2 ⟨0, List.mem_range.2 e, by simpa using h2⟩
      omega
  · intro h1 j
    induction j using Nat.strongRecOn with
    | _ j ih =>
      intro hj
      by_cases e : o j = j
      · obtain rfl := h1 j hj e
        rw [h.fix 0 hj e]
        rfl
      · have h2 := hl j hj
        rw [h.rest j hj e]
        exact ih _ (by omega) (by omega)
/-- All numbers are 0 just if the triangles hang together. -/
theorem Num.hang {o m : Nat → Int} {c : Int} (hF : 0 < F) (hl : Lab F R o) (h : Num F o F c m) (hz : Hang F R → F ≤ zs F o) : (∀ j, j < F → m j = 0) ↔ Hang F R := by
  rw [h.zero hl.lo]
  constructor
  · intro h1 S s0 hS i
    induction i using Nat.strongRecOn with
    | _ i ih =>
      intro hi
      have h2 := hl.lo i hi
      by_cases e : o i = i
      · rw [h1 i hi e]; exact s0
      · exact hl.hang S hS i hi (ih _ (by omega) (by omega))
  · intro hH j hj he
    have := zs_all (hz hH) j hj
    omega
end
theorem tv_vert {T : List Tr} {i k : Nat} (hk : k < 3) : tv (trs T i) k = vertN T (3 * i + k) := by
  unfold tv trs vertN triAt
  have e1 : (3 * i + k) / 3 = i := by omega
  have e2 : (3 * i + k) % 3 = k := by omega
  rw [e1, e2]
  rfl
/-- Who has a corner across is a neighbour, and no one else. -/
theorem nb_opp {N : Int} {T : List Tr} (hS : Surf N T) (hc : ClosedT T) {i k : Nat} (hi : i < T.length) (hk : k < T.length) : NbT T i k ↔ ∃ c, c < 3 * T.length ∧ c / 3 = k ∧ oppN T c / 3 = i := by
  constructor
  · rintro ⟨a, b, ha, hb, h1, h2⟩
    rw [tv_vert ha, tv_vert (by omega)] at h1
    rw [tv_vert (by omega), tv_vert hb] at h2
    have hd : Jor.pv (3 * i + a) < 3 * T.length := Jor.pv_lt (by omega)
    have hc' : Jor.pv (3 * k + b) < 3 * T.length := Jor.pv_lt (by omega)
    have e1 : Jor.nx (3 * i + a) = 3 * i + (a + 1) % 3 := by unfold Jor.nx; omega
    have e2 : Jor.nx (3 * k + b) = 3 * k + (b + 1) % 3 := by unfold Jor.nx; omega
    have := opp_is hS.twice hc' hd (by rw [edge_pv, edge_pv, e1, e2, h1, h2])
    refine ⟨_, hc', by rw [Jor.pv_div]; omega, by rw [this, Jor.pv_div]; omega⟩
  · rintro ⟨c, h1, h2, h3⟩
    have ho := hc.opp h1
    obtain ⟨h4, h5⟩ := opp_some h1 ho
    -- the edge that c faces, from its next corner to the one ahead
    have hcn : Jor.nx c = 3 * k + (c % 3 + 1) % 3 := by unfold Jor.nx; omega
    have hcp : Jor.pv c = 3 * k + (c % 3 + 2) % 3 := by unfold Jor.pv; omega
    have hon : Jor.nx (oppN T c) = 3 * i + (oppN T c % 3 + 1) % 3 := by unfold Jor.nx; omega
    have hop : Jor.pv (oppN T c) = 3 * i + (oppN T c % 3 + 2) % 3 := by unfold Jor.pv; omega
    unfold edgeN at h5
    rw [hcn, hcp, hon, hop] at h5
    simp only [Prod.mk.injEq] at h5
    obtain ⟨h5, h6⟩ := h5
    refine ⟨(oppN T c % 3 + 1) % 3, (c % 3 + 1) % 3, by omega, by omega, ?_, ?_⟩
    · have e : ((c % 3 + 1) % 3 + 1) % 3 = (c % 3 + 2) % 3 := by omega
      rw [e, tv_vert (by omega), tv_vert (by omega), h5]
    · have e : ((oppN T c % 3 + 1) % 3 + 1) % 3 = (oppN T c % 3 + 2) % 3 := by omega
      rw [e, tv_vert (by omega), tv_vert (by omega), h6]
theorem hang_conn {N : Int} {T : List Tr} (hS : Surf N T) (hc : ClosedT T) : Hang T.length (NbT T) ↔ ∀ S : Nat → Prop, S 0 → (∀ c, c < 3 * T.length → S (c / 3) → S (oppN T c / 3)) → ∀ t, t < T.length → S t := by
  have olt : ∀ c, c < 3 * T.length → oppN T c < 3 * T.length := fun c h => (opp_some h (hc.opp h)).1
  constructor
  · intro h S s0 hs
    exact h S s0 (fun i k hi hk hn hsk => by
      obtain ⟨c, h1, h2, h3⟩ := (nb_opp hS hc hi hk).1 hn
      have := hs c h1 (by rw [h2]; exact hsk)
      rwa [h3] at this)
  · intro h S s0 hs
    exact h S s0 (fun c hc' h1 => by
      have h2 := olt c hc'
      exact hs _ _ (by omega) (by omega) ((nb_opp hS hc (by omega) (by omega)).2 ⟨c, hc', rfl, rfl⟩) h1)
/-- The document's word for 'simple'. -/
def SimR (n : Nat) (T : List Tr) : Prop := T.length ≠ 0 ∧ ClosedT T ∧ (n : Int) - (T.length * 3 : Nat) / 2 + T.length = 2 ∧ Hang T.length (NbT T)
theorem simR_iff {n : Nat} {T : List Tr} (hS : Surf n T) : SimR n T ↔ Simp n T := by
  constructor
  · rintro ⟨h1, h2, h3, h4⟩
    have hc := (hang_conn hS h2).1 h4
    obtain ⟨m, e1, e2⟩ := even_of hS h2 hc
    refine ⟨hS, h2, hc, by omega, ?_⟩
    rw [e1] at h3 ⊢
    push_cast at h3 ⊢
    omega
  · intro h
    obtain ⟨m, e1, e2⟩ := even_of hS h.closed h.conn
    refine ⟨by have := h.pos; omega, h.closed, ?_, (hang_conn hS h.closed).2 h.conn⟩
    have h5 := h.euler
    rw [e1] at h5 ⊢
    push_cast at h5 ⊢
    omega
end Go.Proofs.YtghlnknncahkgaaGreat
/-
  gypsumref09: whatever the triangles, its functions come to an end (what they answer is not said).
-/
namespace Go.Proofs.YtghlnknncahkgaaGreat
open Go.RowKit

theorem TrisRd.at9 {w : World} {a : Option Addr} {m c : Nat} {T : List Tr} (h : TrisRd w (.slice a m c) T) {t k : Nat} (ht : t < T.length) (hk : k < 3) :
    ∃ b o x, a = some ⟨b, o, none⟩ ∧ b < w.heap.size ∧ w.cell? ⟨b, o + t * 3 + k, none⟩ = some (.int .i64 x) := by
  obtain ⟨a', c', e, -, -, hr⟩ := h
  cases e
  obtain ⟨⟨x, y, z⟩, hx⟩ : ∃ q, T[t]? = some q := ⟨T[t], List.getElem?_eq_getElem _⟩
  obtain ⟨b, o, rfl, hb, s0, s1, s2⟩ := hr t x y z hx
  have : k = 0 ∨ k = 1 ∨ k = 2 := by omega
  rcases this with rfl | rfl | rfl
  · exact ⟨b, o, x, rfl, hb, s0⟩
  · exact ⟨b, o, y, rfl, hb, s1⟩
  · exact ⟨b, o, z, rfl, hb, s2⟩
theorem below_dn {B : Nat} {w a : World} (h : Below B w a) (n : Nat) : Below B w (a.drewN n) := ⟨h.os, h.tape, h.output, h.size, h.block⟩
theorem below_d {B : Nat} {w a : World} (h : Below B w a) : Below B w a.drew := ⟨h.os, h.tape, h.output, h.size, h.block⟩
theorem own_below9 {w w' : World} {base n s : Nat} {e : TypeId} {v : Value} {xs : List Value} (h : w.ownsRow base e s v n xs) (hb : Below w.heap.size w w') : w'.ownsRow base e s v n xs :=
  h.kept (grown_of_below hb none) (by cases e : v.ownBlock; exact .inl rfl; exact .inr (by simp))
theorem blk_new9 {w : World} {g : Nat} {t : TypeId} {cs : Array Value} (h : g = w.heap.size) : Blk (w.alloc (.cells cs t)) g t cs := by
  rw [h]
  exact Blk.new w t cs
/-- A call that hands back some bool. -/
def RetB (w : World) (e : Ending) (w' : World) : Prop := (∃ b : Bool, e = .returned (.bool b)) ∧ Below w.heap.size w w'
set_option maxHeartbeats 1000000 in
theorem edge9_any (x y z a b : Int) (w : World) : Calls Tryz.prog 143 #[.agg #[.int .i64 x, .int .i64 y, .int .i64 z], .int .i64 a, .int .i64 b] w (RetB w) := by
  have b1 := Blk.new w 72 #[.int .i64 x, .int .i64 y, .int .i64 z]
  obtain ⟨l0, p0, -, p1, -, p2, -⟩ := b1.three
  clear b1
  go_enter Tryz.func143, Tryz.ntmps143
  go_wp2
  all_goals
    go_ret
    exact ⟨⟨_, rfl⟩, (Below.refl _ _).alloc (Nat.le_refl _) _⟩
set_option maxHeartbeats 1000000 in
theorem has9_any (x y z a : Int) (w : World) : Calls Tryz.prog 105 #[.agg #[.int .i64 x, .int .i64 y, .int .i64 z], .int .i64 a] w (RetB w) := by
  have b1 := Blk.new w 72 #[.int .i64 x, .int .i64 y, .int .i64 z]
  obtain ⟨l0, p0, -, p1, -, p2, -⟩ := b1.three
  clear b1
  go_enter Tryz.func105, Tryz.ntmps105
  go_wp2
  all_goals
    go_ret
    exact ⟨⟨_, rfl⟩, (Below.refl _ _).alloc (Nat.le_refl _) _⟩
theorem infoWit9 : (Tryz.prog.info? 155).map (fun i => (i.zero, i.size, i.bytes)) = some (some (.agg #[.int .i64 0, .int .i64 0, .int .i64 0]), 3, 24) := by kernel_rfl
/-- A call that hands back a row of witnesses. -/
def RetW (w : World) (m : Nat) (e : Ending) (w' : World) : Prop := ∃ v n xs, e = .returned v ∧ w'.ownsRow w.heap.size 155 3 v n xs ∧ n ≤ m ∧ Below w.heap.size w w'
set_option maxHeartbeats 1000000 in
theorem twice9_any (x y z x' y' z' : Int) (w : World) : Calls Tryz.prog 126 #[.agg #[.int .i64 x, .int .i64 y, .int .i64 z], .agg #[.int .i64 x', .int .i64 y', .int .i64 z']] w (RetB w) := by
  have HE := Lib.hid edge9_any
  have bt := (Blk.new w 72 #[.int .i64 x, .int .i64 y, .int .i64 z]).alloc (.cells #[.int .i64 x', .int .i64 y', .int .i64 z'] 72)
  have bu : Blk ((w.alloc (.cells #[.int .i64 x, .int .i64 y, .int .i64 z] 72)).alloc (.cells #[.int .i64 x', .int .i64 y', .int .i64 z'] 72)) (w.heap.size + 1) 72 #[.int .i64 x', .int .i64 y', .int .i64 z'] := blk_new9 (by simp)
  have hB : Below w.heap.size w ((w.alloc (.cells #[.int .i64 x, .int .i64 y, .int .i64 z] 72)).alloc (.cells #[.int .i64 x', .int .i64 y', .int .i64 z'] 72)) := ((Below.refl _ _).alloc (Nat.le_refl _) _).alloc (by simp) _
  obtain ⟨l0, p0, -, p1, -, p2, -⟩ := bt.three
  obtain ⟨l1, q0, -, q1, -, q2, -⟩ := bu.three
  go_enter Tryz.func126, Tryz.ntmps126
  go_wp2_with fail
  generalize (w.alloc (.cells #[.int .i64 x, .int .i64 y, .int .i64 z] 72)).alloc (.cells #[.int .i64 x', .int .i64 y', .int .i64 z'] 72) = W0 at *
  have HX := Lib.hid (fun (W : World) (hW : Below W0.heap.size W0 W) => And.intro (bt.below hW l0) (bu.below hW l1))
  have HB := Lib.hid hB
  clear bt bu p0 p1 p2 q0 q1 q2 hB
  refine (HE.out _ _ _ _ _ _).mono ?_
  rintro e w1 ⟨⟨b1, rfl⟩, hb1⟩
  obtain ⟨bt, bu⟩ := HX.out _ hb1
  obtain ⟨m0, p0, -, p1, -, p2, -⟩ := bt.three
  obtain ⟨m1, q0, -, q1, -, q2, -⟩ := bu.three
  have HB1 := Lib.hid (HB.out.trans (hb1.mono HB.out.size))
  have Hb1 := Lib.hid hb1
  clear hb1 bt bu
  cases b1
  · go_wp2_with fail
    refine (HE.out _ _ _ _ _ _).mono ?_
    rintro e w2 ⟨⟨b2, rfl⟩, hb2⟩
    have hb2' := Hb1.out.trans (hb2.mono Hb1.out.size)
    clear p0 p1 p2 q0 q1 q2 m0 m1
    obtain ⟨bt, bu⟩ := HX.out _ hb2'
    obtain ⟨m0, p0, -, p1, -, p2, -⟩ := bt.three
    obtain ⟨m1, q0, -, q1, -, q2, -⟩ := bu.three
    have HB2 := Lib.hid (HB.out.trans (hb2'.mono HB.out.size))
    clear hb2 hb2' bt bu
    cases b2
    · go_wp2_with fail
      refine (HE.out _ _ _ _ _ _).mono ?_
      rintro e w3 ⟨⟨b3, rfl⟩, hb3⟩
      have HB3 := Lib.hid (HB2.out.trans (hb3.mono HB2.out.size))
      clear hb3
      go_wp2
      go_ret
      exact ⟨⟨_, rfl⟩, HB3.out⟩
    · go_wp2
      go_ret
      exact ⟨⟨_, rfl⟩, HB2.out⟩
  · go_wp2
    go_ret
    exact ⟨⟨_, rfl⟩, HB1.out⟩
set_option maxRecDepth 100000 in
set_option maxHeartbeats 2000000 in
theorem index9_any (N : Int) (v : Value) (T : List Tr) (w : World) (h : TrisRd w v T) (hl : T.length ≤ 40) : Calls Tryz.prog 103 #[.agg #[.int .i64 N, v]] w (RetW w 40) := by
  obtain ⟨i1, hi', hy0, hy1, hy2⟩ := info_parts infoWit9
  obtain ⟨a, c, rfl, hc1, hc2, hr⟩ := id h
  have b1 := Blk.new w 24 #[.int .i64 N, .slice a T.length c]
  obtain ⟨l0, x0, -, x1, -⟩ := b1.two
  have hB0 : Below w.heap.size w (w.alloc (.cells #[.int .i64 N, .slice a T.length c] 24)) := (Below.refl _ _).alloc (Nat.le_refl _) _
  have HH := Lib.hid h
  obtain ⟨n, hn⟩ : ∃ n, T.length = n := ⟨_, rfl⟩
  rw [hn] at hl hc1 x0 x1 hB0 b1 l0 ⊢
  have HN := Lib.hid hn
  have g3 : ¬ 8192 < (n : Int) := by omega
  have hrow := World.ownsRow_lit (w.alloc (.cells #[.int .i64 N, .slice a n c] 24)) (base := w.heap.size) (e := 155) (size := 3) #[.int .i64 1, .int .i64 (-1), .int .i64 0] 1 (by simp) (by decide) rfl
  rw [size_alloc'] at hrow
  have Hrow := Lib.hid hrow
  have HBr := Lib.hid (hB0.alloc hB0.size (.cells #[.int .i64 1, .int .i64 (-1), .int .i64 0] 155))
  have HB0 := Lib.hid hB0
  have Hb1 := Lib.hid b1
  clear hr hn h hrow b1 hB0
  by_cases h1 : N < 0
  · go_enter Tryz.func103, Tryz.ntmps103
    go_wp2
    go_ret
    exact ⟨_, _, _, rfl, Hrow.out, by omega, HBr.out⟩
  · by_cases h2 : 4096 < N
    · go_enter Tryz.func103, Tryz.ntmps103
      go_wp2
      go_ret
      exact ⟨_, _, _, rfl, Hrow.out, by omega, HBr.out⟩
    · clear Hrow HBr
      go_enter Tryz.func103, Tryz.ntmps103
      go_wp2
      go_loopw [3, 4] (fun v3 i wr => ∃ (k : Nat) (m : Nat) (xs : List Value) (v' : Value), v' = v3 ∧ k ≤ n ∧ i = .int .i64 k ∧ wr.ownsRow w.heap.size 155 3 v' m xs ∧ m ≤ k ∧ Blk wr w.heap.size 24 #[.int .i64 N, .slice a n c] ∧ Below w.heap.size w wr) (fun _ i _ => n - (intOf i).toNat)
      case atStart => exact ⟨0, 0, _, _, rfl, Nat.zero_le _, rfl, World.ownsRow_nil _ _ _ _, Nat.le_refl _, Hb1.out, HB0.out⟩
      case round =>
        obtain ⟨k, m, xs, v3, rfl, hk, rfl, hrow, hm, hS, hB⟩ := hrel
        rename World => wr
        clear x0 x1 l0
        obtain ⟨ly, y0, -, y1, -⟩ := hS.two
        have htr := (HH.out.below hB)
        have HS := Lib.hid hS
        have HB := Lib.hid hB
        have Hro := Lib.hid hrow
        have hsz := hB.size
        clear hS hB hrow
        by_cases hlt : k < n
        · have hk3 : (k : Int) < (n : Int) := by omega
          have hk0 : (0 : Int) ≤ (k : Int) := by omega
          have c3 : m + 1 ≤ maxLen := by unfold maxLen; omega
          have c4 : (m + 1) * 24 ≤ 140737488355328 := by omega
          have HAt := Lib.hid (fun (j : Nat) (hj : j < 3) => htr.at9 (t := k) (k := j) (by have := HN.out; omega) hj)
          clear htr
          go_wp2
          go_loopw [5, 6] (fun v5 i wq => ∃ (j : Nat) (b : Bool), j ≤ 3 ∧ i = .int .i64 j ∧ v5 = .bool b ∧ (Below wr.heap.size wr wq)) (fun _ i _ => 3 - (intOf i).toNat)
          case atStart => exact ⟨0, false, by omega, rfl, rfl, Below.refl _ _⟩
          case round =>
            obtain ⟨j, b, hj, rfl, rfl, hq⟩ := hrel
            rename World => wq
            obtain ⟨lz, z0, -, z1, -⟩ := (HS.out.below hq ly).two
            have HBq := Lib.hid hq
            have hszq := hq.size
            by_cases hj3 : j < 3
            · obtain ⟨bb, o, x, rfl, hbl, hcell⟩ := HAt.out j hj3
              have hcell' := (hq.cell (p := ⟨bb, _, none⟩) hbl).trans hcell
              have hj4 : (j : Int) < 3 := by omega
              have hj0 : (0 : Int) ≤ (j : Int) := by omega
              clear hcell hq
              cases b
              · by_cases u1 : x < 0
                · go_wp2
                  go_quiet (fail)
                  go_wp2
                  go_roundw
                  case measure => simp [intOf]; omega
                  case rel => exact ⟨j + 1, _, by omega, by go_num, rfl, below_dn HBq.out _⟩
                · by_cases u2 : N ≤ x
                  · go_wp2
                    go_quiet (fail)
                    go_wp2
                    go_roundw
                    case measure => simp [intOf]; omega
                    case rel => exact ⟨j + 1, _, by omega, by go_num, rfl, below_dn HBq.out _⟩
                  · go_wp2
                    go_quiet (fail)
                    go_wp2
                    go_roundw
                    case measure => simp [intOf]; omega
                    case rel => exact ⟨j + 1, _, by omega, by go_num, rfl, below_dn HBq.out _⟩
              · go_wp2
                go_quiet (fail)
                go_wp2
                go_roundw
                case measure => simp [intOf]; omega
                case rel => exact ⟨j + 1, _, by omega, by go_num, rfl, below_dn HBq.out _⟩
            · obtain rfl : j = 3 := by omega
              clear HAt hq
              cases b
              · go_wp2
                go_roundw
                case measure => simp [intOf]; omega
                case rel => exact ⟨k + 1, m, xs, _, rfl, by omega, by go_num, own_below9 Hro.out HBq.out, by omega, HS.out.below HBq.out ly, HB.out.trans (HBq.out.mono hsz)⟩
              · have hrq := own_below9 Hro.out HBq.out
                have HSq := Lib.hid (HS.out.below HBq.out ly)
                go_wp2_with (at_builtin; refine wpList_append_lies _ rfl (.tmp 58) (.tmp 61) 136 rfl w.heap.size 155 i1 _ 3 24 Tryz.underlying136 hi' hy0 hy1 hy2 rfl (by decide) _ _ _ rfl (hrq.alloc _) ⟨wq.heap.size, 0, none⟩ 1 1 [.int .i64 1, .int .i64 k, .int .i64 0] rfl rfl (World.news_of_block (heap_alloc_new _ _)) (by simp [Value.oneCell']) (by decide) c3 c4 (by rw [size_alloc']; omega) (wq.heap.size + 1) (by simp) ?_; intro g4 cap4 W4 hr4 hg4 _ _)
                go_roundw
                case measure => simp [intOf]; omega
                case rel => exact ⟨k + 1, m + 1, _, _, rfl, by omega, by go_num, hr4, by omega, (HSq.out.alloc _).grown hg4 (fun e => own_blk_ne hrq HSq.out (by decide) e.symm), (HB.out.trans (HBq.out.mono hsz)).grown (gGrown (World.grownBy_alloc _ _ _) hg4 (row := v3.ownBlock) (fun _ e => .inl e)) (by omega) (fun j e => (hrq.lt j e).1)⟩
        · obtain rfl : k = n := by omega
          clear htr
          go_wp2
          go_ret
          exact ⟨_, _, _, rfl, Hro.out, by omega, HB.out⟩
end Go.Proofs.YtghlnknncahkgaaGreat
