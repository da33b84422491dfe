/-
  Texts joined by program, what the law uses alone: Gen Sep BorC Chk Simp Apn Wlk ZpStepLR ZpStepS ZpStepE ZpSeconds ZpWCount ZpBegins ZpAwake24 ZpLeast.
-/
import Derived.Deep.RegionHeld3
import Derived.RangeFuncNested
import Derived.RangeFuncCalls
import Derived.RangeFuncBound
import Derived.Shelf.Abstract
import Derived.RangeFuncLeaves
import Derived.OwnWalkIn
import Derived.TacticsInMore
import Derived.LoopNIn
import Derived.LoopIn
import Derived.Lib.Hide
import Derived.Deep.AppendLies
import Derived.OrdersIn
import Derived.TacticsIn
import Derived.Lib.ConvBytes
import Derived.Laws.IdiomStrings
import Derived.Stop.RegionWithIn
import Derived.Sort.CutIn
import Derived.WalkHide
import Derived.BigQuiet
import Derived.Deep.DeepCutAuto
import Derived.Deep.RegionLaw
import Derived.Lib.QuietBelow
import Derived.Lib.Slices
import Derived.Shelf.Spec.SlicesInsert
import Derived.Shelf.Spec.SlicesInsertGrow
import Derived.Sort.LoopGhostIn
import Derived.Deep.DrawnRows
import Derived.Test.YtpnkhgjjlionnaaG5
import Derived.Test.YtpnkhgjjlionnaaG2
import Derived.Test.YtpnkhgjjlionnaaG4
import Derived.Test.YtpnkhgjjlionnaaG1
import Derived.Test.YtpnkhgjjlionnaaShelf
namespace Go.Proofs.Ytpnkhgjjlionnaa
open Go.RowKit Go.Maps

/-- The border's loops, as border.Loops hands them back. -/
def LoopsPost (n : Nat) (T : List Tr) (w : World) (e : Ending) (w' : World) : Prop :=
  ∃ v us, ∃ L : List (List Int), e = .returned v ∧ w'.ownsRow w.heap.size 35 1 v L.length us ∧ L.length ≤ n ∧
    (∀ (i : Nat) (u : Value) (r : List Int), us[i]? = some u → L[i]? = some r → w'.ownsRow w.heap.size 3 1 u r.length (intsV r) ∧ ∃ a r', r = a :: r' ∧ 0 ≤ a ∧ a < n) ∧ (L = [] ↔ ClosedT T) ∧ Below w.heap.size w w'
theorem own_base {w : World} {base base' n s : Nat} {e : TypeId} {v : Value} {xs : List Value} (h : w.ownsRow base e s v n xs) (hb : base' ≤ base) : w.ownsRow base' e s v n xs := by
  obtain ⟨h1, h2 | ⟨g, cap, cur, rfl, a1, a2⟩⟩ := h
  · exact ⟨h1, .inl h2⟩
  · exact ⟨h1, .inr ⟨g, cap, cur, rfl, Nat.le_trans hb a1, a2⟩⟩
theorem cnt_ge {out : List Int} : ∀ (k : Nat), k ≤ out.length → ∀ j, j < k → at_ out j + 1 ≤ cntL (out.take k)
  | 0, _, j, hj => by omega
  | k + 1, hk, j, hj => by
    rw [cntL_take (j := k) (out := out) (by omega)]
    rcases Nat.lt_or_ge j k with h | h
    · have := cnt_ge (out := out) k (by omega) j h
      omega
    · obtain rfl : j = k := by omega
      omega
theorem at_lt {out : List Int} {j : Nat} (hj : j < out.length) : at_ out j < cntL out := by
  have := cnt_ge (out := out) out.length (Nat.le_refl _) j hj
  rw [List.take_length] at this
  omega
/-- The numbers while they are counted: rows of the shells' numbers and of the ends of edges. -/
structure GI (W2 : World) (T : List Tr) (m : Nat) (vO vT : Value) (cs tw : List Int) (W : World) : Prop where
  below : Below W2.heap.size W2 W
  out : W.ownsRow W2.heap.size 50 6 vO m (intsV cs)
  two : W.ownsRow W2.heap.size 3 1 vT m (intsV tw)
  cl : cs.length = m * 6
  tl : tw.length = m
  cb : ∀ x ∈ cs, 0 ≤ x ∧ x ≤ 30000
  tb : ∀ x ∈ tw, 0 ≤ x ∧ x ≤ 60000
theorem at_mem {l : List Int} {j : Nat} (h : j < l.length) : at_ l j ∈ l := by
  unfold at_
  rw [List.getD_eq_getElem?_getD, List.getElem?_eq_getElem h]
  exact List.getElem_mem _
section
variable {W2 W W' : World} {T : List Tr} {m i : Nat} {vO vT : Value} {cs tw : List Int}
theorem GI.le (h : GI W2 T m vO vT cs tw W) (hb : Below W.heap.size W W') : GI W2 T m vO vT cs tw W' :=
  ⟨h.below.trans (hb.mono h.below.size), own_below h.out hb, own_below h.two hb, h.cl, h.tl, h.cb, h.tb⟩
theorem GI.putO {gO cO : Nat} (h : GI W2 T m (.slice (some ⟨gO, 0, none⟩) m cO) vT cs tw W) (j : Nat) (x : Int) (hx : 0 ≤ x ∧ x ≤ 30000) : GI W2 T m (.slice (some ⟨gO, 0, none⟩) m cO) vT (cs.set j x) tw (W.setCell ⟨gO, j, none⟩ (.int .i64 x)) := by
  obtain ⟨k1, k2⟩ := h.out.stored j (.int .i64 x)
  rw [intsV_set] at k1
  refine ⟨h.below.grown k2 h.below.size (fun k e => (h.out.lt k e).1), k1, h.two.kept k2 (own_own_ne h.two h.out (by decide)), by rw [List.length_set]; exact h.cl, h.tl, fun y hy => ?_, h.tb⟩
  rcases List.mem_or_eq_of_mem_set hy with hy | rfl
  · exact h.cb y hy
  · exact hx
theorem GI.putT {gT cT : Nat} (h : GI W2 T m vO (.slice (some ⟨gT, 0, none⟩) m cT) cs tw W) (j : Nat) (x : Int) (hx : 0 ≤ x ∧ x ≤ 60000) : GI W2 T m vO (.slice (some ⟨gT, 0, none⟩) m cT) cs (tw.set j x) (W.setCell ⟨gT, j, none⟩ (.int .i64 x)) := by
  obtain ⟨k1, k2⟩ := h.two.stored j (.int .i64 x)
  rw [intsV_set] at k1
  refine ⟨h.below.grown k2 h.below.size (fun k e => (h.two.lt k e).1), h.out.kept k2 (own_own_ne h.out h.two (by decide)), k1, h.cl, by rw [List.length_set]; exact h.tl, h.cb, fun y hy => ?_⟩
  rcases List.mem_or_eq_of_mem_set hy with hy | rfl
  · exact h.tb y hy
  · exact hx
theorem GI.cellO {gO cO : Nat} (h : GI W2 T m (.slice (some ⟨gO, 0, none⟩) m cO) vT cs tw W) (f : Nat) (hi : i < m) (hf : f < 6) : W.cell? ⟨gO, i * 6 + f, none⟩ = some (.int .i64 (at_ cs (i * 6 + f))) ∧ W.frozen? ⟨gO, i * 6 + f, none⟩ = false ∧ 0 ≤ at_ cs (i * 6 + f) ∧ at_ cs (i * 6 + f) ≤ 30000 ∧ gO < W.heap.size := by
  have hj : i * 6 + f < cs.length := by rw [h.cl]; omega
  refine ⟨by rw [h.out.cellAt _ (by omega)]; exact intsV_at hj, h.out.frozenAt _, ?_⟩
  have hm : at_ cs (i * 6 + f) ∈ cs := by
    unfold at_
    rw [List.getD_eq_getElem?_getD, List.getElem?_eq_getElem hj]
    exact List.getElem_mem _
  exact ⟨(h.cb _ hm).1, (h.cb _ hm).2, (h.out.lt gO rfl).2⟩
theorem GI.cellT {gT cT : Nat} (h : GI W2 T m vO (.slice (some ⟨gT, 0, none⟩) m cT) cs tw W) (hi : i < m) : W.cell? ⟨gT, i, none⟩ = some (.int .i64 (at_ tw i)) ∧ W.frozen? ⟨gT, i, none⟩ = false ∧ 0 ≤ at_ tw i ∧ at_ tw i ≤ 60000 ∧ gT < W.heap.size := by
  have hj : i < tw.length := by rw [h.tl]; omega
  refine ⟨by rw [h.two.cellAt _ (by omega)]; exact intsV_at hj, h.two.frozenAt _, ?_⟩
  have hm : at_ tw i ∈ tw := by
    unfold at_
    rw [List.getD_eq_getElem?_getD, List.getElem?_eq_getElem hj]
    exact List.getElem_mem _
  exact ⟨(h.tb _ hm).1, (h.tb _ hm).2, (h.two.lt gT rfl).2⟩
end

set_option maxRecDepth 100000 in
set_option maxHeartbeats 4000000 in
theorem genus_any (g n : Nat) (T : List Tr) (w : World) (hT : Tab w g n T) (hS : Surf n T) (hL : ∀ W, Below w.heap.size w W → Calls Try.prog 51 #[.pointer (some ⟨g, 0, none⟩)] W (LoopsPost n T W)) :
    Calls Try.prog 23 #[.pointer (some ⟨g, 0, none⟩)] w fun e w' => ∃ (v : Value) (out : List Int) (m : Nat) (cs : List Int), e = .returned v ∧ Shl T out ∧ cntL out = m ∧ w'.ownsRow w.heap.size 50 6 v m (intsV cs) ∧
      (m = 1 → ∃ E b : Int, cs = [(n : Int), E, T.length, b, n - E + T.length, (2 - b - (n - E + T.length)).tdiv 2] ∧ 0 ≤ b ∧ (b = 0 ↔ ClosedT T) ∧ (ClosedT T → E = 3 * (T.length : Int) / 2)) ∧ Below w.heap.size w w' := by
  have hl := hT.len
  have hn1 := hS.n1
  have b1 := Blk.new w 26 #[.pointer (some ⟨g, 0, none⟩)]
  have hB1 : Below w.heap.size w (w.alloc (.cells #[.pointer (some ⟨g, 0, none⟩)] 26)) := (Below.refl _ _).alloc (Nat.le_refl _) _
  have HOf := Lib.hid (of_any g n T _ (hT.below hB1) hS.twice)
  have HT := Lib.hid hT
  have HS := Lib.hid hS
  have HL := Lib.hid hL
  obtain ⟨F, hF⟩ : ∃ F, T.length = F := ⟨_, rfl⟩
  rw [hF] at hl HOf ⊢
  have HF := Lib.hid hF
  clear hF hT hS hL
  obtain ⟨i0, hi0, hx0, hx1, hx2⟩ := info_parts infoNums
  obtain ⟨i2, hi2, hy0, hy1, hy2⟩ := info_parts infoInt
  go_enter Try.func23, Try.ntmps23
  go_wp2_with fail
  refine HOf.out.mono ?_
  rintro e w1 ⟨v, out, rfl, hr, hSh, hlt, hB⟩
  obtain ⟨av, cv, rfl⟩ := ownsRow_slice hr
  have hz1 := hB.size
  have hB2 : Below w.heap.size w (w1.alloc (.cells #[.slice av F cv] 35)) := (hB1.trans (hB.mono hB1.size)).alloc (by have := hB1.size; omega) _
  have bt2 := (b1.below hB b1.lt).alloc (.cells #[.slice av F cv] 35)
  have bs2 := Blk.new w1 35 #[.slice av F cv]
  have hr2 := hr.alloc (.cells #[.slice av F cv] 35)
  have HB2 := Lib.hid hB2
  have HBt := Lib.hid bt2
  have HBs := Lib.hid bs2
  have HR2 := Lib.hid hr2
  have HSh := Lib.hid hSh
  have HLT := Lib.hid hlt
  clear hB hB1 hB2 b1 bt2 bs2 hr hr2 hSh hlt HOf
  go_upto_region 2 with fail
  generalize w1.alloc (.cells #[.slice av F cv] 35) = W2 at *
  have HTW := Lib.hid (fun (W : World) (hW : Below W2.heap.size W2 W) => HT.out.below (HB2.out.trans (hW.mono HB2.out.size)))
  have HCn := Lib.hid (count_any g n T W2 (HTW.out W2 (Below.refl _ _)) HS.out.twice)
  have hz2 := HB2.out.size
  obtain ⟨lt0, x0, -⟩ := HBt.out.one
  obtain ⟨ls0, y0, -⟩ := HBs.out.one
  go_wp2_with fail
  refine HCn.out.mono ?_
  rintro e w3 ⟨out', rfl, hSh', -, hB3⟩
  obtain rfl := HSh.out.one hSh'
  clear hSh' HCn
  have hol : out.length = F := by rw [HSh.out.len]; exact HF.out
  have HOL := Lib.hid hol
  have hcm0 : 0 ≤ cntL out ∧ cntL out ≤ F := by
    have := cntL_bd (out := out) (m := (F : Int)) (fun j hj => HLT.out j (by omega)) (by omega) out.length (Nat.le_refl _)
    rwa [List.take_length] at this
  obtain ⟨m, hm⟩ : ∃ m : Nat, cntL out = m := ⟨(cntL out).toNat, by omega⟩
  have HM := Lib.hid hm
  have hlm : ∀ j, j < F → 0 ≤ at_ out j ∧ at_ out j < m := fun j hj => ⟨HSh.out.nn j (by rw [HF.out]; exact hj), by rw [← hm]; exact at_lt (by rw [hol]; exact hj)⟩
  have HLM := Lib.hid hlm
  have hmF : m ≤ F := by omega
  rw [hm]
  clear hol hcm0 hm hlm
  go_upto_region 5 with (first
    | (at_make; refine wpList_make_full _ rfl (.tmp 17) (.tmp 17) 47 rfl W2.heap.size 50 i0 _ 6 Try.underlying47 hi0 hx0 hx1 .i64 .i64 _ _ m rfl rfl rfl rfl (by rw [hx2]; omega) (by unfold maxLen; omega) hB3.size ?_; intro w4 hr4 hg4)
    | (at_make; refine wpList_make_full _ rfl (.tmp 20) (.tmp 20) 35 rfl W2.heap.size 3 i2 _ 1 Try.underlying35 hi2 hy0 hy1 .i64 .i64 _ _ m rfl rfl rfl rfl (by rw [hy2]; omega) (by unfold maxLen; omega) (Nat.le_trans hB3.size hg4.size) ?_; intro w5 hr5 hg5))
  rw [made6] at hr4
  rw [made_ints] at hr5
  have hG0 : GI W2 T m (.slice (some ⟨w3.heap.size, 0, none⟩) m m) (.slice (some ⟨w4.heap.size, 0, none⟩) m m) (List.replicate (m * 6) 0) (List.replicate m 0) w5 :=
    ⟨(hB3.grown hg4 hB3.size (fun j e => by cases e)).grown hg5 (Nat.le_trans hB3.size hg4.size) (fun j e => by cases e), hr4.kept hg5 (.inr (by simp [Value.ownBlock])), by simpa [intsV] using hr5, by simp, by simp, fun x hx => by rw [List.eq_of_mem_replicate hx]; omega, fun x hx => by rw [List.eq_of_mem_replicate hx]; omega⟩
  have HG0 := Lib.hid hG0
  clear hr4 hg4 hr5 hg5 hB3 hG0 hi0 hx0 hx1 hx2 hi2 hy0 hy1 hy2
  generalize w3.heap.size = gO at *
  generalize w4.heap.size = gT at *
  rename World => wA
  have hBA := HG0.out.below
  have hzA := hBA.size
  have xA := (hBA.cell (p := ⟨w.heap.size, 0, none⟩) lt0).trans x0
  have yA := (hBA.cell (p := ⟨w1.heap.size, 0, none⟩) ls0).trans y0
  clear hBA
  go_wp2
  go_loopw [25] (fun ix wr => ∃ (k : Nat) (cs tw : List Int), k ≤ F ∧ ix = .int .i64 k ∧ GI W2 T m (.slice (some ⟨gO, 0, none⟩) m m) (.slice (some ⟨gT, 0, none⟩) m m) cs tw wr ∧ (∀ x ∈ cs, x ≤ k) ∧ (∀ x ∈ tw, x ≤ 6 * k) ∧ (m = 1 → cs = [0, 0, (k : Int), 0, 0, 0] ∧ (ClosedT T → tw = [3 * (k : Int)]))) (fun ix _ => F - (intOf ix).toNat)
  case atStart => exact ⟨0, _, _, Nat.zero_le _, rfl, HG0.out, fun x hx => by rw [List.eq_of_mem_replicate hx]; omega, fun x hx => by rw [List.eq_of_mem_replicate hx]; omega, fun h => by subst h; exact ⟨rfl, fun _ => rfl⟩⟩
  case round =>
    clear HG0 xA yA hzA
    rename World => wr
    obtain ⟨k, cs, tw, hk, rfl, hG, hc1, ht1, h1⟩ := hrel
    have hBr := hG.below
    have hzr := hBr.size
    have xr := (hBr.cell (p := ⟨w.heap.size, 0, none⟩) lt0).trans x0
    have yr := (hBr.cell (p := ⟨w1.heap.size, 0, none⟩) ls0).trans y0
    by_cases hlt : k < F
    · obtain ⟨g0, cap, e0, hg1, hg2⟩ := HR2.out.form (by omega)
      cases e0
      have hrc := (hBr.cell (p := ⟨g0, k, none⟩) hg2).trans (HR2.out.cellAt k (by omega))
      rw [intsV_at (by rw [HOL.out]; exact hlt)] at hrc
      obtain ⟨i, hi⟩ : ∃ i : Nat, at_ out k = i := ⟨(at_ out k).toNat, by have := HLM.out k hlt; omega⟩
      have him : i < m := by have := HLM.out k hlt; omega
      rw [hi] at hrc
      obtain ⟨o1, o2, o3, o4, o5⟩ := hG.cellO 2 him (by omega)
      have hmO : at_ cs (i * 6 + 2) ∈ cs := by
        have hj : i * 6 + 2 < cs.length := by rw [hG.cl]; omega
        unfold at_
        rw [List.getD_eq_getElem?_getD, List.getElem?_eq_getElem hj]
        exact List.getElem_mem _
      have o6 := hc1 _ hmO
      have hG2 := hG.putO (i * 6 + 2) (at_ cs (i * 6 + 2) + 1) (by omega)
      have hc2 : ∀ x ∈ cs.set (i * 6 + 2) (at_ cs (i * 6 + 2) + 1), x ≤ (k : Int) + 1 := fun x hx => by
        rcases List.mem_or_eq_of_mem_set hx with hx | rfl
        · have := hc1 x hx; omega
        · omega
      have h2 : m = 1 → cs.set (i * 6 + 2) (at_ cs (i * 6 + 2) + 1) = [0, 0, (k : Int) + 1, 0, 0, 0] := fun h => by
        obtain rfl : i = 0 := by omega
        rw [(h1 h).1]
        rfl
      have h3 : m = 1 → ClosedT T → tw = [3 * (k : Int)] := fun h hc => (h1 h).2 hc
      have k3 : (k : Int) < (F : Int) := by omega
      have i3 : (i : Int) < (m : Int) := by omega
      have HG2 := Lib.hid hG2
      have HC2 := Lib.hid hc2
      have HT1 := Lib.hid ht1
      have H2 := Lib.hid h2
      have H3 := Lib.hid h3
      have HI := Lib.hid hi
      generalize cs.set (i * 6 + 2) (at_ cs (i * 6 + 2) + 1) = cs2 at *
      generalize at_ cs (i * 6 + 2) = z at *
      clear hG hG2 hc1 hc2 ht1 h1 h2 h3 hmO hBr hi
      go_wp2
      generalize (wr.setCell ⟨gO, i * 6 + 2, none⟩ (.int .i64 (z + 1))) = wB at *
      go_loopw [9] (fun cq wq => ∃ (j : Nat) (tw2 : List Int), j ≤ 3 ∧ cq = .int .i64 (3 * (k : Int) + (j : Int)) ∧ GI W2 T m (.slice (some ⟨gO, 0, none⟩) m m) (.slice (some ⟨gT, 0, none⟩) m m) cs2 tw2 wq ∧ (∀ x ∈ tw2, x ≤ 6 * (k : Int) + 2 * (j : Int)) ∧ (m = 1 → ClosedT T → tw2 = [3 * (k : Int) + (j : Int)])) (fun cq _ => 3 * k + 3 - (intOf cq).toNat)
      case atStart => exact ⟨0, tw, by omega, by simp, HG2.out, fun x hx => by have := HT1.out x hx; omega, fun h hc => by rw [H3.out h hc]; simp⟩
      case round =>
        rename World => wq
        obtain ⟨j, tw2, hj, rfl, hG, ht2, h4⟩ := hrel
        clear HG2 H3 HT1
        have hBr := hG.below
        have hzr := hBr.size
        have xr := (hBr.cell (p := ⟨w.heap.size, 0, none⟩) lt0).trans x0
        by_cases hj3 : j < 3
        · obtain ⟨o1, o2, o3, o4, o5⟩ := hG.cellT him
          have o6 := ht2 _ (at_mem (l := tw2) (j := i) (by rw [hG.tl]; exact him))
          have hG3 := hG.putT i (at_ tw2 i + 1) (by omega)
          have ht3 : ∀ x ∈ tw2.set i (at_ tw2 i + 1), x ≤ 6 * (k : Int) + 2 * (j : Int) + 1 := fun x hx => by
            rcases List.mem_or_eq_of_mem_set hx with hx | rfl
            · have := ht2 x hx; omega
            · omega
          have h5 : m = 1 → ClosedT T → tw2.set i (at_ tw2 i + 1) = [3 * (k : Int) + (j : Int) + 1] := fun h hc => by
            obtain rfl : i = 0 := by omega
            rw [h4 h hc]
            rfl
          have HG3 := Lib.hid hG3
          have HT3 := Lib.hid ht3
          have H5 := Lib.hid h5
          have j3 : 3 * (k : Int) + (j : Int) < 3 * (k : Int) + 3 := by omega
          generalize tw2.set i (at_ tw2 i + 1) = tw3 at *
          generalize at_ tw2 i = y at *
          clear hG hG3 ht2 ht3 h4 h5 hBr
          go_upto_region 13 with fail
          generalize (wq.setCell ⟨gT, i, none⟩ (.int .i64 (y + 1))) = wC at *
          have hBC := HG3.out.below
          have xC := (hBC.cell (p := ⟨w.heap.size, 0, none⟩) lt0).trans x0
          have HOp := Lib.hid (opp_any g n (3 * (k : Int) + (j : Int)) T wC (HTW.out wC hBC))
          clear hBC
          go_wp2_with fail
          refine HOp.out.mono ?_
          rintro e wD ⟨rfl, hbD⟩
          have hG4 := HG3.out.le hbD
          have hcl : ClosedT T → 0 ≤ oppI T (3 * (k : Int) + (j : Int)) := fun hc => by
            have := hc (3 * k + j) (by rw [HF.out]; omega)
            have e : ((3 * k + j : Nat) : Int) = 3 * (k : Int) + (j : Int) := by omega
            rwa [e] at this
          have HCl := Lib.hid hcl
          clear hcl hbD xC
          by_cases hop : oppI T (3 * (k : Int) + (j : Int)) < 0
          · obtain ⟨p1, p2, p3, p4, p5⟩ := hG4.cellT him
            have p6 := HT3.out _ (at_mem (l := tw3) (j := i) (by rw [hG4.tl]; exact him))
            have hG5 := hG4.putT i (at_ tw3 i + 1) (by omega)
            have ht5 : ∀ x ∈ tw3.set i (at_ tw3 i + 1), x ≤ 6 * (k : Int) + 2 * ((j : Int) + 1) := fun x hx => by
              rcases List.mem_or_eq_of_mem_set hx with hx | rfl
              · have := HT3.out x hx; omega
              · omega
            have HG5 := Lib.hid hG5
            have HT5 := Lib.hid ht5
            generalize tw3.set i (at_ tw3 i + 1) = tw5 at *
            generalize at_ tw3 i = x at *
            clear hG4 hG5 ht5
            go_wp2
            go_roundw
            case measure => simp [intOf]; omega
            case rel => exact ⟨j + 1, tw5, by omega, by go_num, HG5.out, fun x hx => by have := HT5.out x hx; push_cast; omega, fun h hc => by have := HCl.out hc; omega⟩
          · have HG4 := Lib.hid hG4
            clear hG4
            go_wp2
            go_roundw
            case measure => simp [intOf]; omega
            case rel => exact ⟨j + 1, tw3, by omega, by go_num, HG4.out, fun x hx => by have := HT3.out x hx; push_cast; omega, fun h hc => by rw [H5.out h hc]; congr 1⟩
        · obtain rfl : j = 3 := by omega
          have HG := Lib.hid hG
          have HT2 := Lib.hid ht2
          have H4 := Lib.hid h4
          clear hG ht2 h4
          go_wp2
          go_roundw
          case measure => simp [intOf]; omega
          case rel => exact ⟨k + 1, cs2, tw2, by omega, by go_num, HG.out, fun x hx => by have := HC2.out x hx; push_cast; omega, fun x hx => by have := HT2.out x hx; push_cast; omega, fun h => ⟨by rw [H2.out h]; push_cast; rfl, fun hc => by rw [H4.out h hc]; congr 1⟩⟩
    · obtain rfl : F = k := by omega
      have HG := Lib.hid hG
      have HC1 := Lib.hid hc1
      have HT1 := Lib.hid ht1
      have H1 := Lib.hid h1
      have HVs := Lib.hid (vertices_any g n T wr (HTW.out wr hBr).toTabS)
      have hn : n ≤ 4096 := by omega
      have HAt := Lib.hid (fun (W : World) (hW : Below W2.heap.size W2 W) (v : Int) (hv : 0 ≤ v ∧ v < n) => (show Calls Try.prog 47 #[.int .i64 v, .pointer (some ⟨w1.heap.size, 0, none⟩), .pointer (some ⟨w.heap.size, 0, none⟩)] W fun e w' => ∃ q : Nat, e = .returned (.int .i64 (q : Int)) ∧ q < m ∧ Below W.heap.size W w' from by
        have hzW := hW.size
        have hrW := own_below HR2.out hW
        rw [← HF.out] at hrW
        refine (gat_any g w1.heap.size w.heap.size n v T out av cv _ W HS.out (HTW.out W hW) ((hW.cell (p := ⟨w1.heap.size, 0, none⟩) ls0).trans (by rw [HF.out]; exact y0)) ((hW.cell (p := ⟨w.heap.size, 0, none⟩) lt0).trans x0) (by omega) (by omega) hrW HSh.out.len hv).mono ?_
        rintro e w' ⟨i, rfl, hi, hb⟩
        rw [HF.out] at hi
        have := HLM.out i hi
        exact ⟨(at_ out i).toNat, by congr 2; omega, by omega, hb⟩))
      clear hG hc1 ht1 h1 yr hBr hzr
      go_wp2_with fail
      refine HVs.out.mono ?_
      rintro e wE ⟨rfl, rfl⟩
      clear HVs
      go_upto_region 17 with fail
      go_loopw [66] (fun ix wr => ∃ (v : Nat) (cs : List Int), v ≤ n ∧ ix = .int .i64 v ∧ GI W2 T m (.slice (some ⟨gO, 0, none⟩) m m) (.slice (some ⟨gT, 0, none⟩) m m) cs tw wr ∧ (∀ x ∈ cs, x ≤ (F : Int) + v) ∧ (m = 1 → cs = [(v : Int), 0, (F : Int), 0, 0, 0])) (fun ix _ => n - (intOf ix).toNat)
      case atStart => exact ⟨0, cs, Nat.zero_le _, rfl, HG.out, fun x hx => by have := HC1.out x hx; omega, fun h => (H1.out h).1⟩
      case round =>
        clear HG HC1 xr
        rename World => wq
        obtain ⟨v, cs3, hv, rfl, hG, hc1, h1⟩ := hrel
        by_cases hvn : v < n
        · have k3 : (v : Int) < (n : Int) := by omega
          have HAv := Lib.hid (HAt.out wq hG.below (v : Int) (by omega))
          have HG := Lib.hid hG
          clear hG
          go_wp2_with fail
          refine HAv.out.mono ?_
          rintro e wF ⟨q, rfl, hqm, hbF⟩
          have hG := HG.out.le hbF
          obtain ⟨o1, o2, o3, o4, o5⟩ := hG.cellO 0 hqm (by omega)
          simp only [Nat.add_zero] at o1 o2 o3 o4
          have o6 := hc1 _ (at_mem (l := cs3) (j := q * 6) (by rw [hG.cl]; omega))
          have hG2 := hG.putO (q * 6) (at_ cs3 (q * 6) + 1) (by omega)
          have hc2 : ∀ x ∈ cs3.set (q * 6) (at_ cs3 (q * 6) + 1), x ≤ (F : Int) + (v : Int) + 1 := fun x hx => by
            rcases List.mem_or_eq_of_mem_set hx with hx | rfl
            · have := hc1 x hx; omega
            · omega
          have h2 : m = 1 → cs3.set (q * 6) (at_ cs3 (q * 6) + 1) = [(v : Int) + 1, 0, (F : Int), 0, 0, 0] := fun h => by
            obtain rfl : q = 0 := by omega
            rw [h1 h]
            rfl
          have q3 : (q : Int) < (m : Int) := by omega
          have HG2 := Lib.hid hG2
          have HC2 := Lib.hid hc2
          have H2 := Lib.hid h2
          generalize cs3.set (q * 6) (at_ cs3 (q * 6) + 1) = cs4 at *
          generalize at_ cs3 (q * 6) = z at *
          clear hG hG2 hc1 hc2 h1 h2 hbF HG
          go_wp2
          go_roundw
          case measure => simp [intOf]; omega
          case rel => exact ⟨v + 1, cs4, by omega, by go_num, HG2.out, fun x hx => by have := HC2.out x hx; push_cast; omega, fun h => by rw [H2.out h]; push_cast; rfl⟩
        · obtain rfl : n = v := by omega
          have HG := Lib.hid hG
          have HC1 := Lib.hid hc1
          have H3 := Lib.hid h1
          have hBq := hG.below
          have xq := (hBq.cell (p := ⟨w.heap.size, 0, none⟩) lt0).trans x0
          have HLq := Lib.hid (HL.out wq (HB2.out.trans (hBq.mono HB2.out.size)))
          clear hG hc1 h1 hBq
          go_upto_region 21 with fail
          go_wp2_with fail
          refine HLq.out.mono ?_
          rintro e wG ⟨vL, us, L, rfl, hrL, hLn, hLr, hLc, hbG⟩
          obtain ⟨aL, cL, rfl⟩ := ownsRow_slice hrL
          have HG' := Lib.hid (HG.out.le hbG)
          have HLc := Lib.hid hLc
          obtain ⟨lL, hlL⟩ : ∃ l, L.length = l := ⟨_, rfl⟩
          rw [hlL] at hrL hLn
          have HRL := Lib.hid hrL
          have HLr := Lib.hid hLr
          have HlL := Lib.hid hlL
          rw [hlL]
          clear hrL hLr hLc hbG HLq HG hlL
          go_upto_region 22 with fail
          go_loopw [83] (fun ix wr => ∃ (k : Nat) (cs : List Int), k ≤ lL ∧ ix = .int .i64 k ∧ GI W2 T m (.slice (some ⟨gO, 0, none⟩) m m) (.slice (some ⟨gT, 0, none⟩) m m) cs tw wr ∧ (∀ x ∈ cs, x ≤ (F : Int) + n + k) ∧ (m = 1 → cs = [(n : Int), 0, (F : Int), (k : Int), 0, 0]) ∧
            wr.ownsRow wq.heap.size 35 1 (.slice aL lL cL) lL us ∧ (∀ (i : Nat) (u : Value) (r : List Int), us[i]? = some u → L[i]? = some r → wr.ownsRow wq.heap.size 3 1 u r.length (intsV r) ∧ ∃ a r', r = a :: r' ∧ 0 ≤ a ∧ a < n)) (fun ix _ => lL - (intOf ix).toNat)
          case atStart => exact ⟨0, cs3, Nat.zero_le _, rfl, HG'.out, fun x hx => by have := HC1.out x hx; omega, fun h => by rw [H3.out h]; rfl, HRL.out, HLr.out⟩
          case round =>
            clear HG' HC1 H3 HRL HLr xq
            rename World => wr
            obtain ⟨k, cs5, hk, rfl, hG, hc1, h1, hrL, hLr⟩ := hrel
            by_cases hkl : k < lL
            · have k3 : (k : Int) < (lL : Int) := by omega
              obtain ⟨gl, cl, e0, hg1, hg2⟩ := hrL.form (by omega)
              cases e0
              have hul : k < us.length := by have := hrL.1; omega
              have hLl : k < L.length := by rw [HlL.out]; exact hkl
              obtain ⟨hru, a, r', hra, ha0, han⟩ := hLr k us[k] L[k] (List.getElem?_eq_getElem hul) (List.getElem?_eq_getElem hLl)
              have hcu := hrL.cellAt k (by omega)
              rw [List.getElem?_eq_getElem hul] at hcu
              rw [hra] at hru
              obtain ⟨gu, cu, eu, hgu1, hgu2⟩ := hru.form (by simp)
              rw [eu] at hru hcu
              have hca := hru.cellAt 0 (by simp)
              have hca' : wr.cell? ⟨gu, 0, none⟩ = some (.int .i64 a) := hca
              obtain ⟨lr, hlr⟩ : ∃ l, (a :: r').length = l := ⟨_, rfl⟩
              have hlr0 : 0 < lr := by rw [← hlr]; simp
              rw [hlr] at hcu
              have lr3 : (0 : Int) < (lr : Int) := by omega
              have HAv := Lib.hid (HAt.out wr hG.below a ⟨ha0, han⟩)
              have HG := Lib.hid hG
              have HRL := Lib.hid hrL
              have HLr := Lib.hid hLr
              clear hG hrL hLr hru hca hra eu hlr
              go_wp2_with fail
              refine HAv.out.mono ?_
              rintro e wF ⟨q, rfl, hqm, hbF⟩
              have hG := HG.out.le hbF
              obtain ⟨o1, o2, o3, o4, o5⟩ := hG.cellO 3 hqm (by omega)
              have o6 := hc1 _ (at_mem (l := cs5) (j := q * 6 + 3) (by rw [hG.cl]; omega))
              have hG2 := hG.putO (q * 6 + 3) (at_ cs5 (q * 6 + 3) + 1) (by omega)
              have hc2 : ∀ x ∈ cs5.set (q * 6 + 3) (at_ cs5 (q * 6 + 3) + 1), x ≤ (F : Int) + (n : Int) + (k : Int) + 1 := fun x hx => by
                rcases List.mem_or_eq_of_mem_set hx with hx | rfl
                · have := hc1 x hx; omega
                · omega
              have h2 : m = 1 → cs5.set (q * 6 + 3) (at_ cs5 (q * 6 + 3) + 1) = [(n : Int), 0, (F : Int), (k : Int) + 1, 0, 0] := fun h => by
                obtain rfl : q = 0 := by omega
                rw [h1 h]
                rfl
              have q3 : (q : Int) < (m : Int) := by omega
              obtain ⟨st1, st2⟩ := hG.out.stored (q * 6 + 3) (.int .i64 (at_ cs5 (q * 6 + 3) + 1))
              have hrL2 := (own_below HRL.out hbF).kept st2 (own_own_ne (own_below HRL.out hbF) hG.out (by decide))
              have hLr2 : ∀ (i : Nat) (u : Value) (r : List Int), us[i]? = some u → L[i]? = some r → (wF.setCell ⟨gO, q * 6 + 3, none⟩ (.int .i64 (at_ cs5 (q * 6 + 3) + 1))).ownsRow wq.heap.size 3 1 u r.length (intsV r) ∧ ∃ a r', r = a :: r' ∧ 0 ≤ a ∧ a < n := fun i u r hu hr => by
                obtain ⟨b1, b2⟩ := HLr.out i u r hu hr
                exact ⟨(own_below b1 hbF).kept st2 (own_own_ne (own_below b1 hbF) hG.out (by decide)), b2⟩
              have HG2 := Lib.hid hG2
              have HC2 := Lib.hid hc2
              have H2 := Lib.hid h2
              have HRL2 := Lib.hid hrL2
              have HLr2 := Lib.hid hLr2
              generalize cs5.set (q * 6 + 3) (at_ cs5 (q * 6 + 3) + 1) = cs6 at *
              generalize at_ cs5 (q * 6 + 3) = z at *
              clear hG hG2 hc1 hc2 h1 h2 hbF HG st1 st2 hrL2 hLr2 HRL HLr
              go_wp2
              go_roundw
              case measure => simp [intOf]; omega
              case rel => exact ⟨k + 1, cs6, by omega, by go_num, HG2.out, fun x hx => by have := HC2.out x hx; push_cast; omega, fun h => by rw [H2.out h]; push_cast; rfl, HRL2.out, HLr2.out⟩
            · obtain rfl : lL = k := by omega
              have HG := Lib.hid hG
              have HC1 := Lib.hid hc1
              have H3 := Lib.hid h1
              clear hG hc1 h1 hrL hLr
              go_upto_region 27 with fail
              go_loopw [102] (fun ix wr => ∃ (k : Nat) (cs : List Int), k ≤ m ∧ ix = .int .i64 k ∧ Below W2.heap.size W2 wr ∧ wr.ownsRow W2.heap.size 50 6 (.slice (some ⟨gO, 0, none⟩) m m) m (intsV cs) ∧ wr.ownsRow W2.heap.size 3 1 (.slice (some ⟨gT, 0, none⟩) m m) m (intsV tw) ∧
                cs.length = m * 6 ∧ (∀ j, k * 6 ≤ j → at_ cs j = at_ cs5 j) ∧ (k = 0 → cs = cs5) ∧ (m = 1 → k = 1 → cs = [(n : Int), at_ tw 0 / 2, F, (lL : Int), n - at_ tw 0 / 2 + F, (2 - lL - (n - at_ tw 0 / 2 + F)).tdiv 2])) (fun ix _ => m - (intOf ix).toNat)
              case atStart => exact ⟨0, cs5, Nat.zero_le _, rfl, HG.out.below, HG.out.out, HG.out.two, HG.out.cl, fun j _ => rfl, fun _ => rfl, fun _ h => by omega⟩
              case round =>
                rename World => wz
                obtain ⟨k, cs7, hk, rfl, hB, hO, hT2, hcl, hsm, hz, h1⟩ := hrel
                have htl := HG.out.tl
                by_cases hkm : k < m
                · have k3 : (k : Int) < (m : Int) := by omega
                  have cellK : ∀ f, f < 6 → wz.cell? ⟨gO, k * 6 + f, none⟩ = some (.int .i64 (at_ cs5 (k * 6 + f))) := fun f hf => by
                    rw [hO.cellAt _ (by omega), intsV_at (by omega), hsm _ (by omega)]
                  have bdK : ∀ f, f < 6 → 0 ≤ at_ cs5 (k * 6 + f) ∧ at_ cs5 (k * 6 + f) ≤ 30000 := fun f hf => HG.out.cb _ (at_mem (by rw [HG.out.cl]; omega))
                  have tcell : wz.cell? ⟨gT, k, none⟩ = some (.int .i64 (at_ tw k)) := by rw [hT2.cellAt _ (by omega), intsV_at (by omega)]
                  have tbd := HG.out.tb _ (at_mem (l := tw) (j := k) (by omega))
                  have lgO := (hO.lt gO rfl).2
                  have HD := Lib.hid (fun (W : World) (hW : W.heap = wz.heap) => gdone_any gO (k * 6) (at_ cs5 (k * 6)) (at_ cs5 (k * 6 + 2)) (at_ cs5 (k * 6 + 3)) (at_ tw k) (at_ cs5 (k * 6 + 1)) (at_ cs5 (k * 6 + 4)) (at_ cs5 (k * 6 + 5)) W
                    (by unfold World.cell?; rw [hW]; exact cellK 0 (by omega)) (by unfold World.cell?; rw [hW]; exact cellK 1 (by omega)) (by unfold World.cell?; rw [hW]; exact cellK 2 (by omega)) (by unfold World.cell?; rw [hW]; exact cellK 3 (by omega)) (by unfold World.cell?; rw [hW]; exact cellK 4 (by omega)) (by unfold World.cell?; rw [hW]; exact cellK 5 (by omega))
                    (fun j => by unfold World.frozen?; rw [hW]; exact hO.frozenAt j) (by rw [hW]; exact lgO) (by have := bdK 0 (by omega); simp only [Nat.add_zero] at this; omega) (by have := bdK 2 (by omega); omega) (by have := bdK 3 (by omega); omega) (by omega))
                  go_upto_region 29 with fail
                  go_region_with (go_at_call 52; refine (HD.out wz.drew rfl).mono ?_; rintro e wY ⟨⟨vy, rfl⟩, rfl⟩)
                  obtain ⟨s1, s2⟩ := hO.stored (k * 6 + 1) (.int .i64 (at_ tw k / 2))
                  rw [intsV_set] at s1
                  obtain ⟨s3, s4⟩ := s1.stored (k * 6 + 4) (.int .i64 (at_ cs5 (k * 6) - at_ tw k / 2 + at_ cs5 (k * 6 + 2)))
                  rw [intsV_set] at s3
                  obtain ⟨s5, s6⟩ := s3.stored (k * 6 + 5) (.int .i64 ((2 - at_ cs5 (k * 6 + 3) - (at_ cs5 (k * 6) - at_ tw k / 2 + at_ cs5 (k * 6 + 2))).tdiv 2))
                  rw [intsV_set] at s5
                  have gB : ∀ j, some gO = some j → W2.heap.size ≤ j := fun j e => (hO.lt j (by rw [← e]; rfl)).1
                  have u1 := hT2.kept s2 (own_own_ne hT2 hO (by decide))
                  have u2 := u1.kept s4 (own_own_ne u1 s1 (by decide))
                  have u3 := u2.kept s6 (own_own_ne u2 s3 (by decide))
                  have d1 := hB.grown s2 hB.size gB
                  have d2 := d1.grown s4 d1.size gB
                  have d3 := d2.grown s6 d2.size gB
                  have hO3 : World.ownsRow ((((wz.setCell ⟨gO, k * 6 + 1, none⟩ (.int .i64 (at_ tw k / 2))).setCell ⟨gO, k * 6 + 4, none⟩ (.int .i64 (at_ cs5 (k * 6) - at_ tw k / 2 + at_ cs5 (k * 6 + 2)))).setCell ⟨gO, k * 6 + 5, none⟩ (.int .i64 ((2 - at_ cs5 (k * 6 + 3) - (at_ cs5 (k * 6) - at_ tw k / 2 + at_ cs5 (k * 6 + 2))).tdiv 2))).drew.drew.drew) W2.heap.size 50 6 (.slice (some ⟨gO, 0, none⟩) m m) m (intsV (((cs7.set (k * 6 + 1) (at_ tw k / 2)).set (k * 6 + 4) (at_ cs5 (k * 6) - at_ tw k / 2 + at_ cs5 (k * 6 + 2))).set (k * 6 + 5) ((2 - at_ cs5 (k * 6 + 3) - (at_ cs5 (k * 6) - at_ tw k / 2 + at_ cs5 (k * 6 + 2))).tdiv 2))) := s5
                  have hT3 : World.ownsRow ((((wz.setCell ⟨gO, k * 6 + 1, none⟩ (.int .i64 (at_ tw k / 2))).setCell ⟨gO, k * 6 + 4, none⟩ (.int .i64 (at_ cs5 (k * 6) - at_ tw k / 2 + at_ cs5 (k * 6 + 2)))).setCell ⟨gO, k * 6 + 5, none⟩ (.int .i64 ((2 - at_ cs5 (k * 6 + 3) - (at_ cs5 (k * 6) - at_ tw k / 2 + at_ cs5 (k * 6 + 2))).tdiv 2))).drew.drew.drew) W2.heap.size 3 1 (.slice (some ⟨gT, 0, none⟩) m m) m (intsV tw) := u3
                  have hB3 : Below W2.heap.size W2 ((((wz.setCell ⟨gO, k * 6 + 1, none⟩ (.int .i64 (at_ tw k / 2))).setCell ⟨gO, k * 6 + 4, none⟩ (.int .i64 (at_ cs5 (k * 6) - at_ tw k / 2 + at_ cs5 (k * 6 + 2)))).setCell ⟨gO, k * 6 + 5, none⟩ (.int .i64 ((2 - at_ cs5 (k * 6 + 3) - (at_ cs5 (k * 6) - at_ tw k / 2 + at_ cs5 (k * 6 + 2))).tdiv 2))).drew.drew.drew) := d3.drew.drew.drew
                  generalize ((((wz.setCell ⟨gO, k * 6 + 1, none⟩ (.int .i64 (at_ tw k / 2))).setCell ⟨gO, k * 6 + 4, none⟩ (.int .i64 (at_ cs5 (k * 6) - at_ tw k / 2 + at_ cs5 (k * 6 + 2)))).setCell ⟨gO, k * 6 + 5, none⟩ (.int .i64 ((2 - at_ cs5 (k * 6 + 3) - (at_ cs5 (k * 6) - at_ tw k / 2 + at_ cs5 (k * 6 + 2))).tdiv 2))).drew.drew.drew) = wX at *
                  have hcl3 : (((cs7.set (k * 6 + 1) (at_ tw k / 2)).set (k * 6 + 4) (at_ cs5 (k * 6) - at_ tw k / 2 + at_ cs5 (k * 6 + 2))).set (k * 6 + 5) ((2 - at_ cs5 (k * 6 + 3) - (at_ cs5 (k * 6) - at_ tw k / 2 + at_ cs5 (k * 6 + 2))).tdiv 2)).length = m * 6 := by simp [hcl]
                  have hsm3 : ∀ j, (k + 1) * 6 ≤ j → at_ (((cs7.set (k * 6 + 1) (at_ tw k / 2)).set (k * 6 + 4) (at_ cs5 (k * 6) - at_ tw k / 2 + at_ cs5 (k * 6 + 2))).set (k * 6 + 5) ((2 - at_ cs5 (k * 6 + 3) - (at_ cs5 (k * 6) - at_ tw k / 2 + at_ cs5 (k * 6 + 2))).tdiv 2)) j = at_ cs5 j := fun j hj => by
                    rw [← hsm j (by omega)]
                    unfold at_
                    simp only [List.getD_eq_getElem?_getD]
                    rw [List.getElem?_set_ne (by omega), List.getElem?_set_ne (by omega), List.getElem?_set_ne (by omega)]
                  have h5 : m = 1 → k + 1 = 1 → (((cs7.set (k * 6 + 1) (at_ tw k / 2)).set (k * 6 + 4) (at_ cs5 (k * 6) - at_ tw k / 2 + at_ cs5 (k * 6 + 2))).set (k * 6 + 5) ((2 - at_ cs5 (k * 6 + 3) - (at_ cs5 (k * 6) - at_ tw k / 2 + at_ cs5 (k * 6 + 2))).tdiv 2)) = [(n : Int), at_ tw 0 / 2, F, (lL : Int), n - at_ tw 0 / 2 + F, (2 - lL - (n - at_ tw 0 / 2 + F)).tdiv 2] := fun hm1 hk1 => by
                    obtain rfl : k = 0 := by omega
                    rw [hz rfl, H3.out hm1]
                    rfl
                  have HO3 := Lib.hid hO3
                  have HT3 := Lib.hid hT3
                  have HB3 := Lib.hid hB3
                  have HCL3 := Lib.hid hcl3
                  have HSM3 := Lib.hid hsm3
                  have H5 := Lib.hid h5
                  clear hO3 hT3 hB3 hcl3 hsm3 h5 s1 s2 s3 s4 s5 s6 u1 u2 u3 d1 d2 d3 hO hT2 hB hsm hz h1 hcl cellK bdK tcell HD
                  generalize ((cs7.set (k * 6 + 1) (at_ tw k / 2)).set (k * 6 + 4) (at_ cs5 (k * 6) - at_ tw k / 2 + at_ cs5 (k * 6 + 2))).set (k * 6 + 5) ((2 - at_ cs5 (k * 6 + 3) - (at_ cs5 (k * 6) - at_ tw k / 2 + at_ cs5 (k * 6 + 2))).tdiv 2) = cs8 at *
                  go_wp2
                  go_roundw
                  case measure => simp [intOf]; omega
                  case rel => exact ⟨k + 1, cs8, by omega, by go_num, HB3.out, HO3.out, HT3.out, HCL3.out, HSM3.out, fun h => by omega, H5.out⟩
                · obtain rfl : m = k := by omega
                  have HOz := Lib.hid (own_base hO HB2.out.size)
                  have HBz := Lib.hid (HB2.out.trans (hB.mono HB2.out.size))
                  have H6 := Lib.hid h1
                  clear hO hT2 hB hsm hz h1 hcl
                  go_wp2
                  go_ret
                  refine ⟨_, out, m, cs7, rfl, HSh.out, HM.out, HOz.out, fun hm1 => ⟨at_ tw 0 / 2, lL, H6.out hm1 hm1, by omega, ?_, fun hc => ?_⟩, HBz.out⟩
                  · rw [← HLc.out, ← HlL.out]
                    cases L <;> simp
                    omega
                  · rw [(H1.out hm1).2 hc]
                    rfl
end Go.Proofs.Ytpnkhgjjlionnaa
namespace Go.Proofs.Ytpnkhgjjlionnaa
open Go.RowKit

/-- What speaks of the caller's blocks alone. -/
def Stable {α : Type} (B0 : Nat) (I : α → (Nat → Prop) → World → Prop) : Prop :=
  ∀ xs C A B, I xs C A → Below B0 A B → (∀ k, C k → B.heap[k]? = A.heap[k]?) → I xs C B
/-- A set of blocks is taken over: what is more was laid anew. -/
def Anew (C C' : Nat → Prop) (W W' : World) : Prop := ∀ k, C' k → C k ∨ (W.heap.size ≤ k ∧ k < W'.heap.size)
/-- The iterator's contract. -/
def SeqSep {α : Type} (F : Fence) (n : Nat) (P : Program) (g : Nat) (lb : Array Value) (encs : α → Array Value) (Fin Sp : List α → Prop) (N : Nat) (w0 : World) (R : Nat → Prop) (Pre : World → Prop) : Prop :=
  ∀ (l : Nat) (J Jx : List α → (Nat → Prop) → World → Prop) (W : World) (C : Nat → Prop), Below w0.heap.size w0 W → Pre W → (∀ k, R k → k < W.heap.size) → Stable w0.heap.size J → Stable w0.heap.size Jx →
    (∀ pre x C1 W1, J pre C1 W1 → pre.length < N → YieldAt F (n - 1) P l (encs x) W1 fun e W' =>
      Kept C1 W1 W' ∧ ∃ C', Anew C1 C' W1 W' ∧ ((e = .returned (.bool true) ∧ J (pre ++ [x]) C' W') ∨ (e = .returned (.bool false) ∧ Jx (pre ++ [x]) C' W'))) →
    J [] C W → (∀ k, C k → w0.heap.size ≤ k ∧ k < W.heap.size ∧ ¬ R k) →
    CallsIn F n P g (#[.func (.yield l) #[] #[]] ++ lb) W fun e W' => (∃ v, e = .returned v) ∧ ((∃ xs C', Fin xs ∧ J xs C' W') ∨ (∃ pre C', Sp pre ∧ Jx pre C' W'))
/-- How a round's body may be left. -/
def sepPost {α : Type} (I : List α → (Nat → Prop) → World → Prop) (Ix : Code → List α → (Nat → Prop) → World → Prop) (C : Nat → Prop) (xs : List α) (W : World) : Exit → Act → World → Prop
  | .normal, _, W' => Kept C W W' ∧ ∃ C', Anew C C' W W' ∧ I xs C' W'
  | .ret, _, W' => Kept C W W' ∧ ∃ C', Anew C C' W W' ∧ Ix .ret xs C' W'
  | .exit id, _, W' => Kept C W W' ∧ ∃ C', Anew C C' W W' ∧ Ix (.exit id) xs C' W'
  | .goto t, _, W' => Kept C W W' ∧ ∃ C', Anew C C' W W' ∧ Ix (.goto t) xs C' W'
  | .panic _, _, _ => False
  | .outgrown, _, _ => False

variable {F : Fence} {n : Nat} {P : Program} {w : World}
theorem putObj_below {B l : Nat} {W : World} {o : Obj} (h : B ≤ l) : Below B W (W.putObj l o) := ⟨rfl, rfl, rfl, by simp, fun k hk => World.putObj_heap_other (by omega)⟩
theorem putObj_kept {S : Nat → Prop} {l : Nat} {W : World} {o : Obj} (h : S l) : Kept S W (W.putObj l o) := ⟨rfl, rfl, rfl, by simp, fun k _ hn => World.putObj_heap_other (fun e => hn (by rw [e]; exact h))⟩

set_option maxHeartbeats 1000000 in
theorem wpIn_rangeFunc_sep {α : Type} {g : Operand} {ps : Array Tmp} {assign body : Code} {Q : Exit → Act → World → Prop} {a : Act} {w : World}
    (hro : F.round = none) (h1 : 1 ≤ n) {gf : Nat} {lb : Array Value} (hg : a.eval g = .func (.func gf) #[] lb) (hFg : F.fn gf) (eg : ∀ args w, (callFunc gf args).run P w = .ok (.enter gf args) w)
    {encs : α → Array Value} {Fin Sp : List α → Prop} {N : Nat} {w0 : World} {R : Nat → Prop} {Pre : World → Prop} (hseq : SeqSep F (n - 1) P gf lb encs Fin Sp N w0 R Pre) (hpre : ∀ W, Below w.heap.size w W → Pre W) (hR : ∀ k, R k → k < w.heap.size) (hb0 : Below w0.heap.size w0 w) (hps : ∀ x, (encs x).size = ps.size)
    (I : List α → (Nat → Prop) → World → Prop) (Ix : Code → List α → (Nat → Prop) → World → Prop) (hI : Stable w0.heap.size I) (hIx : ∀ c, Stable w0.heap.size (Ix c)) (C0 : Nat → Prop) (hC0 : ∀ k, C0 k → w0.heap.size ≤ k ∧ k < w.heap.size ∧ ¬ R k) (h0 : I [] C0 w)
    (hround : ∀ (l : Nat) (pre : List α) (x : α) (C : Nat → Prop) (W : World), w.heap.size ≤ l → l < W.heap.size → I pre C W → (∀ k, C k → w0.heap.size ≤ k ∧ k < W.heap.size) → pre.length < N →
      assign.wpIn (F.inRound l) (n - 1 - 1) P (Exit.then (fun a' W1 => Kept C W W1 ∧ I pre C W1 ∧ ∀ W2, Kept (fun k => k = l) W1 W2 → I pre C W2 → (∀ k, C k → w0.heap.size ≤ k ∧ k < W2.heap.size) → W2.heap.size = W1.heap.size → body.wpIn (F.inRound l) (n - 1 - 1) P (sepPost I Ix C (pre ++ [x]) W2) a' W2) (fun _ _ _ => False))
        { tmps := (ps.zip (encs x)).foldl (fun t (p, v) => t.setIfInBounds p v) a.tmps, defers := [] } W)
    (hdone : ∀ (D : Nat) (xs : List α) (C : Nat → Prop) (W : World), w.heap.size ≤ D → ¬ C D → Fin xs → I xs C W → W.heap[D]? = some (.deferred (some [])) → Q .normal { a with defers := { target := .collected D, args := #[] } :: a.defers } W)
    (hstop : ∀ (D : Nat) (c : Code) (pre : List α) (C : Nat → Prop) (W : World), w.heap.size ≤ D → ¬ C D → Sp pre → Ix c pre C W → W.heap[D]? = some (.deferred (some [])) → c.wpIn F n P Q { a with defers := { target := .collected D, args := #[] } :: a.defers } W) :
    (Code.rangeFunc g ps assign body).wpIn F n P Q a w := by
  refine wpIn_rangeFunc ?_
  intro fn hfn
  rw [hro]
  obtain ⟨rec, hrec⟩ : ∃ rec : LoopState → Option Code → Loop, rec = fun st pe => { state := st, pending := pe, fn, tmps := a.tmps, params := ps, assign, body, defers := w.heap.size } := ⟨_, rfl⟩
  obtain ⟨W1, hW1⟩ : ∃ W1, (w.alloc (.deferred (some []))).alloc (.loop (rec .ready none)) = W1 := ⟨_, rfl⟩
  have hL1 : W1.heap[w.heap.size + 1]? = some (.loop (rec .ready none)) := by
    rw [← hW1]; have := World.alloc_heap_new (w.alloc (.deferred (some []))) (.loop (rec .ready none)); rwa [World.size_alloc] at this
  have hK1 : W1.heap[w.heap.size]? = some (.deferred (some [])) := by
    rw [← hW1]; exact (Below.heap_alloc _ _ _ (by simp)).trans (World.alloc_heap_new w _)
  have hz1 : W1.heap.size = w.heap.size + 2 := by rw [← hW1]; simp
  have hbw : Below w.heap.size w W1 := by rw [← hW1]; exact ((Below.refl _ w).alloc (Nat.le_refl _) _).alloc (by simp) _
  have hz0 := hb0.size
  have hI1 : I [] C0 W1 := hI _ _ _ _ h0 (hbw.mono hz0) (fun k hk => hbw.block k (hC0 k hk).2.1)
  have hb1 : Below w0.heap.size w0 W1 := hb0.trans (hbw.mono hz0)
  -- the law's own set
  let J : (List α → (Nat → Prop) → World → Prop) → (World → Prop) → List α → (Nat → Prop) → World → Prop := fun I R pre C W => ∃ Cu, (∀ k, C k ↔ Cu k ∨ k = w.heap.size ∨ k = w.heap.size + 1) ∧ I pre Cu W ∧ (∀ k, Cu k → w0.heap.size ≤ k ∧ k < W.heap.size ∧ k ≠ w.heap.size ∧ k ≠ w.heap.size + 1) ∧ R W ∧ W.heap[w.heap.size]? = some (.deferred (some []))
  have hJ : ∀ (I : List α → (Nat → Prop) → World → Prop) (R : World → Prop), Stable w0.heap.size I → (∀ A B : World, R A → B.heap[w.heap.size + 1]? = A.heap[w.heap.size + 1]? → R B) → Stable w0.heap.size (J I R) := by
    rintro I R hI hR xs C A B ⟨Cu, hC, hi, hbd, hl, hd⟩ hbel hsame
    exact ⟨Cu, hC, hI _ _ _ _ hi hbel (fun k hk => hsame k ((hC k).2 (.inl hk))), fun k hk => by have := hbd k hk; have := hbel.size; omega, hR _ _ hl (hsame _ ((hC _).2 (.inr (.inr rfl)))), (hsame _ ((hC _).2 (.inr (.inl rfl)))).trans hd⟩
  refine ⟨w.heap.size + 1, [{ target := .collected w.heap.size, args := #[] }], W1, { target := .fn (.func gf) lb, args := #[.func (.yield (w.heap.size + 1)) #[] #[]] }, W1, gf,
    #[.func (.yield (w.heap.size + 1)) #[] #[]] ++ lb, W1, ?_, ?_, ?_, ?_, fun _ => h1, ?_⟩
  · rw [← hW1, hrec]; exact run_enterLoop_outer _ _ _ _ _
  · simp only [resolve, hg]
    simp [go_sem]
  · intro f' hf'; simp [Target.leads] at hf'; subst hf'; exact hFg
  · simp [invoke, go_sem, eg]
  · refine (hseq (w.heap.size + 1) (J I (fun W => W.heap[w.heap.size + 1]? = some (.loop (rec .ready none)))) (J (fun xs C W => ∃ c, Ix c xs C W ∧ W.heap[w.heap.size + 1]? = some (.loop (rec .done (some c)))) (fun _ => True)) W1
      (fun k => C0 k ∨ k = w.heap.size ∨ k = w.heap.size + 1) hb1 (hpre W1 hbw) (fun k hk => by have := hR k hk; omega) (hJ _ _ hI (fun A B h e => e.trans h)) ?_ ?_ ⟨C0, fun k => Iff.rfl, hI1, fun k hk => by have := hC0 k hk; omega, hL1, hK1⟩ (fun k hk => by
        have hR' := hR k
        rcases hk with hk | hk | hk
        · have := hC0 k hk; exact ⟨this.1, by omega, this.2.2⟩
        · exact ⟨by omega, by omega, fun h => by have := hR' h; omega⟩
        · exact ⟨by omega, by omega, fun h => by have := hR' h; omega⟩)).mono ?_
    · rintro xs C A B ⟨Cu, hC, ⟨c, hc, hl⟩, hbd, -, hd⟩ hbel hsame
      exact ⟨Cu, hC, ⟨c, hIx c _ _ _ _ hc hbel (fun k hk => hsame k ((hC k).2 (.inl hk))), (hsame _ ((hC _).2 (.inr (.inr rfl)))).trans hl⟩, fun k hk => by have := hbd k hk; have := hbel.size; omega, trivial, (hsame _ ((hC _).2 (.inr (.inl rfl)))).trans hd⟩
    · -- one round
      rintro pre x C W ⟨Cu, hC, hi, hbd, hl, hk⟩ hlen
      have hlt : w.heap.size + 1 < W.heap.size := (Array.getElem?_eq_some_iff.1 hl).1
      have hy := run_yield (P := P) (args := encs x) hl (by rw [hrec]; exact hps x)
      rw [hrec] at hy
      refine ⟨fn, _, assign, body, hy, roundIn_of_wpIn hfn (wpIn_mono (hround (w.heap.size + 1) pre x Cu W (by omega) hlt hi (fun k hk => ⟨(hbd k hk).1, (hbd k hk).2.1⟩) hlen) ?_)⟩
      clear hy
      intro e a' Wa hp
      cases e with
      | normal =>
        obtain ⟨hka, hia, hb⟩ := hp
        have hla := (hka.block _ hlt (fun h => (hbd _ h).2.2.2 rfl)).trans hl
        have hda := (hka.block _ (by omega) (fun h => (hbd _ h).2.2.1 rfl)).trans hk
        have hza := hka.size
        refine ⟨_, run_beginRound hla (by rw [hrec]), ?_⟩
        obtain ⟨W2, hW2⟩ : ∃ W2, Wa.putObj (w.heap.size + 1) (.loop { rec .ready none with state := .busy }) = W2 := ⟨_, rfl⟩
        have hl2 : W2.heap[w.heap.size + 1]? = some (.loop { rec .ready none with state := .busy }) := by rw [← hW2]; exact World.putObj_heap_same (by omega)
        have hd2 : W2.heap[w.heap.size]? = some (.deferred (some [])) := by rw [← hW2]; exact (World.putObj_heap_other (by omega)).trans hda
        have hz2 : W2.heap.size = Wa.heap.size := by rw [← hW2]; simp
        have hk2 : Kept (fun k => k = w.heap.size + 1) Wa W2 := by rw [← hW2]; exact putObj_kept rfl
        have hi2 : I pre Cu W2 := by
          refine hI _ _ _ _ hia ?_ (fun k hk => ?_)
          · rw [← hW2]; exact putObj_below (by omega)
          · rw [← hW2]; exact World.putObj_heap_other (hbd k hk).2.2.2
        rw [hW2]
        refine wpIn_mono (hb W2 hk2 hi2 (fun k hk => by have := hbd k hk; omega) hz2) ?_
        have fin : ∀ (jump : Option Code) (W3 : World) (C' : Nat → Prop), Kept Cu W2 W3 → Anew Cu C' W2 W3 →
            (Instr.endRound (w.heap.size + 1) jump).run P W3 = .ok (.bool jump.isNone) (W3.putObj (w.heap.size + 1) (.loop (rec (if jump.isNone then .ready else .done) jump))) ∧
            (W3.putObj (w.heap.size + 1) (.loop (rec (if jump.isNone then .ready else .done) jump))).heap[w.heap.size + 1]? = some (.loop (rec (if jump.isNone then .ready else .done) jump)) ∧
            (W3.putObj (w.heap.size + 1) (.loop (rec (if jump.isNone then .ready else .done) jump))).heap[w.heap.size]? = some (.deferred (some [])) ∧
            Kept C W (W3.putObj (w.heap.size + 1) (.loop (rec (if jump.isNone then .ready else .done) jump))) ∧
            Anew C (fun k => C' k ∨ k = w.heap.size ∨ k = w.heap.size + 1) W (W3.putObj (w.heap.size + 1) (.loop (rec (if jump.isNone then .ready else .done) jump))) ∧
            (∀ k, C' k → w0.heap.size ≤ k ∧ k < (W3.putObj (w.heap.size + 1) (.loop (rec (if jump.isNone then .ready else .done) jump))).heap.size ∧ k ≠ w.heap.size ∧ k ≠ w.heap.size + 1) := fun jump W3 C' hk3 hn3 => by
          have hl3 := (hk3.block _ (by omega) (fun h => (hbd _ h).2.2.2 rfl)).trans hl2
          have hd3 := (hk3.block _ (by omega) (fun h => (hbd _ h).2.2.1 rfl)).trans hd2
          have hz3 := hk3.size
          have := run_endRound (P := P) jump hl3
          rw [hrec] at this ⊢
          refine ⟨this, World.putObj_heap_same (by omega), (World.putObj_heap_other (by omega)).trans hd3, ?_, ?_, ?_⟩
          · have c1 : Kept C W Wa := hka.mono (fun k hk => (hC k).2 (.inl hk))
            have c2 : Kept C Wa W2 := hk2.mono (fun k hk => (hC k).2 (.inr (.inr hk)))
            have c3 : Kept C W2 W3 := hk3.mono (fun k hk => (hC k).2 (.inl hk))
            exact ((c1.trans c2).trans c3).trans (putObj_kept ((hC _).2 (.inr (.inr rfl))))
          · intro k hk
            rw [World.putObj_size]
            rcases hk with hk | hk | hk
            · rcases hn3 k hk with h | h
              · exact .inl ((hC k).2 (.inl h))
              · exact .inr (by omega)
            · exact .inl ((hC k).2 (.inr (.inl hk)))
            · exact .inl ((hC k).2 (.inr (.inr hk)))
          · intro k hk
            rw [World.putObj_size]
            rcases hn3 k hk with h | h
            · have := hbd k h
              omega
            · omega
        have put : ∀ {J : List α → (Nat → Prop) → World → Prop} (xs : List α) (C' : Nat → Prop) (W3 : World) (o : Obj), Stable w0.heap.size J → J xs C' W3 → (∀ k, C' k → k ≠ w.heap.size + 1) → J xs C' (W3.putObj (w.heap.size + 1) o) := fun xs C' W3 o hJ h hk => hJ _ _ _ _ h (putObj_below (by omega)) (fun k h' => World.putObj_heap_other (hk k h'))
        rintro e a3 W3 hp
        cases e with
        | normal =>
          obtain ⟨hk3, C', hn3, hi3⟩ := hp
          obtain ⟨hr, hl4, hd4, c4, n4, b4⟩ := fin none W3 C' hk3 hn3
          exact ⟨_, _, hr, c4, _, n4, .inl ⟨rfl, C', fun k => Iff.rfl, put _ _ _ _ hI hi3 (fun k h => (b4 k h).2.2.2), b4, hl4, hd4⟩⟩
        | ret =>
          obtain ⟨hk3, C', hn3, hi3⟩ := hp
          obtain ⟨hr, hl4, hd4, c4, n4, b4⟩ := fin (some .ret) W3 C' hk3 hn3
          exact ⟨_, _, hr, c4, _, n4, .inr ⟨rfl, C', fun k => Iff.rfl, ⟨.ret, put _ _ _ _ (hIx _) hi3 (fun k h => (b4 k h).2.2.2), hl4⟩, b4, trivial, hd4⟩⟩
        | exit id =>
          obtain ⟨hk3, C', hn3, hi3⟩ := hp
          obtain ⟨hr, hl4, hd4, c4, n4, b4⟩ := fin (some (.exit id)) W3 C' hk3 hn3
          exact ⟨_, _, hr, c4, _, n4, .inr ⟨rfl, C', fun k => Iff.rfl, ⟨.exit id, put _ _ _ _ (hIx _) hi3 (fun k h => (b4 k h).2.2.2), hl4⟩, b4, trivial, hd4⟩⟩
        | goto t =>
          obtain ⟨hk3, C', hn3, hi3⟩ := hp
          obtain ⟨hr, hl4, hd4, c4, n4, b4⟩ := fin (some (.goto t)) W3 C' hk3 hn3
          exact ⟨_, _, hr, c4, _, n4, .inr ⟨rfl, C', fun k => Iff.rfl, ⟨.goto t, put _ _ _ _ (hIx _) hi3 (fun k h => (b4 k h).2.2.2), hl4⟩, b4, trivial, hd4⟩⟩
        | panic ch => exact hp.elim
        | outgrown => exact hp.elim
      | ret => exact hp.elim
      | exit id => exact hp.elim
      | goto t => exact hp.elim
      | panic ch => exact hp.elim
      | outgrown => exact hp.elim
    · -- behind the iterator
      rintro e W2 ⟨⟨v, rfl⟩, (⟨xs, C', hS, Cu, hC, hi, hbd, hl, hd⟩ | ⟨pre, C', hSp, Cu, hC, ⟨c, hi, hl⟩, hbd, -, hd⟩)⟩
      · exact ⟨none, _, by have := run_endLoop (P := P) hl (by rw [hrec]; simp); rw [hrec] at this; exact this, hdone _ xs Cu _ (Nat.le_refl _) (fun h => (hbd _ h).2.2.1 rfl) hS (hI _ _ _ _ hi (putObj_below (by omega)) (fun k hk => World.putObj_heap_other (hbd k hk).2.2.2)) ((World.putObj_heap_other (by omega)).trans hd)⟩
      · exact ⟨some c, _, by have := run_endLoop (P := P) hl (by rw [hrec]; simp); rw [hrec] at this; exact this, hstop _ c pre Cu _ (Nat.le_refl _) (fun h => (hbd _ h).2.2.1 rfl) hSp (hIx c _ _ _ _ hi (putObj_below (by omega)) (fun k hk => World.putObj_heap_other (hbd k hk).2.2.2)) ((World.putObj_heap_other (by omega)).trans hd)⟩
end Go.Proofs.Ytpnkhgjjlionnaa
namespace Go.Proofs.Ytpnkhgjjlionnaa
open Go.RowKit Go.Maps Go.Shelf
attribute [local go_sem] Oper.semAt_some

set_option maxHeartbeats 1000000 in
/-- border.Walk: the function value holds the table and the vertex in boxes. -/
theorem bwalk_any (F : Fence) (n : Nat) (h6 : F.fn 83) (hro : F.round = none) (g : Nat) (v : Int) (w : World) :
    CallsIn F n Try.prog 83 #[.pointer (some ⟨g, 0, none⟩), .int .i64 v] w fun e w' => e = .returned (.func (.func 107) #[] #[.pointer (some ⟨w.heap.size, 0, none⟩), .pointer (some ⟨w.heap.size + 1, 0, none⟩)]) ∧ w' = (w.alloc (.cells #[.pointer (some ⟨g, 0, none⟩)] 26)).alloc (.cells #[.int .i64 v] 3) := by
  refine callsIn_of_wp Try.func83 rfl h6 ?_ hro
  simp only [Try.ntmps83, List.size_toArray, List.length_cons, List.length_nil, Nat.reduceAdd, Nat.reduceSub, Array.replicate_succ, Array.replicate_zero, List.push_toArray, List.append_toArray, List.nil_append, List.cons_append]
  gi_wp2
  go_ret
  exact ⟨rfl, rfl⟩

theorem put_calm2 {W : World} {D : Nat} (o : Obj) : W.grownBy (W.putObj D o) (some D) := grownBy_putObj' W D o

/-- The marks that loops over functions have left. -/
def Mks (base : Nat) (W : World) (ds : List Deferred) : Prop := (∀ d ∈ ds, ∃ r, d.target = .collected r ∧ base ≤ r ∧ W.heap[r]? = some (.deferred (some []))) ∧ ds.Pairwise (fun a b => a.target ≠ b.target)
theorem Mks.nil (base : Nat) (W : World) : Mks base W [] := ⟨fun _ h => (List.not_mem_nil h).elim, .nil⟩
theorem Mks.below {base : Nat} {W W' : World} {ds : List Deferred} (h : Mks base W ds) (hb : Below W.heap.size W W') : Mks base W' ds :=
  ⟨fun d hd => by
    obtain ⟨r, h1, h2, h3⟩ := h.1 d hd
    exact ⟨r, h1, h2, (hb.block r (Array.getElem?_eq_some_iff.1 h3).1).trans h3⟩, h.2⟩
theorem Mks.cons {base D : Nat} {W : World} {ds : List Deferred} {args : Array Value} (h : Mks base W ds) (hK : W.heap[D]? = some (.deferred (some []))) (hD : base ≤ D) (hn : ∀ d ∈ ds, d.target ≠ .collected D) : Mks base W ({ target := .collected D, args := args } :: ds) :=
  ⟨fun d hd => by
    rcases List.mem_cons.1 hd with rfl | hd
    · exact ⟨D, rfl, hD, hK⟩
    · exact h.1 d hd, List.pairwise_cons.2 ⟨fun d hd e => hn d hd e.symm, h.2⟩⟩
theorem leaves_marks {F : Fence} {n : Nat} {P : Program} {fn : Func} {tmps : Array Value} {R : Ending → World → Prop} {base : Nat} : ∀ (ds : List Deferred) (W : World), Mks base W ds →
    (∀ W', Kept (fun k => base ≤ k ∧ ∃ d ∈ ds, d.target = .collected k) W W' → LeavesInM F n P fn tmps R [] .returning W') → LeavesInM F n P fn tmps R ds .returning W
  | [], W, _, h => h W (Kept.refl _ _)
  | d :: ds, W, hM, h => by
    obtain ⟨r, h1, h2, h3⟩ := hM.1 d (List.mem_cons_self ..)
    have hp := List.pairwise_cons.1 hM.2
    refine ⟨by simp, .inl ⟨r, _, h1, run_takeDeferred h3, leaves_marks (base := base) ds _ ⟨fun d' hd' => ?_, hp.2⟩ fun W' hk => h W' ?_⟩⟩
    · obtain ⟨r', k1, k2, k3⟩ := hM.1 d' (List.mem_cons_of_mem _ hd')
      refine ⟨r', k1, k2, (World.putObj_heap_other (fun e => ?_)).trans k3⟩
      exact hp.1 d' hd' (by rw [h1, k1, e])
    · refine Kept.trans (b := W.putObj r (.deferred none)) ?_ (hk.mono (fun k ⟨a, d', b, c⟩ => ⟨a, d', List.mem_cons_of_mem _ b, c⟩))
      exact putObj_kept ⟨h2, d, List.mem_cons_self .., h1⟩

end Go.Proofs.Ytpnkhgjjlionnaa
namespace Go.Proofs.Ytpnkhgjjlionnaa
open Go.RowKit Go.Maps

/-- The decision: one part, no border, Euler number 1, 2 or 3. -/
def ChkOk (n : Nat) (T : List Tr) : Prop := ∃ out, Shl T out ∧ cntL out = 1 ∧ ClosedT T ∧ (2 - 0 - ((n : Int) - 3 * (T.length : Int) / 2 + T.length)).tdiv 2 = 0
end Go.Proofs.Ytpnkhgjjlionnaa
namespace Go.Proofs.Ytpnkhgjjlionnaa
open Go.RowKit Go.Maps

theorem cnt_rep : ∀ (k : Nat), cntL (List.replicate (k + 1) 0) = 1
  | 0 => rfl
  | k + 1 => by
    have := cnt_rep k
    unfold cntL at this ⊢
    rw [List.replicate_succ', List.foldl_append, this]
    rfl
theorem chk_simp {n : Nat} {T : List Tr} (hS : Surf n T) : ChkOk n T ↔ Simp n T := by
  constructor
  · rintro ⟨out, h1, h2, h3, h4⟩
    have h0 : ∀ j, j < T.length → at_ out j = 0 := fun j hj => by
      have a := h1.nn j hj
      have b := at_lt (out := out) (j := j) (by rw [h1.len]; exact hj)
      omega
    have hpos : 0 < T.length := by
      rcases Nat.eq_zero_or_pos T.length with e | e
      · have : out = [] := List.eq_nil_of_length_eq_zero (by rw [h1.len, e])
        rw [this] at h2
        cases h2
      · exact e
    have hc := conn_of h1 h3 h0
    obtain ⟨m, e1, e2⟩ := even_of hS h3 hc
    refine ⟨hS, h3, hc, hpos, ?_⟩
    have e3 : 3 * (T.length : Int) / 2 = 3 * (m : Int) := by rw [e1]; push_cast; omega
    rw [e3, e1] at h4
    have h5 : -1 ≤ 2 - 0 - ((n : Int) - 3 * (m : Int) + ((2 * m : Nat) : Int)) ∧ 2 - 0 - ((n : Int) - 3 * (m : Int) + ((2 * m : Nat) : Int)) ≤ 1 := by
      generalize 2 - 0 - ((n : Int) - 3 * (m : Int) + ((2 * m : Nat) : Int)) = x at h4
      rcases Int.le_total 0 x with h | h
      · rw [Int.tdiv_eq_ediv_of_nonneg h] at h4
        omega
      · have h5 : (-x).tdiv 2 = 0 := by rw [Int.neg_tdiv, h4]; rfl
        rw [Int.tdiv_eq_ediv_of_nonneg (by omega)] at h5
        omega
    have e4 : ((n : Int)).toNat = n := Int.toNat_natCast n
    rw [e4] at e2
    omega
  · intro h
    obtain ⟨k, hk⟩ : ∃ k, T.length = k + 1 := ⟨T.length - 1, by have := h.pos; omega⟩
    have hat : ∀ j, j < T.length → at_ (List.replicate T.length 0) j = 0 := fun j hj => by
      unfold at_
      simp [List.getD_eq_getElem?_getD, hj]
    refine ⟨List.replicate T.length 0, ⟨by simp, fun j hj => by rw [hat j hj]; omega, fun c o hc ho => ?_, fun j hj => ?_⟩, by rw [hk]; exact cnt_rep k, h.closed, ?_⟩
    · have h1 := oppI_bd T (c : Int)
      rw [hat _ (by omega), hat _ (by omega)]
    · rcases Nat.eq_zero_or_pos j with e | e
      · subst e
        exact .inr ⟨fun i hi => by omega, .inl (hat 0 hj)⟩
      · refine .inl ⟨0, e, by rw [hat 0 (by omega), hat j hj], fun S s0 hs => h.conn S s0 (fun c hc hSc => hs c (oppN T c) hc (h.closed.opp hc) hSc) j hj⟩
    · have := h.euler
      obtain ⟨m, hm⟩ : ∃ m : Nat, T.length = 2 * m := ⟨T.length / 2, by omega⟩
      have e3 : 3 * (T.length : Int) / 2 = 3 * (m : Int) := by rw [hm]; push_cast; omega
      rw [e3, hm]
      have e5 : 2 - 0 - ((n : Int) - 3 * (m : Int) + ((2 * m : Nat) : Int)) = 0 := by omega
      rw [e5]
      rfl
end Go.Proofs.Ytpnkhgjjlionnaa
namespace Go.Proofs.Ytpnkhgjjlionnaa
open Go.RowKit

theorem operIn_append_lies {F : Fence} {n : Nat} {P : Program} {w : World} {o : Oper} {a : Act} {K : Act → World → Prop} {Q : Exit → Act → World → Prop} (s x : Operand) (t : TypeId)
    (hop : o.op = .call { callee := .builtin .append, args := #[s, x], argTypes := #[t, t] })
    (base : Nat) (e : TypeId) (i : TypeInfo) (z : Value) (size bytes : Nat) (ht : P.underlying t = some (.slice e)) (hi : P.info? e = some i) (hz : i.zero = some z)
    (hsize : i.size = size) (hby : i.bytes = bytes) (hzs : z.cells.size = size) (hsz : 0 < size)
    (v : Value) (k : Nat) (xs : List Value) (hs : a.eval s = v) (hown : w.ownsRow base e size v k xs)
    (ad : Addr) (m c : Nat) (news : List Value) (hx : a.eval x = .slice (some ad) m c) (hl : news.length = m * size) (hnews : ∀ j u, news[j]? = some u → w.cell? (ad.add j) = some u) (h1 : ∀ u ∈ news, u.oneCell' = true)
    (hm : 0 < m) (h63 : k + m ≤ maxLen) (hbytes : (k + m) * bytes ≤ 140737488355328) (hbase : base ≤ w.heap.size)
    (h : ∀ g cap w', w'.ownsRow base e size (.slice (some ⟨g, 0, none⟩) (k + m) cap) (k + m) (xs ++ news) → w.grownBy w' v.ownBlock → (v.ownBlock = some g ∨ g = w.heap.size) → g < w'.heap.size → K (a.put o.dst (.slice (some ⟨g, 0, none⟩) (k + m) cap)) w') :
    o.wpIn F n P a w K Q := by
  obtain ⟨g, cap, w', hrun, r1, r2, r3, r4⟩ := run_append_lies (P := P) (w := w) t o.type base e i z size bytes ht hi hz hsize hby hzs hsz v k xs hown ad m c news hl hnews h1 hm h63 hbytes hbase _ rfl
  unfold Oper.wpIn
  refine ⟨?_, ?_⟩
  · simp [Oper.about, hop, resolve, Target.leads, Sem.run_pure]
  · rw [Oper.semAt_plain F _ _ (by rw [hop]; intro c hc'; cases hc')]
    simp [execOp, hop, resolve, invoke, builtin, hs, hx, hrun, Result.andThen]
    exact h g cap w' r1 r2 r3 r4
theorem wpListIn_append_lies {F : Fence} {n : Nat} {P : Program} {w : World} {ops : Array Oper} {rest : List Oper} {o : Oper} {a : Act} {Q : Exit → Act → World → Prop} (hg : o.guard = none) (s x : Operand) (t : TypeId)
    (hop : o.op = .call { callee := .builtin .append, args := #[s, x], argTypes := #[t, t] })
    (base : Nat) (e : TypeId) (i : TypeInfo) (z : Value) (size bytes : Nat) (ht : P.underlying t = some (.slice e)) (hi : P.info? e = some i) (hz : i.zero = some z)
    (hsize : i.size = size) (hby : i.bytes = bytes) (hzs : z.cells.size = size) (hsz : 0 < size)
    (v : Value) (k : Nat) (xs : List Value) (hs : a.eval s = v) (hown : w.ownsRow base e size v k xs)
    (ad : Addr) (m c : Nat) (news : List Value) (hx : a.eval x = .slice (some ad) m c) (hl : news.length = m * size) (hnews : ∀ j u, news[j]? = some u → w.cell? (ad.add j) = some u) (h1 : ∀ u ∈ news, u.oneCell' = true)
    (hm : 0 < m) (h63 : k + m ≤ maxLen) (hbytes : (k + m) * bytes ≤ 140737488355328) (hbase : base ≤ w.heap.size)
    (h : ∀ g cap w', w'.ownsRow base e size (.slice (some ⟨g, 0, none⟩) (k + m) cap) (k + m) (xs ++ news) → w.grownBy w' v.ownBlock → (v.ownBlock = some g ∨ g = w.heap.size) → g < w'.heap.size → wpListIn F n P ops Q rest (a.put o.dst (.slice (some ⟨g, 0, none⟩) (k + m) cap)) w') :
    wpListIn F n P ops Q (o :: rest) a w :=
  wpListIn_plain hg fun _K hK' => operIn_append_lies s x t hop base e i z size bytes ht hi hz hsize hby hzs hsz v k xs hs hown ad m c news hx hl hnews h1 hm h63 hbytes hbase (fun g cap w' r1 r2 r3 r4 => hK' _ _ (h g cap w' r1 r2 r3 r4))

section
variable {w W W' : World} {base q bw g : Nat} {lV lC lB : List Value} {vV vC vB v' : Value}
theorem own_blk_far {p : Nat} {t : TypeId} {cs : Array Value} {e : TypeId} {s k : Nat} {v u : Value} {xs : List Value} {b j : Nat} (h : W.ownsRow b e s v k xs) (hb : Blk W p t cs) (hne : e ≠ t) : (W.setCell ⟨p, j, none⟩ u).ownsRow b e s v k xs := own_alloc_st h hb hne
end
end Go.Proofs.Ytpnkhgjjlionnaa
namespace Go.Proofs.Ytpnkhgjjlionnaa
open Go.RowKit Go.Maps Go.Shelf
attribute [local go_sem] Oper.semAt_some

theorem Anew.of_alloc {A B : Nat → Prop} {W W' : World} {o : Obj} (h : Anew A B (W.alloc o) W') : Anew A B W W' := fun j hj => (h j hj).imp id (fun e => ⟨by have := e.1; simp at this; omega, e.2⟩)
end Go.Proofs.Ytpnkhgjjlionnaa
namespace Go.Proofs.Ytpnkhgjjlionnaa.Zp
open Go.RowKit Go.Maps

theorem loop_cell {w : World} {g n cap k : Nat} {xs : List Int} (h : w.ownsRow 0 3 1 (.slice (some ⟨g, 0, none⟩) n cap) n (xs.map (Value.int .i64))) (hk : k < n) (hn : xs.length = n) : w.cell? ⟨g, k, none⟩ = some (.int .i64 (xs.getD k 0)) := by
  rw [h.cellAt k (by omega), List.getElem?_map, List.getElem?_eq_getElem (by omega)]
  simp [List.getD, List.getElem?_eq_getElem (show k < xs.length by omega)]

set_option maxRecDepth 100000 in
set_option maxHeartbeats 2000000 in
theorem stepL_any {w : World} {base z be bt : Nat} {vT vL vW : Value} {vs : List Value} {m : ZM} (h : ZS w base z be bt vT vL vW vs m) (i : Int) (hn : 3 ≤ m.loop.length) (hn' : m.loop.length ≤ 900000) :
    Calls Try.prog 41 #[.pointer (some ⟨z, 0, none⟩), .int .u8 76, .int .i64 i] w fun en w' => en = .returned (.int .i64 (m.loop.getD (m.loop.length - 1) 0)) ∧ (∃ vL', ZS w' base z be bt vT vL' vW vs { m with loop := m.loop.drop (m.loop.length - 1) ++ (m.loop.take (m.loop.length - 1)).drop 1 }) ∧ Below base w w' := by
  obtain ⟨nE, nS, hnE, hnS, h⟩ := h
  have hbase : base ≤ w.heap.size := Nat.le_trans h.hz (Nat.le_of_lt h.blk.lt)
  have H := Lib.hid h
  have hzl := h.blk.lt
  obtain ⟨-, c0, c1, c2, c3, c4, c5, fz⟩ := h.blk.six'
  have hL := h.L
  obtain ⟨g, cap, rfl, hcap, hcap'⟩ := loop_form hL (by omega)
  have hgz : g ≠ z := by simpa [Value.ownBlock] using own_blk_ne hL h.blk (by decide)
  clear h
  obtain ⟨k, en⟩ : ∃ k, m.loop.length = k + 1 := ⟨m.loop.length - 1, by omega⟩
  rw [en] at hn hn' hcap H hL c2 ⊢
  have hA := (H.out.alloc (.cells #[.slice (some ⟨g, k, none⟩) 1 (cap - k), .slice (some ⟨g, 1, none⟩) (k - 1) (cap - 1)] 35)).drew.drew
  have hB : Blk ((w.alloc (.cells #[.slice (some ⟨g, k, none⟩) 1 (cap - k), .slice (some ⟨g, 1, none⟩) (k - 1) (cap - 1)] 35)).drew.drew) w.heap.size 35 #[.slice (some ⟨g, k, none⟩) 1 (cap - k), .slice (some ⟨g, 1, none⟩) (k - 1) (cap - 1)] := Blk.new _ _ _
  have hBl : Below base w ((w.alloc (.cells #[.slice (some ⟨g, k, none⟩) 1 (cap - k), .slice (some ⟨g, 1, none⟩) (k - 1) (cap - 1)] 35)).drew.drew) := (((Below.refl base w).alloc hbase _).drew).drew
  have hA5 := hA.L
  rw [en] at hA5
  have j1 := ints_part hA5 k 1 (cap - k) rfl (by omega) en
  have j2 := ints_part hA5 1 (k - 1) (cap - 1) rfl (by omega) en
  have HA := Lib.hid hA
  have HB := Lib.hid hB
  have HBl := Lib.hid hBl
  have J1 := Lib.hid j1
  have J2 := Lib.hid j2
  have eN : ((m.loop.drop k).take 1 ++ (m.loop.drop 1).take (k - 1)).length = k := by simp; omega
  have e2 : (m.loop.drop k).take 1 ++ (m.loop.drop 1).take (k - 1) = m.loop.drop k ++ (m.loop.take k).drop 1 := by
    rw [List.drop_take, List.take_of_length_le (l := m.loop.drop k) (by simp; omega)]
  have EN := Lib.hid eN
  have E2 := Lib.hid e2
  have En := Lib.hid en
  clear hA hB hBl hA5 j1 j2 hL eN e2 en
  have d1 : IntKind.i64.wrap ((k : Int) + 1 - 1) = (k : Int) := by rw [IntWalk.i64_in _ (by omega)]; omega
  have d1b : IntKind.i64.wrap (k : Int) = (k : Int) := IntWalk.i64_in _ (by omega)
  have d1c : (k : Int) < (k : Int) + 1 := by omega
  have d2 : (0 : Int) ≤ (k : Int) := by omega
  have d3 : (k : Int) ≤ (cap : Int) := by omega
  have d4 : (1 : Int) ≤ (k : Int) := by omega
  have d5 : (k : Int) ≤ (k : Int) + 1 := by omega
  have d6 : k + 1 - 1 = k := by omega
  rw [d6]
  clear d6
  generalize hx : m.loop.getD k 0 = x
  have Hx := Lib.hid hx
  clear hx
  go_enter Try.func41, Try.ntmps41
  go_wp2
  go_region
  go_wp2
  go_region_with (go_at_call 78; refine (concat_two HB.out J1.out J2.out EN.out (by omega) (by omega)).mono ?_; rintro e w1 ⟨g1, cap1, rfl, hr1, hb1⟩; obtain ⟨-, b0, b1, b2, b3, b4, b5, dz⟩ := (HA.out.below hb1).blk.six'; have r0 := loop_cell (k := k) (by have := (HA.out.below hb1).L; rw [En.out] at this; exact this) (by omega) En.out; rw [Hx.out] at r0)
  all_goals
    go_wp2
    go_ret
    have := step_done HA.out hnE hnS HBl.out hb1 hr1 EN.out E2.out
    exact ⟨rfl, this.1, this.2⟩

set_option maxRecDepth 100000 in
set_option maxHeartbeats 2000000 in
theorem stepR_any {w : World} {base z be bt : Nat} {vT vL vW : Value} {vs : List Value} {m : ZM} (h : ZS w base z be bt vT vL vW vs m) (i : Int) (hn : 3 ≤ m.loop.length) (hn' : m.loop.length ≤ 900000) :
    Calls Try.prog 41 #[.pointer (some ⟨z, 0, none⟩), .int .u8 82, .int .i64 i] w fun en w' => en = .returned (.int .i64 (m.loop.getD 2 0)) ∧ (∃ vL', ZS w' base z be bt vT vL' vW vs { m with loop := m.loop.take 1 ++ m.loop.drop 2 }) ∧ Below base w w' := by
  obtain ⟨nE, nS, hnE, hnS, h⟩ := h
  have hbase : base ≤ w.heap.size := Nat.le_trans h.hz (Nat.le_of_lt h.blk.lt)
  have H := Lib.hid h
  have hzl := h.blk.lt
  obtain ⟨-, c0, c1, c2, c3, c4, c5, fz⟩ := h.blk.six'
  have hL := h.L
  obtain ⟨g, cap, rfl, hcap, hcap'⟩ := loop_form hL (by omega)
  have hgz : g ≠ z := by simpa [Value.ownBlock] using own_blk_ne hL h.blk (by decide)
  clear h
  obtain ⟨n, en⟩ : ∃ n, m.loop.length = n := ⟨_, rfl⟩
  rw [en] at hn hn' hcap H hL c2
  have hA := (H.out.alloc (.cells #[.slice (some ⟨g, 0, none⟩) 1 cap, .slice (some ⟨g, 2, none⟩) (n - 2) (cap - 2)] 35)).drew.drew
  have hB : Blk ((w.alloc (.cells #[.slice (some ⟨g, 0, none⟩) 1 cap, .slice (some ⟨g, 2, none⟩) (n - 2) (cap - 2)] 35)).drew.drew) w.heap.size 35 #[.slice (some ⟨g, 0, none⟩) 1 cap, .slice (some ⟨g, 2, none⟩) (n - 2) (cap - 2)] := Blk.new _ _ _
  have hBl : Below base w ((w.alloc (.cells #[.slice (some ⟨g, 0, none⟩) 1 cap, .slice (some ⟨g, 2, none⟩) (n - 2) (cap - 2)] 35)).drew.drew) := (((Below.refl base w).alloc hbase _).drew).drew
  have hA5 := hA.L
  rw [en] at hA5
  have j1 := ints_part hA5 0 1 cap rfl (by omega) en
  have j2 := ints_part hA5 2 (n - 2) (cap - 2) rfl (by omega) en
  have HA := Lib.hid hA
  have HB := Lib.hid hB
  have HBl := Lib.hid hBl
  have J1 := Lib.hid j1
  have J2 := Lib.hid j2
  have eN : ((m.loop.drop 0).take 1 ++ (m.loop.drop 2).take (n - 2)).length = n - 1 := by simp; omega
  have e2 : (m.loop.drop 0).take 1 ++ (m.loop.drop 2).take (n - 2) = m.loop.take 1 ++ m.loop.drop 2 := by
    rw [List.drop_zero, List.take_of_length_le (l := m.loop.drop 2) (by simp; omega)]
  have EN := Lib.hid eN
  have E2 := Lib.hid e2
  have En := Lib.hid en
  clear hA hB hBl hA5 j1 j2 hL eN e2 en
  generalize hx : m.loop.getD 2 0 = x
  have Hx := Lib.hid hx
  clear hx
  go_enter Try.func41, Try.ntmps41
  go_wp2
  go_region
  go_wp2
  go_region_with (go_at_call 78; refine (concat_two HB.out J1.out J2.out EN.out (by omega) (by omega)).mono ?_; rintro e w1 ⟨g1, cap1, rfl, hr1, hb1⟩; obtain ⟨-, b0, b1, b2, b3, b4, b5, dz⟩ := (HA.out.below hb1).blk.six'; have r0 := loop_cell (k := 2) (by have := (HA.out.below hb1).L; rw [En.out] at this; exact this) (by omega) En.out; rw [Hx.out] at r0)
  all_goals
    go_wp2
    go_ret
    have := step_done HA.out hnE hnS HBl.out hb1 hr1 EN.out E2.out
    exact ⟨rfl, this.1, this.2⟩
end Go.Proofs.Ytpnkhgjjlionnaa.Zp
namespace Go.Proofs.Ytpnkhgjjlionnaa.Zp
open Go.RowKit Go.Maps

/-- What stands when a loop more waits. -/
theorem wait_done {w W w1 W4 : World} {base z be bt : Nat} {vT vL vW : Value} {vs : List Value} {m : ZM} {nE nS g1 cap1 N g4 cap4 : Nat} {es : List (Int × Int)} {ss : List Tr} {ys ys' : List Int} {tmp : Obj} (hA : ZSX W base z be bt vT vL vW vs m nE es nS ss)
    (hBl : Below base w W) (hb1 : Below W.heap.size W w1) (hr1 : w1.ownsRow 0 3 1 (.slice (some ⟨g1, 0, none⟩) N cap1) N (ys.map (Value.int .i64))) (hN : ys.length = N) (hy : ys = ys')
    (hg4 : (w1.alloc tmp).grownBy W4 vW.ownBlock) (hr4 : W4.ownsRow base 35 1 (.slice (some ⟨g4, 0, none⟩) (m.waits.length + 1) cap4) (m.waits.length + 1) (vs.reverse ++ [.slice (some ⟨g1, 0, none⟩) N cap1])) :
    ZSX (W4.setCell ⟨z, 3, none⟩ (.slice (some ⟨g4, 0, none⟩) (m.waits.length + 1) cap4)) base z be bt vT vL (.slice (some ⟨g4, 0, none⟩) (m.waits.length + 1) cap4) (.slice (some ⟨g1, 0, none⟩) N cap1 :: vs) { m with waits := ys' :: m.waits } nE es nS ss ∧ Below base w (W4.setCell ⟨z, 3, none⟩ (.slice (some ⟨g4, 0, none⟩) (m.waits.length + 1) cap4)) := by
  subst hy
  subst hN
  have h1 := hA.below hb1
  refine ⟨h1.putW hr1 hg4 hr4, ?_⟩
  have hsz : base ≤ W.heap.size := Nat.le_trans hA.hz (Nat.le_of_lt hA.blk.lt)
  have b1 : Below base w w1 := ⟨hb1.os.trans hBl.os, hb1.tape.trans hBl.tape, hb1.output.trans hBl.output, Nat.le_trans hBl.size hb1.size, fun b hb => (hb1.block b (Nat.lt_of_lt_of_le hb hsz)).trans (hBl.block b hb)⟩
  exact (b1.grown (gGrown (World.grownBy_alloc w1 _ _) hg4 (row := vW.ownBlock) (fun j e => .inl e)) (Nat.le_trans hsz hb1.size) (fun j e => (h1.W.lt j e).1)).setCell (p := ⟨z, 3, none⟩) hA.hz _

set_option maxRecDepth 100000 in
set_option maxHeartbeats 4000000 in
theorem stepS_any {w : World} {base z be bt : Nat} {vT vL vW : Value} {vs : List Value} {m : ZM} (h : ZS w base z be bt vT vL vW vs m) (j : Nat) (hn : 3 ≤ m.loop.length) (hn' : m.loop.length ≤ 900000) (hj : 1 ≤ j) (hj2 : j < m.loop.length) (hw : m.waits.length ≤ 900000) :
    Calls Try.prog 41 #[.pointer (some ⟨z, 0, none⟩), .int .u8 83, .int .i64 (j : Int)] w fun en w' => en = .returned (.int .i64 (m.loop.getD j 0)) ∧ (∃ vL' vW' vs', ZS w' base z be bt vT vL' vW' vs' { m with loop := m.loop.take 1 ++ m.loop.drop j, waits := ((m.loop.drop j).take 1 ++ (m.loop.take j).drop 1) :: m.waits }) ∧ Below base w w' := by
  obtain ⟨nE, nS, hnE, hnS, h⟩ := h
  obtain ⟨i1, hi', hy0, hy1, hy2⟩ := info_parts info_sl
  have hbase : base ≤ w.heap.size := Nat.le_trans h.hz (Nat.le_of_lt h.blk.lt)
  have H := Lib.hid h
  have hzl := h.blk.lt
  obtain ⟨-, c0, c1, c2, c3, c4, c5, fz⟩ := h.blk.six'
  have hL := h.L
  obtain ⟨g, cap, rfl, hcap, hcap'⟩ := loop_form hL (by omega)
  have hgz : g ≠ z := by simpa [Value.ownBlock] using own_blk_ne hL h.blk (by decide)
  have hzW := own_blk_ne h.W h.blk (by decide)
  clear h
  obtain ⟨k, en⟩ : ∃ k, m.loop.length = k + 1 := ⟨m.loop.length - 1, by omega⟩
  rw [en] at hn hn' hcap H hL c2 hj2
  have hA := (H.out.alloc (.cells #[.slice (some ⟨g, j, none⟩) 1 (cap - j), .slice (some ⟨g, 1, none⟩) (j - 1) (cap - 1)] 35)).drew.drew
  have hB : Blk ((w.alloc (.cells #[.slice (some ⟨g, j, none⟩) 1 (cap - j), .slice (some ⟨g, 1, none⟩) (j - 1) (cap - 1)] 35)).drew.drew) w.heap.size 35 #[.slice (some ⟨g, j, none⟩) 1 (cap - j), .slice (some ⟨g, 1, none⟩) (j - 1) (cap - 1)] := Blk.new _ _ _
  have hBl : Below base w ((w.alloc (.cells #[.slice (some ⟨g, j, none⟩) 1 (cap - j), .slice (some ⟨g, 1, none⟩) (j - 1) (cap - 1)] 35)).drew.drew) := (((Below.refl base w).alloc hbase _).drew).drew
  have hA5 := hA.L
  rw [en] at hA5
  have j1 := ints_part hA5 j 1 (cap - j) rfl (by omega) en
  have j2 := ints_part hA5 1 (j - 1) (cap - 1) rfl (by omega) en
  have HA := Lib.hid hA
  have HB := Lib.hid hB
  have HBl := Lib.hid hBl
  have J1 := Lib.hid j1
  have J2 := Lib.hid j2
  have eN : ((m.loop.drop j).take 1 ++ (m.loop.drop 1).take (j - 1)).length = j := by simp; omega
  have e2 : (m.loop.drop j).take 1 ++ (m.loop.drop 1).take (j - 1) = (m.loop.drop j).take 1 ++ (m.loop.take j).drop 1 := by
    rw [List.drop_take]
  have EN := Lib.hid eN
  have E2 := Lib.hid e2
  have En := Lib.hid en
  have HW := Lib.hid hw
  clear hA hB hBl hA5 j1 j2 hL eN e2 en hw
  have d1 : IntKind.i64.wrap ((j : Int) + 1) = (j : Int) + 1 := IntWalk.i64_in _ (by omega)
  have d2 : (0 : Int) ≤ (j : Int) := by omega
  have d3 : (j : Int) ≤ (cap : Int) := by omega
  have d4 : (1 : Int) ≤ (j : Int) := by omega
  have d5 : (j : Int) ≤ (j : Int) + 1 := by omega
  have d6 : (j : Int) + 1 ≤ (cap : Int) := by omega
  have d7 : (j : Int) ≤ (k : Int) + 1 := by omega
  have d8 : (j : Int) < (k : Int) + 1 := by omega
  have f3 : m.waits.length + 1 ≤ maxLen := by have := HW.out; unfold maxLen; omega
  have f4 : (m.waits.length + 1) * 24 ≤ 140737488355328 := by have := HW.out; omega
  have F3 := Lib.hid f3
  have F4 := Lib.hid f4
  clear f3 f4
  generalize hx : m.loop.getD j 0 = x
  have Hx := Lib.hid hx
  clear hx
  go_enter Try.func41, Try.ntmps41
  go_wp2
  go_region
  go_wp2
  go_region_law (first
    | (refine step_append_lies _ (by rfl) (.tmp 89) (.tmp 100) 78 (by rfl) base 35 i1 _ 1 24 Try.underlying78 hi' hy0 hy1 hy2 (by rfl) (by decide) vW m.waits.length vs.reverse (by rfl) ((HA.out.below hb1).W.alloc _) ⟨w1.heap.size, 0, none⟩ 1 1 [.slice (some ⟨g1, 0, none⟩) j cap1] (by rfl) (by rfl) (World.news_of_block (heap_alloc_new _ _)) (by simp [Value.oneCell']) (by decide) F3.out F4.out (by simp; have := hb1.size; simp at this; omega) (w1.heap.size + 1) (by simp) ?_; intro g4 cap4 W4 hr4 hg4 hat4 hlt4; obtain ⟨-, b0, b1, b2, b3, b4, b5, dz⟩ := (((HA.out.below hb1).blk.alloc _).grown hg4 (fun e => hzW e.symm)).six')
    | (go_simp; go_wp2_with (go_at_call 78; refine (concat_two HB.out J1.out J2.out EN.out (by omega) (by omega)).mono ?_; rintro e w1 ⟨g1, cap1, rfl, hr1, hb1⟩; obtain ⟨-, a0, a1, a2, a3, a4, a5, az⟩ := (HA.out.below hb1).blk.six'; have zl1 := (HA.out.below hb1).blk.lt)))
  all_goals
    have hX := wait_done HA.out HBl.out hb1 hr1 EN.out E2.out hg4 hr4
    have hA2 := (hX.1.alloc (.cells #[.slice (some ⟨g, 0, none⟩) 1 cap, .slice (some ⟨g, j, none⟩) (k + 1 - j) (cap - j)] 35)).drew
    have hB2 : Blk ((W4.setCell ⟨z, 3, none⟩ (.slice (some ⟨g4, 0, none⟩) (m.waits.length + 1) cap4)).alloc (.cells #[.slice (some ⟨g, 0, none⟩) 1 cap, .slice (some ⟨g, j, none⟩) (k + 1 - j) (cap - j)] 35)).drew W4.heap.size 35 #[.slice (some ⟨g, 0, none⟩) 1 cap, .slice (some ⟨g, j, none⟩) (k + 1 - j) (cap - j)] := by
      have := Blk.new (W4.setCell ⟨z, 3, none⟩ (.slice (some ⟨g4, 0, none⟩) (m.waits.length + 1) cap4)) 35 #[.slice (some ⟨g, 0, none⟩) 1 cap, .slice (some ⟨g, j, none⟩) (k + 1 - j) (cap - j)]
      rw [size_setCell'] at this
      exact this
    have hBl2 := (hX.2.alloc (Nat.le_trans hX.1.hz (Nat.le_of_lt hX.1.blk.lt)) (.cells #[.slice (some ⟨g, 0, none⟩) 1 cap, .slice (some ⟨g, j, none⟩) (k + 1 - j) (cap - j)] 35)).drew
    have hA5 := hA2.L
    simp only at hA5
    rw [En.out] at hA5
    have j1 := ints_part hA5 0 1 cap rfl (by have := En.out; omega) En.out
    have j2 := ints_part hA5 j (k + 1 - j) (cap - j) rfl (by have := En.out; omega) En.out
    have eN : ((m.loop.drop 0).take 1 ++ (m.loop.drop j).take (k + 1 - j)).length = k + 1 - j + 1 := by have := En.out; simp; omega
    have e2 : (m.loop.drop 0).take 1 ++ (m.loop.drop j).take (k + 1 - j) = m.loop.take 1 ++ m.loop.drop j := by
      rw [List.drop_zero, List.take_of_length_le (l := m.loop.drop j) (by have := En.out; simp; omega)]
    have HA2 := Lib.hid hA2
    have HB2 := Lib.hid hB2
    have HBl2 := Lib.hid hBl2
    have J3 := Lib.hid j1
    have J4 := Lib.hid j2
    have EN2 := Lib.hid eN
    have E22 := Lib.hid e2
    clear hX hA2 hB2 hBl2 hA5 j1 j2 eN e2
    go_wp2
    go_region_with (go_at_call 78; refine (concat_two HB2.out J3.out J4.out EN2.out (by omega) (by omega)).mono ?_; rintro e w2 ⟨g2, cap2, rfl, hr2, hb2⟩; obtain ⟨-, x0, x1, x2, x3, x4, x5, xz⟩ := (HA2.out.below hb2).blk.six'; have r0 := loop_cell (k := j) (by have := (HA2.out.below hb2).L; simp only at this; rw [En.out] at this; exact this) (by omega) En.out; rw [Hx.out] at r0)
    all_goals
      go_wp2
      go_ret
      have := step_done HA2.out hnE hnS HBl2.out hb2 hr2 EN2.out E22.out
      obtain ⟨⟨vL', h5⟩, h6⟩ := this
      exact ⟨rfl, ⟨_, _, _, h5⟩, h6⟩
end Go.Proofs.Ytpnkhgjjlionnaa.Zp
namespace Go.Proofs.Ytpnkhgjjlionnaa.Zp
open Go.RowKit Go.Maps

theorem row_form {w : World} {base : Nat} {e : TypeId} {size n : Nat} {v : Value} {xs : List Value} (h : w.ownsRow base e size v n xs) : ∃ a c, v = .slice a n c ∧ n ≤ c ∧ c ≤ 9223372036854775807 := by
  rcases h.2 with ⟨rfl, h0⟩ | ⟨g, cap, cur, rfl, _, _, hn, hm, _⟩
  · exact ⟨none, 0, by rw [h0], by omega, by omega⟩
  · exact ⟨_, _, rfl, hn, by unfold maxLen at hm; omega⟩

theorem ZS.drew {w : World} {base z be bt : Nat} {vT vL vW : Value} {vs : List Value} {m : ZM} (h : ZS w base z be bt vT vL vW vs m) : ZS w.drew base z be bt vT vL vW vs m := by
  obtain ⟨nE, nS, h1, h2, h⟩ := h
  exact ⟨nE, nS, h1, h2, h.drew⟩
set_option maxRecDepth 100000 in
set_option maxHeartbeats 4000000 in
theorem stepE0_any {w : World} {base z be bt : Nat} {vT vL vW : Value} {vs : List Value} {m : ZM} (h : ZS w base z be bt vT vL vW vs m) (i : Int) (hn : 3 ≤ m.loop.length) (hn' : m.loop.length ≤ 900000) (hw : m.waits = []) :
    Calls Try.prog 41 #[.pointer (some ⟨z, 0, none⟩), .int .u8 69, .int .i64 i] w fun en w' => en = .returned (.int .i64 (m.loop.getD 2 0)) ∧ ZS w' base z be bt vT vL vW vs m ∧ Below base w w' := by
  have hZ := Lib.hid h
  obtain ⟨nE, nS, hnE, hnS, h⟩ := h
  have hzl := h.blk.lt
  obtain ⟨-, c0, c1, c2, c3, c4, c5, fz⟩ := h.blk.six'
  have hL := h.L
  obtain ⟨g, cap, rfl, hcap, hcap'⟩ := loop_form hL (by omega)
  have hgz : g ≠ z := by simpa [Value.ownBlock] using own_blk_ne hL h.blk (by decide)
  have r0 := loop_cell (k := 2) hL (by omega) rfl
  obtain ⟨aw, cw, rfl, hw1, hw2⟩ := row_form h.W
  rw [hw] at c3 
  generalize m.loop.getD 2 0 = x at *
  generalize m.loop.length = n at *
  clear h hL
  simp only [List.length_nil] at c3
  go_enter Try.func41, Try.ntmps41
  go_wp2
  go_region
  go_wp2
  go_ret
  exact ⟨rfl, hZ.out.drew, (Below.refl _ _).drew⟩

set_option maxRecDepth 100000 in
set_option maxHeartbeats 4000000 in
theorem stepE1_any {w : World} {base z be bt : Nat} {vT vL vW v : Value} {vs : List Value} {m : ZM} {l : List Int} {r : List (List Int)} (h : ZS w base z be bt vT vL vW (v :: vs) m) (i : Int) (hn : 3 ≤ m.loop.length) (hn' : m.loop.length ≤ 900000) (hw : m.waits = l :: r) (hr : r.length ≤ 900000) :
    Calls Try.prog 41 #[.pointer (some ⟨z, 0, none⟩), .int .u8 69, .int .i64 i] w fun en w' => en = .returned (.int .i64 (m.loop.getD 2 0)) ∧ (∃ vL' vW', ZS w' base z be bt vT vL' vW' vs { m with loop := l, waits := r }) ∧ Below base w w' := by
  obtain ⟨nE, nS, hnE, hnS, h⟩ := h
  have hzl := h.blk.lt
  have hR := h.R
  rw [hw] at hR
  obtain ⟨hR1, hR2⟩ := hR.tail
  obtain ⟨av, cv, rfl, -, -⟩ := row_form hR2
  have hA := h.drew.drew.put (vL' := .slice av l.length cv) (vW' := vW) (vs' := .slice av l.length cv :: vs) (m' := { m with loop := l }) 2 (.slice av l.length cv) rfl rfl hR2 h.W h.R
  have hW := hA.W
  have hRR := hA.R
  simp only at hRR
  rw [hw] at hRR
  simp only at hW
  rw [hw, List.length_cons, List.reverse_cons] at hW
  have hW0 := h.W
  rw [hw, List.length_cons, List.reverse_cons] at hW0
  obtain ⟨gw, cw, rfl⟩ := ownsRow_succ hW
  have hwl : vs.reverse.length = r.length := by have := hR1.1; simpa using this
  have hA2 := hA.put (vL' := .slice av l.length cv) (vW' := .slice (some ⟨gw, 0, none⟩) r.length cw) (vs' := vs) (m' := { m with loop := l, waits := r }) 3 (.slice (some ⟨gw, 0, none⟩) r.length cw) rfl rfl hA.L
    (cut_own hW (by simpa using hwl) (by omega)) hRR.tail.1
  have hBl : Below base w (((w.drew.drew).setCell ⟨z, 2, none⟩ (.slice av l.length cv)).setCell ⟨z, 3, none⟩ (.slice (some ⟨gw, 0, none⟩) r.length cw)) := (((Below.refl base w).drew.drew).setCell (p := ⟨z, 2, none⟩) h.hz _).setCell (p := ⟨z, 3, none⟩) h.hz _
  have q0 : w.cell? ⟨gw, r.length, none⟩ = some (.slice av l.length cv) := by
    rw [hW0.cellAt r.length (by omega), List.getElem?_append_right (by omega), hwl]
    simp
  obtain ⟨_, _, eq, hcw, hcw'⟩ := row_form hW0
  cases eq
  have hgwz : gw ≠ z := by simpa [Value.ownBlock] using own_blk_ne hW0 (by have := h.blk; exact this) (by decide)
  obtain ⟨-, c0, c1, c2, c3, c4, c5, fz⟩ := h.blk.six'
  have hL := h.L
  obtain ⟨g, cap, rfl, hcap, hcap'⟩ := loop_form hL (by omega)
  have hgz : g ≠ z := by simpa [Value.ownBlock] using own_blk_ne hL h.blk (by decide)
  have r0 := loop_cell (k := 2) hL (by omega) rfl
  have HA := Lib.hid hA2
  have HBl := Lib.hid hBl
  clear h hA hA2 hBl hW hRR hW0 hL hR hR1 hR2
  generalize m.loop.getD 2 0 = x at *
  generalize m.loop.length = n at *
  have d1 : IntKind.i64.wrap ((r.length : Int) + 1 - 1) = (r.length : Int) := by rw [IntWalk.i64_in _ (by omega)]; omega
  have d2 : IntKind.i64.wrap (r.length : Int) = (r.length : Int) := IntWalk.i64_in _ (by omega)
  have d3 : (0 : Int) ≤ (r.length : Int) := by omega
  have d4 : (r.length : Int) < (r.length : Int) + 1 := by omega
  have d5 : (r.length : Int) ≤ (cw : Int) := by omega
  have d6 : (0 : Int) < (r.length : Int) + 1 := by omega
  go_enter Try.func41, Try.ntmps41
  go_wp2
  go_region
  go_wp2
  go_region
  go_wp2
  go_ret
  exact ⟨rfl, ⟨_, _, nE, nS, hnE, hnS, HA.out⟩, HBl.out⟩

/-- A step, at any letter of a right word. -/
theorem step_any {w : World} {base z be bt : Nat} {vT vL vW : Value} {vs : List Value} {m : ZM} (h : ZS w base z be bt vT vL vW vs m) (c : Int) (i : Nat) (hc : c = 67 ∨ c = 69 ∨ c = 76 ∨ c = 82 ∨ c = 83) (hn : 3 ≤ m.loop.length) (hn' : m.loop.length ≤ 900000) (hN : m.n ≤ 900000) (hw : m.waits.length ≤ 900000)
    (hi : c = 83 → 1 ≤ i ∧ i < m.loop.length) :
    Calls Try.prog 41 #[.pointer (some ⟨z, 0, none⟩), .int .u8 c, .int .i64 (i : Int)] w fun en w' => en = .returned (.int .i64 (stepM c i m).1) ∧ (∃ vL' vW' vs', ZS w' base z be bt vT vL' vW' vs' (stepM c i m).2) ∧ Below base w w' := by
  rcases hc with rfl | rfl | rfl | rfl | rfl
  · refine (stepC_any h i hn hn' hN).mono ?_
    rintro en w' ⟨rfl, ⟨vL', h1⟩, h2⟩
    exact ⟨rfl, ⟨_, _, _, h1⟩, h2⟩
  · cases hws : m.waits with
    | nil =>
      refine (stepE0_any h i hn hn' hws).mono ?_
      rintro en w' ⟨rfl, h1, h2⟩
      have e : stepM 69 i m = (m.loop.getD 2 0, m) := by simp [stepM, hws]
      rw [e]
      exact ⟨rfl, ⟨_, _, _, h1⟩, h2⟩
    | cons l r =>
      obtain ⟨v, vr, rfl⟩ : ∃ v vr, vs = v :: vr := by
        obtain ⟨nE, nS, -, -, h3⟩ := h
        have h4 := h3.R.1
        rw [hws] at h4
        cases vs with
        | nil => simp at h4
        | cons v vr => exact ⟨v, vr, rfl⟩
      refine (stepE1_any h i hn hn' hws (by rw [hws] at hw; simp at hw; omega)).mono ?_
      rintro en w' ⟨rfl, ⟨vL', vW', h1⟩, h2⟩
      have e : stepM 69 i m = (m.loop.getD 2 0, { m with loop := l, waits := r }) := by simp [stepM, hws]
      rw [e]
      exact ⟨rfl, ⟨_, _, _, h1⟩, h2⟩
  · refine (stepL_any h i hn hn').mono ?_
    rintro en w' ⟨rfl, ⟨vL', h1⟩, h2⟩
    exact ⟨rfl, ⟨_, _, _, h1⟩, h2⟩
  · refine (stepR_any h i hn hn').mono ?_
    rintro en w' ⟨rfl, ⟨vL', h1⟩, h2⟩
    exact ⟨rfl, ⟨_, _, _, h1⟩, h2⟩
  · refine (stepS_any h i hn hn' (hi rfl).1 (hi rfl).2 hw).mono ?_
    rintro en w' ⟨rfl, h1, h2⟩
    exact ⟨rfl, h1, h2⟩
end Go.Proofs.Ytpnkhgjjlionnaa.Zp
namespace Go.Proofs.Ytpnkhgjjlionnaa.Zp
open Go.RowKit Go.Maps
attribute [local go_sem ↓] Go.wp_at_zero Go.wp_at_succ

/-- Places, as cells. -/
def natCells (ps : List Nat) : List Value := ps.map fun p => .int .i64 (p : Nat)
/-- The map of zip.seconds. -/
def SecMap (w : World) (b : Nat) (zs : List Int) : Prop := ∃ n f, MapI Try.prog 3 3 .i64 .i64 w b n f ∧ n ≤ zs.length ∧ ∀ j (hj : j < zs.length), zs[j] = 83 → Second zs j (f j)

theorem slice_form {w : World} {base : Nat} {e : TypeId} {size n : Nat} {v : Value} {xs : List Value} (h : w.ownsRow base e size v n xs) : ∃ a c, v = .slice a n c ∧ n ≤ c ∧ c ≤ maxLen := by
  rcases h.2 with ⟨rfl, h0⟩ | ⟨g, cap, cur, rfl, _, _, hn, hm, _⟩
  · exact ⟨none, 0, by rw [h0], by omega, by unfold maxLen; omega⟩
  · exact ⟨_, _, rfl, hn, hm⟩
structure SecRel (w wr : World) (zs : List Int) (v4 v5 : Value) (k : Nat) : Prop where
  ex : ∃ ps f, SecInv zs k ps f ∧ MapI Try.prog 3 3 .i64 .i64 wr w.heap.size (zs.length - k) f ∧ wr.ownsRow (w.heap.size + 1) 3 1 v4 ps.length (natCells ps.reverse) ∧ wr.ownsRow (w.heap.size + 1) 3 1 v5 ps.length (natCells (endsOf zs.length ps).reverse) ∧ (v4.ownBlock = none ∨ v4.ownBlock ≠ v5.ownBlock) ∧ ps.length ≤ zs.length
  below : Below w.heap.size w wr
  size : w.heap.size + 1 ≤ wr.heap.size

/-- Two rows that are the call's own and lie apart, appended to one after the other. -/
theorem two_rows {base : Nat} {wr X W4 X' W5 : World} {b4 b5 : Option Nat} {e : TypeId} {g4 n4 cap4 g5 n5 cap5 : Nat} {xs4 xs5 : List Value} (hX : wr.grownBy X none) (hg4 : X.grownBy W4 b4) (hX' : W4.grownBy X' none) (hg5 : X'.grownBy W5 b5)
    (hr4 : W4.ownsRow base e 1 (.slice (some ⟨g4, 0, none⟩) n4 cap4) n4 xs4) (hr5 : W5.ownsRow base e 1 (.slice (some ⟨g5, 0, none⟩) n5 cap5) n5 xs5) (hat4 : b4 = some g4 ∨ g4 = X.heap.size) (hat5 : b5 = some g5 ∨ g5 = X'.heap.size)
    (hb4 : ∀ j, b4 = some j → base ≤ j ∧ j < wr.heap.size) (hb5 : ∀ j, b5 = some j → base ≤ j ∧ j < wr.heap.size) (hne : b5 = none ∨ b5 ≠ b4) (hlt4 : g4 < W4.heap.size) :
    W5.ownsRow base e 1 (.slice (some ⟨g4, 0, none⟩) n4 cap4) n4 xs4 ∧ some g4 ≠ some g5 ∧ (∀ b, b < wr.heap.size → b < base → W5.heap[b]? = wr.heap[b]?) ∧ wr.heap.size ≤ W5.heap.size ∧ W5.os = wr.os ∧ W5.tape = wr.tape ∧ W5.output = wr.output := by
  have s1 := hX.size
  have s2 := hg4.size
  have s3 := hX'.size
  have s4 := hg5.size
  have hne4 : b5 ≠ some g4 := by
    rintro rfl
    rcases hat4 with h | h
    · subst h; simp at hne
    · have := (hb5 g4 rfl).2; omega
  refine ⟨(hr4.kept hX' (.inr (by simp [Value.ownBlock]))).kept hg5 (.inr (by simpa [Value.ownBlock] using fun h => hne4 h.symm)), ?_, ?_, by omega, ?_, ?_, ?_⟩
  · rintro h
    cases h
    rcases hat5 with h | h
    · exact hne4 h
    · omega
  · intro b hb hbb
    rw [hg5.block b (by omega) (by intro h; have := (hb5 b h.symm).1; omega), hX'.block b (by omega) (by simp), hg4.block b (by omega) (by intro h; have := (hb4 b h.symm).1; omega), hX.block b hb (by simp)]
  · rw [hg5.os, hX'.os, hg4.os, hX.os]
  · rw [hg5.tape, hX'.tape, hg4.tape, hX.tape]
  · rw [hg5.output, hX'.output, hg4.output, hX.output]
theorem _root_.Go.Proofs.Ytpnkhgjjlionnaa.MapI.block {P : Program} {k e : TypeId} {qk q : IntKind} {w w' : World} {b n : Nat} {f : Int → Int} (h : MapI P k e qk q w b n f) (hb : w'.heap[b]? = w.heap[b]?) : MapI P k e qk q w' b n f := by
  obtain ⟨D, ⟨es, clock, hh, hr⟩, h2⟩ := h
  exact ⟨D, ⟨es, clock, hb.trans hh, hr⟩, h2⟩
theorem SecInv.le {zs l : List Int} {k : Nat} {ps : List Nat} {f : Int → Int} (h : SecInv zs k ps f) (hl : stAt zs k = some l) : ps.length ≤ zs.length := by
  have h1 := h.len l hl
  have h2 := (ref24Run_some hl).2
  simp at h2
  omega
theorem SecInv.one {zs l : List Int} {k : Nat} {ps : List Nat} {f : Int → Int} (h : SecInv zs (k + 1) ps f) (hk : k < zs.length) (hl : stAt zs k = some l) (hc : zs[k] ≠ 69) : ∃ p r, ps = p :: r := by
  have hs := stAt_step zs k hk
  rw [hl] at hs
  cases hq : stAt zs (k + 1) with
  | none => rw [hq] at hs; cases hs
  | some l1 =>
    rw [hq] at hs
    have hlen := h.len l1 hq
    cases ps with
    | cons p r => exact ⟨p, r, rfl⟩
    | nil =>
      exfalso
      have : l1 = [] := by simpa using hlen.symm
      subst this
      simp [ref24Step, hc] at hs
theorem SecInv.two {zs l : List Int} {k : Nat} {ps : List Nat} {f : Int → Int} (h : SecInv zs (k + 1) ps f) (hk : k < zs.length) (hl : stAt zs k = some l) (hc : zs[k] = 83) : ∃ p1 p2 r, ps = p1 :: p2 :: r := by
  have hs := stAt_step zs k hk
  rw [hl] at hs
  cases hq : stAt zs (k + 1) with
  | none => rw [hq] at hs; cases hs
  | some l1 =>
    rw [hq, hc] at hs
    have hlen := h.len l1 hq
    match ps, hlen with
    | p1 :: p2 :: r, _ => exact ⟨p1, p2, r, rfl⟩
    | [p], hlen =>
      exfalso
      obtain ⟨x, rfl⟩ : ∃ x, l1 = [x] := by match l1, hlen with | [x], _ => exact ⟨x, rfl⟩
      simp [ref24Step] at hs
    | [], hlen =>
      exfalso
      have : l1 = [] := by simpa using hlen.symm
      subst this
      simp [ref24Step] at hs
theorem sec_done {w Z W5 : World} {zs l : List Int} {k n g4 n4 cap4 g5 n5 cap5 : Nat} {ps : List Nat} {f : Int → Int} {xs4 xs5 : List Value} (hB : Below w.heap.size w Z) (hsz : w.heap.size + 1 ≤ Z.heap.size) (hinv : SecInv zs k ps f) (hl : stAt zs k = some l)
    (hmap : MapI Try.prog 3 3 .i64 .i64 Z w.heap.size n f) (hn : n ≤ zs.length - k)
    (h : W5.ownsRow (w.heap.size + 1) 3 1 (.slice (some ⟨g4, 0, none⟩) n4 cap4) n4 xs4 ∧ some g4 ≠ some g5 ∧ (∀ b, b < Z.heap.size → b < w.heap.size + 1 → W5.heap[b]? = Z.heap[b]?) ∧ Z.heap.size ≤ W5.heap.size ∧ W5.os = Z.os ∧ W5.tape = Z.tape ∧ W5.output = Z.output)
    (hr5 : W5.ownsRow (w.heap.size + 1) 3 1 (.slice (some ⟨g5, 0, none⟩) n5 cap5) n5 xs5) (e4 : n4 = ps.length) (e5 : n5 = ps.length) (ex4 : xs4 = natCells ps.reverse) (ex5 : xs5 = natCells (endsOf zs.length ps).reverse) :
    SecRel w W5 zs (.slice (some ⟨g4, 0, none⟩) n4 cap4) (.slice (some ⟨g5, 0, none⟩) n5 cap5) k := by
  subst e4 e5 ex4 ex5
  obtain ⟨h1, h2, h3, h4, h5, h6, h7⟩ := h
  exact ⟨⟨ps, f, hinv, (hmap.mono hn).block (h3 _ (by omega) (by omega)), h1, hr5, .inr (by simpa [Value.ownBlock] using h2), hinv.le hl⟩, hB.trans ⟨h5, h6, h7, h4, fun b hb => h3 b (by omega) (by omega)⟩, by omega⟩
set_option maxRecDepth 100000 in
set_option maxHeartbeats 1000000 in
theorem seconds_any (s : ByteArray) (hs : s.size ≤ 1000000) (l0 : List Int) (h0 : ref24Run (lettersOf s).reverse = some l0) (w : World) :
    Calls Try.prog 39 #[.string s] w fun e w' => e = .returned (.map (some w.heap.size)) ∧ SecMap w' w.heap.size (lettersOf s) ∧ Below w.heap.size w w' := by
  have hmm := @run_makeMap Try.prog
  have Hl := Lib.hid (lettersOf_length s)
  have Hst := Lib.hid (stAt_some h0)
  obtain ⟨i1, hi', hy0, hy1, hy2⟩ := info_parts info_int
  clear h0
  go_enter Try.func39, Try.ntmps39
  go_wp2
  clear hmm
  go_loopw [4, 5, 6] (fun v4 v5 i wr => ∃ (k : Nat) (v4' v5' : Value), v4' = v4 ∧ v5' = v5 ∧ k ≤ s.size ∧ i = .int .i64 ((k : Int) - 1) ∧ SecRel w wr (lettersOf s) v4' v5' k) (fun _ _ i _ => (intOf i + 1).toNat)
  case atStart =>
    refine ⟨s.size, _, _, rfl, rfl, Nat.le_refl _, rfl, ⟨⟨[], fun _ => 0, ?_, ?_, World.ownsRow_nil _ _ _ _, World.ownsRow_nil _ _ _ _, .inl rfl, Nat.zero_le _⟩, (Below.refl _ _).alloc (Nat.le_refl _) _, by simp⟩⟩
    · rw [← Hl.out]; exact SecInv.start _ _
    · rw [Hl.out, Nat.sub_self]; exact MapI.made _ _ _ _ _ _
  case round =>
    obtain ⟨k1, v4, v5, rfl, rfl, hk, rfl, ⟨ps, f, hinv, hmap, ho4, ho5, hne, hpl⟩, hB, hsz⟩ := hrel
    have hpl1 : ps.length ≤ 1000000 := by rw [Hl.out] at hpl; omega
    rcases k1 with _ | k
    · go_wp2
      go_ret
      refine ⟨rfl, ⟨_, f, hmap, Nat.sub_le _ _, fun j hj hz => hinv.map j hj (Nat.zero_le _) hz⟩, hB⟩
    · have hkl : k < (lettersOf s).length := by rw [Hl.out]; omega
      obtain ⟨l, hl⟩ := Hst.out k (by omega)
      obtain ⟨l1, hl1⟩ := Hst.out (k + 1) (by omega)
      have hat := letter_at s k (by omega)
      have hee := hinv.ends_
      have e1 : ((k + 1 : Nat) : Int) - 1 = (k : Int) := by omega
      rw [e1]
      have Hinv := Lib.hid hinv
      have HL := Lib.hid hl
      have HL1 := Lib.hid hl1
      have Hat := Lib.hid hat
      have Hee := Lib.hid hee
      have c3 : ps.length + 1 ≤ maxLen := by unfold maxLen; omega
      have c4 : (ps.length + 1) * 8 ≤ 140737488355328 := by omega
      clear e1 hinv hl hl1 hat hee hpl
      have hne' : v5.ownBlock = none ∨ v5.ownBlock ≠ v4.ownBlock := by
        rcases hne with h | h
        · rw [h]; cases v5.ownBlock <;> simp
        · exact .inr (Ne.symm h)
      obtain ⟨a4, p4, rfl, hn4, hm4⟩ := slice_form ho4
      obtain ⟨a5, p5, rfl, hn5, hm5⟩ := slice_form ho5
      by_cases hE : (s[k]'(by omega)).toNat = 69
      · have hE' : ((s[k]'(by omega)).toNat : Int) = 69 := by omega
        go_wp2_with (first
          | (at_builtin; refine wpList_append_lies _ rfl (.tmp 28) (.tmp 30) 35 rfl (w.heap.size + 1) 3 i1 _ 1 8 Try.underlying35 hi' hy0 hy1 hy2 rfl (by decide) _ _ _ rfl (ho4.alloc _) ⟨wr.heap.size, 0, none⟩ 1 1 [.int .i64 k] rfl rfl (World.news_of_block (heap_alloc_new _ _)) (by simp [Value.oneCell']) (by decide) c3 c4 (by simp; omega) (wr.heap.size + 1) (by simp) ?_; intro g4 cap4 W4 hr4 hg4 hat4 hlt4)
          | (at_builtin; refine wpList_append_lies _ rfl (.tmp 32) (.tmp 35) 35 rfl (w.heap.size + 1) 3 i1 _ 1 8 Try.underlying35 hi' hy0 hy1 hy2 rfl (by decide) _ _ _ rfl (((ho5.alloc _).kept hg4 hne').alloc _) ⟨W4.heap.size, 0, none⟩ 1 1 [.int .i64 (k + 1)] rfl rfl (World.news_of_block (heap_alloc_new _ _)) (by simp [Value.oneCell']) (by decide) c3 c4 (by have := hg4.size; simp at this ⊢; omega) (W4.heap.size + 1) (by simp) ?_; intro g5 cap5 W5 hr5 hg5 hat5 hlt5))
        go_roundw
        case measure => simp [intOf]
        case rel =>
          have hc := two_rows (World.grownBy_alloc wr _ none) hg4 (World.grownBy_alloc W4 _ none) hg5 hr4 hr5 (by simpa using hat4) (by simpa using hat5) (fun j e => ⟨(ho4.lt j e).1, (ho4.lt j e).2⟩) (fun j e => ⟨(ho5.lt j e).1, (ho5.lt j e).2⟩) hne' hlt4
          refine ⟨k, _, _, rfl, rfl, by omega, rfl, sec_done hB hsz (Hinv.out.stE hkl HL1.out (by rw [Hat.out]; exact hE')) HL.out hmap (by omega) hc hr5 (by simp) (by simp) ?_ ?_⟩
          · simp [natCells]
          · rw [Hee.out]; simp [natCells]
      · have hE' : ¬ ((s[k]'(by omega)).toNat : Int) = 69 := by omega
        have hEb : (((s[k]'(by omega)).toNat : Int) == 69) = false := by simpa using hE'
        obtain ⟨q0, r0, rfl⟩ := Hinv.out.one hkl HL.out (by rw [Hat.out]; exact hE')
        obtain ⟨g4, rfl, hg4b, hg4l⟩ : ∃ g, a4 = some ⟨g, 0, none⟩ ∧ w.heap.size + 1 ≤ g ∧ g < wr.heap.size := by
          obtain ⟨g, cap, e, h1, h2⟩ := ho4.form (by simp)
          cases e; exact ⟨g, rfl, h1, h2⟩
        obtain ⟨g5, rfl, hg5b, hg5l⟩ : ∃ g, a5 = some ⟨g, 0, none⟩ ∧ w.heap.size + 1 ≤ g ∧ g < wr.heap.size := by
          obtain ⟨g, cap, e, h1, h2⟩ := ho5.form (by simp)
          cases e; exact ⟨g, rfl, h1, h2⟩
        have hgg : g5 ≠ g4 := by simpa [Value.ownBlock] using hne'
        clear hE
        by_cases hS : (s[k]'(by omega)).toNat = 83
        · have hS' : ((s[k]'(by omega)).toNat : Int) = 83 := by omega
          clear hS
          obtain ⟨p1, p2, r, hpr⟩ := Hinv.out.two hkl HL.out (by rw [Hat.out]; exact hS')
          obtain ⟨rfl, rfl⟩ : q0 = p1 ∧ r0 = p2 :: r := by simpa using hpr
          clear hpr
          obtain ⟨e, t, het⟩ : ∃ e t, r ++ [(lettersOf s).length] = e :: t := by cases r <;> simp
          have htl : t.length = r.length := by have := congrArg List.length het; simp at this; omega
          have hends : endsOf (lettersOf s).length (q0 :: p2 :: r) = p2 :: e :: t := by simp [endsOf, het]
          rw [hends] at ho5
          have k0 : wr.cell? ⟨g5, r.length + 1, none⟩ = some (.int .i64 (p2 : Nat)) := by
            rw [ho5.cellAt (r.length + 1) (by simp)]; simp [natCells, ← htl]
          have k1 : wr.cell? ⟨g5, r.length, none⟩ = some (.int .i64 (e : Nat)) := by
            rw [ho5.cellAt r.length (by simp; omega)]; simp [natCells, ← htl]
          have hp2 : p2 ≤ 1000000 := by
            have := Hinv.out.at_ l1 HL1.out 1 (by simp)
            simp at this
            have := this.2.1
            rw [Hl.out] at this
            omega
          have hmn : (lettersOf s).length - (k + 1) < maxLen := by rw [Hl.out]; unfold maxLen; omega
          have hl3 : r.length ≤ 1000000 := by simp at hpl1; omega
          simp only [List.length_cons] at hpl1 hn4 hn5 ho4 ho5 ⊢
          go_wp2_with (first
            | (at_mapUpdate; refine wpList_storeI hmap rfl _ _ _ 73 rfl Try.underlying3 Try.underlying73 Try.underlying3 hmn rfl _ _ rfl rfl (WalkArith.wf_i64 (by omega)) (WalkArith.wf_i64 (by omega)) ?_; intro w1 hm1 hgm))
          have ho4m := ho4.kept hgm (.inr (by simp [Value.ownBlock]; omega))
          have ho5m := ho5.kept hgm (.inr (by simp [Value.ownBlock]; omega))
          have k1m : w1.cell? ⟨g5, r.length, none⟩ = some (.int .i64 (e : Nat)) := hgm.cell k1 (by simp; omega)
          have hcut4 : w1.ownsRow (w.heap.size + 1) 3 1 (.slice (some ⟨g4, 0, none⟩) r.length p4) r.length (natCells r.reverse) := by
            have e3 : natCells (q0 :: p2 :: r).reverse = natCells r.reverse ++ [.int .i64 (p2 : Nat), .int .i64 (q0 : Nat)] := by simp [natCells]
            rw [e3] at ho4m
            exact cut_own ho4m (by simp [natCells]) (by omega)
          have hcut5 : w1.ownsRow (w.heap.size + 1) 3 1 (.slice (some ⟨g5, 0, none⟩) r.length p5) r.length (natCells t.reverse) := by
            have e3 : natCells (p2 :: e :: t).reverse = natCells t.reverse ++ [.int .i64 (e : Nat), .int .i64 (p2 : Nat)] := by simp [natCells]
            rw [e3] at ho5m
            exact cut_own ho5m (by simp [natCells, htl]) (by omega)
          have hsz1 := hgm.size
          have hBm : Below w.heap.size w w1 := hB.grown hgm hB.size (fun j e => by cases e; exact Nat.le_refl _)
          have Het := Lib.hid het
          have Hm1 := Lib.hid hm1
          have HBm := Lib.hid hBm
          have H1 := Lib.hid hpl1
          clear ho4 ho5 ho4m ho5m hm1 hBm hB hmap k0 k1 hne hne' hpl1 c3 c4 hends het
          have d1 : IntKind.i64.wrap ((r.length : Int) + 1 + 1 - 2) = (r.length : Int) := by rw [IntWalk.i64_in _ (by omega)]; omega
          have d2 : (0 : Int) ≤ (r.length : Int) := by omega
          have d3 : (r.length : Int) ≤ (p4 : Int) := by omega
          have d4 : (r.length : Int) ≤ (p5 : Int) := by omega
          have d5 : (r.length : Int) < (r.length : Int) + 1 + 1 := by omega
          have c5 : r.length + 1 ≤ maxLen := by unfold maxLen; omega
          have c6 : (r.length + 1) * 8 ≤ 140737488355328 := by omega
          have hgg' := hgg
          have hg5l1 : g5 < w1.heap.size := by omega
          have hg4l1 : g4 < w1.heap.size := by omega
          have nA : Blk ((w1.alloc (.cells #[.int .i64 (k : Nat)] 3)).alloc (.cells #[.int .i64 (e : Nat)] 3)).drew (w1.heap.size + 1) 3 #[.int .i64 (e : Nat)] := by
            have := Blk.new (w1.alloc (.cells #[.int .i64 (k : Nat)] 3)) 3 #[.int .i64 (e : Nat)]
            rw [size_alloc'] at this
            exact this.drew
          have nB : Blk ((w1.alloc (.cells #[.int .i64 (e : Nat)] 3)).alloc (.cells #[.int .i64 (k : Nat)] 3)).drew w1.heap.size 3 #[.int .i64 (e : Nat)] := ((Blk.new _ _ _).alloc _).drew
          have nC : Blk ((w1.alloc (.cells #[.int .i64 (e : Nat)] 3)).alloc (.cells #[.int .i64 (k : Nat)] 3)).drew (w1.heap.size + 1) 3 #[.int .i64 (k : Nat)] := by
            have := Blk.new (w1.alloc (.cells #[.int .i64 (e : Nat)] 3)) 3 #[.int .i64 (k : Nat)]
            rw [size_alloc'] at this
            exact this.drew
          have NC := Lib.hid nC
          clear nC
          have NA := Lib.hid nA
          have NB := Lib.hid nB
          clear nA nB
          go_region_law
            ((first
              | (refine step_append_lies _ (by rfl) (.tmp 49) (.tmp 51) 35 (by rfl) (w.heap.size + 1) 3 i1 _ 1 8 Try.underlying35 hi' hy0 hy1 hy2 (by rfl) (by decide) (.slice (some ⟨g4, 0, none⟩) r.length p4) r.length (natCells r.reverse) (by rfl) (by first | exact hcut4.alloc _ | exact (hcut4.alloc _).alloc _) _ 1 1 [.int .i64 (k : Nat)] (by rfl) (by rfl) (by first | exact World.news_of_block (heap_alloc_new _ _) | exact World.news_of_block (Blk.alloc (Blk.new _ _ _) _) | exact World.news_of_block NC.out) (by simp [Value.oneCell']) (by decide) c5 c6 (by simp; omega) _ rfl ?_; intro g4' cap4' W4 hr4 hg4 hat4 hlt4; have kW := hg4.cell (a := ⟨g5, r.length, none⟩) (v := .int .i64 (e : Nat)) (by first | exact (World.cell?_alloc_lt _ _ _ (by simp; omega)).trans k1m | exact (World.cell?_alloc_lt _ _ _ (by simp; omega)).trans ((World.cell?_alloc_lt _ _ _ (by simp; omega)).trans k1m)) (by simpa [Value.ownBlock] using hgg'))
              | (refine step_append_lies _ (by rfl) (.tmp 56) (.tmp 62) 35 (by rfl) (w.heap.size + 1) 3 i1 _ 1 8 Try.underlying35 hi' hy0 hy1 hy2 (by rfl) (by decide) (.slice (some ⟨g5, 0, none⟩) r.length p5) r.length (natCells t.reverse) (by rfl) (by first | exact ((hcut5.alloc _).drew.kept hg4 (.inr (by simpa [Value.ownBlock] using hgg'))).alloc _ | exact ((hcut5.drew.alloc _).kept hg4 (.inr (by simpa [Value.ownBlock] using hgg'))).alloc _ | exact ((hcut5.alloc _).alloc _).drew.kept hg4 (.inr (by simpa [Value.ownBlock] using hgg')) | exact ((hcut5.drew.alloc _).alloc _).kept hg4 (.inr (by simpa [Value.ownBlock] using hgg'))) _ 1 1 [.int .i64 (e : Nat)] (by rfl) (by rfl) (by first | exact World.news_of_block (heap_alloc_new _ _) | exact World.news_of_block (NA.out.grown hg4 (by simp [Value.ownBlock]; omega)) | exact World.news_of_block (NB.out.grown hg4 (by simp [Value.ownBlock]; omega))) (by simp [Value.oneCell']) (by decide) c5 c6 (by have := hg4.size; simp at this ⊢; omega) _ rfl ?_; intro g5' cap5' W5 hr5 hg5 hat5 hlt5)))
          all_goals
            go_wp2
            go_roundw
            case measure => simp [intOf]
            case rel =>
              have hc := two_rows (base := w.heap.size + 1) (wr := w1) (by first | exact gDrew (gAlloc (World.grownBy.refl _ _) _) | exact gDrew (gAlloc (gAlloc (World.grownBy.refl _ _) _) _)) hg4 (by first | exact gAlloc (World.grownBy.refl _ _) _ | exact World.grownBy.refl _ _) hg5 hr4 hr5 hat4 hat5
                (fun j e => by simp [Value.ownBlock] at e; omega) (fun j e => by simp [Value.ownBlock] at e; omega) (.inr (by simpa [Value.ownBlock] using hgg)) hlt4
              refine ⟨k, _, _, rfl, rfl, by omega, rfl, sec_done HBm.out (by omega) (Hinv.out.stS hkl HL.out (by rw [Hat.out]; exact hS')) HL.out Hm1.out (by omega) hc hr5 (by simp) (by simp) ?_ ?_⟩
              · simp [natCells]
              · rw [show endsOf (lettersOf s).length (k :: r) = e :: t from Het.out]; simp [natCells]
        · have hS' : ¬ ((s[k]'(by omega)).toNat : Int) = 83 := by omega
          have hSb : (((s[k]'(by omega)).toNat : Int) == 83) = false := by simpa using hS'
          clear hS
          have k0 : wr.cell? ⟨g4, r0.length, none⟩ = some (.int .i64 (q0 : Nat)) := by
            rw [ho4.cellAt r0.length (by simp)]; simp [natCells]
          have f0 := ho4.frozenAt r0.length
          have hl3 : r0.length ≤ 1000000 := by simp at hpl1; omega
          simp only [List.length_cons] at hpl1 hn4 hn5 ho4 ho5 ⊢
          go_wp2
          go_roundw
          case measure => simp [intOf]
          case rel =>
            have hst := ho4.stored r0.length (.int .i64 (k : Nat))
            have e4 : (natCells (q0 :: r0).reverse).set r0.length (.int .i64 (k : Nat)) = natCells (k :: r0).reverse := by
              simp [natCells]
            rw [e4] at hst
            obtain ⟨hs4, hg4⟩ := hst
            have hinv' := Hinv.out.st1 hkl HL.out (by rw [Hat.out]; exact hE') (by rw [Hat.out]; exact hS')
            exact ⟨k, _, _, rfl, rfl, by omega, rfl, ⟨⟨k :: r0, f, hinv', (hmap.mono (by omega)).kept hg4 (by simp; omega), hs4, ho5.kept hg4 (.inr (by simpa [Value.ownBlock] using hgg)), .inr (by simpa [Value.ownBlock] using Ne.symm hgg), hinv'.le HL.out⟩, hB.grown hg4 hB.size (fun j e => by cases e; omega), by have := hg4.size; omega⟩⟩
end Go.Proofs.Ytpnkhgjjlionnaa.Zp
namespace Go.Proofs.Ytpnkhgjjlionnaa.Zp
open Go.RowKit Go.Maps

theorem zero_int (w : World) : (zeroValue 3).run Try.prog w = .ok (.int .i64 0) w := by kernel_rfl
/-- How often each letter stands in a text; what is no letter is not counted. -/
def wcountF (zs : List Int) (c : Int) : Int := if codeN c = 0 then 0 else cnt zs c
theorem wcountF_snoc (zs : List Int) (z : Int) : wcountF (zs ++ [z]) = if codeN z = 0 then wcountF zs else fun y => if y = z then wcountF zs z + 1 else wcountF zs y := by
  by_cases hz : codeN z = 0
  · rw [if_pos hz]
    funext y
    unfold wcountF
    by_cases hy : codeN y = 0
    · rw [if_pos hy, if_pos hy]
    · rw [if_neg hy, if_neg hy, cnt_snoc, if_neg (by rintro rfl; exact hy hz)]
  · rw [if_neg hz]
    funext y
    unfold wcountF
    by_cases hy : codeN y = 0
    · rw [if_pos hy, if_pos hy, if_neg (by rintro rfl; exact hz hy)]
    · rw [if_neg hy, if_neg hy, cnt_snoc, if_neg hz]
      by_cases h : z = y
      · subst h; simp
      · rw [if_neg h, if_neg (fun e => h e.symm)]
theorem wcountF_le (zs : List Int) (c : Int) : 0 ≤ wcountF zs c ∧ wcountF zs c ≤ zs.length := by
  have := cnt_le zs c
  unfold wcountF
  split <;> omega
theorem lettersOf_byte (s : ByteArray) (j : Nat) (hj : j < (lettersOf s).length) : (Lit.int .u8 ((lettersOf s)[j])).wf = true := by
  have hj' : j < s.data.size := by simpa [lettersOf] using hj
  have : (lettersOf s)[j] = ((s.data[j]).toNat : Int) := by simp [lettersOf]
  rw [this]
  have h2 := (s.data[j]).toNat_lt
  have h3 : IntKind.u8.min = 0 := by decide
  have h4 : IntKind.u8.max = 255 := by decide
  simp [Lit.wf, h3, h4]
  omega
/-- The map of these numbers. -/
def WCount (w : World) (b : Nat) (zs : List Int) : Prop := MapI Try.prog 5 3 .u8 .i64 w b zs.length (wcountF zs)
set_option maxRecDepth 100000 in
set_option maxHeartbeats 1000000 in
theorem wcount_any (s : ByteArray) (hs : s.size ≤ 1000000) (w : World) :
    Calls Try.prog 37 #[.string s] w fun e w' => e = .returned (.map (some w.heap.size)) ∧ WCount w' w.heap.size (lettersOf s) ∧ Below w.heap.size w w' := by
  have hmm := @run_makeMap Try.prog
  have hcv : ∀ W, (convert 9 119 (.string s)).run Try.prog W = .ok (.slice (some ⟨W.heap.size, 0, none⟩) s.size (grownCap W s.size 0 5)) (Lib.bytesWorld W 5 s) :=
    fun W => Lib.run_convert_string_bytes W _ _ _ s Try.underlying9 Try.underlying119 Try.underlying5
  have hf := bytes_facts (w.alloc (.map #[] 0)) 5 s
  have hm0 := MapI.made w Try.prog 5 3 .u8 .i64
  have hB0 : Below w.heap.size w (w.alloc (.map #[] 0)) := (Below.refl _ _).alloc (Nat.le_refl _) _
  go_enter Try.func37, Try.ntmps37
  go_wp2
  generalize grownCap _ _ _ _ = cap
  generalize hW1 : Lib.bytesWorld _ _ _ = W1 at hf ⊢
  obtain ⟨hz, hg, hcell, -⟩ := hf
  clear hW1 hcv hmm
  have hB1 : Below w.heap.size w W1 := hB0.trans (below_of_grown hg (by simp) (by simp))
  have hm1 := hm0.kept hg (by simp)
  have hl := lettersOf_length s
  rw [← hl]
  have hlen : (lettersOf s).length ≤ 1000000 := by omega
  have hby := lettersOf_byte s
  generalize hzs : lettersOf s = zs at *
  have Hby : ∀ j (hj : j < zs.length), (Lit.int .u8 zs[j]).wf = true := hby
  clear hby
  have Hl := Lib.hid hl
  have Hzs := Lib.hid hzs
  rw [size_alloc'] at hz hcell
  clear hl hg hzs hm0 hB0
  go_loopw [12] (fun i wr => ∃ k : Nat, k ≤ zs.length ∧ i = .int .i64 k ∧ MapI Try.prog 5 3 .u8 .i64 wr w.heap.size k (wcountF (zs.take k)) ∧ Below w.heap.size w wr ∧ ∀ j, j < zs.length → wr.cell? ⟨w.heap.size + 1, j, none⟩ = some (.int .u8 (zs[j]?.getD 0))) (fun i _ => zs.length - (intOf i).toNat)
  case atStart =>
    refine ⟨0, Nat.zero_le _, rfl, ?_, hB1, hcell⟩
    have : wcountF (zs.take 0) = fun _ => 0 := by funext y; simp [wcountF, cnt]
    rw [this]
    exact hm1
  case round =>
    obtain ⟨k, hk, rfl, hm, hB, hc⟩ := hrel
    by_cases hlt : k < zs.length
    · have hc1 := hc k hlt
      have hts := take_snoc_int zs k hlt
      have hsn := wcountF_snoc (zs.take k) zs[k]
      rw [← hts] at hsn
      have hle := wcountF_le (zs.take k) zs[k]
      have hl3 : (zs.take k).length ≤ 1000000 := by rw [List.length_take]; omega
      have hwf := Hby k hlt
      have Hsn := Lib.hid hsn
      have Hc := Lib.hid hc
      have Hwf := Lib.hid hwf
      rw [List.getElem?_eq_getElem hlt, Option.getD_some] at hc1
      clear hts hsn hc hcell hwf
      by_cases h0 : codeN zs[k] = 0
      · have hcn : codeN zs[k] = 0 := h0
        have H0 := Lib.hid h0
        have hb : decide (0 < codeN zs[k]) = false := by simp [h0]
        clear h0
        go_wp2_with (go_at_call 74; refine (code_any _ _).mono ?_; rintro e w' ⟨rfl, rfl⟩)
        go_roundw
        case measure => simp [intOf]; omega
        case rel => exact ⟨k + 1, by omega, by go_num, by rw [Hsn.out, if_pos H0.out]; exact hm.mono (Nat.le_succ _), hB, Hc.out⟩
      · have hb : decide (0 < codeN zs[k]) = true := by have := codeN_le zs[k]; simp; omega
        have H0 := Lib.hid h0
        clear h0
        go_wp2_with (first
          | (go_at_call 74; refine (code_any _ _).mono ?_; rintro e w' ⟨rfl, rfl⟩)
          | (at_lookup; refine wpList_lookupI hm rfl _ _ 69 rfl Try.underlying5 Try.underlying69 Try.underlying3 (zero_int _) rfl _ rfl Hwf.out ?_)
          | (at_mapUpdate; refine wpList_storeI hm rfl _ _ _ 69 rfl Try.underlying5 Try.underlying69 Try.underlying3 (by unfold maxLen; omega) rfl _ _ rfl rfl Hwf.out (WalkArith.wf_i64 (by omega)) ?_; intro w1 hm1' hg1))
        go_roundw
        case measure => simp [intOf]; omega
        case rel => exact ⟨k + 1, by omega, by go_num, by rw [Hsn.out, if_neg H0.out]; exact hm1', hB.grown hg1 hB.size (fun j e => by cases e; omega), fun j hj => hg1.cell (Hc.out j hj) (by simp)⟩
    · obtain rfl : k = zs.length := by omega
      rw [List.take_length] at hm
      go_wp2
      go_ret
      refine ⟨rfl, ?_, hB⟩
      unfold WCount
      rw [Hzs.out]
      exact hm
end Go.Proofs.Ytpnkhgjjlionnaa.Zp
namespace Go.Proofs.Ytpnkhgjjlionnaa.Zp
open Go.RowKit
attribute [local go_sem] Oper.semAt_some

/-- One letter more, from behind: none where it is no letter, or the word is too short. -/
def begStep (st : List Span) (c : Int) : Option (List Span) :=
  if (wordM st c).2.1 = false ∨ (wordM st c).1.1 < 3 then none else some ((wordM st c).1 :: (wordM st c).2.2)
def begRun (cs : List Int) : Option (List Span) := cs.foldlM begStep []
def begEnd : List Span → Bool
  | [] => true
  | [x] => x.1 == 3 || (x.2 && decide (x.1 < 3))
  | _ => false
/-- What word.begins answers. -/
def beginsM (zs : List Int) : Bool :=
  match begRun zs.reverse with
  | none => false
  | some st => begEnd st
theorem begRun_snoc (cs : List Int) (c : Int) : begRun (cs ++ [c]) = (begRun cs).bind (fun p => begStep p c) := by
  simp [begRun, List.foldlM_append]
theorem begRun_some {cs : List Int} {st : List Span} (h : begRun cs = some st) : sumAbs st ≤ 8 * cs.length ∧ st.length ≤ cs.length := by
  suffices H : ∀ (cs : List Int) (p q : List Span), cs.foldlM begStep p = some q → sumAbs q ≤ sumAbs p + 8 * cs.length ∧ q.length ≤ p.length + cs.length by
    have := H cs _ _ h
    simpa [sumAbs] using this
  intro cs
  induction cs with
  | nil => intro p q h; simp at h; subst h; simp
  | cons c r ih =>
    intro p q h
    rw [List.foldlM_cons] at h
    cases hs : begStep p c with
    | none => rw [hs] at h; cases h
    | some p' =>
      rw [hs] at h
      have h' := ih p' q h
      have h1 := sumAbs_word p c
      have h2 := len_word p c
      unfold begStep at hs
      split at hs
      · cases hs
      · cases hs
        simp only [sumAbs, List.length_cons] at h' ⊢
        omega
theorem beginsM_of_run_none {zs : List Int} (h : ∃ k, begRun (zs.reverse.take k) = none) : beginsM zs = false := by
  obtain ⟨k, hk⟩ := h
  have : begRun zs.reverse = none := by
    rw [← List.take_append_drop k zs.reverse]
    unfold begRun at hk ⊢
    rw [List.foldlM_append, hk]
    rfl
  unfold beginsM
  rw [this]

/-- What the loop's rounds keep. -/
structure BegInv (w : World) (pre : List (Nat × Int)) (W : World) : Prop where
  run : ∃ st, begRun (pre.map (·.2)) = some st ∧ StackIn W w.heap.size W.heap.size (w.heap.size + 1) st
  res : Blk W w.heap.size 4 #[.bool false]
  byt : ∃ o, CellsT W (w.heap.size + 1 + 1) 5 o
  box : ∃ o, CellsT W (w.heap.size + 1 + 1 + 1) 119 o
  below : Below w.heap.size w W
theorem BegInv.calm {w W W' : World} {pre : List (Nat × Int)} {row : Option Nat} (h : BegInv w pre W) (hg : W.grownBy W' row) (hr : ∀ r, row = some r → w.heap.size ≤ r ∧ ∃ o : Obj, W.heap[r]? = some o ∧ o.isCells = false) : BegInv w pre W' := by
  obtain ⟨⟨st, h1, h2⟩, h5, ⟨o8, h8⟩, ⟨o9, h9⟩, h7⟩ := h
  have hr' := fun r e => (hr r e).2
  exact ⟨⟨st, h1, (h2.calm hg hr').top hg.size⟩, h5.calm hg hr', ⟨_, h8.calm hg hr'⟩, ⟨_, h9.calm hg hr'⟩, h7.grown hg h7.size (fun k e => (hr k e).1)⟩
/-- How a round leaves. -/
structure BegOut (w : World) (c : Code) (pre : List (Nat × Int)) (W : World) : Prop where
  ret : c = .ret
  run : begRun (pre.map (·.2)) = none
  res : Blk W w.heap.size 4 #[.bool false]
  below : Below w.heap.size w W
theorem BegOut.calm {w W W' : World} {c : Code} {pre : List (Nat × Int)} {row : Option Nat} (h : BegOut w c pre W) (hg : W.grownBy W' row) (hr : ∀ r, row = some r → w.heap.size ≤ r ∧ ∃ o : Obj, W.heap[r]? = some o ∧ o.isCells = false) : BegOut w c pre W' := by
  obtain ⟨h1, h2, h5, h7⟩ := h
  have hr' := fun r e => (hr r e).2
  exact ⟨h1, h2, h5.calm hg hr', h7.grown hg h7.size (fun k e => (hr k e).1)⟩

set_option maxRecDepth 100000 in
set_option maxHeartbeats 1000000 in
theorem begins_any (s : ByteArray) (hs : s.size ≤ 1000000) (w : World) :
    Calls Try.prog 73 #[.string s] w fun e w' => e = .returned (.bool (beginsM (lettersOf s))) ∧ Below w.heap.size w w' := by
  have hcv : ∀ W, (convert 9 119 (.string s)).run Try.prog W = .ok (.slice (some ⟨W.heap.size, 0, none⟩) s.size (grownCap W s.size 0 5)) (Lib.bytesWorld W 5 s) :=
    fun W => Lib.run_convert_string_bytes W _ _ _ s Try.underlying9 Try.underlying119 Try.underlying5
  obtain ⟨i0, hi, hz0, hz1, hz2⟩ := info_parts info_span
  refine (callsIn_wide (n := 9)).1 ?_
  refine callsIn_of_wp_marks Try.func73 rfl trivial ?_ rfl
  simp only [Try.ntmps73, List.size_toArray, List.length_cons, List.length_nil, Nat.reduceAdd, Nat.reduceSub, Array.replicate_succ, Array.replicate_zero, List.push_toArray, List.append_toArray, List.nil_append, List.cons_append]
  have hf := bytes_facts ((w.alloc (.cells #[.bool false] 4)).alloc (.cells #[.slice none 0 0] 124)) 5 s
  obtain ⟨b0, b2, bB⟩ : ∃ _ : Blk ((w.alloc (.cells #[.bool false] 4)).alloc (.cells #[.slice none 0 0] 124)) w.heap.size 4 #[.bool false],
      ∃ _ : Blk ((w.alloc (.cells #[.bool false] 4)).alloc (.cells #[.slice none 0 0] 124)) (w.heap.size + 1) 124 #[.slice none 0 0],
      Below w.heap.size w ((w.alloc (.cells #[.bool false] 4)).alloc (.cells #[.slice none 0 0] 124)) := by
    refine ⟨(Blk.new _ _ _).alloc _, ?_, ((Below.refl _ _).alloc (Nat.le_refl _) _).alloc (by simp) _⟩
    have := Blk.new (w.alloc (.cells #[.bool false] 4)) 124 #[.slice none 0 0]
    rwa [size_alloc'] at this
  gi_wp2_with fail
  rw [size_alloc', size_alloc'] at hf
  generalize grownCap _ _ _ _ = cap
  generalize hW1 : Lib.bytesWorld _ _ _ = W1 at hf ⊢
  obtain ⟨hz, hg, hcell, C, fr, hbyt⟩ := hf
  clear hW1 hcv
  refine ⟨trivial, ?_⟩
  refine (back_in Fence.wide 8 trivial rfl _ _ _ _).mono ?_
  rintro e w' ⟨rfl, rfl⟩
  gi_wp2_with fail
  have hl := lettersOf_length s
  rw [← hl]
  have hBB := bB.trans (below_of_grown hg (by simp; omega) (by simp))
  have bx := Blk.new W1 119 #[.slice (some ⟨w.heap.size + 1 + 1, 0, none⟩) (lettersOf s).length cap]
  have hsz : (W1.alloc (.cells #[.slice (some ⟨w.heap.size + 1 + 1, 0, none⟩) (lettersOf s).length cap] 119)).heap.size = w.heap.size + 1 + 1 + 1 + 1 := by rw [size_alloc', hz]
  have hz' : W1.heap.size = w.heap.size + 1 + 1 + 1 := by rw [hz]
  rw [hz'] at bx
  try rw [hz']
  have h0 : BegInv w [] (W1.alloc (.cells #[.slice (some ⟨w.heap.size + 1 + 1, 0, none⟩) (lettersOf s).length cap] 119)) :=
    ⟨⟨[], rfl, StackIn.new _ ((b2.grown hg (by simp)).alloc _)⟩, (b0.grown hg (by simp)).alloc _, ⟨_, CellsT.alloc ⟨hbyt, _, _, rfl⟩ _⟩, ⟨_, bx.cellsT⟩, hBB.alloc (by omega) _⟩
  have hcb : ∀ j, j < (lettersOf s).length → (W1.alloc (.cells #[.slice (some ⟨w.heap.size + 1 + 1, 0, none⟩) (lettersOf s).length cap] 119)).cell? ⟨w.heap.size + 1 + 1, j, none⟩ = some (.int .u8 ((lettersOf s)[j]?.getD 0)) := fun j hj => (World.cell?_alloc_lt _ _ _ (by show w.heap.size + 1 + 1 < W1.heap.size; omega)).trans (hcell j hj)
  generalize (W1.alloc (.cells #[.slice (some ⟨w.heap.size + 1 + 1, 0, none⟩) (lettersOf s).length cap] 119)) = W2 at bx hsz h0 hcb ⊢
  clear hcell hBB hg b0 b2 bB hz hz'
  have hlen : (lettersOf s).length ≤ 1000000 := by omega
  generalize hzs : lettersOf s = zs at *
  have Hl := Lib.hid hl
  have Hzs := Lib.hid hzs
  clear hl hzs
  refine wpIn_rangeFunc_ownG rfl (by omega) (gf := 103) (lb := #[.pointer (some ⟨w.heap.size + 1 + 1 + 1, 0, none⟩)]) rfl trivial (enters_of Try.func103 (by kernel_rfl) rfl)
    (back_stops Fence.wide 8 trivial rfl (by omega) (w.heap.size + 1 + 1 + 1) (w.heap.size + 1 + 1) cap zs (by omega) W2 (by omega) (by omega) (bx.cell 0) hcb) KeepTwo.trans (KeepTwo.put (by omega) (by omega)) (Below.refl _ _) (fun _ => rfl)
    (BegInv w) (BegOut w) (fun _ _ _ _ h hg hr => h.calm hg (fun r e => ⟨by have := (hr r e).1; omega, (hr r e).2⟩)) (fun _ _ _ _ _ h hg hr => h.calm hg (fun r e => ⟨by have := (hr r e).1; omega, (hr r e).2⟩))
    h0
    (fun x => { tmps := List.toArray (.string s :: undef :: .pointer (some ⟨w.heap.size, 0, none⟩) :: .pointer (some ⟨w.heap.size + 1, 0, none⟩) :: undef :: .int .u8 x.2 :: undef :: undef :: .string s :: .slice (some ⟨w.heap.size + 1 + 1, 0, none⟩) zs.length cap :: .func (.func 103) #[] #[.pointer (some ⟨w.heap.size + 1 + 1 + 1, 0, none⟩)] :: .int .i64 (x.1 : Nat) :: .int .u8 x.2 :: undef :: undef :: undef :: undef :: undef :: undef :: undef :: undef :: undef :: undef :: undef :: undef :: undef :: undef :: undef :: undef :: undef :: undef :: undef :: undef :: undef :: undef :: undef :: undef :: undef :: undef :: undef :: undef :: undef :: undef :: undef :: undef :: undef :: undef :: undef :: undef :: undef :: undef :: undef :: undef :: undef :: undef :: []), defers := [] }) ?assign ?body ?done ?stop
  case assign =>
    intro l x W K hK
    gi_wp2
    exact hK
  case body =>
    rintro l pre x W ⟨⟨st, hrun, hst⟩, hb0, ⟨ob, hby⟩, ⟨ox, hbx⟩, hB⟩ hlt
    have hrs := begRun_some hrun
    have hsn := begRun_snoc (pre.map (·.2)) x.2
    rw [hrun] at hsn
    simp only [Option.bind_some] at hsn
    have hmap : (pre ++ [x]).map (·.2) = pre.map (·.2) ++ [x.2] := by simp
    rw [← hmap] at hsn
    have Hsn := Lib.hid hsn
    have Hrun := Lib.hid hrun
    clear hsn hmap hrun
    have hlen1 : pre.length ≤ 1000000 := by omega
    have hsum : sumAbs st ≤ 1000000000000 := by have := hrs.1; simp at this; omega
    have hstl : st.length ≤ 1000000 := by have := hrs.2; simp at this; omega
    clear hrs
    gi_wp2_with fail
    refine ⟨trivial, (CallsIn.inRound l (callsIn_wide.2 (word_any _ _ _ st x.2 W hst (Nat.le_refl _) hsum))).mono ?_⟩
    rintro e W3 ⟨rfl, hst3, hg3⟩
    have hB3 := below_of_grown hg3 hB.size (fun j e => by cases e; omega)
    have hb03 := hb0.grown hg3 (by simp)
    obtain ⟨v0, hv0, -⟩ := hst
    obtain ⟨v3, hv3, hr3, hH3⟩ := hst3
    obtain ⟨q0, q1, q2⟩ := hb03.one
    obtain ⟨s0, s1, s2⟩ := hv3.one
    have hsz3 := hB3.size
    have hk3 : KeepsOthers W W3 := KeepsOthers.of_grownBy hg3 (isCells_of_blk hv0)
    by_cases hbad : (wordM st x.2).2.1 = false ∨ (wordM st x.2).1.1 < 3
    · have hnone : begRun ((pre ++ [x]).map (·.2)) = none := by rw [Hsn.out, begStep, if_pos hbad]
      have Hnone := Lib.hid hnone
      clear hnone
      have fin : ∀ (o : Obj), KeepsFrom W2.heap.size W ((W3.setCell ⟨w.heap.size, 0, none⟩ (.bool false)).alloc o) ∧ BegOut w .ret (pre ++ [x]) ((W3.setCell ⟨w.heap.size, 0, none⟩ (.bool false)).alloc o) := fun o =>
        ⟨((hk3.trans (KeepsOthers.setCell _ _ _)).trans (KeepsOthers.alloc _ _)) |>.from _,
          rfl, Hnone.out, (hb03.set1 _).alloc _, ((hB.trans hB3).setCell (p := ⟨w.heap.size, 0, none⟩) (Nat.le_refl _) _).alloc (by simp [World.setCell]; omega) _⟩
      cases h21 : (wordM st x.2).2.1
      · gi_wp2
        exact fin _
      · have hbad' : (wordM st x.2).1.1 < 3 := by rw [h21] at hbad; simpa using hbad
        gi_wp2
        exact fin _
    · have h21 : (wordM st x.2).2.1 = true := by
        cases h : (wordM st x.2).2.1
        · exact absurd (.inl h) hbad
        · rfl
      have h12 : ¬ (wordM st x.2).1.1 < 3 := fun h => hbad (.inr h)
      have hsome : begRun ((pre ++ [x]).map (·.2)) = some ((wordM st x.2).1 :: (wordM st x.2).2.2) := by rw [Hsn.out, begStep, if_neg hbad]
      have Hsome := Lib.hid hsome
      clear hsome hbad
      have hlw := len_word st x.2
      have c3 : (wordM st x.2).2.2.length + 1 ≤ maxLen := by unfold maxLen; omega
      have c4 : ((wordM st x.2).2.2.length + 1) * 16 ≤ 140737488355328 := by omega
      have hca := cells_new (W3.alloc (.cells #[.int .i64 (wordM st x.2).1.1, .bool (wordM st x.2).1.2] 129)) [.int .i64 (wordM st x.2).1.1, .bool (wordM st x.2).1.2] 129
      rw [size_alloc'] at hca
      have Hca := Lib.hid hca
      have bX := Blk.new W3 129 #[.int .i64 (wordM st x.2).1.1, .bool (wordM st x.2).1.2]
      clear hca
      gi_wp2_with (first
        | (gi_at_builtin; refine wpListIn_append_own _ rfl (.tmp 25) (.tmp 27) 124 rfl w.heap.size 129 i0 _ 2 16 Try.underlying124 hi hz0 hz1 hz2 rfl (by decide) v3 _ _ rfl ((hr3.alloc _).alloc _) ⟨W3.heap.size + 1, 0, none⟩ 1 1 [.int .i64 (wordM st x.2).1.1, .bool (wordM st x.2).1.2] rfl rfl Hca.out (by simp [Value.oneCell']) c3 c4 (by simp; omega) ?_; intro v4 W4 hr4 hg4 _; obtain ⟨g', cap', rfl⟩ := ownsRow_succ hr4; obtain ⟨m1, m2, m3, m4, m5⟩ := Boxed.appended (Blk.alloc hv3 _) (by decide) (hr3.alloc _) (by simp; omega) (by omega) hr4 hg4; obtain ⟨y0, y1, y2⟩ := Blk.one m1))
      have hby3 := hby.grown hg3 (by simp)
      have hbx3 := hbx.grown hg3 (by simp; omega)
      have hby7 := app_cellsT (u := .slice (some ⟨g', 0, none⟩) ((wordM st x.2).2.2.length + 1) cap') (B := w.heap.size + 1) (hby3.alloc _) (hr3.alloc _) (by decide) hg4 (by omega)
      have hbx7 := app_cellsT (u := .slice (some ⟨g', 0, none⟩) ((wordM st x.2).2.2.length + 1) cap') (B := w.heap.size + 1) (hbx3.alloc _) (hr3.alloc _) (by decide) hg4 (by omega)
      have hb07 := app_blk (u := .slice (some ⟨g', 0, none⟩) ((wordM st x.2).2.2.length + 1) cap') (B := w.heap.size + 1) (hb03.alloc _) (hr3.alloc _) (by decide) hg4 (by omega)
      refine ⟨((hk3.trans (KeepsOthers.alloc _ _)).trans m4).from _, ⟨hby7.1.trans hby.1.symm, hbx7.1.trans hbx.1.symm⟩, ⟨_, Hsome.out, ⟨_, m2, ?_, ?_⟩⟩, hb07, ⟨_, hby7⟩, ⟨_, hbx7⟩, ?_⟩
      · rw [List.reverse_cons, cellsS_append, List.length_cons]
        simpa [cellsS] using m3
      · intro k hk
        have := m3.lt k hk
        omega
      · exact ((hB.trans hB3).alloc (by omega) _).trans m5
  case done =>
    rintro D ys W hD rfl ⟨⟨st, hrun, hst⟩, hb0, -, -, hB⟩ hK
    rw [backs_snd _ _ (Nat.le_refl _), List.take_of_length_le (by simp)] at hrun
    have hrs := begRun_some hrun
    have hsl : st.length ≤ 1000000 := by have := hrs.2; simp at this; omega
    obtain ⟨v0, hv0, hr0, -⟩ := hst
    obtain ⟨q0, q1, q2⟩ := hb0.one
    obtain ⟨s0, s1, s2⟩ := hv0.one
    obtain ⟨a0, cp0, rfl⟩ : ∃ a c, v0 = .slice a st.length c := by
      rcases hr0.2 with ⟨rfl, h⟩ | ⟨g, cap, cur, rfl, _⟩
      · exact ⟨none, 0, by rw [h]⟩
      · exact ⟨_, _, rfl⟩
    have hM : beginsM zs = begEnd st := by unfold beginsM; rw [hrun]
    have HM := Lib.hid hM
    clear hM hrun hrs
    rcases st with _ | ⟨y, _ | ⟨y', r⟩⟩
    · have HM' := Lib.hid (show beginsM zs = true from by rw [HM.out]; rfl)
      gi_wp2
      have hb05 := hb0.set1 (.bool true)
      have hB5 := hB.setCell (p := ⟨w.heap.size, 0, none⟩) (Nat.le_refl _) (.bool true)
      have hK5 := (KeepsOthers.setCell W ⟨w.heap.size, 0, none⟩ (.bool true)).same D _ hK rfl
      generalize (W.setCell ⟨w.heap.size, 0, none⟩ (.bool true)) = W5 at hb05 hB5 hK5 ⊢
      refine ⟨by simp, .inl ⟨_, _, rfl, run_takeDeferred hK5, ?_⟩⟩
      obtain ⟨g1, g2⟩ := put_calm hK5 (.deferred none)
      have k0 := (hb05.calm g1 g2).cell 0
      refine ⟨_, ?_, by rw [Hzs.out, HM'.out], (hB5.grown g1 hB5.size (fun k e => by cases e; omega))⟩
      simp [results, Try.results73, go_sem, k0]
    · obtain ⟨g, rfl, hg⟩ : ∃ g, a0 = some ⟨g, 0, none⟩ ∧ g < W.heap.size := by
        rcases hr0.2 with ⟨_, h0⟩ | ⟨g, cap, cur, e, _, hh, _⟩
        · simp at h0
        · cases e; exact ⟨g, rfl, (Array.getElem?_eq_some_iff.1 hh).1⟩
      have hcp : 1 ≤ cp0 := by
        rcases hr0.2 with ⟨_, h0⟩ | ⟨g, cap, cur, e, _, hh, hn, _⟩
        · simp at h0
        · cases e; simpa using hn
      have hcells := hr0.cells (g := g) rfl
      have c0 : W.cell? ⟨g, 0, none⟩ = some (.int .i64 y.1) := by simpa [Addr.add_lit] using hcells 0 (.int .i64 y.1) (by simp [cellsS])
      have c1 : W.cell? ⟨g, 1, none⟩ = some (.bool y.2) := by simpa [Addr.add_lit] using hcells 1 (.bool y.2) (by simp [cellsS])
      have c1' : W.cell? ⟨g, 0 + 1, none⟩ = some (.bool y.2) := c1
      clear hcells
      have HE : beginsM zs = (y.1 == 3 || (y.2 && decide (y.1 < 3))) := HM.out
      simp only [List.length_cons, List.length_nil, Nat.zero_add] at s1
      by_cases h3 : y.1 = 3
      · have HM' := Lib.hid (show beginsM zs = true from by rw [HE, h3]; simp)
        have e3 : (y.1 == 3) = true := by simp [h3]
        clear HE
        gi_wp2
        have hb05 := hb0.set1 (.bool true)
        have hB5 := hB.setCell (p := ⟨w.heap.size, 0, none⟩) (Nat.le_refl _) (.bool true)
        have hK5 := (KeepsOthers.setCell W ⟨w.heap.size, 0, none⟩ (.bool true)).same D _ hK rfl
        generalize (W.setCell ⟨w.heap.size, 0, none⟩ (.bool true)) = W5 at hb05 hB5 hK5 ⊢
        refine ⟨by simp, .inl ⟨_, _, rfl, run_takeDeferred hK5, ?_⟩⟩
        obtain ⟨g1, g2⟩ := put_calm hK5 (.deferred none)
        have k0 := (hb05.calm g1 g2).cell 0
        refine ⟨_, ?_, by rw [Hzs.out, HM'.out], (hB5.grown g1 hB5.size (fun k e => by cases e; omega))⟩
        simp [results, Try.results73, go_sem, k0]
      · have e3 : (y.1 == 3) = false := by simp [h3]
        cases h2 : y.2
        · have HM' := Lib.hid (show beginsM zs = false from by rw [HE, e3, h2]; simp)
          rw [h2] at c1 c1'
          clear HE
          gi_wp2
          have hb05 := hb0.set1 (.bool false)
          have hB5 := hB.setCell (p := ⟨w.heap.size, 0, none⟩) (Nat.le_refl _) (.bool false)
          have hK5 := (KeepsOthers.setCell W ⟨w.heap.size, 0, none⟩ (.bool false)).same D _ hK rfl
          generalize (W.setCell ⟨w.heap.size, 0, none⟩ (.bool false)) = W5 at hb05 hB5 hK5 ⊢
          refine ⟨by simp, .inl ⟨_, _, rfl, run_takeDeferred hK5, ?_⟩⟩
          obtain ⟨g1, g2⟩ := put_calm hK5 (.deferred none)
          have k0 := (hb05.calm g1 g2).cell 0
          refine ⟨_, ?_, by rw [Hzs.out, HM'.out], (hB5.grown g1 hB5.size (fun k e => by cases e; omega))⟩
          simp [results, Try.results73, go_sem, k0]
        · rw [h2] at c1 c1'
          by_cases h4 : y.1 < 3
          · have HM' := Lib.hid (show beginsM zs = true from by rw [HE, e3, h2]; simp [h4])
            clear HE
            gi_wp2
            have hb05 := hb0.set1 (.bool true)
            have hB5 := hB.setCell (p := ⟨w.heap.size, 0, none⟩) (Nat.le_refl _) (.bool true)
            have hK5 := (KeepsOthers.setCell W ⟨w.heap.size, 0, none⟩ (.bool true)).same D _ hK rfl
            generalize (W.setCell ⟨w.heap.size, 0, none⟩ (.bool true)) = W5 at hb05 hB5 hK5 ⊢
            refine ⟨by simp, .inl ⟨_, _, rfl, run_takeDeferred hK5, ?_⟩⟩
            obtain ⟨g1, g2⟩ := put_calm hK5 (.deferred none)
            have k0 := (hb05.calm g1 g2).cell 0
            refine ⟨_, ?_, by rw [Hzs.out, HM'.out], (hB5.grown g1 hB5.size (fun k e => by cases e; omega))⟩
            simp [results, Try.results73, go_sem, k0]
          · have HM' := Lib.hid (show beginsM zs = false from by rw [HE, e3, h2]; simp; omega)
            clear HE
            gi_wp2
            have hb05 := hb0.set1 (.bool false)
            have hB5 := hB.setCell (p := ⟨w.heap.size, 0, none⟩) (Nat.le_refl _) (.bool false)
            have hK5 := (KeepsOthers.setCell W ⟨w.heap.size, 0, none⟩ (.bool false)).same D _ hK rfl
            generalize (W.setCell ⟨w.heap.size, 0, none⟩ (.bool false)) = W5 at hb05 hB5 hK5 ⊢
            refine ⟨by simp, .inl ⟨_, _, rfl, run_takeDeferred hK5, ?_⟩⟩
            obtain ⟨g1, g2⟩ := put_calm hK5 (.deferred none)
            have k0 := (hb05.calm g1 g2).cell 0
            refine ⟨_, ?_, by rw [Hzs.out, HM'.out], (hB5.grown g1 hB5.size (fun k e => by cases e; omega))⟩
            simp [results, Try.results73, go_sem, k0]
    · have HM' := Lib.hid (show beginsM zs = false from by rw [HM.out]; rfl)
      have e1 : (((y :: y' :: r).length : Int) == 0) = false := by simp; omega
      have e2 : (((y :: y' :: r).length : Int) == 1) = false := by simp; omega
      gi_wp2
      have hb05 := hb0.set1 (.bool false)
      have hB5 := hB.setCell (p := ⟨w.heap.size, 0, none⟩) (Nat.le_refl _) (.bool false)
      have hK5 := (KeepsOthers.setCell W ⟨w.heap.size, 0, none⟩ (.bool false)).same D _ hK rfl
      generalize (W.setCell ⟨w.heap.size, 0, none⟩ (.bool false)) = W5 at hb05 hB5 hK5 ⊢
      refine ⟨by simp, .inl ⟨_, _, rfl, run_takeDeferred hK5, ?_⟩⟩
      obtain ⟨g1, g2⟩ := put_calm hK5 (.deferred none)
      have k0 := (hb05.calm g1 g2).cell 0
      refine ⟨_, ?_, by rw [Hzs.out, HM'.out], (hB5.grown g1 hB5.size (fun k e => by cases e; omega))⟩
      simp [results, Try.results73, go_sem, k0]
  case stop =>
    rintro D c pre W hD ⟨k, hk, rfl⟩ ⟨rfl, hrun, hb0, hB⟩ hK
    rw [backs_snd _ _ hk] at hrun
    have HM' := Lib.hid (beginsM_of_run_none ⟨k, hrun⟩)
    clear hrun
    gi_wp2
    refine ⟨by simp, .inl ⟨_, _, rfl, run_takeDeferred hK, ?_⟩⟩
    obtain ⟨g1, g2⟩ := put_calm hK (.deferred none)
    have k0 := (hb0.calm g1 g2).cell 0
    refine ⟨_, ?_, by rw [Hzs.out, HM'.out], (hB.grown g1 hB.size (fun k e => by cases e; omega))⟩
    simp [results, Try.results73, go_sem, k0]
end Go.Proofs.Ytpnkhgjjlionnaa.Zp
namespace Go.Proofs.Ytpnkhgjjlionnaa.Zp
open Go.RowKit

/-- A callee that kept what lay, behind a block of our own. -/
theorem below_then {B : Nat} {w w1 w2 : World} {o : Obj} (h : Below B w w1) (hB : B ≤ w1.heap.size) (h2 : Below (w1.alloc o).heap.size (w1.alloc o) w2) : Below B w w2 :=
  (h.alloc hB o).trans (h2.mono (by simp; omega))
theorem below_on {B : Nat} {w w1 w2 : World} (h : Below B w w1) (hB : B ≤ w1.heap.size) (h2 : Below w1.heap.size w1 w2) : Below B w w2 := h.trans (h2.mono hB)

end Go.Proofs.Ytpnkhgjjlionnaa.Zp
namespace Go.Proofs.Ytpnkhgjjlionnaa.Zp
open Go.RowKit

theorem lettersOf_extract (s : ByteArray) (k : Nat) : lettersOf (s.extract 0 k) = (lettersOf s).take k := by
  simp [lettersOf, List.map_take]

theorem least1_any (s : ByteArray) (hs : s.size ≤ 1000000) (k : Nat) (hk : k < s.size) (g : Nat) (w : World) (hc : w.cell? ⟨g, 0, none⟩ = some (.string s)) :
    Calls Try.prog 72 #[.int .i64 k, .pointer (some ⟨g, 0, none⟩)] w fun e w' => e = .returned (.bool (!beginsM ((lettersOf s).take (k + 1)))) ∧ Below w.heap.size w w' := by
  have hsz : (s.extract 0 (k + 1)).size ≤ 1000000 := by rw [ByteArray.size_extract]; omega
  have hb := begins_any _ hsz w
  rw [lettersOf_extract] at hb
  go_enter Try.func72, Try.ntmps72
  go_wp2_with fail
  refine hb.mono ?_
  rintro e w1 ⟨rfl, hb1⟩
  go_wp2
  go_ret
  exact ⟨rfl, hb1⟩
set_option maxRecDepth 100000 in
theorem search_any (s : ByteArray) (hs : s.size ≤ 1000000) (g : Nat) (w : World) (hc : w.cell? ⟨g, 0, none⟩ = some (.string s)) :
    Calls Try.prog 71 #[.int .i64 s.size, .func (.func 72) #[] #[.pointer (some ⟨g, 0, none⟩)]] w fun e w' => ∃ r : Nat, e = .returned (.int .i64 r) ∧ r ≤ s.size ∧ (r < s.size → beginsM ((lettersOf s).take (r + 1)) = false) ∧ (0 < r → beginsM ((lettersOf s).take r) = true) ∧ Below w.heap.size w w' := by
  go_enter Try.func71, Try.ntmps71
  go_wp2
  go_loopw [5, 6] (fun i j wr => ∃ a b : Nat, i = .int .i64 a ∧ j = .int .i64 b ∧ a ≤ b ∧ b ≤ s.size ∧ (b < s.size → beginsM ((lettersOf s).take (b + 1)) = false) ∧ (0 < a → beginsM ((lettersOf s).take a) = true) ∧ Below w.heap.size w wr) (fun i j _ => (intOf j).toNat - (intOf i).toNat)
  case atStart => exact ⟨0, s.size, rfl, rfl, Nat.zero_le _, Nat.le_refl _, fun h => absurd h (Nat.lt_irrefl _), fun h => absurd h (Nat.lt_irrefl _), Below.refl _ _⟩
  case round =>
    obtain ⟨a, b, rfl, rfl, hab, hbs, h1, h2, hB⟩ := hrel
    by_cases hlt : a < b
    · have hm : ∃ m : Nat, m = (a + b) / 2 := ⟨_, rfl⟩
      obtain ⟨m, hm⟩ := hm
      have hm2 : ((a : Int) + (b : Int)) / 2 = (m : Int) := by omega
      have hma : a ≤ m ∧ m < b := by omega
      have H1 := Lib.hid h1
      have H2 := Lib.hid h2
      clear h1 h2
      clear hm
      go_wp2_with fail
      clear hm2
      refine (least1_any s hs m (by omega) g _ (by rw [hB.cell (block_lt_of_cell hc)]; exact hc)).mono ?_
      rintro e w2 ⟨rfl, hb2⟩
      have hB2 := below_on hB hB.size hb2
      cases hp : beginsM ((lettersOf s).take (m + 1))
      · have Hp := Lib.hid hp
        clear hp
        go_wp2
        go_roundw
        case measure => simp [intOf]; omega
        case rel => exact ⟨a, m, rfl, rfl, by omega, by omega, fun _ => Hp.out, H2.out, hB2⟩
      · have Hp := Lib.hid hp
        clear hp
        go_wp2
        go_roundw
        case measure => simp [intOf]; omega
        case rel => exact ⟨m + 1, b, by go_num, rfl, by omega, by omega, H1.out, fun _ => Hp.out, hB2⟩
    · obtain rfl : a = b := by omega
      go_wp2
      go_ret
      exact ⟨a, rfl, hbs, h1, h2, hB⟩

/-- The place that Least tells of a text that is not right: from there on no right word begins so, up to there one does. -/
def LeastAt (zs : List Int) (r : Nat) : Prop := r ≤ zs.length ∧ (r < zs.length → beginsM (zs.take (r + 1)) = false) ∧ (0 < r → beginsM (zs.take r) = true)
theorem least_any (s : ByteArray) (hs : s.size ≤ 1000000) (h : rightM (lettersOf s) = false) (w : World) :
    Calls Try.prog 36 #[.string s] w fun e w' => ∃ r : Nat, e = .returned (.int .i64 r) ∧ LeastAt (lettersOf s) r ∧ Below w.heap.size w w' := by
  have b0 := Blk.new w 9 #[.string s]
  have hB0 : Below w.heap.size w (w.alloc (.cells #[.string s] 9)) := (Below.refl _ _).alloc (Nat.le_refl _) _
  go_enter Try.func36, Try.ntmps36
  go_wp2_with fail
  refine (right_any s hs _).mono ?_
  rw [h]
  rintro e w1 ⟨rfl, hb1⟩
  have b1 := b0.below hb1 (by simp)
  have hB1 := below_on hB0 hB0.size hb1
  obtain ⟨c0, c1, -⟩ := b1.one
  go_wp2_with fail
  refine (search_any s hs w.heap.size _ c1).mono ?_
  rintro e w2 ⟨r, rfl, h1, h2, h3, hb2⟩
  have hB2 := below_on hB1 hB1.size hb2
  go_wp2
  go_ret
  exact ⟨r, rfl, by unfold LeastAt; rw [lettersOf_length]; exact ⟨h1, h2, h3⟩, hB2⟩
end Go.Proofs.Ytpnkhgjjlionnaa.Zp
