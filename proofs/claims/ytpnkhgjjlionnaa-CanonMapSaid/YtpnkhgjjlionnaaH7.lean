/-
  Texts joined by program, what the law uses alone: Rnm Gr10 Awk46 CnMp ArgS.
-/
import Derived.BigQuiet
import Derived.BigRegion
import Derived.Deep.DeepCutAuto
import Derived.Deep.QuietTactic
import Derived.Deep.RegionHeld3
import Derived.Lib.Hide
import Derived.Lib.QuietBelow
import Derived.Lib.Slices
import Derived.LoopIn
import Derived.LoopNIn
import Derived.OwnWalkIn
import Derived.RangeFuncBound
import Derived.RangeFuncCalls
import Derived.RangeFuncLeaves
import Derived.RangeFuncNested
import Derived.RegionTactic
import Derived.Shelf.Abstract
import Derived.TacticsInMore
import Derived.ProofKit
import Derived.WideShapes
import Derived.OpenShut
import Derived.Deep.Slices
import Derived.Lib.SmallJoins
import Derived.Test.YtpnkhgjjlionnaaH6
import Derived.Test.YtpnkhgjjlionnaaH4
import Derived.Test.YtpnkhgjjlionnaaH1
import Derived.Test.YtpnkhgjjlionnaaH5
import Derived.Test.YtpnkhgjjlionnaaH2
import Derived.Test.YtpnkhgjjlionnaaH3
namespace Go.Proofs.Ytpnkhgjjlionnaa
open Go.RowKit Go.Maps

theorem own_lower9 {w : World} {base base' : Nat} {e : TypeId} {size n : Nat} {v : Value} {xs : List Value} (h : w.ownsRow base e size v n xs) (hb : base' ≤ base) : w.ownsRow base' e size v n xs := by
  refine ⟨h.1, ?_⟩
  rcases h.2 with hn | ⟨g, cap, cur, rfl, hb1, rest⟩
  · exact .inl hn
  · exact .inr ⟨g, cap, cur, rfl, Nat.le_trans hb hb1, rest⟩
/-- Where things lie in soup.Rename. -/
structure RnSt (w W : World) (q n F : Nat) (aT : Option Addr) (cT : Nat) (aO : Option Addr) (cO : Nat) (bs : List Bool) : Prop where
  k0 : Blk W w.heap.size 24 #[.int .i64 (n : Int), .slice aT F cT]
  k1 : Blk W (w.heap.size + 1) 35 #[.slice aO n cO]
  k2 : Blk W (w.heap.size + 1 + 1) 24 #[.int .i64 0, .slice none 0 0]
  row : W.ownsRow w.heap.size 4 1 (.slice (some ⟨q, 0, none⟩) n n) n (bools bs)
  bel : Below w.heap.size w W
theorem RnSt.mark {w W : World} {q n F : Nat} {aT : Option Addr} {cT : Nat} {aO : Option Addr} {cO : Nat} {bs : List Bool} (h : RnSt w W q n F aT cT aO cO bs) (hq : w.heap.size + 3 ≤ q) (u : Nat) : RnSt w (W.setCell ⟨q, u, none⟩ (.bool true)) q n F aT cT aO cO (bs.set u true) where
  k0 := h.k0.far (p := ⟨q, u, none⟩) (by simp only; omega) _
  k1 := h.k1.far (p := ⟨q, u, none⟩) (by simp only; omega) _
  k2 := h.k2.far (p := ⟨q, u, none⟩) (by simp only; omega) _
  row := by rw [← bools_set]; exact (h.row.stored u _).1
  bel := h.bel.setCell (p := ⟨q, u, none⟩) (by simp only; omega) _
set_option maxRecDepth 100000 in
set_option maxHeartbeats 4000000 in
theorem rename_any (n : Nat) (v vO : Value) (T : List Tr) (tw : List Int) (w : World) (hT : TrisRd w v T) (hO : IntsRd w vO tw) (hf : fitsS (n : Int) T = true) (hto : AllN n tw) :
    Calls Try.prog 15 #[.agg #[.int .i64 (n : Int), v], vO] w fun e w' => ∃ vT, e = .returned (.tuple #[.agg #[.int .i64 (n : Int), vT], .int .i64 0]) ∧ w'.ownsRow w.heap.size 61 3 vT T.length (ws3 (T.map (renT (toF tw)))) ∧ Below w.heap.size w w' := by
  obtain ⟨i2, hj', hz0, hz1, hz2⟩ := info_parts infoBool
  have hfn := fitsS_n hf
  have HIN := Lib.hid (show ∀ t ∈ T, in3 n t from fun t ht => by
    have := fitsS_t hf t ht
    exact ⟨this.1, this.2.1, this.2.2.1⟩)
  have HRT := Lib.hid (fun (W : World) (hW : Below w.heap.size w W) => hT.below hW)
  have HRO := Lib.hid (fun (W : World) (hW : Below w.heap.size w W) => hO.below hW)
  have HFt := Lib.hid (fun (W : World) (hW : Below w.heap.size w W) => (soupFits_any (n : Int) v T W (hT.below hW) (by omega)).mono (fun e w' h => by rw [hf] at h; exact h))
  have HTo := Lib.hid hto
  obtain ⟨aT, cT, rfl, -⟩ := hT
  obtain ⟨aO, cO, rfl, -, hrO⟩ := hO
  have hml := hto.len
  rw [hml] at HRO ⊢
  obtain ⟨F, hF⟩ : ∃ F, T.length = F := ⟨_, rfl⟩
  have HFl := Lib.hid hF
  rw [hF] at HRT HFt hfn ⊢
  have hB0 : Below w.heap.size w (((w.alloc (.cells #[.int .i64 (n : Int), .slice aT F cT] 24)).alloc (.cells #[.slice aO n cO] 35)).alloc (.cells #[.int .i64 0, .slice none 0 0] 24)) := (((Below.refl _ _).alloc (Nat.le_refl _) _).alloc (by simp) _).alloc (by simp; omega) _
  have b0 := ((Blk.new w 24 #[.int .i64 (n : Int), .slice aT F cT]).alloc (.cells #[.slice aO n cO] 35)).alloc (.cells #[.int .i64 0, .slice none 0 0] 24)
  have b1 : Blk (((w.alloc (.cells #[.int .i64 (n : Int), .slice aT F cT] 24)).alloc (.cells #[.slice aO n cO] 35)).alloc (.cells #[.int .i64 0, .slice none 0 0] 24)) (w.heap.size + 1) 35 #[.slice aO n cO] := (blk_new_at (by simp)).alloc _
  have b2 : Blk (((w.alloc (.cells #[.int .i64 (n : Int), .slice aT F cT] 24)).alloc (.cells #[.slice aO n cO] 35)).alloc (.cells #[.int .i64 0, .slice none 0 0] 24)) (w.heap.size + 1 + 1) 24 #[.int .i64 0, .slice none 0 0] := blk_new_at (by simp)
  have HB0 := Lib.hid hB0
  have HB := Lib.hid (And.intro b0 (And.intro b1 b2))
  obtain ⟨l0, x0, -, x1, -⟩ := b0.two
  clear hB0 b0 b1 b2 hF hml
  go_enter Try.func15, Try.ntmps15
  go_wp2_with fail
  refine (HFt.out _ HB0.out).mono ?_
  rintro e w1 ⟨rfl, hb1⟩
  have hBW := HB0.out.trans (hb1.mono HB0.out.size)
  have k0 := HB.out.1.below hb1 HB.out.1.lt
  have k1 := HB.out.2.1.below hb1 HB.out.2.1.lt
  have k2 := HB.out.2.2.below hb1 HB.out.2.2.lt
  have hs1 := hb1.size
  simp only [size_alloc'] at hs1
  clear x0 x1 l0 HFt hb1
  obtain ⟨l0, x0, -, x1, -⟩ := k0.two
  obtain ⟨l1, y0, f0⟩ := k1.one
  go_upto_region 4 with (at_make; refine wpList_make_full _ rfl (.tmp 14) (.tmp 14) 66 rfl w.heap.size 4 i2 _ 1 Try.underlying66 hj' hz0 hz1 .i64 .i64 _ _ n rfl rfl rfl rfl (by rw [hz2]; omega) (by unfold maxLen; omega) (by omega) ?_; intro w2 hr2 hg2)
  rw [made_bools] at hr2
  have hI0 : RnSt w w2 w1.heap.size n F aT cT aO cO (List.replicate n false) :=
    ⟨k0.grown hg2 (by simp), k1.grown hg2 (by simp), k2.grown hg2 (by simp), hr2, hBW.grown hg2 (by omega) (fun j e => by cases e)⟩
  have HI0 := Lib.hid hI0
  have hq3 : w.heap.size + 3 ≤ w1.heap.size := by omega
  have k1' := hI0.k1
  obtain ⟨l1', y0', f0'⟩ := k1'.one
  clear hI0 hr2 hg2 hBW k0 k1 k2 k1' x0 x1 l0 l1 y0 f0 hs1 HB HB0 hrO
  generalize w1.heap.size = q at *
  go_wp2
  clear l1' y0' f0'
  go_loopw [18] (fun i wr => ∃ (k : Nat) (bs : List Bool), k ≤ n ∧ i = .int .i64 k ∧ RnSt w wr q n F aT cT aO cO bs ∧ BitsOf bs n (tw.take k)) (fun i _ => n - (intOf i).toNat)
  case atStart => exact ⟨0, _, Nat.zero_le _, rfl, HI0.out, BitsOf.none_ n⟩
  case round =>
    rename World => wr
    obtain ⟨k, bs, hk, rfl, hI, hbs⟩ := hrel
    by_cases hlt : k < n
    · have hkl : k < tw.length := by rw [HTo.out.len]; exact hlt
      obtain ⟨a', c', e', -, hr⟩ := HRO.out wr hI.bel
      rw [HTo.out.len] at e'
      cases e'
      obtain ⟨b, o, rfl, hbl, cv⟩ := hr k _ (List.getElem?_eq_getElem hkl)
      obtain ⟨x, hx⟩ : ∃ x, tw[k] = x := ⟨_, rfl⟩
      rw [hx] at cv
      have hxr := HTo.out.rng x (by rw [← hx]; exact List.getElem_mem hkl)
      have htk : tw.take (k + 1) = tw.take k ++ [x] := by rw [List.take_succ_eq_append_getElem hkl, hx]
      have hnd : x ∉ tw.take k := by
        have h2 := (List.nodup_append.1 (by rw [List.take_append_drop]; exact HTo.out.nd : (tw.take (k + 1) ++ tw.drop (k + 1)).Nodup)).1
        rw [htk] at h2
        exact fun hm => (List.nodup_append.1 h2).2.2 _ hm _ (List.mem_singleton_self _) rfl
      obtain ⟨x, rfl⟩ : ∃ u : Nat, x = u := ⟨x.toNat, by omega⟩
      have hcb : bs[x]? = some false := by
        obtain ⟨cb, hcb⟩ : ∃ cb, bs[x]? = some cb := ⟨bs[x]'(by rw [hbs.1]; omega), List.getElem?_eq_getElem _⟩
        cases cb with
        | false => exact hcb
        | true => exact absurd ((hbs.2 x (by omega)).1 hcb) hnd
      have hc : wr.cell? ⟨q, x, none⟩ = some (.bool false) := by rw [hI.row.cellAt x (by omega), bools, List.getElem?_map, hcb]; rfl
      have hfz := hI.row.frozenAt x
      have hlq := (hI.row.lt q rfl).2
      have hk3 : (k : Int) < (n : Int) := by omega
      have hk0 : (0 : Int) ≤ (k : Int) := by omega
      have hx3 : (x : Int) < (n : Int) := by omega
      have hx1 : ¬ (n : Int) ≤ (x : Int) := by omega
      have hx0 : ¬ (x : Int) < 0 := by omega
      obtain ⟨l0, x0, -, x1, -⟩ := hI.k0.two
      have HI := Lib.hid (hI.mark hq3 x)
      have HBs := Lib.hid (show BitsOf (bs.set x true) n (tw.take (k + 1)) from by rw [htk]; exact hbs.mark (by omega))
      clear hI hbs hr hx hxr htk hnd hcb hkl
      go_wp2
      go_roundw
      case measure => simp [intOf]; omega
      case rel => exact ⟨k + 1, _, by omega, by go_num, HI.out, HBs.out⟩
    · obtain rfl : k = n := by omega
      obtain ⟨l0, x0, -, x1, -⟩ := hI.k0.two
      obtain ⟨l1, y0, f0⟩ := hI.k1.one
      have HE := Lib.hid (eachR_any (k : Int) (.slice aT F cT) T #[.pointer (some ⟨w.heap.size + 1, 0, none⟩)] (renT (toF tw)) wr (HRT.out _ hI.bel) (by rw [HFl.out]; omega) (fun W t ht hW => ren1_any (w.heap.size + 1) k (.slice aO k cO) tw t W (HRO.out W (hI.bel.trans (hW.mono hI.bel.size))) HTo.out.len ((hW.cell (p := ⟨w.heap.size + 1, 0, none⟩) l1).trans y0) (Nat.lt_of_lt_of_le l1 hW.size) (HIN.out t ht) (by omega)))
      have HI := Lib.hid hI
      clear hI hbs
      go_wp2_with (go_at_call 31; refine HE.out.mono ?_; rintro e w3 ⟨vT, rfl, hrT, hb3⟩; obtain ⟨a9, c9, rfl⟩ := ownsRow_slice hrT; obtain ⟨l2, z0, g0, z1, g1⟩ := (HI.out.k2.below hb3 HI.out.k2.lt).two)
      have h2 := HI.out.k2.below hb3 HI.out.k2.lt
      have hK := (h2.set_ 0 (.int .i64 (k : Int))).set_ 1 (.slice a9 T.length c9)
      have hK2 : Blk ((w3.setCell ⟨w.heap.size + 1 + 1, 0, none⟩ (.int .i64 (k : Int))).setCell ⟨w.heap.size + 1 + 1, 1, none⟩ (.slice a9 T.length c9)) (w.heap.size + 1 + 1) 24 #[.int .i64 (k : Int), .slice a9 T.length c9] := by simpa using hK
      obtain ⟨-, p0, -, p1, -⟩ := hK2.two
      refine bodyPost_ret (v := .tuple #[.agg #[.int .i64 (k : Int), .slice a9 T.length c9], .int .i64 0]) (by simp [results, Try.results15, go_sem, p0, p1]) rfl ?_
      have hsz := HI.out.bel.size
      rw [← HFl.out]
      exact ⟨_, rfl, own_lower9 (own_alloc_st (i := 1) (u := .slice a9 T.length c9) (own_alloc_st (i := 0) (u := .int .i64 (k : Int)) hrT h2 (by decide)) (h2.set_ 0 (.int .i64 (k : Int))) (by decide)) hsz, ((HI.out.bel.trans (hb3.mono hsz)).setCell (p := ⟨w.heap.size + 1 + 1, 0, none⟩) (by simp only; omega) _).setCell (p := ⟨w.heap.size + 1 + 1, 1, none⟩) (by simp only; omega) _⟩
end Go.Proofs.Ytpnkhgjjlionnaa
namespace Go.Proofs.Ytpnkhgjjlionnaa
open Go.RowKit Go.Maps

set_option maxRecDepth 100000 in
theorem great10_is (N : Int) (v : Value) (T : List Tr) (w : World) (h : TrisRd w v T) : Calls Try.prog 17 #[.agg #[.int .i64 N, v]] w fun e w' => e = .returned (.int .i64 (if 40 < T.length ∨ 60 < N ∨ N < -1000 then 1 else 0)) ∧ Below w.heap.size w w' := by
  have b1 := Blk.new w 24 #[.int .i64 N, v]
  have hB0 : Below w.heap.size w (w.alloc (.cells #[.int .i64 N, v] 24)) := (Below.refl _ _).alloc (Nat.le_refl _) _
  obtain ⟨a, cT, rfl, -⟩ := h
  obtain ⟨n, hn⟩ : ∃ n, T.length = n := ⟨_, rfl⟩
  rw [hn] at b1 hB0 ⊢
  obtain ⟨l0, x0, -, x1, -⟩ := b1.two
  have HB := Lib.hid hB0
  clear hn b1 hB0
  by_cases c0 : 40 < n
  · have d0 : (40 : Int) < (n : Int) := by omega
    go_enter Try.func17, Try.ntmps17
    go_wp2
    go_ret
    exact ⟨rfl, HB.out⟩
  · have d0 : decide ((40 : Int) < (n : Int)) = false := by simp; omega
    by_cases c1 : 60 < N
    · go_enter Try.func17, Try.ntmps17
      go_wp2
      go_ret
      exact ⟨rfl, HB.out⟩
    · have d1 : decide (60 < N) = false := by simp; omega
      by_cases c2 : N < -1000
      · go_enter Try.func17, Try.ntmps17
        go_wp2
        go_ret
        exact ⟨rfl, HB.out⟩
      · have d2 : decide (N < -1000) = false := by simp; omega
        go_enter Try.func17, Try.ntmps17
        go_wp2
        go_ret
        exact ⟨rfl, HB.out⟩
end Go.Proofs.Ytpnkhgjjlionnaa
namespace Go.Proofs.Ytpnkhgjjlionnaa
open Go.RowKit Go.Maps

def adjB (T : List Tr) (v : Int) (i k : Nat) : Bool := match T[i]?, T[k]? with
  | some a, some b => [a.1, a.2.1, a.2.2].any fun x => decide (x ≠ v) && (decide (x = b.1) || decide (x = b.2.1) || decide (x = b.2.2))
  | _, _ => false
theorem adjB_ok {T : List Tr} {v : Int} {i k : Nat} (h : adjB T v i k = true) : adjV T v i k := by
  unfold adjB at h
  split at h
  · rename_i a b ha hb
    rw [List.any_eq_true] at h
    obtain ⟨x, hx, h⟩ := h
    simp only [Bool.and_eq_true, Bool.or_eq_true, decide_eq_true_eq] at h
    refine ⟨a, b, x, ha, hb, h.1, ?_, ?_⟩
    · simp only [List.mem_cons, List.not_mem_nil, or_false] at hx
      unfold hasV
      rcases hx with rfl | rfl | rfl
      · exact .inl rfl
      · exact .inr (.inl rfl)
      · exact .inr (.inr rfl)
    · unfold hasV
      rcases h.2 with (h2 | h2) | h2
      · exact .inl h2
      · exact .inr (.inl h2)
      · exact .inr (.inr h2)
  · cases h
theorem connB {T : List Tr} {u : Int} (h : ((atV T u).all fun k => adjB T u ((atV T u).headD 0) k) = true) : ConnV T u (atV T u) := by
  intro S h0 hs k hk
  cases hl : atV T u with
  | nil => rw [hl] at hk; cases hk
  | cons a r =>
    rw [List.all_eq_true] at h
    have h1 := h k hk
    rw [hl] at h0 h1
    exact hs a (by rw [hl]; exact List.mem_cons_self ..) k hk (h0 a rfl) (adjB_ok h1)
def T46 : List Tr := [(0, 1, 2), (0, 2, 3), (0, 3, 1), (1, 3, 2)]
def W46 : List Tr := [(0, 1, 2), (3, 2, 1), (3, 0, 2), (3, 1, 0)]
theorem keysT46 : T46.flatMap key3 = [(0, 1, 2), (0, 2, 3), (0, 1, 3), (1, 2, 3)] := by
  simp [T46, key3, sort3, sortL, List.mergeSort, List.MergeSort.Internal.splitInTwo]
theorem keysW46 : W46.flatMap key3 = [(0, 1, 2), (1, 2, 3), (0, 2, 3), (0, 1, 3)] := by
  simp [W46, key3, sort3, sortL, List.mergeSort, List.MergeSort.Internal.splitInTwo]
theorem surfT46 : Surf 4 T46 where
  n0 := by decide
  n1 := by decide
  len := by decide
  inr := by unfold in3 inR; decide
  simple := by unfold simple3; decide
  twice := by decide
  mirrored := by rw [keysT46]; decide
  lonely := by
    intro u hu
    have h : u = 0 ∨ u = 1 ∨ u = 2 ∨ u = 3 := by unfold inR at hu; omega
    rcases h with rfl | rfl | rfl | rfl <;> decide
  pinch := by
    intro u hu
    have h : u = 0 ∨ u = 1 ∨ u = 2 ∨ u = 3 := by unfold inR at hu; omega
    rcases h with rfl | rfl | rfl | rfl <;> exact connB (by decide)
theorem surfW46 : Surf 4 W46 where
  n0 := by decide
  n1 := by decide
  len := by decide
  inr := by unfold in3 inR; decide
  simple := by unfold simple3; decide
  twice := by decide
  mirrored := by rw [keysW46]; decide
  lonely := by
    intro u hu
    have h : u = 0 ∨ u = 1 ∨ u = 2 ∨ u = 3 := by unfold inR at hu; omega
    rcases h with rfl | rfl | rfl | rfl <;> decide
  pinch := by
    intro u hu
    have h : u = 0 ∨ u = 1 ∨ u = 2 ∨ u = 3 := by unfold inR at hu; omega
    rcases h with rfl | rfl | rfl | rfl <;> exact connB (by decide)
/-- Four triangles, each across the first one. -/
theorem shl_four {T : List Tr} {out : List Int} (h : Shl T out) (hl : T.length = 4) {a b c : Nat} (h1 : oppI T 0 = (a : Int)) (h2 : oppI T 1 = (b : Int)) (h3 : oppI T 2 = (c : Int)) (ha : a / 3 = 1 ∨ b / 3 = 1 ∨ c / 3 = 1) (hb : a / 3 = 2 ∨ b / 3 = 2 ∨ c / 3 = 2) (hc : a / 3 = 3 ∨ b / 3 = 3 ∨ c / 3 = 3) : out = [0, 0, 0, 0] := by
  have e1 := h.adj 0 a (by omega) h1
  have e2 := h.adj 1 b (by omega) h2
  have e3 := h.adj 2 c (by omega) h3
  have e0 : at_ out 0 = 0 := by
    rcases h.new 0 (by omega) with ⟨i, hi, -⟩ | ⟨-, h0 | ⟨i, hi, -⟩⟩
    · omega
    · exact h0
    · omega
  have k1 : at_ out 1 = 0 := by
    rcases ha with e | e | e
    · rw [e] at e1; exact e1.trans e0
    · rw [e] at e2; exact e2.trans e0
    · rw [e] at e3; exact e3.trans e0
  have k2 : at_ out 2 = 0 := by
    rcases hb with e | e | e
    · rw [e] at e1; exact e1.trans e0
    · rw [e] at e2; exact e2.trans e0
    · rw [e] at e3; exact e3.trans e0
  have k3 : at_ out 3 = 0 := by
    rcases hc with e | e | e
    · rw [e] at e1; exact e1.trans e0
    · rw [e] at e2; exact e2.trans e0
    · rw [e] at e3; exact e3.trans e0
  have hlo := h.len
  rw [hl] at hlo
  match out, hlo with
  | [w, x, y, z], _ =>
    simp only [at_, List.getD] at e0 k1 k2 k3
    simp at e0 k1 k2 k3
    rw [e0, k1, k2, k3]
theorem shlT46 {out : List Int} (h : Shl T46 out) : out = [0, 0, 0, 0] := shl_four h rfl (a := 10) (b := 5) (c := 7) (by decide) (by decide) (by decide) (by decide) (by decide) (by decide)
theorem rtT46 : rtL T46 4 = [4, 8, 1, 9] := by decide
theorem rnT46 : rtN T46 4 = ([2, 3, 0, 1], W46) := by decide
theorem cnt46 {m : Nat} (h : (m : Int) = cntL [0, 0, 0, 0]) : m = 1 := by
  have : cntL [0, 0, 0, 0] = 1 := by decide
  omega
theorem frmT46 : frmS T46 [0, 0, 0, 0] 1 = (4, W46) := by decide
theorem frmW46 : frmS W46 [0, 0, 0, 0] 1 = (4, W46) := by decide
theorem formT46 {S : Int × List Tr} {O : List Int} (h : FormIs T46 S O) : S = (4, W46) := by
  obtain ⟨out, m, h1, h2, rfl, -⟩ := h
  rw [shlT46 h1] at h2 ⊢
  rw [cnt46 h2, frmT46]
theorem shl_make {T : List Tr} (hl : T.length = 4) (hr : ∀ j, j < 4 → Reach T 0 j) : Shl T [0, 0, 0, 0] := by
  have hat : ∀ j, j < 4 → at_ [0, 0, 0, 0] j = 0 := by
    intro j hj
    rcases (by omega : j = 0 ∨ j = 1 ∨ j = 2 ∨ j = 3) with rfl | rfl | rfl | rfl <;> rfl
  refine ⟨by rw [hl]; rfl, fun j hj => by rw [hat j (by omega)]; exact Int.le_refl _, fun c o hc ho => ?_, fun j hj => ?_⟩
  · have := (opp_some hc ho).1
    rw [hat _ (by omega), hat _ (by omega)]
  · by_cases h0 : j = 0
    · subst h0
      exact .inr ⟨fun i hi => absurd hi (Nat.not_lt_zero _), .inl rfl⟩
    · exact .inl ⟨0, by omega, by rw [hat 0 (by decide), hat j (by omega)], hr j (by omega)⟩
theorem reach_four {T : List Tr} (hl : T.length = 4) {a b c : Nat} (h1 : oppI T 0 = (a : Int)) (h2 : oppI T 1 = (b : Int)) (h3 : oppI T 2 = (c : Int)) (ha : a / 3 = 1 ∨ b / 3 = 1 ∨ c / 3 = 1) (hb : a / 3 = 2 ∨ b / 3 = 2 ∨ c / 3 = 2) (hc : a / 3 = 3 ∨ b / 3 = 3 ∨ c / 3 = 3) : ∀ j, j < 4 → Reach T 0 j := by
  have e1 : Reach T 0 (a / 3) := (Reach.refl T 0).step (c := 0) (by omega) h1
  have e2 : Reach T 0 (b / 3) := (Reach.refl T 0).step (c := 1) (by omega) h2
  have e3 : Reach T 0 (c / 3) := (Reach.refl T 0).step (c := 2) (by omega) h3
  intro j hj
  rcases (by omega : j = 0 ∨ j = 1 ∨ j = 2 ∨ j = 3) with rfl | rfl | rfl | rfl
  · exact Reach.refl T 0
  · rcases ha with e | e | e <;> rw [← e] <;> assumption
  · rcases hb with e | e | e <;> rw [← e] <;> assumption
  · rcases hc with e | e | e <;> rw [← e] <;> assumption
theorem formeq46 : FormEq 4 4 T46 W46 :=
  ⟨surfT46, surfW46, (4, W46), _, _,
    ⟨[0, 0, 0, 0], 1, shl_make rfl (reach_four rfl (a := 10) (b := 5) (c := 7) (by decide) (by decide) (by decide) (by decide) (by decide) (by decide)), by decide, frmT46.symm, rfl⟩,
    ⟨[0, 0, 0, 0], 1, shl_make rfl (reach_four rfl (a := 3) (b := 6) (c := 9) (by decide) (by decide) (by decide) (by decide) (by decide) (by decide)), by decide, frmW46.symm, rfl⟩⟩
theorem tris_blk {w : World} {g : Nat} {T : List Tr} (h : Blk w g 61 (ws3 T).toArray) (hT : T.length ≤ maxLen) : TrisRd w (.slice (some ⟨g, 0, none⟩) T.length T.length) T :=
  TrisRd.of_row (base := 0) ⟨ws3_len T, .inr ⟨g, T.length, (ws3 T).toArray, rfl, Nat.zero_le _, h, Nat.le_refl _, hT, by simp [ws3_len], by rw [← ws3_len]; simp⟩⟩
set_option maxRecDepth 100000 in
set_option maxHeartbeats 4000000 in
theorem awake46_any (w : World) : Calls Try.prog 8 #[] w fun e w' => e = .returned (.bool true) ∧ Below w.heap.size w w' := by
  have HNew := Lib.hid (fun (W : World) (v : Value) (hv : TrisRd W v T46) => (new_any 4 v T46 W hv (by decide)).mono (R' := fun e w' => ∃ g, e = .returned (.tuple #[.pointer (some ⟨g, 0, none⟩), .agg #[.int .i64 0, .int .i64 0, .int .i64 0]]) ∧ Tab w' g 4 T46 ∧ Below W.heap.size W w') (by
    rintro e w' ⟨⟨-, g, he, ht, -⟩ | ⟨hn, -⟩, hb⟩
    · exact ⟨g, he, ht, hb⟩
    · exact absurd surfT46 hn))
  have HFm := Lib.hid (fun (W : World) (v : Value) (hv : TrisRd W v T46) => (cform_two 4 v T46 W hv (by decide) (by decide)).mono (R' := fun e w' => ∃ aT cT aO nO cO, e = .returned (.tuple #[.agg #[.int .i64 4, .slice aT 4 cT], .slice aO nO cO, .int .i64 0]) ∧ TrisRd w' (.slice aT 4 cT) W46 ∧ Below W.heap.size W w') (by
    rintro e w' ⟨S, O, aT, cT, aO, cO, er, he, hT, -, -, ⟨rfl, -, hF⟩ | ⟨-, hn, -⟩, hb⟩
    · rw [formT46 hF] at he hT
      exact ⟨aT, cT, aO, _, cO, he, hT, hb⟩
    · exact absurd surfT46 hn))
  have HRt := Lib.hid (fun (W : World) (g : Nat) (ht : Tab W g 4 T46) => (rooted_any g 4 T46 W 4 ht (by decide)).mono (R' := fun e w' => ∃ aT cT gO cO gC cC, e = .returned (.tuple #[.agg #[.int .i64 4, .slice aT 4 cT], .slice (some ⟨gO, 0, none⟩) 4 cO, .slice (some ⟨gC, 0, none⟩) 4 cC]) ∧ TrisRd w' (.slice aT 4 cT) W46 ∧ gO < w'.heap.size ∧ w'.cell? ⟨gO, 0, none⟩ = some (.int .i64 2) ∧ gC < w'.heap.size ∧ w'.cell? ⟨gC, 0, none⟩ = some (.int .i64 4) ∧ Below W.heap.size W w') (by
    rintro e w' ⟨vT, vO, vC, he, hT, hO, hC, hb⟩
    rw [rnT46] at he hT hO
    rw [rtT46] at hC
    obtain ⟨aT, cT, rfl⟩ := ownsRow_slice hT
    obtain ⟨gO, cO, rfl, -, lO⟩ := hO.form (by decide)
    obtain ⟨gC, cC, rfl, -, lC⟩ := hC.form (by decide)
    have c0 := hO.cellAt 0 (by decide)
    have c1 := hC.cellAt 0 (by decide)
    exact ⟨aT, cT, gO, cO, gC, cC, he, TrisRd.of_row hT, lO, c0, lC, c1, hb⟩))
  have HSm := Lib.hid (fun (W : World) (v1 v2 : Value) (h1 : TrisRd W v1 W46) (h2 : TrisRd W v2 W46) => (same_any 4 4 v1 v2 W46 W46 W h1 h2 (by decide) (by decide)).mono (R' := fun e w' => e = .returned (.bool true) ∧ Below W.heap.size W w') (by
    rintro e w' ⟨he, hb⟩
    exact ⟨by simpa using he, hb⟩))
  have HEq := Lib.hid (fun (W : World) (v1 v2 : Value) (h1 : TrisRd W v1 T46) (h2 : TrisRd W v2 W46) => (equal_any 4 4 v1 v2 T46 W46 W h1 h2 (by decide) (by decide) (by decide) (by decide)).mono (R' := fun e w' => e = .returned (.bool true) ∧ Below W.heap.size W w') (by
    rintro e w' ⟨b, he, hb1, hb⟩
    rw [hb1.2 formeq46] at he
    exact ⟨he, hb⟩))
  have HLs := Lib.hid (fun (W : World) (v : Value) (h1 : TrisRd W v T46) => (less_any 4 4 v v T46 T46 W h1 h1 (by decide) (by decide)).mono (R' := fun e w' => e = .returned (.bool false) ∧ Below W.heap.size W w') (by
    rintro e w' ⟨he, hb⟩
    rw [ordM_self] at he
    exact ⟨by simpa using he, hb⟩))
  have hb1 := (Blk.new w 61 (ws3 T46).toArray).alloc (.cells #[.int .i64 4, .slice (some ⟨w.heap.size, 0, none⟩) 4 4] 24)
  have hb2 : Blk ((w.alloc (.cells (ws3 T46).toArray 61)).alloc (.cells #[.int .i64 4, .slice (some ⟨w.heap.size, 0, none⟩) 4 4] 24)) (w.heap.size + 1) 24 #[.int .i64 4, .slice (some ⟨w.heap.size, 0, none⟩) 4 4] := blk_new_at (by simp)
  have hB0 : Below w.heap.size w ((w.alloc (.cells (ws3 T46).toArray 61)).alloc (.cells #[.int .i64 4, .slice (some ⟨w.heap.size, 0, none⟩) 4 4] 24)) := ((Below.refl _ _).alloc (Nat.le_refl _) _).alloc (by simp) _
  have hT0 : TrisRd _ (.slice (some ⟨w.heap.size, 0, none⟩) 4 4) T46 := tris_blk hb1 (by decide)
  have e46 : (ws3 T46).toArray = #[.int .i64 0, .int .i64 1, .int .i64 2, .int .i64 0, .int .i64 2, .int .i64 3, .int .i64 0, .int .i64 3, .int .i64 1, .int .i64 1, .int .i64 3, .int .i64 2] := rfl
  rw [e46] at hb1 hb2 hB0 hT0
  have HB0 := Lib.hid hB0
  have HB2 := Lib.hid hb2
  have HT0 := Lib.hid hT0
  obtain ⟨l2, x0, -, x1, -⟩ := hb2.two
  clear hb1 hb2 hB0 hT0 e46
  go_enter Try.func8, Try.ntmps8
  go_upto_region 2 with fail
  generalize (w.alloc (.cells #[.int .i64 0, .int .i64 1, .int .i64 2, .int .i64 0, .int .i64 2, .int .i64 3, .int .i64 0, .int .i64 3, .int .i64 1, .int .i64 1, .int .i64 3, .int .i64 2] 61)).alloc (.cells #[.int .i64 4, .slice (some ⟨w.heap.size, 0, none⟩) 4 4] 24) = W0 at *
  go_upto_region 3 with (go_at_call 22; go_loud (refine (HNew.out _ _ HT0.out).mono ?_; rintro e w1 ⟨g, rfl, hg, hb1⟩))
  have hA1 := (Below.refl w1.heap.size w1).alloc (Nat.le_refl _) (.cells #[.int .i64 0, .int .i64 0, .int .i64 0] 44)
  have hBw := HB0.out.trans ((hb1.trans (hA1.mono hb1.size)).mono HB0.out.size)
  have hK := (HB2.out.below hb1 l2).below hA1 (Nat.lt_of_lt_of_le l2 hb1.size)
  have HT1 := Lib.hid ((HT0.out.below hb1).below hA1)
  have Hg1 := Lib.hid (hg.below hA1)
  clear hA1 hb1 hg x0 x1
  generalize w1.alloc (.cells #[.int .i64 0, .int .i64 0, .int .i64 0] 44) = W1 at *
  have HK1 := Lib.hid hK
  have HB1 := Lib.hid hBw
  obtain ⟨l3, x0, -, x1, -⟩ := hK.two
  clear hK hBw
  go_upto_region 4 with (go_at_call 24; go_loud (refine (HFm.out _ _ HT1.out).mono ?_; rintro e w2 ⟨aF, cF, aO0, nO0, cO0, rfl, hF2, hb2⟩))
  have hA2 := (Below.refl w2.heap.size w2).alloc (Nat.le_refl _) (.cells #[.int .i64 4, .slice aF 4 cF] 24)
  have hBw := HB1.out.trans ((hb2.trans (hA2.mono hb2.size)).mono HB1.out.size)
  have hK := (HK1.out.below hb2 l3).below hA2 (Nat.lt_of_lt_of_le l3 hb2.size)
  have hKf := Blk.new w2 24 #[.int .i64 4, .slice aF 4 cF]
  have HT2 := Lib.hid ((HT1.out.below hb2).below hA2)
  have Hg2 := Lib.hid ((Hg1.out.below hb2).below hA2)
  have HF2 := Lib.hid (hF2.below hA2)
  clear hA2 hb2 hF2 x0 x1
  generalize w2.alloc (.cells #[.int .i64 4, .slice aF 4 cF] 24) = W2 at *
  generalize w2.heap.size = qf at *
  have HK2 := Lib.hid hK
  have HKf2 := Lib.hid hKf
  have HB2 := Lib.hid hBw
  have l4 := hK.lt
  clear hK hBw hKf l2 l3
  go_upto_region 5 with (go_at_call 28; go_loud (refine (HRt.out _ _ Hg2.out).mono ?_; rintro e w3 ⟨aR, cR, gO, cO, gC, cC, rfl, hR3, lO, o3, lC, c3, hb3⟩))
  have hA3 := (Below.refl w3.heap.size w3).alloc (Nat.le_refl _) (.cells #[.int .i64 4, .slice aR 4 cR] 24)
  have hBw := HB2.out.trans ((hb3.trans (hA3.mono hb3.size)).mono HB2.out.size)
  have hK := (HK2.out.below hb3 l4).below hA3 (Nat.lt_of_lt_of_le l4 hb3.size)
  have hKf := (HKf2.out.below hb3 HKf2.out.lt).below hA3 (Nat.lt_of_lt_of_le HKf2.out.lt hb3.size)
  have hKr := Blk.new w3 24 #[.int .i64 4, .slice aR 4 cR]
  have hT3 := (HT2.out.below hb3).below hA3
  have hF3 := (HF2.out.below hb3).below hA3
  have hR3 := hR3.below hA3
  have o4 := (hA3.cell (p := ⟨gO, 0, none⟩) lO).trans o3
  have c4 := (hA3.cell (p := ⟨gC, 0, none⟩) lC).trans c3
  have lO4 := Nat.lt_of_lt_of_le lO hA3.size
  have lC4 := Nat.lt_of_lt_of_le lC hA3.size
  clear hA3 hb3 lO lC o3 c3
  generalize w3.alloc (.cells #[.int .i64 4, .slice aR 4 cR] 24) = W3 at *
  generalize w3.heap.size = qr at *
  obtain ⟨Wt, hWt⟩ : ∃ Wt, (W3.alloc (.cells #[.int .i64 0, .int .i64 1, .int .i64 2, .int .i64 3, .int .i64 2, .int .i64 1, .int .i64 3, .int .i64 0, .int .i64 2, .int .i64 3, .int .i64 1, .int .i64 0] 61)).alloc (.cells #[.int .i64 4, .slice (some ⟨W3.heap.size, 0, none⟩) 4 4] 24) = Wt := ⟨_, rfl⟩
  have hA4 : Below W3.heap.size W3 Wt := by rw [← hWt]; exact ((Below.refl _ _).alloc (Nat.le_refl _) _).alloc (by simp) _
  have hBl : Blk Wt W3.heap.size 61 (ws3 W46).toArray := by rw [← hWt]; exact (Blk.new W3 _ _).alloc _
  have hKw : Blk Wt (W3.heap.size + 1) 24 #[.int .i64 4, .slice (some ⟨W3.heap.size, 0, none⟩) 4 4] := by rw [← hWt]; exact blk_new_at (by simp)
  have hW4 : TrisRd Wt (.slice (some ⟨W3.heap.size, 0, none⟩) 4 4) W46 := tris_blk hBl (by decide)
  have HT4 := Lib.hid (fun (W : World) (hW : Below Wt.heap.size Wt W) => (hT3.below hA4).below hW)
  have HF4 := Lib.hid (fun (W : World) (hW : Below Wt.heap.size Wt W) => (hF3.below hA4).below hW)
  have HR4 := Lib.hid (fun (W : World) (hW : Below Wt.heap.size Wt W) => (hR3.below hA4).below hW)
  have HW4 := Lib.hid (fun (W : World) (hW : Below Wt.heap.size Wt W) => hW4.below hW)
  have k1 := hK.below hA4 hK.lt
  have k2 := hKf.below hA4 hKf.lt
  have k3 := hKr.below hA4 hKr.lt
  have o5 := (hA4.cell (p := ⟨gO, 0, none⟩) lO4).trans o4
  have c5 := (hA4.cell (p := ⟨gC, 0, none⟩) lC4).trans c4
  have lO5 := Nat.lt_of_lt_of_le lO4 hA4.size
  have lC5 := Nat.lt_of_lt_of_le lC4 hA4.size
  have HCs := Lib.hid (fun (W : World) (hW : Below Wt.heap.size Wt W) => And.intro (k1.below hW k1.lt).two (And.intro (k2.below hW k2.lt).two (And.intro (k3.below hW k3.lt).two (And.intro (hKw.below hW hKw.lt).two (And.intro ((hW.cell (p := ⟨gO, 0, none⟩) lO5).trans o5) ((hW.cell (p := ⟨gC, 0, none⟩) lC5).trans c5))))))
  have HBw4 := Lib.hid (hBw.trans (hA4.mono hBw.size))
  obtain ⟨l5, x0, -, x1, -⟩ := hK.two
  clear k1 k2 k3 o5 c5 lO5 lC5 hKw hW4 hBl hA4 hBw hK hKf hKr hT3 hF3 hR3 o4 c4 lO4 lC4
  go_upto_region 6 with fail
  try rw [hWt]
  have hcur : Below Wt.heap.size Wt Wt := Below.refl _ _
  obtain ⟨⟨a0, a1, -, a2, -⟩, ⟨b0, b1, -, b2, -⟩, ⟨d0, d1, -, d2, -⟩, ⟨e0, e1, -, e2, -⟩, g0, h0⟩ := HCs.out _ hcur
  generalize W3.heap.size = qw at *
  clear x0 x1 l5 hWt
  go_wp2_with (first
    | (go_at_call 25; go_loud (refine (HSm.out _ _ _ (by first | exact HF4.out _ hcur | exact HR4.out _ hcur) (HW4.out _ hcur)).mono ?_); rintro e w9 ⟨rfl, hb9⟩; have hcur9 := hcur.trans (hb9.mono hcur.size); clear hb9 a0 a1 a2 b0 b1 b2 d0 d1 d2 e0 e1 e2 g0 h0 hcur; have hcur := hcur9; clear hcur9; obtain ⟨⟨a0, a1, -, a2, -⟩, ⟨b0, b1, -, b2, -⟩, ⟨d0, d1, -, d2, -⟩, ⟨e0, e1, -, e2, -⟩, g0, h0⟩ := HCs.out _ hcur)
    | (go_at_call 11; go_loud (refine (HEq.out _ _ _ (HT4.out _ hcur) (HW4.out _ hcur)).mono ?_); rintro e w9 ⟨rfl, hb9⟩; have hcur9 := hcur.trans (hb9.mono hcur.size); clear hb9 a0 a1 a2 b0 b1 b2 d0 d1 d2 e0 e1 e2 g0 h0 hcur; have hcur := hcur9; clear hcur9; obtain ⟨⟨a0, a1, -, a2, -⟩, ⟨b0, b1, -, b2, -⟩, ⟨d0, d1, -, d2, -⟩, ⟨e0, e1, -, e2, -⟩, g0, h0⟩ := HCs.out _ hcur)
    | (go_at_call 27; go_loud (refine (HLs.out _ _ (HT4.out _ hcur)).mono ?_); rintro e w9 ⟨rfl, hb9⟩; have hcur9 := hcur.trans (hb9.mono hcur.size)))
  go_ret
  exact ⟨by simp, HBw4.out.trans (hcur9.mono HBw4.out.size)⟩
end Go.Proofs.Ytpnkhgjjlionnaa
namespace Go.Proofs.Ytpnkhgjjlionnaa
open Go.RowKit Go.Maps

theorem wf_in {n : Nat} {t : Tr} (hn : n ≤ 60) (h : in3 n t) : Wf3 t := by
  obtain ⟨⟨a1, a2⟩, ⟨b1, b2⟩, c1, c2⟩ := h
  exact ⟨WalkArith.wf_i64 (by omega), WalkArith.wf_i64 (by omega), WalkArith.wf_i64 (by omega)⟩
theorem ren_in {n : Nat} {tw : List Int} {t : Tr} (h : AllN n tw) (ht : in3 n t) : in3 n (renT (toF tw) t) := ⟨h.in_ ht.1, h.in_ ht.2.1, h.in_ ht.2.2⟩
theorem below_on2 {w w1 w2 : World} (h : Below w.heap.size w w1) (h2 : Below w1.heap.size w1 w2) : Below w.heap.size w w2 := h.trans (h2.mono h.size)
set_option maxRecDepth 100000 in
set_option maxHeartbeats 4000000 in
theorem canonMap_walk (N1 : Int) (v1 : Value) (T1 : List Tr) (N2 : Int) (v2 : Value) (T2 : List Tr) (w : World) (h1 : TrisRd w v1 T1) (h2 : TrisRd w v2 T2) :
    Calls Try.prog 5 #[.agg #[.int .i64 N1, v1], .agg #[.int .i64 N2, v2]] w fun en w' => en = .returned (.bool true) ∧ Below w.heap.size w w' := by
  have hb1 := (Blk.new w 24 #[.int .i64 N1, v1]).alloc (.cells #[.int .i64 N2, v2] 24)
  have hb2 : Blk ((w.alloc (.cells #[.int .i64 N1, v1] 24)).alloc (.cells #[.int .i64 N2, v2] 24)) (w.heap.size + 1) 24 #[.int .i64 N2, v2] := blk_new_at (by simp)
  have hB0 : Below w.heap.size w ((w.alloc (.cells #[.int .i64 N1, v1] 24)).alloc (.cells #[.int .i64 N2, v2] 24)) := ((Below.refl _ _).alloc (Nat.le_refl _) _).alloc (by simp) _
  have HR1 := Lib.hid (fun (W : World) (hW : Below w.heap.size w W) => h1.below hW)
  have HR2 := Lib.hid (fun (W : World) (hW : Below w.heap.size w W) => h2.below hW)
  have HG1 := Lib.hid (fun (W : World) (hW : Below w.heap.size w W) => great10_is N1 v1 T1 W (h1.below hW))
  have HG2 := Lib.hid (fun (W : World) (hW : Below w.heap.size w W) => great10_is N2 v2 T2 W (h2.below hW))
  have HM := Lib.hid (fun (W : World) (hW : Below w.heap.size w W) (l1 : T1.length ≤ 24) (l2 : T2.length ≤ 24) (n1 : N1 ≤ 60) (n2 : N2 ≤ 60) => cmap_any N1 N2 v1 v2 T1 T2 W (h1.below hW) (h2.below hW) (by omega) (by omega) n1 n2)
  have HE1 := Lib.hid (fun (W : World) (hW : Below w.heap.size w W) (l1 : T1.length ≤ 24) (l2 : T2.length ≤ 24) (n1 : N1 ≤ 60) (n2 : N2 ≤ 60) => equal_any N1 N2 v1 v2 T1 T2 W (h1.below hW) (h2.below hW) (by omega) (by omega) n1 n2)
  have HE2 := Lib.hid (fun (W : World) (hW : Below w.heap.size w W) (l1 : T1.length ≤ 24) (l2 : T2.length ≤ 24) (n1 : N1 ≤ 60) (n2 : N2 ≤ 60) => equal_any N2 N1 v2 v1 T2 T1 W (h2.below hW) (h1.below hW) (by omega) (by omega) n2 n1)
  obtain ⟨a1, c1, rfl, -⟩ := h1
  obtain ⟨a2, c2, rfl, -⟩ := h2
  obtain ⟨F1, hF1⟩ : ∃ F, T1.length = F := ⟨_, rfl⟩
  obtain ⟨F2, hF2⟩ : ∃ F, T2.length = F := ⟨_, rfl⟩
  have HL := Lib.hid (And.intro hF1 hF2)
  rw [hF1] at HG1 HM HE1 HE2 hB0 hb1 hb2 HR1 ⊢
  rw [hF2] at HG2 HM HE1 HE2 hB0 hb1 hb2 HR2 ⊢
  have HB0 := Lib.hid hB0
  have K0 := Lib.hid hb1
  have K1 := Lib.hid hb2
  clear hB0 hb1 hb2 hF1 hF2
  go_enter Try.func5, Try.ntmps5
  go_wp2_with fail
  refine (awake46_any _).mono ?_
  rintro en w1 ⟨rfl, hb⟩
  have HB1 := Lib.hid (HB0.out.trans (hb.mono HB0.out.size))
  have K01 := Lib.hid (K0.out.below hb K0.out.lt)
  have K11 := Lib.hid (K1.out.below hb K1.out.lt)
  clear hb K0 K1 HB0
  obtain ⟨l0, x0, -, x1, -⟩ := K01.out.two
  obtain ⟨l1, y0, -, y1, -⟩ := K11.out.two
  by_cases f1 : 24 < F1
  · have d1 : (24 : Int) < (F1 : Int) := by omega
    go_wp2
    go_ret
    exact ⟨rfl, HB1.out⟩
  by_cases f2 : 24 < F2
  · have d1 : ¬ (24 : Int) < (F1 : Int) := by omega
    have d2 : (24 : Int) < (F2 : Int) := by omega
    go_wp2
    go_ret
    exact ⟨rfl, HB1.out⟩
  have d1 : ¬ (24 : Int) < (F1 : Int) := by omega
  have d2 : ¬ (24 : Int) < (F2 : Int) := by omega
  go_wp2_with fail
  refine (HG1.out _ HB1.out).mono ?_
  rintro en w2 ⟨rfl, hb⟩
  have HB2 := Lib.hid (HB1.out.trans (hb.mono HB1.out.size))
  have K02 := Lib.hid (K01.out.below hb K01.out.lt)
  have K12 := Lib.hid (K11.out.below hb K11.out.lt)
  clear hb K01 K11 HB1 x0 x1 l0 y0 y1 l1
  obtain ⟨l0, x0, -, x1, -⟩ := K02.out.two
  obtain ⟨l1, y0, -, y1, -⟩ := K12.out.two
  by_cases g1 : 40 < F1 ∨ 60 < N1 ∨ N1 < -1000
  · rw [if_pos g1]
    clear g1
    go_wp2
    go_ret
    exact ⟨rfl, HB2.out⟩
  rw [if_neg g1]
  go_wp2_with fail
  refine (HG2.out _ HB2.out).mono ?_
  rintro en w3 ⟨rfl, hb⟩
  have HB3 := Lib.hid (HB2.out.trans (hb.mono HB2.out.size))
  have K03 := Lib.hid (K02.out.below hb K02.out.lt)
  have K13 := Lib.hid (K12.out.below hb K12.out.lt)
  clear hb K02 K12 HB2 x0 x1 l0 y0 y1 l1
  obtain ⟨l0, x0, -, x1, -⟩ := K03.out.two
  obtain ⟨l1, y0, -, y1, -⟩ := K13.out.two
  by_cases g2 : 40 < F2 ∨ 60 < N2 ∨ N2 < -1000
  · rw [if_pos g2]
    clear g1 g2
    go_wp2
    go_ret
    exact ⟨rfl, HB3.out⟩
  rw [if_neg g2]
  have m1 : N1 ≤ 60 := by omega
  have m2 : N2 ≤ 60 := by omega
  have u1 : F1 ≤ 24 := by omega
  have u2 : F2 ≤ 24 := by omega
  have HM3 := Lib.hid (HM.out _ HB3.out u1 u2 m1 m2)
  have HE1' := Lib.hid (fun W hW => HE1.out W hW u1 u2 m1 m2)
  have HE2' := Lib.hid (fun W hW => HE2.out W hW u1 u2 m1 m2)
  clear g1 g2 f1 f2 d1 d2 HM HE1 HE2 HG1 HG2
  go_wp2_with fail
  refine HM3.out.mono ?_
  rintro en w4 ⟨hc, hb⟩
  have HB4 := Lib.hid (HB3.out.trans (hb.mono HB3.out.size))
  have K04 := Lib.hid (K03.out.below hb K03.out.lt)
  have K14 := Lib.hid (K13.out.below hb K13.out.lt)
  clear K03 K13 HB3 x0 x1 l0 y0 y1 l1
  obtain ⟨l0, x0, -, x1, -⟩ := K04.out.two
  obtain ⟨l1, y0, -, y1, -⟩ := K14.out.two
  have HE4 := Lib.hid (HE1'.out _ HB4.out)
  rcases hc with ⟨hno, rfl⟩ | ⟨hS1, hS2, S, O1, O2, tl, vO, hI1, hI2, htl, hm, rfl, hr⟩
  · have HNo := Lib.hid hno
    clear hno hb
    go_wp2_with fail
    refine HE4.out.mono ?_
    rintro en w5 ⟨b5, rfl, hi5, hb⟩
    obtain rfl : b5 = false := by
      cases b5 with
      | false => rfl
      | true => exact absurd (hi5.1 rfl) HNo.out
    have HB5 := Lib.hid (HB4.out.trans (hb.mono HB4.out.size))
    have K05 := Lib.hid (K04.out.below hb K04.out.lt)
    have K15 := Lib.hid (K14.out.below hb K14.out.lt)
    clear hb hi5 x0 x1 l0 y0 y1 l1
    obtain ⟨l0, x0, -, x1, -⟩ := K05.out.two
    obtain ⟨l1, y0, -, y1, -⟩ := K15.out.two
    have HE5 := Lib.hid (HE2'.out _ HB5.out)
    go_wp2_with fail
    refine HE5.out.mono ?_
    rintro en w6 ⟨b6, rfl, hi6, hb⟩
    obtain rfl : b6 = false := by
      cases b6 with
      | false => rfl
      | true => exact absurd (hi6.1 rfl).symm HNo.out
    have HB6 := Lib.hid (HB5.out.trans (hb.mono HB5.out.size))
    clear hb hi6 x0 x1 l0 y0 y1 l1
    go_wp2
    go_ret
    exact ⟨rfl, HB6.out⟩
  · obtain ⟨D1, hD1⟩ := form_by hS1 hI1
    obtain ⟨D2, hD2⟩ := form_by hS2 hI2
    obtain ⟨hN, hL, hc1, hc2⟩ := cov_two hD1 hD2 hm
    subst hN
    obtain ⟨n, rfl⟩ : ∃ n : Nat, N1 = n := ⟨N1.toNat, by have := hS1.n0; omega⟩
    have e1 : O1.length = n := by have := hD1.num; omega
    have hA1 : AllN n O1 := hD1.all
    have hA2 : AllN n O2 := hD2.all
    have hto := map_all (tw := tl) hA1 hA2 (by omega) (by rw [← e1]; exact hm)
    have hfe : FormEq (n : Int) (n : Int) T1 T2 := ⟨hS1, hS2, S, O1, O2, hI1, hI2⟩
    have htn : tl.length = n := by omega
    obtain ⟨aO, cO, rfl⟩ := ownsRow_slice hr
    have HFe := Lib.hid hfe
    have HTo := Lib.hid hto
    have HC := Lib.hid (And.intro hc1 (And.intro hc2 hL))
    have HSS := Lib.hid (And.intro hS1 hS2)
    have HO4 := Lib.hid (IntsRd.of_row hr rfl)
    rw [htn] at HO4 ⊢
    clear hS1 hS2 hI1 hI2 htl hm hr hD1 hD2 hL hc1 hc2 e1 hA1 hA2 hto hfe htn hb
    go_wp2_with fail
    refine HE4.out.mono ?_
    rintro en w5 ⟨b5, rfl, hi5, hb⟩
    obtain rfl : b5 = true := hi5.2 HFe.out
    have HB5 := Lib.hid (HB4.out.trans (hb.mono HB4.out.size))
    have K05 := Lib.hid (K04.out.below hb K04.out.lt)
    have K15 := Lib.hid (K14.out.below hb K14.out.lt)
    have HO5 := Lib.hid (HO4.out.below hb)
    clear hb hi5 x0 x1 l0 y0 y1 l1
    obtain ⟨l0, x0, -, x1, -⟩ := K05.out.two
    obtain ⟨l1, y0, -, y1, -⟩ := K15.out.two
    have HE5 := Lib.hid (HE2'.out _ HB5.out)
    go_wp2_with fail
    refine HE5.out.mono ?_
    rintro en w6 ⟨b6, rfl, hi6, hb⟩
    obtain rfl : b6 = true := hi6.2 HFe.out.symm
    have HB6 := Lib.hid (HB5.out.trans (hb.mono HB5.out.size))
    have K06 := Lib.hid (K05.out.below hb K05.out.lt)
    have K16 := Lib.hid (K15.out.below hb K15.out.lt)
    have HO6 := Lib.hid (HO5.out.below hb)
    clear hb hi6 x0 x1 l0 y0 y1 l1
    obtain ⟨l0, x0, -, x1, -⟩ := K06.out.two
    obtain ⟨l1, y0, -, y1, -⟩ := K16.out.two
    have HRn := Lib.hid (rename_any n (.slice a1 F1 c1) (.slice aO n cO) T1 tl w6 (HR1.out _ HB6.out) HO6.out (surf_fits HSS.out.1) HTo.out)
    go_wp2_with fail
    refine HRn.out.mono ?_
    rintro en w7 ⟨vT, rfl, hrT, hb⟩
    obtain ⟨aR, cR, rfl⟩ := ownsRow_slice hrT
    rw [HL.out.1] at hrT ⊢
    have hA7 := (Below.refl w7.heap.size w7).alloc (Nat.le_refl _) (.cells #[.int .i64 (n : Int), .slice aR F1 cR] 24)
    have kr := Blk.new w7 24 #[.int .i64 (n : Int), .slice aR F1 cR]
    have HB7 := Lib.hid (below_on2 (HB6.out.trans (hb.mono HB6.out.size)) hA7)
    have K17 := Lib.hid ((K16.out.below hb K16.out.lt).below hA7 (K16.out.below hb K16.out.lt).lt)
    have HT7 := Lib.hid (show TrisRd w7 (.slice aR F1 cR) (T1.map (renT (toF tl))) from TrisRd.of_row (base := w6.heap.size) (by rw [List.length_map, HL.out.1]; exact hrT))
    have HT8 := Lib.hid (HT7.out.below hA7)
    have KR := Lib.hid kr
    clear hb hA7 kr hrT x0 x1 l0 y0 y1 l1
    generalize hW8 : (w7.alloc (.cells #[.int .i64 (n : Int), .slice aR F1 cR] 24)) = w8 at *
    obtain ⟨l0, x0, -, x1, -⟩ := KR.out.two
    obtain ⟨l1, y0, -, y1, -⟩ := K17.out.two
    have hw1 : ∀ t ∈ T1.map (renT (toF tl)), Wf3 t := fun t ht => by
      obtain ⟨s, hs, rfl⟩ := List.mem_map.1 ht
      exact wf_in (by omega) (ren_in HTo.out (HSS.out.1.inr s hs))
    have hw2 : ∀ t ∈ T2, Wf3 t := fun t ht => wf_in (by omega) (HSS.out.2.inr t ht)
    have HC1 := Lib.hid (covers_any (n : Int) (n : Int) _ _ _ _ w8 HT8.out (HR2.out _ HB7.out) (by rw [List.length_map, HL.out.1]; omega) (by rw [HL.out.2]; omega) hw1 hw2)
    have HC2 := Lib.hid (fun (W : World) (hW : Below w8.heap.size w8 W) => covers_any (n : Int) (n : Int) _ _ _ _ W (HR2.out _ (HB7.out.trans (hW.mono HB7.out.size))) (HT8.out.below hW) (by rw [HL.out.2]; omega) (by rw [List.length_map, HL.out.1]; omega) hw2 hw1)
    clear hw1 hw2
    go_wp2_with fail
    refine HC1.out.mono ?_
    rintro en w9 ⟨b9, rfl, hi9, hb9⟩
    obtain rfl : b9 = true := hi9.2 ⟨HC.out.1, rfl, by rw [List.length_map]; exact HC.out.2.2⟩
    have KR9 := Lib.hid (KR.out.below hb9 KR.out.lt)
    have K19 := Lib.hid (K17.out.below hb9 K17.out.lt)
    have HB9 := Lib.hid (HB7.out.trans (hb9.mono HB7.out.size))
    have HC9 := Lib.hid (HC2.out _ hb9)
    clear hb9 hi9 x0 x1 l0 y0 y1 l1
    obtain ⟨l0, x0, -, x1, -⟩ := KR9.out.two
    obtain ⟨l1, y0, -, y1, -⟩ := K19.out.two
    go_wp2_with fail
    refine HC9.out.mono ?_
    rintro en w10 ⟨b10, rfl, hi10, hb10⟩
    obtain rfl : b10 = true := hi10.2 ⟨HC.out.2.1, rfl, by rw [List.length_map]; exact HC.out.2.2.symm⟩
    have HB10 := Lib.hid (HB9.out.trans (hb10.mono HB9.out.size))
    clear hb10 hi10 x0 x1 l0 y0 y1 l1
    go_wp2
    go_ret
    exact ⟨rfl, HB10.out⟩
end Go.Proofs.Ytpnkhgjjlionnaa
namespace Go.Proofs.Ytpnkhgjjlionnaa
open Go.RowKit

theorem three_cells {P : Program} {H : Type} {enc : TypeId × Value → H} {w : World} {base : Nat} {spare : Nat → Bool} {held : Bool} {t u : TypeId} {m : Nat} {cs : List Value} {x : DataW H × List MemPlace}
    (ht : P.underlying t = some (.array 3 u)) (hu : P.underlying u = some (.int .i64)) (hc : P.cellsOf u = 1) (hl : cs.length = 3) (h : DataW.trod enc P w base spare held m t cs = some x) :
    ∃ a b c : Int, cs = [.int .i64 a, .int .i64 b, .int .i64 c] := by
  obtain ⟨xs, n, -, -, -, hx, hel⟩ := DataW.trod_array ht h
  rw [hc] at hel
  match cs, hl with
  | [v0, v1, v2], _ =>
    have key : ∀ i v, i < 3 → ([v0, v1, v2].drop (i * 1)).take 1 = [v] → ∃ z : Int, v = .int .i64 z := by
      intro i v hi hv
      have e := hel i hi
      rw [hv] at e
      obtain ⟨y, hy⟩ : ∃ y, xs[i]? = some y := ⟨xs[i]'(by omega), List.getElem?_eq_getElem _⟩
      rw [hy] at e
      obtain ⟨z, hz, -, -⟩ := DataW.trod_int hu e
      exact ⟨z, by simpa using hz⟩
    obtain ⟨a, rfl⟩ := key 0 v0 (by omega) rfl
    obtain ⟨b, rfl⟩ := key 1 v1 (by omega) rfl
    obtain ⟨c, rfl⟩ := key 2 v2 (by omega) rfl
    exact ⟨a, b, c, rfl⟩
theorem tris_open {H : Type} {enc : TypeId × Value → H} {w : World} {base : Nat} {spare : Nat → Bool} {held : Bool} {m : Nat} {v : Value} {x : DataW H × List MemPlace}
    (h : DataW.trod enc Try.prog w base spare held m 22 [v] = some x) : ∃ T, TrisRd w v T := by
  rcases Go.Deep.open_slice Try.underlying22 h with ⟨e1, -⟩ | ⟨a, len, cap, q, n, D, Pl, e1, hb, hl, hm, hq, -, hall⟩
  · have e : v = .slice none 0 0 := by simpa using e1
    subst e
    exact ⟨[], none, 0, rfl, by simp, by decide, fun k x y z hk => by simp at hk⟩
  · have e : v = .slice (some a) len cap := by simpa using e1
    subst e
    have h3 : Try.prog.cellsOf 61 = 3 := by kernel_rfl
    have hlq : len ≤ q := by rw [hq]; split <;> omega
    have key : ∀ i, ∃ t : Tr, i < len → w.cell? (a.add (i * 3)) = some (.int .i64 t.1) ∧ w.cell? ((a.add (i * 3)).add 1) = some (.int .i64 t.2.1) ∧ w.cell? ((a.add (i * 3)).add 2) = some (.int .i64 t.2.2) := by
      intro i
      by_cases hi : i < len
      · obtain ⟨cs, hcs, htr⟩ := hall i (by omega)
        rw [h3] at hcs
        obtain ⟨-, hcl, hce⟩ := World.cells?_some hcs
        obtain ⟨x, y, z, rfl⟩ := three_cells Try.underlying61 Try.underlying3 (by kernel_rfl) hcl htr
        refine ⟨(x, y, z), fun _ => ⟨?_, hce 1 (by omega), hce 2 (by omega)⟩⟩
        have := hce 0 (by omega)
        have e0 : (a.add (i * 3)).add 0 = a.add (i * 3) := by simp [Addr.add]
        rw [e0] at this
        exact this
      · exact ⟨(0, 0, 0), fun h => absurd h hi⟩
    obtain ⟨f, hf⟩ := Classical.axiomOfChoice key
    refine ⟨(List.range len).map f, some a, cap, by simp, by simpa using hl, by unfold maxLen at hm; omega, fun k x y z hk => ?_⟩
    have hk' : k < len := by
      have := (List.getElem?_eq_some_iff.1 hk).1
      simpa using this
    rw [List.getElem?_map, List.getElem?_range hk'] at hk
    have hfk : f k = (x, y, z) := by simpa using hk
    obtain ⟨c0, c1, c2⟩ := hf k hk'
    rw [hfk] at c0 c1 c2
    obtain ⟨b, off, spot⟩ := a
    have hspot : spot = none := by simpa [Addr.add] using World.cell?_spot (hf 0 (by omega)).1
    subst hspot
    rw [Addr.add_lit] at c0
    rw [Addr.add_lit, Addr.add_lit] at c1 c2
    refine ⟨b, off, rfl, ?_, c0, c1, c2⟩
    rcases Nat.lt_or_ge b w.heap.size with hlt | hge
    · exact hlt
    · exfalso
      unfold World.cell? at c0
      simp [Array.getElem?_eq_none hge] at c0
set_option maxRecDepth 100000 in
theorem soup_open {H : Type} {enc : TypeId × Value → H} {w : World} {base : Nat} {spare : Nat → Bool} {held : Bool} {r : Go.Reach} {b0 : Nat} {v : Value} {d : DataW H} {p : List MemPlace}
    (hv : Value.okWide Try.prog w r b0 24 v) (h : DataW.Trod enc Try.prog w base spare held 24 v d p) :
    ∃ (N : Int) (vT : Value) (T : List Tr), v = .agg #[.int .i64 N, vT] ∧ TrisRd w vT T ∧ (Lit.int .i64 N).wf = true := by
  obtain ⟨v0, v1, y0, y1, n, rfl, -, -, h0, h1⟩ := Go.Joins.open_agg2 Try.underlying24 (by kernel_rfl) (by kernel_rfl) hv h
  obtain ⟨N, e0, -, hw⟩ := DataW.trod_int Try.underlying3 h0
  obtain ⟨T, hT⟩ := tris_open h1
  exact ⟨N, v1, T, by simpa using e0, hT, hw⟩
end Go.Proofs.Ytpnkhgjjlionnaa
