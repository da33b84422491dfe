/-
  Texts joined by program, what the law uses alone: SpB TwP HeldS Lw46 Awk46 CnTw ArgS.
-/
import Derived.Deep.QuietTactic
import Derived.BigQuiet
import Derived.BigRegion
import Derived.Deep.DeepCutAuto
import Derived.Deep.RegionHeld3
import Derived.Lib.Hide
import Derived.Lib.QuietBelow
import Derived.Lib.Slices
import Derived.LoopIn
import Derived.LoopNIn
import Derived.OwnWalkIn
import Derived.RangeFuncBound
import Derived.RangeFuncCalls
import Derived.RangeFuncLeaves
import Derived.RangeFuncNested
import Derived.RegionTactic
import Derived.Shelf.Abstract
import Derived.TacticsInMore
import Derived.ProofKit
import Derived.WideShapes
import Derived.OpenShut
import Derived.Deep.Slices
import Derived.Lib.SmallJoins
import Derived.Test.YtpnkhgjjlionnaaE7
import Derived.Test.YtpnkhgjjlionnaaE3
import Derived.Test.YtpnkhgjjlionnaaE6
import Derived.Test.YtpnkhgjjlionnaaE1
import Derived.Test.YtpnkhgjjlionnaaE4
import Derived.Test.YtpnkhgjjlionnaaE5
namespace Go.Proofs.Ytpnkhgjjlionnaa
open Go.RowKit Go.Maps

/-- The triangles of part k among the first i. -/
def pI (out : List Int) (k i : Nat) : List Int := ((List.range i).filter fun j : Nat => decide (at_ out j = (k : Int))).map fun j : Nat => (j : Int)
theorem pI_succ (out : List Int) (k i : Nat) : pI out k (i + 1) = if at_ out i = (k : Int) then pI out k i ++ [(i : Int)] else pI out k i := by
  unfold pI
  rw [List.range_succ, List.filter_append, List.map_append]
  by_cases h : at_ out i = (k : Int)
  · simp [h]
  · simp [h]
theorem pI_len (out : List Int) (k i : Nat) : (pI out k i).length ≤ i := by
  unfold pI
  rw [List.length_map]
  exact Nat.le_trans (List.length_filter_le _ _) (by simp)
theorem pI_mem {out : List Int} {k i : Nat} {x : Int} : x ∈ pI out k i ↔ ∃ j : Nat, j < i ∧ at_ out j = (k : Int) ∧ x = (j : Int) := by
  unfold pI
  rw [List.mem_map]
  constructor
  · rintro ⟨j, hj, rfl⟩
    obtain ⟨h1, h2⟩ := List.mem_filter.1 hj
    exact ⟨j, List.mem_range.1 h1, by simpa using h2, rfl⟩
  · rintro ⟨j, h1, h2, rfl⟩
    exact ⟨j, List.mem_filter.2 ⟨List.mem_range.2 h1, by simpa using h2⟩, rfl⟩
def triOf (T : List Tr) (x : Int) : Tr := T.getD x.toNat (0, 0, 0)
/-- The vertices of some triangles. -/
def vrtI (T : List Tr) (I : List Int) : List Int := setL (flatT (I.map (triOf T)))
def idxV (V : List Int) (v : Int) : Int := ((V.countP (· < v) : Nat) : Int)
def triI (V : List Int) (t : Tr) : Tr := (idxV V t.1, idxV V t.2.1, idxV V t.2.2)
/-- Some triangles, as a list of triangles of its own. -/
def partS (T : List Tr) (I : List Int) : List Tr := I.map fun x => triI (vrtI T I) (triOf T x)
structure PtDone (w W : World) (T : List Tr) (I : List Int) (p : PtV) : Prop where
  eI : p.I = I
  eV : p.V = vrtI T I
  eS : p.S = partS T I
  en : p.n = (p.V.length : Int)
  rI : W.ownsRow w.heap.size 3 1 p.vI p.I.length (intsV p.I)
  rV : W.ownsRow w.heap.size 3 1 p.vV p.V.length (intsV p.V)
  rS : W.ownsRow w.heap.size 61 3 p.vS p.S.length (ws3 p.S)
structure PtWait (w W : World) (I : List Int) (p : PtV) : Prop where
  fresh : Fresh p
  eI : p.I = I
  rI : W.ownsRow w.heap.size 3 1 p.vI p.I.length (intsV p.I)
theorem PtDone.kept {w W W' : World} {T : List Tr} {I : List Int} {p : PtV} {pb : Nat} {cs : Array Value} (h : PtDone w W T I p) (hg : W.grownBy W' (some pb)) (hb : Blk W pb 56 cs) : PtDone w W' T I p :=
  ⟨h.eI, h.eV, h.eS, h.en, h.rI.kept hg (.inr (own_blk_ne h.rI hb (by decide))), h.rV.kept hg (.inr (own_blk_ne h.rV hb (by decide))), h.rS.kept hg (.inr (own_blk_ne h.rS hb (by decide)))⟩
theorem PtWait.kept {w W W' : World} {I : List Int} {p : PtV} {pb : Nat} {cs : Array Value} (h : PtWait w W I p) (hg : W.grownBy W' (some pb)) (hb : Blk W pb 56 cs) : PtWait w W' I p :=
  ⟨h.fresh, h.eI, h.rI.kept hg (.inr (own_blk_ne h.rI hb (by decide)))⟩
def SplitPost (T : List Tr) (w : World) (e : Ending) (w' : World) : Prop :=
  ∃ (out : List Int) (m : Nat), Shl T out ∧ (m : Int) = cntL out ∧ ((m = 0 ∧ e = .returned (.slice none 0 0)) ∨ (0 < m ∧ ∃ (pb : Nat) (l : List PtV), e = .returned (.slice (some ⟨pb, 0, none⟩) m m) ∧ w.heap.size ≤ pb ∧ Blk w' pb 56 (l.flatMap PtV.enc).toArray ∧ l.length = m ∧ ∀ i p, l[i]? = some p → PtDone w w' T (pI out i T.length) p)) ∧ Below w.heap.size w w'
theorem infoPart9 : (Try.prog.info? 56).map (fun i => (i.zero, i.size, i.bytes)) = some (some (.agg #[.int .i64 0, .slice none 0 0, .slice none 0 0, .slice none 0 0]), 4, 80) := by kernel_rfl
def pt0 : PtV := ⟨0, .slice none 0 0, .slice none 0 0, .slice none 0 0, [], [], []⟩
theorem made_pt (n : Nat) : (madeCells (Value.agg #[.int .i64 0, .slice none 0 0, .slice none 0 0, .slice none 0 0]).cells (n * 4)).toList = (List.replicate n pt0).flatMap PtV.enc := by
  apply List.ext_getElem?
  intro j
  by_cases hj : j < n * 4
  · rw [flatMap_at PtV.enc_len (by decide) _ j (by simpa using hj)]
    have h3 : j / 4 < n := by omega
    have e : (List.replicate n pt0)[j / 4]! = pt0 := by rw [getElem!_pos _ _ (by simpa using h3)]; simp
    rw [e]
    have hz : (Value.agg #[.int .i64 0, .slice none 0 0, .slice none 0 0, .slice none 0 0]).cells = #[.int .i64 0, .slice none 0 0, .slice none 0 0, .slice none 0 0] := rfl
    rw [hz]
    unfold madeCells
    simp only [Array.getElem?_toList, Array.getElem?_map, Array.getElem?_range, hj, if_true, Option.map_some]
    show some (_[j % 4]!) = _
    rcases (by omega : j % 4 = 0 ∨ j % 4 = 1 ∨ j % 4 = 2 ∨ j % 4 = 3) with e | e | e | e <;> rw [e] <;> rfl
  · rw [List.getElem?_eq_none (by rw [Array.length_toList, size_madeCells]; omega), List.getElem?_eq_none (by rw [flatMap_len PtV.enc_len]; simp; omega)]
theorem rows_blk {W : World} {base b n : Nat} {e : TypeId} {xs : List Value} {s : Nat} (h : W.ownsRow base e s (.slice (some ⟨b, 0, none⟩) n n) n xs) : Blk W b e xs.toArray := by
  have hl := h.1
  rcases h.2 with ⟨e1, _⟩ | ⟨g, cap, cur, e1, hb, hg, h1, h2, h3, h4⟩
  · cases e1
  · cases e1
    have : xs.toArray = cur := by
      apply Array.ext'
      rw [← h4, List.take_of_length_le (by simp [h3])]
    unfold Blk
    rw [this]
    exact hg
theorem grown_noneS {W W' : World} (h : W.grownBy W' none) : Below W.heap.size W W' := ⟨h.os, h.tape, h.output, h.size, fun k hk => h.block k hk (by simp)⟩
theorem rows_rd {W : World} {base : Nat} {l : List (Value × List Int)} (h : RwL W base l) : ∀ p ∈ l, IntsRd W p.1 p.2 := fun p hp => IntsRd.of_row (h.own p hp) rfl
theorem Shl.has9 {T : List Tr} {out : List Int} (h : Shl T out) {m : Nat} (hm : (m : Int) = cntL out) {n : Nat} (hn : n < m) : ∃ j, j < T.length ∧ at_ out j = (n : Int) := h.hasP hm n hn
theorem List.set_getElem?_self9 {α : Type} {l : List α} {k : Nat} {x : α} (h : l[k]? = some x) : l.set k x = l := by
  apply List.ext_getElem?
  intro i
  by_cases e : i = k
  · subst e
    rw [List.getElem?_set_self (List.getElem?_eq_some_iff.1 h).1, h]
  · rw [List.getElem?_set_ne (Ne.symm e)]
theorem grown_transS {W W' W2 : World} {row : Option Nat} (h : W.grownBy W' row) (h2 : W'.grownBy W2 row) : W.grownBy W2 row := ⟨h2.os.trans h.os, h2.tape.trans h.tape, h2.output.trans h.output, Nat.le_trans h.size h2.size, fun k hk hr => (h2.block k (Nat.lt_of_lt_of_le hk h.size) hr).trans (h.block k hk hr)⟩
theorem grown_belowS {W W' : World} (h : Below W.heap.size W W') (row : Option Nat) : W.grownBy W' row := ⟨h.os, h.tape, h.output, h.size, fun k hk _ => h.block k hk⟩
theorem grown_setS {W : World} {q i : Nat} (v : Value) : W.grownBy (W.setCell ⟨q, i, none⟩ v) (some q) := ⟨rfl, rfl, rfl, by simp, fun k _ hr => Below.heap_setCell W ⟨q, i, none⟩ v k (fun e => hr (by rw [e]))⟩
theorem cells3 {w : World} {g o : Nat} {a b c : Value} (h0 : w.cell? ⟨g, o, none⟩ = some a) (h1 : w.cell? ⟨g, o + 1, none⟩ = some b) (h2 : w.cell? ⟨g, o + 2, none⟩ = some c) : ∀ (j : Nat) (u : Value), [a, b, c][j]? = some u → w.cell? ((⟨g, o, none⟩ : Addr).add j) = some u := by
  intro j u hu
  rw [Addr.add_lit]
  rcases j with _ | _ | _ | j
  · simp at hu
    subst hu
    exact h0
  · simp at hu
    subst hu
    exact h1
  · simp at hu
    subst hu
    exact h2
  · simp at hu
theorem grown_appS {W0 W1 W2 W5 : World} {q i : Nat} {v : Value} {row : Option Nat} (h0 : W0.grownBy W1 (some q)) (hb : Below W1.heap.size W1 W2) (hg : W2.grownBy W5 row) (hr : ∀ j, row = some j → W0.heap.size ≤ j) : W0.grownBy (W5.setCell ⟨q, i, none⟩ v) (some q) := by
  have h1 : W0.grownBy W5 (some q) := ⟨hg.os.trans (hb.os.trans h0.os), hg.tape.trans (hb.tape.trans h0.tape), hg.output.trans (hb.output.trans h0.output), Nat.le_trans h0.size (Nat.le_trans hb.size hg.size), fun j hj hne =>
    (hg.block j (Nat.lt_of_lt_of_le hj (Nat.le_trans h0.size hb.size)) (fun e => by have := hr j e.symm; omega)).trans ((hb.block j (Nat.lt_of_lt_of_le hj h0.size)).trans (h0.block j hj hne))⟩
  exact grown_transS h1 (grown_setS v)
theorem grown_appT {W0 W1 W5 : World} {q : Nat} {row : Option Nat} (h0 : W0.grownBy W1 (some q)) (hg : W1.grownBy W5 row) (hr : ∀ j, row = some j → W0.heap.size ≤ j) : W0.grownBy W5 (some q) :=
  ⟨hg.os.trans h0.os, hg.tape.trans h0.tape, hg.output.trans h0.output, Nat.le_trans h0.size hg.size, fun j hj hne =>
    (hg.block j (Nat.lt_of_lt_of_le hj h0.size) (fun e => by have := hr j e.symm; omega)).trans (h0.block j hj hne)⟩
theorem bsearch_any {w : World} {base g n cap : Nat} {zs : List Int} {x : Int} (h : w.ownsRow base 3 1 (.slice (some ⟨g, 0, none⟩) n cap) n (intsV zs)) (hs : zs.Pairwise (· < ·)) (hn : n ≤ 1000000) :
    Calls Try.prog 59 #[.slice (some ⟨g, 0, none⟩) n cap, .int .i64 x] w fun e w' => (∃ b : Bool, e = .returned (.tuple #[.int .i64 (idxV zs x), .bool b])) ∧ ∃ q, w' = w.drewN q := by
  have hl : zs.length = n := by
    have := h.1
    simpa [intsV] using this
  subst hl
  have := Try.slices_BinarySearch_int g 0 zs.length cap zs x w (Nat.le_refl _) (by omega) (fun j hj => by
    rw [Nat.zero_add, h.cellAt j (by omega)]
    simp [intsV, List.getElem?_map, List.getElem?_eq_getElem hj]) (by rw [List.take_length]; exact hs.imp (fun h => by omega))
  refine this.mono ?_
  rintro e w' ⟨rfl, q, rfl⟩
  rw [List.take_length]
  exact ⟨⟨_, rfl⟩, q, rfl⟩
/-- The program's state while it gathers. -/
structure Sp1 (w W : World) (B : Nat) (out : List Int) (bx pb m i : Nat) (l : List PtV) : Prop where
  st : PtSt w W bx pb m l
  rw_ : RwL W B (iRows l)
  all : ∀ k p, l[k]? = some p → Fresh p ∧ p.I = pI out k i
set_option maxRecDepth 100000 in
set_option maxHeartbeats 8000000 in
theorem split_any (g : Nat) (N : Int) (T : List Tr) (w : World) (h : Tab w g N T) (hE : (T.flatMap edges3).Nodup) : Calls Try.prog 26 #[.pointer (some ⟨g, 0, none⟩)] w (SplitPost T w) := by
  obtain ⟨iR, hR, hr0, hr1, hr2⟩ := info_parts infoPart9
  obtain ⟨i2, hj', hy0, hy1, hy2⟩ := info_parts infoInt
  obtain ⟨i3, hi3, hx0, hx1, hx2⟩ := info_parts infoTri
  obtain ⟨F, hF⟩ : ∃ F, T.length = F := ⟨_, rfl⟩
  have hF2 : F ≤ 8192 := by rw [← hF]; exact h.len
  have HF := Lib.hid hF
  have HT := Lib.hid (fun (W : World) (hW : Below w.heap.size w W) => h.below hW)
  have HOf := Lib.hid (of_any g N T w h hE)
  have HE := Lib.hid hE
  clear h hE hF
  go_enter Try.func26, Try.ntmps26
  go_upto_region 2 with (go_at_call 45; go_loud (refine HOf.out.mono ?_; rintro e w1 ⟨vO, out, rfl, hro, hsh, hlt, hb1⟩))
  rw [HF.out] at hro
  obtain ⟨aO, cO, rfl⟩ := ownsRow_slice hro
  have HC := Lib.hid (count_any g N T w1 (HT.out w1 hb1) HE.out)
  obtain ⟨m, hm⟩ : ∃ m : Nat, cntL out = (m : Int) := ⟨(cntL out).toNat, by have := (cntL_bd (out := out) (m := (T.length : Int)) (fun j hj => by have := hlt j (by rw [← hsh.len]; exact hj); omega) (by omega) out.length (Nat.le_refl _)).1; rw [List.take_length] at this; omega⟩
  have hmF : m ≤ 8192 := by have := (cntL_bd (out := out) (m := (T.length : Int)) (fun j hj => by have := hlt j (by rw [← hsh.len]; exact hj); omega) (by omega) out.length (Nat.le_refl _)).2; rw [List.take_length, HF.out] at this; omega
  have Hsh := Lib.hid hsh
  have Hm := Lib.hid hm
  have HB1 := Lib.hid hb1
  have HRo := Lib.hid hro
  clear hsh hm hb1 hro hlt
  go_upto_region 3 with (first
    | (go_at_call 46; go_loud (refine HC.out.mono ?_; rintro e w2 ⟨out', rfl, hsh', -, hb2⟩; rw [Shl.one hsh' Hsh.out, Hm.out]; clear hsh'))
    | (at_make; refine wpList_make_full _ rfl (.tmp 21) (.tmp 21) 53 rfl w1.heap.size 56 iR _ 4 Try.underlying53 hR hr0 hr1 .i64 .i64 _ _ m rfl rfl rfl rfl (by rw [hr2]; omega) (by unfold maxLen; omega) hb2.size ?_; intro w3 hr3 hg3))
  have hB3 := HB1.out.trans ((hb2.grown hg3 hb2.size (fun j e => by cases e)).mono HB1.out.size)
  have hrP := hr3
  rw [made_pt] at hrP
  have hz1 := HB1.out.size
  have hz2 := hb2.size
  have hz3 := hg3.size
  have hO3 := own_below (own_below HRo.out hb2) (grown_noneS hg3)
  have hA3 := (Below.refl w3.heap.size w3).alloc (Nat.le_refl _) (.cells #[.slice (some ⟨w2.heap.size, 0, none⟩) m m] 53)
  have HS := Lib.hid (tabSoup_any g N T (w3.alloc (.cells #[.slice (some ⟨w2.heap.size, 0, none⟩) m m] 53)) (HT.out _ (hB3.alloc hB3.size _)))
  have hpb := rows_blk hrP
  have hI0 : Sp1 w (w3.alloc (.cells #[.slice (some ⟨w2.heap.size, 0, none⟩) m m] 53)) 0 out w3.heap.size w2.heap.size m 0 (List.replicate m pt0) :=
    ⟨⟨Blk.new _ _ _, hpb.alloc _, by simp, hB3.alloc hB3.size _, by omega, by omega⟩, ⟨fun p hp => by
      obtain ⟨q, hq, rfl⟩ := List.mem_map.1 hp
      rw [(List.mem_replicate.1 hq).2]
      exact World.ownsRow_nil _ _ _ _, by
      refine List.pairwise_iff_getElem.2 (fun i j hi hj _ => .inl ?_)
      simp [iRows, pt0, Value.ownBlock]⟩, fun k p hk => by
      rw [(List.mem_replicate.1 (List.mem_of_getElem? hk)).2]
      exact ⟨⟨rfl, rfl, rfl, rfl, rfl⟩, rfl⟩⟩
  have HI0 := Lib.hid hI0
  have HO3 := Lib.hid (own_below hO3 hA3)
  clear hpb hrP hr3 hg3 hb2 hB3 hO3 hA3 hI0 HOf HC HRo
  go_upto_region 5 with (go_at_call 54; go_loud (refine HS.out.mono ?_; rintro e w4 ⟨vS, rfl, hrS, hb4⟩; obtain ⟨aS, cS, rfl⟩ := ownsRow_slice hrS))
  rw [HF.out] at hrS ⊢
  have hA4 := (Below.refl w4.heap.size w4).alloc (Nat.le_refl _) (.cells #[.int .i64 N, .slice aS F cS] 24)
  have hz4 := (HI0.out.st.below hb4).bel.size
  have KS := Lib.hid (Blk.new w4 24 #[.int .i64 N, .slice aS F cS])
  have hsz4 : w.heap.size ≤ (w3.alloc (.cells #[.slice (some ⟨w2.heap.size, 0, none⟩) m m] 53)).heap.size := HI0.out.st.bel.size
  have HS4 := Lib.hid (own_below (own_lowerT hrS hsz4) hA4)
  have HO4 := Lib.hid (own_below (own_below HO3.out hb4) hA4)
  have hst4 := (HI0.out.st.below hb4).below hA4
  generalize w4.alloc (.cells #[.int .i64 N, .slice aS F cS] 24) = w5 at *
  have HI4 := Lib.hid (show Sp1 w w5 w5.heap.size out w3.heap.size w2.heap.size m 0 (List.replicate m pt0) from ⟨hst4, ⟨fun p hp => by
      obtain ⟨q, hq, rfl⟩ := List.mem_map.1 hp
      rw [(List.mem_replicate.1 hq).2]
      exact World.ownsRow_nil _ _ _ _, HI0.out.rw_.ne⟩, HI0.out.all⟩)
  clear hst4 hA4 hrS hb4 HI0 HO3 hsz4 HS HT HB1
  generalize hbs : w4.heap.size = bs at *
  generalize hbx : w3.heap.size = bx at *
  generalize hpb : w2.heap.size = pb at *
  have hbsl : w.heap.size ≤ bs := hz4
  go_wp2
  go_loopw [28] (fun i wr => ∃ (k : Nat) (l : List PtV), k ≤ F ∧ i = .int .i64 k ∧ Sp1 w wr w5.heap.size out bx pb m k l ∧ w5.grownBy wr (some pb)) (fun i _ => F - (intOf i).toNat)
  case atStart => exact ⟨0, _, Nat.zero_le _, rfl, HI4.out, World.grownBy.refl _ _⟩
  case round =>
    rename World => wr
    obtain ⟨k, l, hk, rfl, hI, hg⟩ := hrel
    have hrO := HO4.out.kept hg (.inr (own_blk_ne HO4.out HI4.out.st.b (by decide)))
    by_cases hlt : k < F
    · have hol : out.length = F := by rw [Hsh.out.len, HF.out]
      obtain ⟨gO, capO, eO, -, -⟩ := hrO.form (by omega)
      cases eO
      obtain ⟨n, hn⟩ : ∃ n : Nat, at_ out k = (n : Int) := ⟨(at_ out k).toNat, by have := Hsh.out.nn k (by rw [HF.out]; exact hlt); omega⟩
      have hnm : n < m := by have := cntI_lt (out := out) (j := k) (by omega); rw [Hm.out, hn] at this; omega
      have hcO : wr.cell? ⟨gO, k, none⟩ = some (.int .i64 (n : Int)) := by
        rw [hrO.cellAt k (by omega), intsV_at (by omega), hn]
      obtain ⟨p, hp⟩ : ∃ p, l[n]? = some p := ⟨l[n]'(by rw [hI.st.len]; exact hnm), List.getElem?_eq_getElem (by rw [hI.st.len]; exact hnm)⟩
      have hpI := (hI.all n p hp).2
      have HG := Lib.hid (gather_any (k : Int) HI4.out.st.bel.size hg.size hI.st hI.rw_ hp (by rw [hpI]; have := pI_len out n k; omega) (by omega))
      have HP := Lib.hid hp
      have HI := Lib.hid hI
      have HG5 := Lib.hid hg
      have Hn := Lib.hid hn
      have hki : (k : Int) < (F : Int) := by omega
      clear hI hg hrO hp hpI hn hol
      go_wp2_with (go_at_call 55; refine HG.out.mono ?_; rintro e wx ⟨rfl, v9, hst, hrw, hfr⟩)
      have HIx := Lib.hid (show Sp1 w wx w5.heap.size out bx pb m (k + 1) _ from ⟨hst, hrw, fun j q hq => by
        by_cases hjn : j = n
        · subst hjn
          rw [List.getElem?_set_self (List.getElem?_eq_some_iff.1 HP.out).1] at hq
          obtain rfl := Option.some.inj hq
          obtain ⟨h1, h2⟩ := HI.out.all j p HP.out
          refine ⟨h1, ?_⟩
          rw [pI_succ, if_pos Hn.out, ← h2]
        · rw [List.getElem?_set_ne (Ne.symm hjn)] at hq
          obtain ⟨h1, h2⟩ := HI.out.all j q hq
          refine ⟨h1, ?_⟩
          rw [pI_succ, if_neg (fun e => hjn (by have := Hn.out; omega)), ← h2]⟩)
      have HGx := Lib.hid (hfr w5 (Nat.le_refl _) HG5.out)
      clear hst hrw hfr
      go_roundw
      case measure => simp [intOf]; omega
      case rel => exact ⟨k + 1, _, by omega, by go_num, HIx.out, HGx.out⟩
    · obtain rfl : F = k := by omega
      have HI := Lib.hid hI
      have HG5 := Lib.hid hg
      have x0 : wr.cell? ⟨bx, 0, none⟩ = some _ := hI.st.k.cell 0
      clear hI hg hrO
      have HX := Lib.hid (rows_rd HI.out.rw_)
      have hR0 : ∀ i p, l[i]? = some p → PtWait w wr (pI out i F) p := fun i p hp => by
        obtain ⟨h1, h2⟩ := HI.out.all i p hp
        exact ⟨h1, h2, own_lowerT (HI.out.rw_.own (p.vI, p.I) (List.mem_map.2 ⟨p, List.mem_of_getElem? hp, rfl⟩)) HI4.out.st.bel.size⟩
      have HR0 := Lib.hid hR0
      have HPs := Lib.hid (show ∀ i, i < m → 0 < (pI out i F).length from fun i hi => by
        obtain ⟨j, hj, e⟩ := Shl.has9 Hsh.out Hm.out.symm hi
        exact List.length_pos_iff.2 (fun e2 => by
          have : (j : Int) ∈ pI out i F := pI_mem.2 ⟨j, by rw [← HF.out]; exact hj, e, rfl⟩
          rw [e2] at this
          cases this))
      have HSt := Lib.hid HI.out.st
      clear hR0
      go_wp2
      clear x0
      go_loopw [40] (fun i wr => ∃ (k : Nat) (l : List PtV), k ≤ m ∧ i = .int .i64 k ∧ PtSt w wr bx pb m l ∧ w5.grownBy wr (some pb) ∧ ∀ i p, l[i]? = some p → (i < k → PtDone w wr T (pI out i F) p) ∧ (k ≤ i → PtWait w wr (pI out i F) p)) (fun i _ => m - (intOf i).toNat)
      case atStart => exact ⟨0, l, Nat.zero_le _, rfl, HSt.out, HG5.out, fun i p hp => ⟨fun h => absurd h (Nat.not_lt_zero _), fun _ => HR0.out i p hp⟩⟩
      case round =>
        clear HR0 HSt HI HX HG5
        rename World => wk
        obtain ⟨k, l, hk, rfl, hS, hG, hA⟩ := hrel
        have x0 : wk.cell? ⟨bx, 0, none⟩ = some _ := hS.k.cell 0
        by_cases hkm : k < m
        · obtain ⟨p, hp⟩ : ∃ p, l[k]? = some p := ⟨l[k]'(by rw [hS.len]; exact hkm), List.getElem?_eq_getElem (by rw [hS.len]; exact hkm)⟩
          have hW := (hA k p hp).2 (Nat.le_refl _)
          have hki : (k : Int) < (m : Int) := by omega
          obtain ⟨nI, hnI⟩ : ∃ n, p.I.length = n := ⟨_, rfl⟩
          have hnF : nI ≤ F := by rw [← hnI, hW.eI]; exact pI_len _ _ _
          have hpos : 0 < nI := by rw [← hnI, hW.eI]; exact HPs.out k hkm
          have hrI := hW.rI
          rw [hnI] at hrI
          obtain ⟨gI, cI, eI, hgI, -⟩ := hrI.form hpos
          have z3 : wk.cell? ⟨pb, k * 4 + 3, none⟩ = some (.slice (some ⟨gI, 0, none⟩) nI cI) := by rw [hS.cell hp (j := 3) (by decide), ← eI]; rfl
          have z2 : wk.cell? ⟨pb, k * 4 + 2, none⟩ = some (.slice none 0 0) := by rw [hS.cell hp (j := 2) (by decide), ← hW.fresh.2.2.1]; rfl
          have HS := Lib.hid hS
          have HG := Lib.hid hG
          have HA := Lib.hid hA
          have HP := Lib.hid hp
          have HW := Lib.hid hW
          have HnI := Lib.hid hnI
          rw [eI] at hrI
          have HrI := Lib.hid hrI
          have Hx0 := Lib.hid x0
          clear hS hG hA hp hW hnI hrI
          go_wp2
          clear x0 z2 z3
          go_loopw [51] (fun i wr => ∃ (j : Nat) (v : Value), j ≤ nI ∧ i = .int .i64 j ∧ PtSt w wr bx pb m (l.set k { p with vV := v, V := flatT ((p.I.take j).map (triOf T)) }) ∧ wk.grownBy wr (some pb) ∧ wr.ownsRow wk.heap.size 3 1 v (3 * j) (intsV (flatT ((p.I.take j).map (triOf T))))) (fun i _ => nI - (intOf i).toNat)
          case atStart =>
            refine ⟨0, .slice none 0 0, Nat.zero_le _, rfl, ?_, World.grownBy.refl _ _, World.ownsRow_nil _ _ _ _⟩
            have : ({ p with vV := .slice none 0 0, V := flatT ((p.I.take 0).map (triOf T)) } : PtV) = p := by
              obtain ⟨h1, h2, h3, h4, h5⟩ := HW.out.fresh
              cases p
              simp only at h3 h5
              subst h3
              subst h5
              rfl
            rw [this, List.set_getElem?_self9 HP.out]
            exact HS.out
          case round =>
            rename World => wr
            obtain ⟨j, v, hj, rfl, hS, hG2, hrV⟩ := hrel
            by_cases hjn : j < nI
            · have hji : (j : Int) < (nI : Int) := by omega
              obtain ⟨x, hx⟩ : ∃ x, p.I[j]? = some x := ⟨p.I[j]'(by rw [HnI.out]; exact hjn), List.getElem?_eq_getElem (by rw [HnI.out]; exact hjn)⟩
              obtain ⟨q, hqF, rfl⟩ : ∃ q : Nat, q < F ∧ x = (q : Int) := by
                have hm := List.mem_of_getElem? hx
                rw [HW.out.eI] at hm
                obtain ⟨q, h1, -, h2⟩ := pI_mem.1 hm
                exact ⟨q, h1, h2⟩
              have hrI2 := HrI.out.kept hG2 (.inr (own_blk_ne HrI.out HS.out.b (by decide)))
              have hcI : wr.cell? ⟨gI, j, none⟩ = some (.int .i64 (q : Int)) := by
                rw [hrI2.cellAt j (by omega)]
                simp [intsV, List.getElem?_map, hx]
              have hG5 : w5.grownBy wr (some pb) := grown_transS HG.out hG2
              have hrS2 := HS4.out.kept hG5 (.inr (own_blk_ne HS4.out HI4.out.st.b (by decide)))
              have hKS2 := KS.out.grown hG5 (by intro e; exact Blk.ne_ KS.out HI4.out.st.b (by decide) (Option.some.inj e))
              obtain ⟨gS, capS, eS, hgS, -⟩ := hrS2.form (by omega)
              cases eS
              obtain ⟨aV, cV, rfl⟩ := ownsRow_slice hrV
              have hlk : k < l.length := by rw [HS.out.len]; exact hkm
              have hp2 : (l.set k { p with vV := .slice aV (3 * j) cV, V := flatT ((p.I.take j).map (triOf T)) })[k]? = some { p with vV := .slice aV (3 * j) cV, V := flatT ((p.I.take j).map (triOf T)) } := List.getElem?_set_self hlk
              have y0 : wr.cell? ⟨pb, k * 4 + 2, none⟩ = some (.slice aV (3 * j) cV) := hS.cell hp2 (j := 2) (by decide)
              have y1 : wr.cell? ⟨bs, 1, none⟩ = some (.slice (some ⟨gS, 0, none⟩) F cS) := hKS2.cell 1
              have hqi : (q : Int) < (F : Int) := by omega
              have HS2 := Lib.hid hS
              have HG2 := Lib.hid hG2
              have HrV := Lib.hid hrV
              have HrS2 := Lib.hid hrS2
              have Hx := Lib.hid hx
              have hbsl := hKS2.lt
              have Hp2 := Lib.hid hp2
              clear hS hG2 hrV hrS2 hx hp2 hKS2 hrI2 hG5
              go_upto_region 17 with fail
              refine wp_region_U 13 (fun w' => w'.cell? ⟨pb, k * 4 + 2, none⟩ = some (.slice aV (3 * j) cV) ∧ w'.cell? ⟨bs, 1, none⟩ = some (.slice (some ⟨gS, 0, none⟩) F cS)) (by kernel_rfl) ⟨y0, y1⟩ ?_
              change AtU _ _ _ _ _ _ 14 (Array.replicate 14 false) _ _
              refine AtU.take (i := 0) (v := ?_) rfl (by kernel_rfl) (by kernel_rfl) (fun _ _ _ h => h) (by rfl) ?_ ?_
              rotate_left 1
              · intro w9 hSw; (try dsimp only at hSw); go_simp; try with_reducible rfl
              try simp only [Act.put, List.setIfInBounds_toArray, List.set_cons_zero, List.set_cons_succ]
              refine AtU.take (i := 1) (v := ?_) rfl (by kernel_rfl) (by kernel_rfl) (fun _ _ _ h => h) (by rfl) ?_ ?_
              rotate_left 1
              · intro w9 hSw; (try dsimp only at hSw); go_simp; try with_reducible rfl
              try simp only [Act.put, List.setIfInBounds_toArray, List.set_cons_zero, List.set_cons_succ]
              refine AtU.take (i := 2) (v := ?_) rfl (by kernel_rfl) (by kernel_rfl) (fun _ _ _ h => h) (by rfl) ?_ ?_
              rotate_left 1
              · intro w9 hSw; (try dsimp only at hSw); go_simp; try with_reducible rfl
              try simp only [Act.put, List.setIfInBounds_toArray, List.set_cons_zero, List.set_cons_succ]
              refine AtU.take (i := 3) (v := ?_) rfl (by kernel_rfl) (by kernel_rfl) (fun _ _ _ h => h) (by rfl) ?_ ?_
              rotate_left 1
              · intro w9 hSw; (try dsimp only at hSw); go_simp; try with_reducible rfl
              try simp only [Act.put, List.setIfInBounds_toArray, List.set_cons_zero, List.set_cons_succ]
              refine AtU.take (i := 4) (v := ?_) rfl (by kernel_rfl) (by kernel_rfl) (fun _ _ _ h => h) (by rfl) ?_ ?_
              rotate_left 1
              · intro w9 hSw; (try dsimp only at hSw); go_simp; try with_reducible rfl
              try simp only [Act.put, List.setIfInBounds_toArray, List.set_cons_zero, List.set_cons_succ]
              refine AtU.take (i := 5) (v := ?_) rfl (by kernel_rfl) (by kernel_rfl) (fun _ _ _ h => h) (by rfl) ?_ ?_
              rotate_left 1
              · intro w9 hSw; (try dsimp only at hSw); go_simp; try with_reducible rfl
              try simp only [Act.put, List.setIfInBounds_toArray, List.set_cons_zero, List.set_cons_succ]
              refine AtU.take (i := 6) (v := ?_) rfl (by kernel_rfl) (by kernel_rfl) (fun _ _ _ h => h) (by rfl) ?_ ?_
              rotate_left 1
              · intro w9 hSw; (try dsimp only at hSw); go_simp; try with_reducible rfl
              try simp only [Act.put, List.setIfInBounds_toArray, List.set_cons_zero, List.set_cons_succ]
              refine AtU.take (i := 7) (v := ?_) rfl (by kernel_rfl) (by kernel_rfl) (fun _ _ _ h => h) (by rfl) ?_ ?_
              rotate_left 1
              · intro w9 hSw; (try dsimp only at hSw); go_simp; try with_reducible rfl
              try simp only [Act.put, List.setIfInBounds_toArray, List.set_cons_zero, List.set_cons_succ]
              refine AtU.take (i := 8) (v := ?_) rfl (by kernel_rfl) (by kernel_rfl) (fun _ _ _ h => h) (by rfl) ?_ ?_
              rotate_left 1
              · intro w9 hSw; (try dsimp only at hSw); go_simp; try with_reducible rfl
              try simp only [Act.put, List.setIfInBounds_toArray, List.set_cons_zero, List.set_cons_succ]
              refine AtU.take (i := 9) (v := ?_) rfl (by kernel_rfl) (by kernel_rfl) (fun _ _ _ h => h) (by rfl) ?_ ?_
              rotate_left 1
              · intro w9 hSw; (try dsimp only at hSw); go_simp; try with_reducible rfl
              try simp only [Act.put, List.setIfInBounds_toArray, List.set_cons_zero, List.set_cons_succ]
              obtain ⟨t, ht⟩ : ∃ t, T[q]? = some t := ⟨T[q]'(by rw [HF.out]; exact hqF), List.getElem?_eq_getElem (by rw [HF.out]; exact hqF)⟩
              obtain ⟨t1, t2, t3⟩ := t
              have htO : triOf T (q : Int) = (t1, t2, t3) := by unfold triOf; rw [Int.toNat_natCast]; simp [List.getD, ht]
              have c0 : wr.cell? ⟨gS, q * 3, none⟩ = some (.int .i64 t1) := by rw [HrS2.out.cellAt (q * 3) (by omega)]; exact (ws3_at ht).1
              have c1 : wr.cell? ⟨gS, q * 3 + 1, none⟩ = some (.int .i64 t2) := by rw [HrS2.out.cellAt (q * 3 + 1) (by omega)]; exact (ws3_at ht).2.1
              have c2 : wr.cell? ⟨gS, q * 3 + 2, none⟩ = some (.int .i64 t3) := by rw [HrS2.out.cellAt (q * 3 + 2) (by omega)]; exact (ws3_at ht).2.2
              refine AtU.step (i := 10) rfl (by kernel_rfl) (fun K hK => ?_)
              refine step_append_lies _ rfl (.tmp 59) (.tmp 64) 35 rfl wk.heap.size 3 i2 _ 1 8 Try.underlying35 hj' hy0 hy1 hy2 rfl (by decide) (.slice aV (3 * j) cV) (3 * j) (intsV (flatT ((p.I.take j).map (triOf T)))) (by rfl) HrV.out ⟨gS, q * 3, none⟩ 3 3 [.int .i64 t1, .int .i64 t2, .int .i64 t3] (by rfl) rfl (cells3 c0 c1 c2) (by simp [Value.oneCell']) (by decide) (by unfold maxLen; omega) (by omega) HG2.out.size _ rfl ?_
              intro g5 c5 W5 hr5 hg5 hat5 hlt5
              have hS5 := (HS2.out.below (below_d (Below.refl wr.heap.size wr))).grown hg5 (by have := own_blk_ne HrV.out HS2.out.k (by decide); exact this) (by have := own_blk_ne HrV.out HS2.out.b (by decide); exact this) (fun jj e => Nat.le_trans HS.out.bel.size (HrV.out.lt jj e).1)
              have hb5 : Blk W5 bs 24 #[.int .i64 N, .slice (some ⟨gS, 0, none⟩) F cS] := ((KS.out.grown (grown_transS HG.out HG2.out) (by intro e; exact Blk.ne_ KS.out HI4.out.st.b (by decide) (Option.some.inj e))).drew).grown hg5 (fun e => own_blk_ne HrV.out (KS.out.grown (grown_transS HG.out HG2.out) (by intro e; exact Blk.ne_ KS.out HI4.out.st.b (by decide) (Option.some.inj e))) (by decide) e.symm)
              refine hK.out _ _ ⟨hS5.cell Hp2.out (j := 2) (by decide), hb5.cell 1⟩ ?_
              clear hK K
              try simp only [Act.put, List.setIfInBounds_toArray, List.set_cons_zero, List.set_cons_succ]
              refine AtU.take (i := 11) (v := ?_) rfl (by kernel_rfl) (by kernel_rfl) (fun _ _ _ h => h) (by rfl) ?_ ?_
              rotate_left 1
              · intro w9 hSw; (try dsimp only at hSw); go_simp; try with_reducible rfl
              try simp only [Act.put, List.setIfInBounds_toArray, List.set_cons_zero, List.set_cons_succ]
              refine AtU.take (i := 12) (v := ?_) rfl (by kernel_rfl) (by kernel_rfl) (fun _ _ _ h => h) (by rfl) ?_ ?_
              rotate_left 1
              · intro w9 hSw; (try dsimp only at hSw); go_simp; try with_reducible rfl
              try simp only [Act.put, List.setIfInBounds_toArray, List.set_cons_zero, List.set_cons_succ]
              have z0 : W5.cell? ⟨pb, k * 4 + 2, none⟩ = some (.slice aV (3 * j) cV) := hS5.cell Hp2.out (j := 2) (by decide)
              have zf := hS5.frozen (k * 4 + 2)
              refine AtU.last (i := 13) rfl (by kernel_rfl) (fun K hK => ?_)
              go_simp
              refine hK.out _ _ ?_
              clear hK K
              have eTk : flatT ((p.I.take (j + 1)).map (triOf T)) = flatT ((p.I.take j).map (triOf T)) ++ [t1, t2, t3] := by
                rw [List.take_succ_eq_append_getElem (by rw [HnI.out]; exact hjn)]
                have e : p.I[j]'(by rw [HnI.out]; exact hjn) = (q : Int) := by
                  have := Hx.out
                  rw [List.getElem?_eq_getElem (by rw [HnI.out]; exact hjn)] at this
                  exact Option.some.inj this
                rw [e, List.map_append]
                simp [flatT, htO]
              have hS6 := hS5.set_ Hp2.out (j := 2) (by decide) (p' := { p with vV := .slice (some ⟨g5, 0, none⟩) (3 * j + 3) c5, V := flatT ((p.I.take (j + 1)).map (triOf T)) }) (u := .slice (some ⟨g5, 0, none⟩) (3 * j + 3) c5) (by simp [PtV.enc])
              rw [List.set_set] at hS6
              have hr6 := own_alloc_st (i := k * 4 + 2) (u := .slice (some ⟨g5, 0, none⟩) (3 * j + 3) c5) hr5 hS5.b (by decide)
              have hr7 : (W5.setCell ⟨pb, k * 4 + 2, none⟩ (.slice (some ⟨g5, 0, none⟩) (3 * j + 3) c5)).ownsRow wk.heap.size 3 1 (.slice (some ⟨g5, 0, none⟩) (3 * j + 3) c5) (3 * (j + 1)) (intsV (flatT ((p.I.take (j + 1)).map (triOf T)))) := by
                rw [eTk, intsV, List.map_append]
                exact hr6
              have hG6 := grown_appS (q := pb) (i := k * 4 + 2) (v := .slice (some ⟨g5, 0, none⟩) (3 * j + 3) c5) HG2.out (below_d (Below.refl wr.heap.size wr)) hg5 (fun jj e => (HrV.out.lt jj e).1)
              have HS6 := Lib.hid hS6
              have Hr7 := Lib.hid hr7
              have HG6 := Lib.hid hG6
              clear hS6 hr6 hr7 hG6 hS5 hb5 hr5 hg5 hat5 z0 zf c0 c1 c2 y0 y1
              generalize W5.setCell ⟨pb, k * 4 + 2, none⟩ (.slice (some ⟨g5, 0, none⟩) (3 * j + 3) c5) = W6 at *
              go_wp2
              go_roundw
              case measure => simp [intOf]; omega
              case rel => exact ⟨j + 1, _, by omega, by go_num, HS6.out, HG6.out, Hr7.out⟩
            · obtain rfl : nI = j := by omega
              have eTk : p.I.take nI = p.I := List.take_of_length_le (by rw [HnI.out]; exact Nat.le_refl _)
              rw [eTk] at hS hrV
              obtain ⟨zs, hzs⟩ : ∃ zs, flatT (p.I.map (triOf T)) = zs := ⟨_, rfl⟩
              rw [hzs] at hS hrV
              have hzl : zs.length = 3 * nI := by rw [← hzs, flatT_length]; simp [HnI.out]
              obtain ⟨gV, cV, eV, hgV, -⟩ := hrV.form (by omega)
              subst eV
              have hlk : k < l.length := by rw [HS.out.len]; exact hkm
              have hp2 : (l.set k { p with vV := .slice (some ⟨gV, 0, none⟩) (3 * nI) cV, V := zs })[k]? = some { p with vV := .slice (some ⟨gV, 0, none⟩) (3 * nI) cV, V := zs } := List.getElem?_set_self hlk
              have y0 : wr.cell? ⟨pb, k * 4 + 2, none⟩ = some (.slice (some ⟨gV, 0, none⟩) (3 * nI) cV) := hS.cell hp2 (j := 2) (by decide)
              have HSo := Lib.hid (show Calls Try.prog 56 #[.slice (some ⟨gV, 0, none⟩) (3 * nI) cV] wr _ from by
                have := sortRow_any wr wk.heap.size gV cV zs (by rw [hzl]; exact hrV) (by omega)
                rw [hzl] at this
                exact this)
              have hnb : ∀ (W W' : World) (xs : List Value) (n c : Nat), W.ownsRow wk.heap.size 3 1 (.slice (some ⟨gV, 0, none⟩) n c) n xs → PtSt w W bx pb m (l.set k { p with vV := .slice (some ⟨gV, 0, none⟩) (3 * nI) cV, V := zs }) → W.grownBy W' (some gV) → PtSt w W' bx pb m (l.set k { p with vV := .slice (some ⟨gV, 0, none⟩) (3 * nI) cV, V := zs }) := fun W W' xs n c ho hP hg => hP.grown hg (own_blk_ne ho hP.k (by decide)) (own_blk_ne ho hP.b (by decide)) (fun jj e => by cases e; exact Nat.le_trans HS.out.bel.size hgV)
              have Hnb := Lib.hid hnb
              have HS2 := Lib.hid hS
              have HrV := Lib.hid hrV
              have HG2 := Lib.hid hG2
              have Hp2 := Lib.hid hp2
              have Hzs := Lib.hid (And.intro hzs hzl)
              have hgs : ∀ jj, some gV = some jj → wk.heap.size ≤ jj := fun jj e => by cases e; exact hgV
              clear hnb hS hrV hG2 hp2 hzs hzl eTk
              go_upto_region 20 with (go_at_call 56; go_loud (refine HSo.out.mono ?_; rintro e w1' ⟨rfl, hr1, hg1⟩))
              have hS1 := Hnb.out _ _ _ _ _ HrV.out HS2.out hg1
              have HG3 := Lib.hid (grown_appT HG2.out hg1 hgs)
              have HS3 := Lib.hid hS1
              have y1 : w1'.cell? ⟨pb, k * 4 + 2, none⟩ = some (.slice (some ⟨gV, 0, none⟩) (3 * nI) cV) := hS1.cell Hp2.out (j := 2) (by decide)
              have Hr1 := Lib.hid hr1
              obtain ⟨nV, hnV⟩ : ∃ n, (setL zs).length = n := ⟨_, rfl⟩
              have HnV := Lib.hid hnV
              have hnV3 : nV ≤ 3 * nI := by rw [← hnV, ← Hzs.out.2]; exact setL_len zs
              have HCo := Lib.hid (show Calls Try.prog 58 #[.slice (some ⟨gV, 0, none⟩) (3 * nI) cV] w1' (fun e w' => e = .returned (.slice (some ⟨gV, 0, none⟩) nV cV) ∧ w'.ownsRow wk.heap.size 3 1 (.slice (some ⟨gV, 0, none⟩) nV cV) nV (intsV (setL zs)) ∧ w1'.grownBy w' (some gV)) from by
                have := compactRow_any w1' wk.heap.size gV cV (sortL zs) (by rw [sortL_length, Hzs.out.2]; exact hr1) (by rw [sortL_length, Hzs.out.2]; omega)
                rw [sortL_length, Hzs.out.2] at this
                rw [← hnV]
                exact this)
              clear hS1 hr1 hg1 hnV y0 HSo HS2
              go_upto_region 21 with (first
                | (go_at_call 58; go_loud (refine HCo.out.mono ?_; rintro e w2' ⟨rfl, hr2, hg2⟩; have HCl := Lib.hid (cloneI_any (.slice (some ⟨gV, 0, none⟩) nV cV) (setL zs) w2' (IntsRd.of_row hr2 HnV.out) (by rw [HnV.out]; omega)); have hS4 := Hnb.out _ _ _ _ _ Hr1.out HS3.out hg2))
                | (go_at_call 57; go_loud (refine HCl.out.mono ?_; rintro e w3' ⟨vC, rfl, hrC, hb3⟩; rw [HnV.out] at hrC; obtain ⟨aC, cC, rfl⟩ := ownsRow_slice hrC; have hS5 := hS4.below hb3; (have z0 : w3'.cell? ⟨pb, k * 4 + 2, none⟩ = some (.slice (some ⟨gV, 0, none⟩) (3 * nI) cV) := hS5.cell Hp2.out (j := 2) (by decide)); have zf := hS5.frozen (k * 4 + 2))))
              obtain ⟨U, hU⟩ : ∃ U, setL zs = U := ⟨_, rfl⟩
              rw [hU] at hrC
              have hS6 := hS5.set_ Hp2.out (j := 2) (by decide) (p' := { p with vV := .slice aC nV cC, V := U }) (u := .slice aC nV cC) (by simp [PtV.enc])
              rw [List.set_set] at hS6
              have hp6 : (l.set k { p with vV := .slice aC nV cC, V := U })[k]? = some { p with vV := .slice aC nV cC, V := U } := List.getElem?_set_self hlk
              have hG6 := grown_transS (grown_appT (grown_appT HG3.out hg2 hgs) (grown_belowS hb3 none) (fun jj e => by cases e)) (grown_setS (q := pb) (i := k * 4 + 2) (.slice aC nV cC))
              have hzz : wk.heap.size ≤ w2'.heap.size := (grown_appT HG3.out hg2 hgs).size
              have hrC6 := own_alloc_st (i := k * 4 + 2) (u := .slice aC nV cC) (own_lowerT hrC hzz) hS5.b (by decide)
              have HU := Lib.hid hU
              have y2 : (w3'.setCell ⟨pb, k * 4 + 2, none⟩ (.slice aC nV cC)).cell? ⟨pb, k * 4 + 2, none⟩ = some (.slice aC nV cC) := hS6.cell hp6 (j := 2) (by decide)
              have y3 : (w3'.setCell ⟨pb, k * 4 + 2, none⟩ (.slice aC nV cC)).cell? ⟨pb, k * 4, none⟩ = some (.int .i64 p.n) := hS6.cell hp6 (j := 0) (by decide)
              have yf := hS6.frozen (k * 4)
              have hS7 : PtSt w (((w3'.setCell ⟨pb, k * 4 + 2, none⟩ (.slice aC nV cC))).setCell ⟨pb, k * 4, none⟩ (.int .i64 (nV : Int))) bx pb m _ := hS6.set_ hp6 (j := 0) (by decide) (p' := { p with n := nV, vV := .slice aC nV cC, V := U }) (u := .int .i64 (nV : Int)) (by simp [PtV.enc])
              rw [List.set_set] at hS7
              have hrC7 := own_alloc_st (i := k * 4) (u := .int .i64 (nV : Int)) hrC6 hS6.b (by decide)
              have hG7 := grown_transS hG6 (grown_setS (q := pb) (i := k * 4) (.int .i64 (nV : Int)))
              have HS7 := Lib.hid hS7
              have HG7 := Lib.hid hG7
              have HrC7 := Lib.hid hrC7
              clear hS7 hG7 hrC7 hS6 hp6 hG6 hrC6 hU z0 zf hS5 hb3 hrC hS4 hr2 hg2 HCl HCo y1 Hnb
              generalize w3'.setCell ⟨pb, k * 4 + 2, none⟩ (.slice aC nV cC) = w6 at *
              go_upto_region 22 with fail
              generalize w6.setCell ⟨pb, k * 4, none⟩ (.int .i64 (nV : Int)) = w7 at *
              clear y2 y3 yf HG3 HS3 Hr1 HrV HG2 Hp2
              have hp7 : (l.set k { p with n := nV, vV := .slice aC nV cC, V := U })[k]? = some { p with n := nV, vV := .slice aC nV cC, V := U } := List.getElem?_set_self hlk
              have z3 : w7.cell? ⟨pb, k * 4 + 3, none⟩ = some (.slice (some ⟨gI, 0, none⟩) nI cI) := by
                rw [HS7.out.cell hp7 (j := 3) (by decide), ← eI]
                rfl
              clear hp7
              obtain ⟨SS, hSS⟩ : ∃ SS, p.I.map (fun x => triI U (triOf T x)) = SS := ⟨_, rfl⟩
              have HSS := Lib.hid hSS
              have hSl : SS.length = nI := by rw [← hSS, List.length_map, HnI.out]
              have HSl := Lib.hid hSl
              clear hSS hSl
              go_wp2
              clear z3
              go_loopw [97] (fun i wr => ∃ (j : Nat) (v : Value), j ≤ nI ∧ i = .int .i64 j ∧ PtSt w wr bx pb m (l.set k { p with n := nV, vS := v, vV := .slice aC nV cC, S := SS.take j, V := U }) ∧ wk.grownBy wr (some pb) ∧ wr.ownsRow wk.heap.size 61 3 v j (ws3 (SS.take j)) ∧ wr.ownsRow wk.heap.size 3 1 (.slice aC nV cC) nV (intsV U)) (fun i _ => nI - (intOf i).toNat)
              case atStart =>
                refine ⟨0, .slice none 0 0, Nat.zero_le _, rfl, ?_, HG7.out, World.ownsRow_nil _ _ _ _, HrC7.out⟩
                have : ({ p with n := nV, vS := .slice none 0 0, vV := .slice aC nV cC, S := SS.take 0, V := U } : PtV) = { p with n := nV, vV := .slice aC nV cC, V := U } := by
                  obtain ⟨h1, h2, h3, h4, h5⟩ := HW.out.fresh
                  cases p
                  simp only at h2 h4
                  subst h2
                  subst h4
                  rfl
                rw [this]
                exact HS7.out
              case round =>
                clear HS7 HG7 HrC7
                rename World => wr
                obtain ⟨j, v, hj, rfl, hS, hG2, hrS9, hrV⟩ := hrel
                by_cases hjn : j < nI
                · have hji : (j : Int) < (nI : Int) := by omega
                  obtain ⟨x, hx⟩ : ∃ x, p.I[j]? = some x := ⟨p.I[j]'(by rw [HnI.out]; exact hjn), List.getElem?_eq_getElem (by rw [HnI.out]; exact hjn)⟩
                  obtain ⟨q, hqF, rfl⟩ : ∃ q : Nat, q < F ∧ x = (q : Int) := by
                    have hm := List.mem_of_getElem? hx
                    rw [HW.out.eI] at hm
                    obtain ⟨q, h1, -, h2⟩ := pI_mem.1 hm
                    exact ⟨q, h1, h2⟩
                  have hrI2 := HrI.out.kept hG2 (.inr (own_blk_ne HrI.out HS.out.b (by decide)))
                  have hcI : wr.cell? ⟨gI, j, none⟩ = some (.int .i64 (q : Int)) := by
                    rw [hrI2.cellAt j (by omega)]
                    simp [intsV, List.getElem?_map, hx]
                  have hqi : (q : Int) < (F : Int) := by omega
                  have hA9 := (Below.refl wr.heap.size wr).alloc (Nat.le_refl _) (.cells #[.int .i64 0, .int .i64 0, .int .i64 0] 61)
                  have hG3 : wk.grownBy (wr.alloc (.cells #[.int .i64 0, .int .i64 0, .int .i64 0] 61)) (some pb) := grown_appT hG2 (grown_belowS hA9 none) (fun jj e => by cases e)
                  have hG5 : w5.grownBy (wr.alloc (.cells #[.int .i64 0, .int .i64 0, .int .i64 0] 61)) (some pb) := grown_transS HG.out hG3
                  have hrS2 := HS4.out.kept hG5 (.inr (own_blk_ne HS4.out HI4.out.st.b (by decide)))
                  have hKS2 := KS.out.grown hG5 (by intro e; exact Blk.ne_ KS.out HI4.out.st.b (by decide) (Option.some.inj e))
                  obtain ⟨gS, capS, eS, hgS, -⟩ := hrS2.form (by omega)
                  cases eS
                  obtain ⟨t, ht⟩ : ∃ t, T[q]? = some t := ⟨T[q]'(by rw [HF.out]; exact hqF), List.getElem?_eq_getElem (by rw [HF.out]; exact hqF)⟩
                  obtain ⟨t1, t2, t3⟩ := t
                  have htO : triOf T (q : Int) = (t1, t2, t3) := by unfold triOf; rw [Int.toNat_natCast]; simp [List.getD, ht]
                  have hSj : SS.take (j + 1) = SS.take j ++ [(idxV U t1, idxV U t2, idxV U t3)] := by
                    have hl : j < SS.length := by rw [HSl.out]; exact hjn
                    rw [List.take_succ_eq_append_getElem hl]
                    have e1 : SS[j]? = some (idxV U t1, idxV U t2, idxV U t3) := by
                      rw [← HSS.out, List.getElem?_map, hx]
                      show some (triI U (triOf T (q : Int))) = _
                      rw [htO]
                      rfl
                    rw [List.getElem?_eq_getElem hl] at e1
                    rw [Option.some.inj e1]
                  have HSj := Lib.hid hSj
                  have hS3 := hS.below hA9
                  have hrS3 := own_below hrS9 hA9
                  have hrV3 := own_below hrV hA9
                  have bq := Blk.new wr 61 #[.int .i64 0, .int .i64 0, .int .i64 0]
                  have hqz : wk.heap.size ≤ wr.heap.size := hG2.size
                  have hvq : v.ownBlock ≠ some wr.heap.size := fun e => absurd (hrS9.lt _ e).2 (Nat.lt_irrefl _)
                  have hqne : wr.heap.size ≠ pb := Nat.ne_of_gt hS.b.lt
                  have hpn : 0 < nV := by
                    rw [← HnV.out, HU.out]
                    refine List.length_pos_iff.2 (fun e => ?_)
                    have : t1 ∈ U := by
                      rw [← HU.out, setL_mem, ← Hzs.out.1]
                      unfold flatT
                      exact List.mem_flatMap.2 ⟨(t1, t2, t3), List.mem_map.2 ⟨(q : Int), List.mem_of_getElem? hx, htO⟩, by simp⟩
                    rw [e] at this
                    cases this
                  have Hpn := Lib.hid hpn
                  clear hx hS hrS9 hrV hA9 hG2 hG5 hrI2 hSj htO hpn
                  go_upto_region 26 with fail
                  generalize wr.alloc (.cells #[.int .i64 0, .int .i64 0, .int .i64 0] 61) = wq at *
                  generalize wr.heap.size = bq' at *
                  obtain ⟨c0, c1, c2⟩ := ws3_at ht
                  rw [← hrS2.cellAt (q * 3) (by omega)] at c0
                  rw [← hrS2.cellAt (q * 3 + 1) (by omega)] at c1
                  rw [← hrS2.cellAt (q * 3 + 2) (by omega)] at c2
                  have y1 : wq.cell? ⟨bs, 1, none⟩ = some (.slice (some ⟨gS, 0, none⟩) F cS) := hKS2.cell 1
                  clear hcI ht hrS2 hKS2
                  go_wp2
                  clear c0 c1 c2 y1
                  have HQ := Lib.hid (And.intro hS3 (And.intro hG3 (And.intro hrS3 (And.intro hrV3 bq))))
                  clear hS3 hG3 hrS3 hrV3 bq
                  go_loopw [106] (fun i wx => ∃ jj : Nat, jj ≤ 3 ∧ i = .int .i64 jj ∧ PtSt w wx bx pb m (l.set k { p with n := nV, vS := v, vV := .slice aC nV cC, S := SS.take j, V := U }) ∧ wk.grownBy wx (some pb) ∧ wx.ownsRow wk.heap.size 61 3 v j (ws3 (SS.take j)) ∧ wx.ownsRow wk.heap.size 3 1 (.slice aC nV cC) nV (intsV U) ∧ Blk wx bq' 61 #[.int .i64 (if 0 < jj then idxV U t1 else 0), .int .i64 (if 1 < jj then idxV U t2 else 0), .int .i64 (if 2 < jj then idxV U t3 else 0)]) (fun i _ => 3 - (intOf i).toNat)
                  case atStart => exact ⟨0, by omega, rfl, HQ.out.1, HQ.out.2.1, HQ.out.2.2.1, HQ.out.2.2.2.1, HQ.out.2.2.2.2⟩
                  case round =>
                    clear HQ
                    rename World => wx
                    obtain ⟨jj, hjj, rfl, hS3, hG3, hrS3, hrV3, hbq⟩ := hrel
                    have hlk2 : (l.set k { p with n := nV, vS := v, vV := .slice aC nV cC, S := SS.take j, V := U })[k]? = some { p with n := nV, vS := v, vV := .slice aC nV cC, S := SS.take j, V := U } := List.getElem?_set_self hlk
                    have y2 : wx.cell? ⟨pb, k * 4 + 2, none⟩ = some (.slice aC nV cC) := hS3.cell hlk2 (j := 2) (by decide)
                    obtain ⟨gC, capC, eC, hgC, -⟩ := hrV3.form Hpn.out
                    cases eC
                    have HBs := Lib.hid (fun (x : Int) => bsearch_any (x := x) hrV3 (by rw [← HU.out]; exact setL_rise zs) (by omega))
                    obtain ⟨lb, u0, g0, u1, g1, u2, g2⟩ := hbq.three
                    have HQ := Lib.hid (And.intro hS3 (And.intro hG3 (And.intro hrS3 (And.intro hrV3 hbq))))
                    have Hl2 := Lib.hid hlk2
                    have hst : ∀ (n9 i : Nat) (u : Value), PtSt w ((wx.drewN n9).setCell ⟨bq', i, none⟩ u) bx pb m (l.set k { p with n := nV, vS := v, vV := .slice (some ⟨gC, 0, none⟩) nV cC, S := SS.take j, V := U }) ∧ wk.grownBy ((wx.drewN n9).setCell ⟨bq', i, none⟩ u) (some pb) ∧ ((wx.drewN n9).setCell ⟨bq', i, none⟩ u).ownsRow wk.heap.size 61 3 v j (ws3 (SS.take j)) ∧ ((wx.drewN n9).setCell ⟨bq', i, none⟩ u).ownsRow wk.heap.size 3 1 (.slice (some ⟨gC, 0, none⟩) nV cC) nV (intsV U) ∧ Blk ((wx.drewN n9).setCell ⟨bq', i, none⟩ u) bq' 61 (#[.int .i64 (if 0 < jj then idxV U t1 else 0), .int .i64 (if 1 < jj then idxV U t2 else 0), .int .i64 (if 2 < jj then idxV U t3 else 0)].setIfInBounds i u) := by
                      intro n9 i u
                      obtain ⟨a, b, c, d, e⟩ := HQ.out
                      have hd : Below wx.heap.size wx (wx.drewN n9) := below_dn (Below.refl _ _) n9
                      refine ⟨(a.below hd).grown (grown_setS u) (fun e2 => Blk.ne_ e a.k (by decide) (Option.some.inj e2)) (fun e2 => hqne (Option.some.inj e2)) (fun j2 e2 => by cases e2; exact Nat.le_trans HS.out.bel.size hqz), grown_appT (grown_appT b (grown_belowS hd none) (fun j2 e2 => by cases e2)) (grown_setS u) (fun j2 e2 => by cases e2; exact hqz), (own_below c hd).kept (grown_setS u) (.inr hvq), own_alloc_st (own_below d hd) (e.drewN n9) (by decide), (e.drewN n9).set_ i u⟩
                    clear hS3 hG3 hrS3 hrV3 hbq hlk2
                    have q0 := @index_t0
                    have q1 := @index_t1
                    have q2 := @index_t2
                    have hj4 : jj = 0 ∨ jj = 1 ∨ jj = 2 ∨ jj = 3 := by omega
                    rcases hj4 with rfl | rfl | rfl | rfl
                    · go_wp2_with (go_at_call 59; refine (HBs.out t1).mono ?_; rintro e wy ⟨⟨b, rfl⟩, n9, rfl⟩)
                      go_roundw
                      case measure => simp [intOf]
                      case rel =>
                        obtain ⟨h1, h2, h3, h4, h5⟩ := hst n9 0 (.int .i64 (idxV U t1))
                        exact ⟨1, by omega, by go_num, h1, h2, h3, h4, by simpa using h5⟩
                    · go_wp2_with (go_at_call 59; refine (HBs.out t2).mono ?_; rintro e wy ⟨⟨b, rfl⟩, n9, rfl⟩)
                      go_roundw
                      case measure => simp [intOf]
                      case rel =>
                        obtain ⟨h1, h2, h3, h4, h5⟩ := hst n9 1 (.int .i64 (idxV U t2))
                        exact ⟨2, by omega, by go_num, h1, h2, h3, h4, by simpa using h5⟩
                    · go_wp2_with (go_at_call 59; refine (HBs.out t3).mono ?_; rintro e wy ⟨⟨b, rfl⟩, n9, rfl⟩)
                      go_roundw
                      case measure => simp [intOf]
                      case rel =>
                        obtain ⟨h1, h2, h3, h4, h5⟩ := hst n9 2 (.int .i64 (idxV U t3))
                        exact ⟨3, by omega, by go_num, h1, h2, h3, h4, by simpa using h5⟩
                    · clear HBs q0 q1 q2 hst
                      obtain ⟨aS9, cS9, rfl⟩ := ownsRow_slice HQ.out.2.2.1
                      have y4 : wx.cell? ⟨pb, k * 4 + 1, none⟩ = some (.slice aS9 j cS9) := HQ.out.1.cell Hl2.out (j := 1) (by decide)
                      have e3 : Hid (Blk wx bq' 61 #[.int .i64 (idxV U t1), .int .i64 (idxV U t2), .int .i64 (idxV U t3)]) := Lib.hid (by have := HQ.out.2.2.2.2; simpa using this)
                      have HK3 := Lib.hid (And.intro HQ.out.1 (And.intro HQ.out.2.1 (And.intro HQ.out.2.2.1 HQ.out.2.2.2.1)))
                      clear u0 g0 u1 g1 u2 g2 lb HQ
                      obtain ⟨lb, u0, g0, u1, g1, u2, g2⟩ := e3.out.three
                      generalize hA1 : idxV U t1 = A1 at *
                      generalize hA2 : idxV U t2 = A2 at *
                      generalize hA3 : idxV U t3 = A3 at *
                      go_upto_region 31 with fail
                      refine wp_region_U 12 (fun w' => w'.cell? ⟨pb, k * 4 + 1, none⟩ = some (.slice aS9 j cS9) ∧ w'.cell? ⟨bq', 0, none⟩ = some (.int .i64 A1) ∧ w'.cell? ⟨bq', 1, none⟩ = some (.int .i64 A2) ∧ w'.cell? ⟨bq', 2, none⟩ = some (.int .i64 A3)) (by kernel_rfl) ⟨y4, u0, u1, u2⟩ ?_
                      change AtU _ _ _ _ _ _ 13 (Array.replicate 13 false) _ _
                      refine AtU.take (i := 0) (v := ?_) rfl (by kernel_rfl) (by kernel_rfl) (fun _ _ _ h => h) (by rfl) ?_ ?_
                      rotate_left 1
                      · intro w9 hSw; (try dsimp only at hSw); go_simp; try with_reducible rfl
                      try simp only [Act.put, List.setIfInBounds_toArray, List.set_cons_zero, List.set_cons_succ]
                      refine AtU.take (i := 1) (v := ?_) rfl (by kernel_rfl) (by kernel_rfl) (fun _ _ _ h => h) (by rfl) ?_ ?_
                      rotate_left 1
                      · intro w9 hSw; (try dsimp only at hSw); go_simp; try with_reducible rfl
                      try simp only [Act.put, List.setIfInBounds_toArray, List.set_cons_zero, List.set_cons_succ]
                      refine AtU.take (i := 2) (v := ?_) rfl (by kernel_rfl) (by kernel_rfl) (fun _ _ _ h => h) (by rfl) ?_ ?_
                      rotate_left 1
                      · intro w9 hSw; (try dsimp only at hSw); go_simp; try with_reducible rfl
                      try simp only [Act.put, List.setIfInBounds_toArray, List.set_cons_zero, List.set_cons_succ]
                      refine AtU.take (i := 3) (v := ?_) rfl (by kernel_rfl) (by kernel_rfl) (fun _ _ _ h => h) (by rfl) ?_ ?_
                      rotate_left 1
                      · intro w9 hSw; (try dsimp only at hSw); go_simp; try with_reducible rfl
                      try simp only [Act.put, List.setIfInBounds_toArray, List.set_cons_zero, List.set_cons_succ]
                      refine AtU.take (i := 4) (v := ?_) rfl (by kernel_rfl) (by kernel_rfl) (fun _ _ _ h => h) (by rfl) ?_ ?_
                      rotate_left 1
                      · intro w9 hSw; (try dsimp only at hSw); go_simp; try with_reducible rfl
                      try simp only [Act.put, List.setIfInBounds_toArray, List.set_cons_zero, List.set_cons_succ]
                      refine AtU.take (i := 5) (v := ?_) rfl (by kernel_rfl) (by kernel_rfl) (fun _ _ _ h => h) (by rfl) ?_ ?_
                      rotate_left 1
                      · intro w9 hSw; (try dsimp only at hSw); go_simp; try with_reducible rfl
                      try simp only [Act.put, List.setIfInBounds_toArray, List.set_cons_zero, List.set_cons_succ]
                      refine AtU.take (i := 6) (v := ?_) rfl (by kernel_rfl) (by kernel_rfl) (fun _ _ _ h => h) (by rfl) ?_ ?_
                      rotate_left 1
                      · intro w9 hSw; (try dsimp only at hSw); go_simp; try with_reducible rfl
                      try simp only [Act.put, List.setIfInBounds_toArray, List.set_cons_zero, List.set_cons_succ]
                      have hB2 := (below_d (Below.refl wx.heap.size wx)).alloc (Nat.le_refl _) (.cells #[.int .i64 A1, .int .i64 A2, .int .i64 A3] 61)
                      have bt := Blk.new wx.drew 61 #[.int .i64 A1, .int .i64 A2, .int .i64 A3]
                      have hS5' := HK3.out.1.below hB2
                      have hb5' := e3.out.below hB2 lb
                      have hr5' := own_below HK3.out.2.2.1 hB2
                      refine AtU.step (i := 7) rfl (by kernel_rfl) (fun K hK => ?_)
                      go_simp
                      refine hK.out _ _ ⟨hS5'.cell Hl2.out (j := 1) (by decide), hb5'.cell 0, hb5'.cell 1, hb5'.cell 2⟩ ?_
                      clear hK K
                      try simp only [Act.put, List.setIfInBounds_toArray, List.set_cons_zero, List.set_cons_succ]
                      refine AtU.step (i := 8) rfl (by kernel_rfl) (fun K hK => ?_)
                      refine step_append_lies _ rfl (.tmp 127) (.tmp 129) 22 rfl wk.heap.size 61 i3 _ 3 24 Try.underlying22 hi3 hx0 hx1 hx2 rfl (by decide) (.slice aS9 j cS9) j (ws3 (SS.take j)) (by rfl) hr5' ⟨wx.heap.size, 0, none⟩ 1 1 [.int .i64 A1, .int .i64 A2, .int .i64 A3] (by rfl) rfl (cells3 (bt.cell 0) (bt.cell 1) (bt.cell 2)) (by simp [Value.oneCell']) (by decide) (by unfold maxLen; omega) (by omega) (Nat.le_trans HK3.out.2.1.size hB2.size) _ rfl ?_
                      intro g9 c9 W9 hr9 hg9 hat9 hlt9
                      have hS9 := hS5'.grown hg9 (own_blk_ne hr5' hS5'.k (by decide)) (own_blk_ne hr5' hS5'.b (by decide)) (fun jj e => Nat.le_trans HS.out.bel.size (hr5'.lt jj e).1)
                      have hb9 := hb5'.grown hg9 (fun e => hvq e.symm)
                      refine hK.out _ _ ⟨hS9.cell Hl2.out (j := 1) (by decide), hb9.cell 0, hb9.cell 1, hb9.cell 2⟩ ?_
                      clear hK K
                      try simp only [Act.put, List.setIfInBounds_toArray, List.set_cons_zero, List.set_cons_succ]
                      refine AtU.take (i := 9) (v := ?_) rfl (by kernel_rfl) (by kernel_rfl) (fun _ _ _ h => h) (by rfl) ?_ ?_
                      rotate_left 1
                      · intro w9 hSw; (try dsimp only at hSw); go_simp; try with_reducible rfl
                      try simp only [Act.put, List.setIfInBounds_toArray, List.set_cons_zero, List.set_cons_succ]
                      refine AtU.take (i := 10) (v := ?_) rfl (by kernel_rfl) (by kernel_rfl) (fun _ _ _ h => h) (by rfl) ?_ ?_
                      rotate_left 1
                      · intro w9 hSw; (try dsimp only at hSw); go_simp; try with_reducible rfl
                      try simp only [Act.put, List.setIfInBounds_toArray, List.set_cons_zero, List.set_cons_succ]
                      refine AtU.take (i := 11) (v := ?_) rfl (by kernel_rfl) (by kernel_rfl) (fun _ _ _ h => h) (by rfl) ?_ ?_
                      rotate_left 1
                      · intro w9 hSw; (try dsimp only at hSw); go_simp; try with_reducible rfl
                      try simp only [Act.put, List.setIfInBounds_toArray, List.set_cons_zero, List.set_cons_succ]
                      have z0 : W9.cell? ⟨pb, k * 4 + 1, none⟩ = some (.slice aS9 j cS9) := hS9.cell Hl2.out (j := 1) (by decide)
                      have zf := hS9.frozen (k * 4 + 1)
                      refine AtU.last (i := 12) rfl (by kernel_rfl) (fun K hK => ?_)
                      go_simp
                      refine hK.out _ _ ?_
                      clear hK K
                      have hSa := hS9.set_ Hl2.out (j := 1) (by decide) (p' := { p with n := nV, vS := .slice (some ⟨g9, 0, none⟩) (j + 1) c9, vV := .slice (some ⟨gC, 0, none⟩) nV cC, S := SS.take (j + 1), V := U }) (u := .slice (some ⟨g9, 0, none⟩) (j + 1) c9) (by simp [PtV.enc])
                      rw [List.set_set] at hSa
                      have hra := own_alloc_st (i := k * 4 + 1) (u := .slice (some ⟨g9, 0, none⟩) (j + 1) c9) hr9 hS9.b (by decide)
                      have hrb : (W9.setCell ⟨pb, k * 4 + 1, none⟩ (.slice (some ⟨g9, 0, none⟩) (j + 1) c9)).ownsRow wk.heap.size 61 3 (.slice (some ⟨g9, 0, none⟩) (j + 1) c9) (j + 1) (ws3 (SS.take (j + 1))) := by
                        rw [HSj.out, ws3_snoc]
                        exact hra
                      have hrc := own_alloc_st (i := k * 4 + 1) (u := .slice (some ⟨g9, 0, none⟩) (j + 1) c9) ((own_below HK3.out.2.2.2 hB2).kept hg9 (own_own_ne (own_below HK3.out.2.2.2 hB2) hr5' (by decide))) hS9.b (by decide)
                      have hGa := grown_appS (q := pb) (i := k * 4 + 1) (v := .slice (some ⟨g9, 0, none⟩) (j + 1) c9) HK3.out.2.1 hB2 hg9 (fun jj e => (hr5'.lt jj e).1)
                      have HFa := Lib.hid (And.intro hSa (And.intro hGa (And.intro hrb hrc)))
                      clear hSa hra hrb hrc hGa hS9 hb9 z0 zf hr9 hg9 hat9 hlt9 hS5' hb5' hr5' bt hB2 y4 u0 g0 u1 g1 u2 g2 lb HK3 e3
                      generalize W9.setCell ⟨pb, k * 4 + 1, none⟩ (.slice (some ⟨g9, 0, none⟩) (j + 1) c9) = Wa at *
                      go_wp2
                      go_roundw
                      case measure => simp [intOf]; omega
                      case rel => exact ⟨j + 1, _, by omega, by go_num, HFa.out.1, HFa.out.2.1, HFa.out.2.2.1, HFa.out.2.2.2⟩
                · obtain rfl : nI = j := by omega
                  have eTk : SS.take nI = SS := List.take_of_length_le (by rw [HSl.out]; exact Nat.le_refl _)
                  rw [eTk] at hS hrS9
                  have hfin := hS
                  have HFin := Lib.hid hfin
                  have HG9 := Lib.hid (grown_transS HG.out hG2)
                  have hdone : ∀ i q, (l.set k { p with n := nV, vS := v, vV := .slice aC nV cC, S := SS, V := U })[i]? = some q → (i < k + 1 → PtDone w wr T (pI out i F) q) ∧ (k + 1 ≤ i → PtWait w wr (pI out i F) q) := by
                    intro i q hq
                    by_cases hik : i = k
                    · subst hik
                      rw [List.getElem?_set_self hlk] at hq
                      obtain rfl := Option.some.inj hq
                      refine ⟨fun _ => ⟨HW.out.eI, ?_, ?_, ?_, ?_, ?_, ?_⟩, fun h => absurd h (by omega)⟩
                      · rw [← HW.out.eI]
                        show U = setL (flatT (p.I.map (triOf T)))
                        rw [Hzs.out.1, HU.out]
                      · rw [← HW.out.eI]
                        show SS = p.I.map fun x => triI (setL (flatT (p.I.map (triOf T)))) (triOf T x)
                        rw [Hzs.out.1, HU.out, HSS.out]
                      · show (nV : Int) = (U.length : Int)
                        rw [← HU.out, HnV.out]
                      · exact HW.out.rI.kept hG2 (.inr (own_blk_ne HW.out.rI HS.out.b (by decide)))
                      · show wr.ownsRow w.heap.size 3 1 (.slice aC nV cC) U.length (intsV U)
                        rw [show U.length = nV from by rw [← HU.out, HnV.out]]
                        exact own_lowerT hrV HS.out.bel.size
                      · show wr.ownsRow w.heap.size 61 3 v SS.length (ws3 SS)
                        rw [HSl.out]
                        exact own_lowerT hrS9 HS.out.bel.size
                    · rw [List.getElem?_set_ne (Ne.symm hik)] at hq
                      obtain ⟨a, b⟩ := HA.out i q hq
                      exact ⟨fun h => (a (by omega)).kept hG2 HS.out.b, fun h => (b (by omega)).kept hG2 HS.out.b⟩
                  have HDone := Lib.hid hdone
                  clear hS hfin hdone hrS9 hrV hG2
                  go_wp2
                  go_roundw
                  case measure => simp [intOf]; omega
                  case rel => exact ⟨k + 1, _, by omega, by go_num, HFin.out, HG9.out, HDone.out⟩
        · obtain rfl : m = k := by omega
          have HS := Lib.hid hS
          have HA := Lib.hid hA
          clear hS hG hA
          by_cases hm0 : m = 0
          · subst hm0
            go_wp2
            go_ret
            exact ⟨out, 0, Hsh.out, Hm.out.symm, .inl ⟨rfl, rfl⟩, HS.out.bel⟩
          · have hm1 : ((m : Int) == 0) = false := by simp; omega
            go_wp2
            go_ret
            exact ⟨out, m, Hsh.out, Hm.out.symm, .inr ⟨by omega, pb, l, rfl, HS.out.hp, HS.out.b, HS.out.len, fun i p hp => by rw [HF.out]; exact (HA.out i p hp).1 (by have := (List.getElem?_eq_some_iff.1 hp).1; rw [HS.out.len] at this; exact this)⟩, HS.out.bel⟩
end Go.Proofs.Ytpnkhgjjlionnaa
namespace Go.Proofs.Ytpnkhgjjlionnaa
open Go.RowKit

theorem idxV_range {d : Int} {n : Nat} {U : List Int} (hU : U.Pairwise (· < ·)) (hm : ∀ x, x ∈ U ↔ d ≤ x ∧ x < d + n) {v : Int} (h0 : 0 ≤ v) (h1 : v < n) : idxV U (v + d) = v ∧ U.length = n := by
  have e : U = (List.range n).map fun i : Nat => (i : Int) + d := by
    refine rise_one hU ?_ (fun x => ?_)
    · rw [List.pairwise_map]
      exact List.pairwise_lt_range.imp (fun h => by omega)
    · rw [hm, List.mem_map]
      constructor
      · rintro ⟨a, b⟩
        exact ⟨(x - d).toNat, List.mem_range.2 (by omega), by omega⟩
      · rintro ⟨i, hi, rfl⟩
        have := List.mem_range.1 hi
        omega
  refine ⟨?_, by rw [e]; simp⟩
  unfold idxV
  rw [e, List.countP_map]
  have e2 : (List.range n).countP ((fun x : Int => decide (x < v + d)) ∘ fun i : Nat => (i : Int) + d) = v.toNat := by
    have e3 : ((fun x : Int => decide (x < v + d)) ∘ fun i : Nat => (i : Int) + d) = fun i : Nat => decide (i < v.toNat) := by
      funext i
      simp only [Function.comp]
      by_cases h : i < v.toNat
      · rw [decide_eq_true h, decide_eq_true (by omega)]
      · rw [decide_eq_false h, decide_eq_false (by omega)]
    rw [e3]
    have key : ∀ m n : Nat, m ≤ n → (List.range n).countP (fun i => decide (i < m)) = m := by
      intro m n hmn
      induction n with
      | zero =>
        have : m = 0 := by omega
        subst this
        rfl
      | succ n ih =>
        rw [List.range_succ, List.countP_append]
        by_cases h : m = n + 1
        · subst h
          have : (List.range n).countP (fun i => decide (i < n + 1)) = n := by
            rw [List.countP_eq_length.2 (fun i hi => by have := List.mem_range.1 hi; simp; omega)]
            simp
          rw [this]
          simp
        · rw [ih (by omega)]
          have : ¬ n < m := by omega
          simp [this]
    exact key v.toNat n (by omega)
  rw [e2]
  omega
/-- Each number of a shell's vertices is there. -/
theorem rtN_covers {T : List Tr} {c : Nat} {u : Nat} (hu : u < (rtN T c).1.length) : ∃ t ∈ (rtN T c).2, hasV t (u : Int) := by
  have hm : (rtN T c).1[u] ∈ (rtN T c).1 := List.getElem_mem hu
  have hs := spot_get (rtN_nodup T c) hu
  rcases numL_in T (rtL T c) ([], []) _ hm with h | ⟨q, hq, h⟩
  · cases h
  · refine ⟨spotT (rtN T c).1 T q, by rw [rtN_spot]; exact List.mem_map.2 ⟨q, hq, rfl⟩, ?_⟩
    unfold hasV spotT
    rcases h with h | h | h
    · rw [← h]
      exact .inl (by show (u : Int) = _; rw [hs])
    · rw [← h]
      exact .inr (.inl (by show (u : Int) = _; rw [hs]))
    · rw [← h]
      exact .inr (.inr (by show (u : Int) = _; rw [hs]))
theorem fits_in3 {t : Tr} {n : Int} (h : fitsM t n) : in3 n t := ⟨h.1, h.2.1, h.2.2.1⟩
section
variable {N : Int} {T : List Tr} {S : Int × List Tr} {O : List Int} {cs : List Nat}
theorem FormK.parts_in (h : FormK N T S O cs) (hS : Surf N T) : ∀ x ∈ cs.map (fun c => (((rtN T c).1.length : Int), (rtN T c).2)), InN x := fun x hx => by
  obtain ⟨c, hc, rfl⟩ := List.mem_map.1 hx
  exact ⟨by simp, fun t ht => fits_in3 (rtN_fitsM hS.simple (h.lt c hc) t ht)⟩
theorem joinM_len : ∀ (l : List (Int × List Tr)) (s : Int × List Tr), (l.foldl joinS s).2.length = s.2.length + (l.map fun x => x.2.length).sum
  | [], s => by simp
  | x :: l, s => by
    rw [List.foldl_cons, joinM_len l]
    unfold joinS
    simp only [List.length_append, List.length_map, List.map_cons, List.sum_cons]
    omega
theorem off_join (T : List Tr) (cs : List Nat) (k : Nat) : (joinM ((cs.map fun c => (((rtN T c).1.length : Int), (rtN T c).2)).take k)).2.length = offL (rtL T) cs k := by
  unfold joinM
  rw [joinM_len, ← List.map_take, List.map_map]
  unfold offL
  rw [List.length_flatMap]
  have : (fun x : Int × List Tr => x.2.length) ∘ (fun c => (((rtN T c).1.length : Int), (rtN T c).2)) = fun c => (rtL T c).length := by
    funext c
    simp only [Function.comp]
    rw [rtN_spot]
    simp
  rw [this]
  simp
/-- What the program makes of a part of a form. -/
theorem FormK.part (h : FormK N T S O cs) (hS : Surf N T) {out : List Int} (hs : Shl S.2 out) {k c : Nat} (hc : cs[k]? = some c) :
    partS S.2 (pI out k S.2.length) = (rtN T c).2 ∧ (vrtI S.2 (pI out k S.2.length)).length = (rtN T c).1.length ∧ Surf ((rtN T c).1.length : Int) (rtN T c).2 := by
  have hcl := h.lt c (List.mem_of_getElem? hc)
  obtain ⟨P, hP⟩ : ∃ P, (rtN T c).2 = P := ⟨_, rfl⟩
  obtain ⟨n, hn⟩ : ∃ n, (rtN T c).1.length = n := ⟨_, rfl⟩
  have hfit : ∀ t ∈ P, in3 n t := fun t ht => by
    rw [← hn]
    exact fits_in3 (rtN_fitsM hS.simple hcl t (by rw [hP]; exact ht))
  have hcov : ∀ u : Nat, u < n → ∃ t ∈ P, hasV t (u : Int) := fun u hu => by
    have := rtN_covers (T := T) (c := c) (u := u) (by rw [hn]; exact hu)
    rw [hP] at this
    exact this
  have hPl : P.length = (rtL T c).length := by rw [← hP, rtN_spot]; simp
  have hx : (cs.map fun c => (((rtN T c).1.length : Int), (rtN T c).2))[k]? = some ((n : Int), P) := by
    rw [List.getElem?_map, hc]
    show some (((rtN T c).1.length : Int), (rtN T c).2) = _
    rw [hn, hP]
  obtain ⟨post, e1, d0, d1, d2, d3⟩ := joinM_at (h.parts_in hS) hx
  have hoff := off_join T cs k
  rw [← h.joined] at e1 d1
  generalize joinM ((cs.map fun c => (((rtN T c).1.length : Int), (rtN T c).2)).take k) = J at *
  obtain ⟨d, pre⟩ := J
  simp only at e1 d0 d1 d2 d3 hoff
  rw [hP, hn]
  have hS1 : S.1 = N := by rw [h.eS]; exact h.num
  -- the surface
  have hsurf : Surf (n : Int) P := by
    have hB := h.surf
    rw [e1] at hB
    exact mid_surf hB hfit d0 (by omega) (by rw [← hS1]; exact d1) d2 d3
  -- the triangles of the block
  have hget : ∀ i t, P[i]? = some t → S.2[offL (rtL T) cs k + i]? = some (shT d t) := fun i t hi => by
    have hl := (List.getElem?_eq_some_iff.1 hi).1
    rw [e1, List.append_assoc, List.getElem?_append_right (by omega), show offL (rtL T) cs k + i - pre.length = i from by omega, List.getElem?_append_left (by rw [List.length_map]; exact hl), List.getElem?_map, hi]
    rfl
  have hlen : offL (rtL T) cs k + P.length ≤ S.2.length := by rw [e1]; simp; omega
  have hI : pI out k S.2.length = (List.range P.length).map fun i : Nat => ((offL (rtL T) cs k + i : Nat) : Int) := by
    have hrise : (pI out k S.2.length).Pairwise (· < ·) := by
      unfold pI
      rw [List.pairwise_map]
      exact (List.Pairwise.sublist List.filter_sublist List.pairwise_lt_range).imp (fun h => by omega)
    refine rise_one hrise ?_ (fun x => ?_)
    · rw [List.pairwise_map]
      exact List.pairwise_lt_range.imp (fun h => by omega)
    · rw [pI_mem, List.mem_map]
      constructor
      · rintro ⟨j, hj, hat, rfl⟩
        obtain ⟨l, c', i, q1, q2, q3⟩ := h.at_ hj
        have := h.parts hS hs j hj l c' i q1 q2 q3
        obtain rfl : l = k := by omega
        rw [hc] at q1
        obtain rfl := Option.some.inj q1
        exact ⟨i, List.mem_range.2 (by omega), by omega⟩
      · rintro ⟨i, hi, rfl⟩
        have hi := List.mem_range.1 hi
        exact ⟨offL (rtL T) cs k + i, by omega, h.parts hS hs _ (by omega) k c i hc (by omega) rfl, rfl⟩
  have htri : (pI out k S.2.length).map (triOf S.2) = P.map (shT d) := by
    rw [hI, List.map_map]
    apply List.ext_getElem
    · simp
    · intro i h1 h2
      simp only [List.getElem_map, List.getElem_range, Function.comp]
      unfold triOf
      rw [Int.toNat_natCast]
      have hi : i < P.length := by simpa using h2
      have := hget i P[i] (List.getElem?_eq_getElem hi)
      simp [List.getD, this]
  have hU1 : (vrtI S.2 (pI out k S.2.length)).Pairwise (· < ·) := setL_rise _
  have hU2 : ∀ x, x ∈ vrtI S.2 (pI out k S.2.length) ↔ d ≤ x ∧ x < d + n := fun x => by
    unfold vrtI
    rw [setL_mem, htri, flatT_has]
    constructor
    · rintro ⟨t, ht, hx⟩
      obtain ⟨s, hs', rfl⟩ := List.mem_map.1 ht
      have := in3_has.1 (hfit s hs') _ (has_sh.1 hx)
      unfold inR at this
      omega
    · rintro ⟨a, b⟩
      obtain ⟨t, ht, hx⟩ := hcov (x - d).toNat (by omega)
      refine ⟨shT d t, List.mem_map.2 ⟨t, ht, rfl⟩, has_sh.2 ?_⟩
      rw [show (((x - d).toNat : Nat) : Int) = x - d from by omega] at hx
      exact hx
  have hpos : 0 < n := by
    have hp0 : 0 < P.length := by rw [hPl]; exact rtL_pos hcl
    have := in3_has.1 (hfit P[0] (List.getElem_mem hp0)) (P[0]).1 (.inl rfl)
    unfold inR at this
    omega
  refine ⟨?_, (idxV_range hU1 hU2 (v := 0) (by omega) (by omega)).2, hsurf⟩
  unfold partS
  have e2 : (pI out k S.2.length).map (fun x => triI (vrtI S.2 (pI out k S.2.length)) (triOf S.2 x)) = ((pI out k S.2.length).map (triOf S.2)).map (triI (vrtI S.2 (pI out k S.2.length))) := by
    rw [List.map_map]
    rfl
  rw [e2, htri, List.map_map]
  have : ∀ t ∈ P, (triI (vrtI S.2 (pI out k S.2.length)) ∘ shT d) t = t := fun t ht => by
    obtain ⟨⟨a1, a2⟩, ⟨b1, b2⟩, c1, c2⟩ := hfit t ht
    simp only [Function.comp]
    unfold triI shT
    simp only
    rw [(idxV_range hU1 hU2 a1 a2).1, (idxV_range hU1 hU2 b1 b2).1, (idxV_range hU1 hU2 c1 c2).1]
  rw [List.map_congr_left this, List.map_id']
theorem rowC_M (T : List Tr) (c : Nat) : rowC T [] [] c = rowM ((rtN T c).1.length : Int) (rtN T c).2 := by
  show rowM ((rtN T c).1.length : Int) (rtN T c).2 ++ (flatT [] ++ []) = _
  have e0 : flatT ([] : List Tr) ++ ([] : List Int) = [] := rfl
  rw [e0, List.append_nil]
theorem FormK.not_less (h : FormK N T S O cs) (hS : Surf N T) {c d : Nat} (hc : c ∈ cs) (hd : d < 3 * (rtN T c).2.length) : ¬ ordM ((rtN (rtN T c).2 d).1.length : Int) (rtN (rtN T c).2 d).2 ((rtN T c).1.length : Int) (rtN T c).2 < 0 := by
  have h1 := h.turned hS hc hd
  unfold ordM
  have := cmpL_anti (rowM ((rtN T c).1.length : Int) (rtN T c).2) (rowM ((rtN (rtN T c).2 d).1.length : Int) (rtN (rtN T c).2 d).2)
  omega
theorem FormK.next (h : FormK N T S O cs) {k c d : Nat} (hc : cs[k]? = some c) (hd : cs[k + 1]? = some d) : ¬ ordM ((rtN T d).1.length : Int) (rtN T d).2 ((rtN T c).1.length : Int) (rtN T c).2 < 0 := by
  obtain ⟨k1, k2⟩ := List.getElem?_eq_some_iff.1 hc
  obtain ⟨l1, l2⟩ := List.getElem?_eq_some_iff.1 hd
  have h1 := List.pairwise_iff_getElem.1 h.rise k (k + 1) k1 l1 (by omega)
  rw [k2, l2, rowC_M, rowC_M] at h1
  unfold ordM
  have := cmpL_anti (rowM ((rtN T c).1.length : Int) (rtN T c).2) (rowM ((rtN T d).1.length : Int) (rtN T d).2)
  omega
/-- What the law wants of a form's parts. -/
structure PartsOk (l : List (Int × List Tr)) : Prop where
  surf : ∀ x ∈ l, Surf x.1 x.2
  pos : ∀ x ∈ l, 0 < x.2.length ∧ x.2.length ≤ 1000
  turn : ∀ x ∈ l, ∀ d, d < 3 * x.2.length → ¬ ordM ((rtN x.2 d).1.length : Int) (rtN x.2 d).2 x.1 x.2 < 0
  next : ∀ k x y, l[k]? = some x → l[k + 1]? = some y → ¬ ordM y.1 y.2 x.1 x.2 < 0
theorem FormK.ok (h : FormK N T S O cs) (hS : Surf N T) (hl : T.length ≤ 1000) {out : List Int} (hs : Shl S.2 out) {m : Nat} (hm : (m : Int) = cntL out) {l : List (Int × List Tr)} (hll : l.length = m) (he : ∀ i x, l[i]? = some x → x = (((vrtI S.2 (pI out i S.2.length)).length : Int), partS S.2 (pI out i S.2.length))) : PartsOk l := by
  have hmc := h.count hS hs hm
  have key : ∀ i x, l[i]? = some x → ∃ c, cs[i]? = some c ∧ x = (((rtN T c).1.length : Int), (rtN T c).2) ∧ Surf ((rtN T c).1.length : Int) (rtN T c).2 := fun i x hx => by
    have hi := (List.getElem?_eq_some_iff.1 hx).1
    obtain ⟨c, hc⟩ : ∃ c, cs[i]? = some c := ⟨cs[i]'(by omega), List.getElem?_eq_getElem (by omega)⟩
    obtain ⟨p1, p2, p3⟩ := h.part hS hs hc
    refine ⟨c, hc, ?_, p3⟩
    rw [he i x hx, p1, p2]
  have keyM : ∀ x ∈ l, ∃ c, c ∈ cs ∧ x = (((rtN T c).1.length : Int), (rtN T c).2) ∧ Surf ((rtN T c).1.length : Int) (rtN T c).2 := fun x hx => by
    obtain ⟨i, hi, e⟩ := List.getElem_of_mem hx
    obtain ⟨c, hc, q⟩ := key i x (by rw [List.getElem?_eq_getElem hi, e])
    exact ⟨c, List.mem_of_getElem? hc, q⟩
  refine ⟨fun x hx => ?_, fun x hx => ?_, fun x hx d hd => ?_, fun k x y hx hy => ?_⟩
  · obtain ⟨c, -, rfl, hsf⟩ := keyM x hx
    exact hsf
  · obtain ⟨c, hc, rfl, -⟩ := keyM x hx
    have hcl := h.lt c hc
    have e : (rtN T c).2.length = (rtL T c).length := by rw [rtN_spot]; simp
    simp only
    rw [e]
    have := (LOk.rtL hcl).len
    exact ⟨rtL_pos hcl, by omega⟩
  · obtain ⟨c, hc, rfl, -⟩ := keyM x hx
    exact h.not_less hS hc hd
  · obtain ⟨c, hc, rfl, -⟩ := key k x hx
    obtain ⟨d, hd, rfl, -⟩ := key (k + 1) y hy
    exact h.next hc hd
end
end Go.Proofs.Ytpnkhgjjlionnaa
namespace Go.Proofs.Ytpnkhgjjlionnaa
open Go.RowKit

theorem AtU.skip {P : Program} {l : List Oper} {Q : Exit → Act → World → Prop} {md : Region.Mode} {S : World → Prop} {n i f : Nat} {oi : Oper} {listed : Array Bool} {a : Act} {w : World} (hi : l[i]? = some oi) (hok : okU md l n = true) (hf : (decide (i < n) && Region.free md l.toArray listed i && (Region.ready md l.toArray listed).contains i) = true)
    (hQ : ∀ c a w, Q (.panic c) (a.put oi.dst undef) w → Q (.panic c) a w) (hw : Region.wanted oi (yielded l.toArray a.tmps) = false)
    (h : AtU P md l Q S n f (listed.setIfInBounds i true) (a.put oi.dst undef) w) : AtU P md l Q S n (f + 1) listed a w := by
  simp only [okU, Bool.and_eq_true, decide_eq_true_eq] at hok hf
  obtain ⟨⟨⟨h1, h2⟩, h3⟩, h4⟩ := hok
  obtain ⟨⟨h5, h6⟩, h7⟩ := hf
  have hr : i ∈ Region.ready md l.toArray listed := by simpa using h7
  exact ⟨fun inv hS => wpAnyU_first hi (Region.noSelect_spec h1) h2 h3 h4 h5 hQ f listed a w inv (Region.free_spec (by simpa using hi) h6) hr (.inr ⟨hw, rfl⟩) hS (h.go (inv.set hr h5) hS)⟩
end Go.Proofs.Ytpnkhgjjlionnaa
namespace Go.Proofs.Ytpnkhgjjlionnaa
open Go.RowKit Go.Maps

set_option maxRecDepth 100000 in
theorem great10_any (N : Int) (v : Value) (T : List Tr) (w : World) (h : TrisRd w v T) : Calls Try.prog 17 #[.agg #[.int .i64 N, v]] w fun e w' => ∃ g : Int, e = .returned (.int .i64 g) ∧ ((g = 0 ∧ T.length ≤ 40 ∧ N ≤ 60) ∨ g = 1) ∧ Below w.heap.size w w' := by
  have b1 := Blk.new w 24 #[.int .i64 N, v]
  have hB0 : Below w.heap.size w (w.alloc (.cells #[.int .i64 N, v] 24)) := (Below.refl _ _).alloc (Nat.le_refl _) _
  obtain ⟨a, cT, rfl, -⟩ := h
  obtain ⟨n, hn⟩ : ∃ n, T.length = n := ⟨_, rfl⟩
  rw [hn] at b1 hB0 ⊢
  obtain ⟨l0, x0, -, x1, -⟩ := b1.two
  have HB := Lib.hid hB0
  clear hn b1 hB0
  by_cases c0 : 40 < n
  · have d0 : (40 : Int) < (n : Int) := by omega
    go_enter Try.func17, Try.ntmps17
    go_wp2
    go_ret
    exact ⟨1, rfl, .inr rfl, HB.out⟩
  · have d0 : decide ((40 : Int) < (n : Int)) = false := by simp; omega
    by_cases c1 : 60 < N
    · go_enter Try.func17, Try.ntmps17
      go_wp2
      go_ret
      exact ⟨1, rfl, .inr rfl, HB.out⟩
    · have d1 : decide (60 < N) = false := by simp; omega
      by_cases c2 : N < -1000
      · go_enter Try.func17, Try.ntmps17
        go_wp2
        go_ret
        exact ⟨1, rfl, .inr rfl, HB.out⟩
      · have d2 : decide (N < -1000) = false := by simp; omega
        have HF := Lib.hid (show n ≤ 40 ∧ N ≤ 60 from by omega)
        clear c0 c1 c2
        go_enter Try.func17, Try.ntmps17
        go_wp2
        go_ret
        exact ⟨0, rfl, .inl ⟨rfl, HF.out.1, HF.out.2⟩, HB.out⟩
set_option maxRecDepth 100000 in
set_option maxHeartbeats 1000000 in
theorem laid10_any (N : Int) (v : Value) (T : List Tr) (w : World) (h : TrisRd w v T) : Calls Try.prog 9 #[.agg #[.int .i64 N, v]] w fun e w' => (e = .returned (.pointer none) ∨ ∃ g, e = .returned (.pointer (some ⟨g, 0, none⟩)) ∧ Tab w' g N T ∧ Surf N T ∧ T.length ≤ 40 ∧ N ≤ 60) ∧ Below w.heap.size w w' := by
  have b1 := Blk.new w 24 #[.int .i64 N, v]
  have hB0 : Below w.heap.size w (w.alloc (.cells #[.int .i64 N, v] 24)) := (Below.refl _ _).alloc (Nat.le_refl _) _
  have HG := Lib.hid (great10_any N v T _ (h.below hB0))
  have HN := Lib.hid (fun (W : World) (hW : Below w.heap.size w W) (hl : T.length ≤ 40) => new_any N v T W (h.below hW) (by omega))
  obtain ⟨a, cT, rfl, -⟩ := h
  obtain ⟨l0, x0, -, x1, -⟩ := b1.two
  have HB := Lib.hid hB0
  have HK := Lib.hid b1
  clear b1 hB0
  go_enter Try.func9, Try.ntmps9
  go_upto_if 7 with (go_at_call 17; go_loud (with_reducible refine HG.out.mono ?_; rintro e w1 ⟨g, rfl, hg, hb⟩))
  have hBw := HB.out.trans (hb.mono HB.out.size)
  obtain ⟨l1, y0, -, y1, -⟩ := (HK.out.below hb l0).two
  have HBw := Lib.hid hBw
  clear hb hBw x0 x1
  rcases hg with ⟨rfl, hl, hN⟩ | rfl
  · have HNw := Lib.hid (HN.out w1 HBw.out hl)
    have HS := Lib.hid (And.intro hl hN)
    clear hl hN
    go_upto_region 4 with (go_at_call 22; go_loud (with_reducible refine HNw.out.mono ?_; rintro e w2 ⟨hcase, hb2⟩; obtain ⟨p, hp⟩ : ∃ (p : Option Addr) (cs : Int × Int × Int), e = .returned (.tuple #[.pointer p, .agg #[.int .i64 cs.1, .int .i64 cs.2.1, .int .i64 cs.2.2]]) ∧ (p = none ∨ ∃ g, p = some ⟨g, 0, none⟩ ∧ Tab w2 g N T ∧ Surf N T) := (by rcases hcase with ⟨hS, g, he, ht, -⟩ | ⟨-, k, a, b, -, he⟩; exact ⟨some ⟨g, 0, none⟩, (0, 0, 0), by rw [he]; unfold witV; rfl, .inr ⟨g, rfl, ht, hS⟩⟩; exact ⟨none, (k, a, b), by rw [he]; unfold witV; rfl, .inl rfl⟩); obtain ⟨⟨k1, k2, k3⟩, rfl, hp2⟩ := hp))
    have hA := (Below.refl w2.heap.size w2).alloc (Nat.le_refl _) (.cells #[.int .i64 k1, .int .i64 k2, .int .i64 k3] 44)
    have HBe := Lib.hid (HBw.out.trans ((hb2.trans (hA.mono hb2.size)).mono HBw.out.size))
    have HP := Lib.hid (show p = none ∨ ∃ g, p = some ⟨g, 0, none⟩ ∧ Tab (w2.alloc (.cells #[.int .i64 k1, .int .i64 k2, .int .i64 k3] 44)) g N T ∧ Surf N T from by
      rcases hp2 with h | ⟨g, h1, h2, h3⟩
      · exact .inl h
      · exact .inr ⟨g, h1, h2.below hA, h3⟩)
    clear hA hp2 hcase hb2
    go_wp2
    go_ret
    refine ⟨?_, HBe.out⟩
    rcases HP.out with h | ⟨g, h1, h2, h3⟩
    · exact .inl (by rw [h]; rfl)
    · exact .inr ⟨g, by rw [h1]; rfl, h2, h3, HS.out.1, HS.out.2⟩
  · go_wp2
    go_ret
    exact ⟨.inl rfl, HBw.out⟩
end Go.Proofs.Ytpnkhgjjlionnaa
namespace Go.Proofs.Ytpnkhgjjlionnaa
open Go.RowKit Go.Maps

def adjB (T : List Tr) (v : Int) (i k : Nat) : Bool := match T[i]?, T[k]? with
  | some a, some b => [a.1, a.2.1, a.2.2].any fun x => decide (x ≠ v) && (decide (x = b.1) || decide (x = b.2.1) || decide (x = b.2.2))
  | _, _ => false
theorem adjB_ok {T : List Tr} {v : Int} {i k : Nat} (h : adjB T v i k = true) : adjV T v i k := by
  unfold adjB at h
  split at h
  · rename_i a b ha hb
    rw [List.any_eq_true] at h
    obtain ⟨x, hx, h⟩ := h
    simp only [Bool.and_eq_true, Bool.or_eq_true, decide_eq_true_eq] at h
    refine ⟨a, b, x, ha, hb, h.1, ?_, ?_⟩
    · simp only [List.mem_cons, List.not_mem_nil, or_false] at hx
      unfold hasV
      rcases hx with rfl | rfl | rfl
      · exact .inl rfl
      · exact .inr (.inl rfl)
      · exact .inr (.inr rfl)
    · unfold hasV
      rcases h.2 with (h2 | h2) | h2
      · exact .inl h2
      · exact .inr (.inl h2)
      · exact .inr (.inr h2)
  · cases h
theorem connB {T : List Tr} {u : Int} (h : ((atV T u).all fun k => adjB T u ((atV T u).headD 0) k) = true) : ConnV T u (atV T u) := by
  intro S h0 hs k hk
  cases hl : atV T u with
  | nil => rw [hl] at hk; cases hk
  | cons a r =>
    rw [List.all_eq_true] at h
    have h1 := h k hk
    rw [hl] at h0 h1
    exact hs a (by rw [hl]; exact List.mem_cons_self ..) k hk (h0 a rfl) (adjB_ok h1)
def T46 : List Tr := [(0, 1, 2), (0, 2, 3), (0, 3, 1), (1, 3, 2)]
def W46 : List Tr := [(0, 1, 2), (3, 2, 1), (3, 0, 2), (3, 1, 0)]
theorem keysT46 : T46.flatMap key3 = [(0, 1, 2), (0, 2, 3), (0, 1, 3), (1, 2, 3)] := by
  simp [T46, key3, sort3, sortL, List.mergeSort, List.MergeSort.Internal.splitInTwo]
theorem keysW46 : W46.flatMap key3 = [(0, 1, 2), (1, 2, 3), (0, 2, 3), (0, 1, 3)] := by
  simp [W46, key3, sort3, sortL, List.mergeSort, List.MergeSort.Internal.splitInTwo]
theorem surfT46 : Surf 4 T46 where
  n0 := by decide
  n1 := by decide
  len := by decide
  inr := by unfold in3 inR; decide
  simple := by unfold simple3; decide
  twice := by decide
  mirrored := by rw [keysT46]; decide
  lonely := by
    intro u hu
    have h : u = 0 ∨ u = 1 ∨ u = 2 ∨ u = 3 := by unfold inR at hu; omega
    rcases h with rfl | rfl | rfl | rfl <;> decide
  pinch := by
    intro u hu
    have h : u = 0 ∨ u = 1 ∨ u = 2 ∨ u = 3 := by unfold inR at hu; omega
    rcases h with rfl | rfl | rfl | rfl <;> exact connB (by decide)
theorem surfW46 : Surf 4 W46 where
  n0 := by decide
  n1 := by decide
  len := by decide
  inr := by unfold in3 inR; decide
  simple := by unfold simple3; decide
  twice := by decide
  mirrored := by rw [keysW46]; decide
  lonely := by
    intro u hu
    have h : u = 0 ∨ u = 1 ∨ u = 2 ∨ u = 3 := by unfold inR at hu; omega
    rcases h with rfl | rfl | rfl | rfl <;> decide
  pinch := by
    intro u hu
    have h : u = 0 ∨ u = 1 ∨ u = 2 ∨ u = 3 := by unfold inR at hu; omega
    rcases h with rfl | rfl | rfl | rfl <;> exact connB (by decide)
/-- Four triangles, each across the first one. -/
theorem shl_four {T : List Tr} {out : List Int} (h : Shl T out) (hl : T.length = 4) {a b c : Nat} (h1 : oppI T 0 = (a : Int)) (h2 : oppI T 1 = (b : Int)) (h3 : oppI T 2 = (c : Int)) (ha : a / 3 = 1 ∨ b / 3 = 1 ∨ c / 3 = 1) (hb : a / 3 = 2 ∨ b / 3 = 2 ∨ c / 3 = 2) (hc : a / 3 = 3 ∨ b / 3 = 3 ∨ c / 3 = 3) : out = [0, 0, 0, 0] := by
  have e1 := h.adj 0 a (by omega) h1
  have e2 := h.adj 1 b (by omega) h2
  have e3 := h.adj 2 c (by omega) h3
  have e0 : at_ out 0 = 0 := by
    rcases h.new 0 (by omega) with ⟨i, hi, -⟩ | ⟨-, h0 | ⟨i, hi, -⟩⟩
    · omega
    · exact h0
    · omega
  have k1 : at_ out 1 = 0 := by
    rcases ha with e | e | e
    · rw [e] at e1; exact e1.trans e0
    · rw [e] at e2; exact e2.trans e0
    · rw [e] at e3; exact e3.trans e0
  have k2 : at_ out 2 = 0 := by
    rcases hb with e | e | e
    · rw [e] at e1; exact e1.trans e0
    · rw [e] at e2; exact e2.trans e0
    · rw [e] at e3; exact e3.trans e0
  have k3 : at_ out 3 = 0 := by
    rcases hc with e | e | e
    · rw [e] at e1; exact e1.trans e0
    · rw [e] at e2; exact e2.trans e0
    · rw [e] at e3; exact e3.trans e0
  have hlo := h.len
  rw [hl] at hlo
  match out, hlo with
  | [w, x, y, z], _ =>
    simp only [at_, List.getD] at e0 k1 k2 k3
    simp at e0 k1 k2 k3
    rw [e0, k1, k2, k3]
theorem shlT46 {out : List Int} (h : Shl T46 out) : out = [0, 0, 0, 0] := shl_four h rfl (a := 10) (b := 5) (c := 7) (by decide) (by decide) (by decide) (by decide) (by decide) (by decide)
theorem rtT46 : rtL T46 4 = [4, 8, 1, 9] := by decide
theorem rnT46 : rtN T46 4 = ([2, 3, 0, 1], W46) := by decide
theorem cnt46 {m : Nat} (h : (m : Int) = cntL [0, 0, 0, 0]) : m = 1 := by
  have : cntL [0, 0, 0, 0] = 1 := by decide
  omega
theorem frmT46 : frmS T46 [0, 0, 0, 0] 1 = (4, W46) := by decide
theorem frmW46 : frmS W46 [0, 0, 0, 0] 1 = (4, W46) := by decide
theorem formT46 {S : Int × List Tr} {O : List Int} (h : FormIs T46 S O) : S = (4, W46) := by
  obtain ⟨out, m, h1, h2, rfl, -⟩ := h
  rw [shlT46 h1] at h2 ⊢
  rw [cnt46 h2, frmT46]
theorem shl_make {T : List Tr} (hl : T.length = 4) (hr : ∀ j, j < 4 → Reach T 0 j) : Shl T [0, 0, 0, 0] := by
  have hat : ∀ j, j < 4 → at_ [0, 0, 0, 0] j = 0 := by
    intro j hj
    rcases (by omega : j = 0 ∨ j = 1 ∨ j = 2 ∨ j = 3) with rfl | rfl | rfl | rfl <;> rfl
  refine ⟨by rw [hl]; rfl, fun j hj => by rw [hat j (by omega)]; exact Int.le_refl _, fun c o hc ho => ?_, fun j hj => ?_⟩
  · have := (opp_some hc ho).1
    rw [hat _ (by omega), hat _ (by omega)]
  · by_cases h0 : j = 0
    · subst h0
      exact .inr ⟨fun i hi => absurd hi (Nat.not_lt_zero _), .inl rfl⟩
    · exact .inl ⟨0, by omega, by rw [hat 0 (by decide), hat j (by omega)], hr j (by omega)⟩
theorem reach_four {T : List Tr} (hl : T.length = 4) {a b c : Nat} (h1 : oppI T 0 = (a : Int)) (h2 : oppI T 1 = (b : Int)) (h3 : oppI T 2 = (c : Int)) (ha : a / 3 = 1 ∨ b / 3 = 1 ∨ c / 3 = 1) (hb : a / 3 = 2 ∨ b / 3 = 2 ∨ c / 3 = 2) (hc : a / 3 = 3 ∨ b / 3 = 3 ∨ c / 3 = 3) : ∀ j, j < 4 → Reach T 0 j := by
  have e1 : Reach T 0 (a / 3) := (Reach.refl T 0).step (c := 0) (by omega) h1
  have e2 : Reach T 0 (b / 3) := (Reach.refl T 0).step (c := 1) (by omega) h2
  have e3 : Reach T 0 (c / 3) := (Reach.refl T 0).step (c := 2) (by omega) h3
  intro j hj
  rcases (by omega : j = 0 ∨ j = 1 ∨ j = 2 ∨ j = 3) with rfl | rfl | rfl | rfl
  · exact Reach.refl T 0
  · rcases ha with e | e | e <;> rw [← e] <;> assumption
  · rcases hb with e | e | e <;> rw [← e] <;> assumption
  · rcases hc with e | e | e <;> rw [← e] <;> assumption
theorem formeq46 : FormEq 4 4 T46 W46 :=
  ⟨surfT46, surfW46, (4, W46), _, _,
    ⟨[0, 0, 0, 0], 1, shl_make rfl (reach_four rfl (a := 10) (b := 5) (c := 7) (by decide) (by decide) (by decide) (by decide) (by decide) (by decide)), by decide, frmT46.symm, rfl⟩,
    ⟨[0, 0, 0, 0], 1, shl_make rfl (reach_four rfl (a := 3) (b := 6) (c := 9) (by decide) (by decide) (by decide) (by decide) (by decide) (by decide)), by decide, frmW46.symm, rfl⟩⟩
theorem tris_blk {w : World} {g : Nat} {T : List Tr} (h : Blk w g 61 (ws3 T).toArray) (hT : T.length ≤ maxLen) : TrisRd w (.slice (some ⟨g, 0, none⟩) T.length T.length) T :=
  TrisRd.of_row (base := 0) ⟨ws3_len T, .inr ⟨g, T.length, (ws3 T).toArray, rfl, Nat.zero_le _, h, Nat.le_refl _, hT, by simp [ws3_len], by rw [← ws3_len]; simp⟩⟩
set_option maxRecDepth 100000 in
set_option maxHeartbeats 4000000 in
theorem awake46_any (w : World) : Calls Try.prog 8 #[] w fun e w' => e = .returned (.bool true) ∧ Below w.heap.size w w' := by
  have HNew := Lib.hid (fun (W : World) (v : Value) (hv : TrisRd W v T46) => (new_any 4 v T46 W hv (by decide)).mono (R' := fun e w' => ∃ g, e = .returned (.tuple #[.pointer (some ⟨g, 0, none⟩), .agg #[.int .i64 0, .int .i64 0, .int .i64 0]]) ∧ Tab w' g 4 T46 ∧ Below W.heap.size W w') (by
    rintro e w' ⟨⟨-, g, he, ht, -⟩ | ⟨hn, -⟩, hb⟩
    · exact ⟨g, he, ht, hb⟩
    · exact absurd surfT46 hn))
  have HFm := Lib.hid (fun (W : World) (v : Value) (hv : TrisRd W v T46) => (cform_two 4 v T46 W hv (by decide) (by decide)).mono (R' := fun e w' => ∃ aT cT aO nO cO, e = .returned (.tuple #[.agg #[.int .i64 4, .slice aT 4 cT], .slice aO nO cO, .int .i64 0]) ∧ TrisRd w' (.slice aT 4 cT) W46 ∧ Below W.heap.size W w') (by
    rintro e w' ⟨S, O, aT, cT, aO, cO, er, he, hT, -, -, ⟨rfl, -, hF⟩ | ⟨-, hn, -⟩, hb⟩
    · rw [formT46 hF] at he hT
      exact ⟨aT, cT, aO, _, cO, he, hT, hb⟩
    · exact absurd surfT46 hn))
  have HRt := Lib.hid (fun (W : World) (g : Nat) (ht : Tab W g 4 T46) => (rooted_any g 4 T46 W 4 ht (by decide)).mono (R' := fun e w' => ∃ aT cT gO cO gC cC, e = .returned (.tuple #[.agg #[.int .i64 4, .slice aT 4 cT], .slice (some ⟨gO, 0, none⟩) 4 cO, .slice (some ⟨gC, 0, none⟩) 4 cC]) ∧ TrisRd w' (.slice aT 4 cT) W46 ∧ gO < w'.heap.size ∧ w'.cell? ⟨gO, 0, none⟩ = some (.int .i64 2) ∧ gC < w'.heap.size ∧ w'.cell? ⟨gC, 0, none⟩ = some (.int .i64 4) ∧ Below W.heap.size W w') (by
    rintro e w' ⟨vT, vO, vC, he, hT, hO, hC, hb⟩
    rw [rnT46] at he hT hO
    rw [rtT46] at hC
    obtain ⟨aT, cT, rfl⟩ := ownsRow_slice hT
    obtain ⟨gO, cO, rfl, -, lO⟩ := hO.form (by decide)
    obtain ⟨gC, cC, rfl, -, lC⟩ := hC.form (by decide)
    have c0 := hO.cellAt 0 (by decide)
    have c1 := hC.cellAt 0 (by decide)
    exact ⟨aT, cT, gO, cO, gC, cC, he, TrisRd.of_row hT, lO, c0, lC, c1, hb⟩))
  have HSm := Lib.hid (fun (W : World) (v1 v2 : Value) (h1 : TrisRd W v1 W46) (h2 : TrisRd W v2 W46) => (same_any 4 4 v1 v2 W46 W46 W h1 h2 (by decide) (by decide)).mono (R' := fun e w' => e = .returned (.bool true) ∧ Below W.heap.size W w') (by
    rintro e w' ⟨he, hb⟩
    exact ⟨by simpa using he, hb⟩))
  have HEq := Lib.hid (fun (W : World) (v1 v2 : Value) (h1 : TrisRd W v1 T46) (h2 : TrisRd W v2 W46) => (equal_any 4 4 v1 v2 T46 W46 W h1 h2 (by decide) (by decide) (by decide) (by decide)).mono (R' := fun e w' => e = .returned (.bool true) ∧ Below W.heap.size W w') (by
    rintro e w' ⟨b, he, hb1, hb⟩
    rw [hb1.2 formeq46] at he
    exact ⟨he, hb⟩))
  have HLs := Lib.hid (fun (W : World) (v : Value) (h1 : TrisRd W v T46) => (less_any 4 4 v v T46 T46 W h1 h1 (by decide) (by decide)).mono (R' := fun e w' => e = .returned (.bool false) ∧ Below W.heap.size W w') (by
    rintro e w' ⟨he, hb⟩
    rw [ordM_self] at he
    exact ⟨by simpa using he, hb⟩))
  have hb1 := (Blk.new w 61 (ws3 T46).toArray).alloc (.cells #[.int .i64 4, .slice (some ⟨w.heap.size, 0, none⟩) 4 4] 24)
  have hb2 : Blk ((w.alloc (.cells (ws3 T46).toArray 61)).alloc (.cells #[.int .i64 4, .slice (some ⟨w.heap.size, 0, none⟩) 4 4] 24)) (w.heap.size + 1) 24 #[.int .i64 4, .slice (some ⟨w.heap.size, 0, none⟩) 4 4] := blk_new_at (by simp)
  have hB0 : Below w.heap.size w ((w.alloc (.cells (ws3 T46).toArray 61)).alloc (.cells #[.int .i64 4, .slice (some ⟨w.heap.size, 0, none⟩) 4 4] 24)) := ((Below.refl _ _).alloc (Nat.le_refl _) _).alloc (by simp) _
  have hT0 : TrisRd _ (.slice (some ⟨w.heap.size, 0, none⟩) 4 4) T46 := tris_blk hb1 (by decide)
  have e46 : (ws3 T46).toArray = #[.int .i64 0, .int .i64 1, .int .i64 2, .int .i64 0, .int .i64 2, .int .i64 3, .int .i64 0, .int .i64 3, .int .i64 1, .int .i64 1, .int .i64 3, .int .i64 2] := rfl
  rw [e46] at hb1 hb2 hB0 hT0
  have HB0 := Lib.hid hB0
  have HB2 := Lib.hid hb2
  have HT0 := Lib.hid hT0
  obtain ⟨l2, x0, -, x1, -⟩ := hb2.two
  clear hb1 hb2 hB0 hT0 e46
  go_enter Try.func8, Try.ntmps8
  go_upto_region 2 with fail
  generalize (w.alloc (.cells #[.int .i64 0, .int .i64 1, .int .i64 2, .int .i64 0, .int .i64 2, .int .i64 3, .int .i64 0, .int .i64 3, .int .i64 1, .int .i64 1, .int .i64 3, .int .i64 2] 61)).alloc (.cells #[.int .i64 4, .slice (some ⟨w.heap.size, 0, none⟩) 4 4] 24) = W0 at *
  go_upto_region 3 with (go_at_call 22; go_loud (refine (HNew.out _ _ HT0.out).mono ?_; rintro e w1 ⟨g, rfl, hg, hb1⟩))
  have hA1 := (Below.refl w1.heap.size w1).alloc (Nat.le_refl _) (.cells #[.int .i64 0, .int .i64 0, .int .i64 0] 44)
  have hBw := HB0.out.trans ((hb1.trans (hA1.mono hb1.size)).mono HB0.out.size)
  have hK := (HB2.out.below hb1 l2).below hA1 (Nat.lt_of_lt_of_le l2 hb1.size)
  have HT1 := Lib.hid ((HT0.out.below hb1).below hA1)
  have Hg1 := Lib.hid (hg.below hA1)
  clear hA1 hb1 hg x0 x1
  generalize w1.alloc (.cells #[.int .i64 0, .int .i64 0, .int .i64 0] 44) = W1 at *
  have HK1 := Lib.hid hK
  have HB1 := Lib.hid hBw
  obtain ⟨l3, x0, -, x1, -⟩ := hK.two
  clear hK hBw
  go_upto_region 4 with (go_at_call 24; go_loud (refine (HFm.out _ _ HT1.out).mono ?_; rintro e w2 ⟨aF, cF, aO0, nO0, cO0, rfl, hF2, hb2⟩))
  have hA2 := (Below.refl w2.heap.size w2).alloc (Nat.le_refl _) (.cells #[.int .i64 4, .slice aF 4 cF] 24)
  have hBw := HB1.out.trans ((hb2.trans (hA2.mono hb2.size)).mono HB1.out.size)
  have hK := (HK1.out.below hb2 l3).below hA2 (Nat.lt_of_lt_of_le l3 hb2.size)
  have hKf := Blk.new w2 24 #[.int .i64 4, .slice aF 4 cF]
  have HT2 := Lib.hid ((HT1.out.below hb2).below hA2)
  have Hg2 := Lib.hid ((Hg1.out.below hb2).below hA2)
  have HF2 := Lib.hid (hF2.below hA2)
  clear hA2 hb2 hF2 x0 x1
  generalize w2.alloc (.cells #[.int .i64 4, .slice aF 4 cF] 24) = W2 at *
  generalize w2.heap.size = qf at *
  have HK2 := Lib.hid hK
  have HKf2 := Lib.hid hKf
  have HB2 := Lib.hid hBw
  have l4 := hK.lt
  clear hK hBw hKf l2 l3
  go_upto_region 5 with (go_at_call 28; go_loud (refine (HRt.out _ _ Hg2.out).mono ?_; rintro e w3 ⟨aR, cR, gO, cO, gC, cC, rfl, hR3, lO, o3, lC, c3, hb3⟩))
  have hA3 := (Below.refl w3.heap.size w3).alloc (Nat.le_refl _) (.cells #[.int .i64 4, .slice aR 4 cR] 24)
  have hBw := HB2.out.trans ((hb3.trans (hA3.mono hb3.size)).mono HB2.out.size)
  have hK := (HK2.out.below hb3 l4).below hA3 (Nat.lt_of_lt_of_le l4 hb3.size)
  have hKf := (HKf2.out.below hb3 HKf2.out.lt).below hA3 (Nat.lt_of_lt_of_le HKf2.out.lt hb3.size)
  have hKr := Blk.new w3 24 #[.int .i64 4, .slice aR 4 cR]
  have hT3 := (HT2.out.below hb3).below hA3
  have hF3 := (HF2.out.below hb3).below hA3
  have hR3 := hR3.below hA3
  have o4 := (hA3.cell (p := ⟨gO, 0, none⟩) lO).trans o3
  have c4 := (hA3.cell (p := ⟨gC, 0, none⟩) lC).trans c3
  have lO4 := Nat.lt_of_lt_of_le lO hA3.size
  have lC4 := Nat.lt_of_lt_of_le lC hA3.size
  clear hA3 hb3 lO lC o3 c3
  generalize w3.alloc (.cells #[.int .i64 4, .slice aR 4 cR] 24) = W3 at *
  generalize w3.heap.size = qr at *
  obtain ⟨Wt, hWt⟩ : ∃ Wt, (W3.alloc (.cells #[.int .i64 0, .int .i64 1, .int .i64 2, .int .i64 3, .int .i64 2, .int .i64 1, .int .i64 3, .int .i64 0, .int .i64 2, .int .i64 3, .int .i64 1, .int .i64 0] 61)).alloc (.cells #[.int .i64 4, .slice (some ⟨W3.heap.size, 0, none⟩) 4 4] 24) = Wt := ⟨_, rfl⟩
  have hA4 : Below W3.heap.size W3 Wt := by rw [← hWt]; exact ((Below.refl _ _).alloc (Nat.le_refl _) _).alloc (by simp) _
  have hBl : Blk Wt W3.heap.size 61 (ws3 W46).toArray := by rw [← hWt]; exact (Blk.new W3 _ _).alloc _
  have hKw : Blk Wt (W3.heap.size + 1) 24 #[.int .i64 4, .slice (some ⟨W3.heap.size, 0, none⟩) 4 4] := by rw [← hWt]; exact blk_new_at (by simp)
  have hW4 : TrisRd Wt (.slice (some ⟨W3.heap.size, 0, none⟩) 4 4) W46 := tris_blk hBl (by decide)
  have HT4 := Lib.hid (fun (W : World) (hW : Below Wt.heap.size Wt W) => (hT3.below hA4).below hW)
  have HF4 := Lib.hid (fun (W : World) (hW : Below Wt.heap.size Wt W) => (hF3.below hA4).below hW)
  have HR4 := Lib.hid (fun (W : World) (hW : Below Wt.heap.size Wt W) => (hR3.below hA4).below hW)
  have HW4 := Lib.hid (fun (W : World) (hW : Below Wt.heap.size Wt W) => hW4.below hW)
  have k1 := hK.below hA4 hK.lt
  have k2 := hKf.below hA4 hKf.lt
  have k3 := hKr.below hA4 hKr.lt
  have o5 := (hA4.cell (p := ⟨gO, 0, none⟩) lO4).trans o4
  have c5 := (hA4.cell (p := ⟨gC, 0, none⟩) lC4).trans c4
  have lO5 := Nat.lt_of_lt_of_le lO4 hA4.size
  have lC5 := Nat.lt_of_lt_of_le lC4 hA4.size
  have HCs := Lib.hid (fun (W : World) (hW : Below Wt.heap.size Wt W) => And.intro (k1.below hW k1.lt).two (And.intro (k2.below hW k2.lt).two (And.intro (k3.below hW k3.lt).two (And.intro (hKw.below hW hKw.lt).two (And.intro ((hW.cell (p := ⟨gO, 0, none⟩) lO5).trans o5) ((hW.cell (p := ⟨gC, 0, none⟩) lC5).trans c5))))))
  have HBw4 := Lib.hid (hBw.trans (hA4.mono hBw.size))
  obtain ⟨l5, x0, -, x1, -⟩ := hK.two
  clear k1 k2 k3 o5 c5 lO5 lC5 hKw hW4 hBl hA4 hBw hK hKf hKr hT3 hF3 hR3 o4 c4 lO4 lC4
  go_upto_region 6 with fail
  try rw [hWt]
  have hcur : Below Wt.heap.size Wt Wt := Below.refl _ _
  obtain ⟨⟨a0, a1, -, a2, -⟩, ⟨b0, b1, -, b2, -⟩, ⟨d0, d1, -, d2, -⟩, ⟨e0, e1, -, e2, -⟩, g0, h0⟩ := HCs.out _ hcur
  generalize W3.heap.size = qw at *
  clear x0 x1 l5 hWt
  go_wp2_with (first
    | (go_at_call 25; go_loud (refine (HSm.out _ _ _ (by first | exact HF4.out _ hcur | exact HR4.out _ hcur) (HW4.out _ hcur)).mono ?_); rintro e w9 ⟨rfl, hb9⟩; have hcur9 := hcur.trans (hb9.mono hcur.size); clear hb9 a0 a1 a2 b0 b1 b2 d0 d1 d2 e0 e1 e2 g0 h0 hcur; have hcur := hcur9; clear hcur9; obtain ⟨⟨a0, a1, -, a2, -⟩, ⟨b0, b1, -, b2, -⟩, ⟨d0, d1, -, d2, -⟩, ⟨e0, e1, -, e2, -⟩, g0, h0⟩ := HCs.out _ hcur)
    | (go_at_call 11; go_loud (refine (HEq.out _ _ _ (HT4.out _ hcur) (HW4.out _ hcur)).mono ?_); rintro e w9 ⟨rfl, hb9⟩; have hcur9 := hcur.trans (hb9.mono hcur.size); clear hb9 a0 a1 a2 b0 b1 b2 d0 d1 d2 e0 e1 e2 g0 h0 hcur; have hcur := hcur9; clear hcur9; obtain ⟨⟨a0, a1, -, a2, -⟩, ⟨b0, b1, -, b2, -⟩, ⟨d0, d1, -, d2, -⟩, ⟨e0, e1, -, e2, -⟩, g0, h0⟩ := HCs.out _ hcur)
    | (go_at_call 27; go_loud (refine (HLs.out _ _ (HT4.out _ hcur)).mono ?_); rintro e w9 ⟨rfl, hb9⟩; have hcur9 := hcur.trans (hb9.mono hcur.size)))
  go_ret
  exact ⟨by simp, HBw4.out.trans (hcur9.mono HBw4.out.size)⟩
end Go.Proofs.Ytpnkhgjjlionnaa
namespace Go.Proofs.Ytpnkhgjjlionnaa
open Go.RowKit Go.Maps

theorem pt_cells {W : World} {pb k : Nat} {l : List PtV} {p : PtV} (hb : Blk W pb 56 (l.flatMap PtV.enc).toArray) (hk : l[k]? = some p) : W.cell? ⟨pb, k * 4, none⟩ = some (.int .i64 p.n) ∧ W.cell? ⟨pb, k * 4 + 1, none⟩ = some p.vS ∧ W.cell? ⟨pb, k * 4 + 2, none⟩ = some p.vV ∧ W.cell? ⟨pb, k * 4 + 3, none⟩ = some p.vI := by
  have key : ∀ j, j < 4 → W.cell? ⟨pb, k * 4 + j, none⟩ = p.enc[j]? := fun j hj => by
    rw [hb.cell, ← flat_get1 PtV.enc_len hk hj]
    simp
  exact ⟨key 0 (by decide), key 1 (by decide), key 2 (by decide), key 3 (by decide)⟩
theorem rem_u8 {c : Int} {L : Nat} (h0 : 0 ≤ c) (hL : 0 < L) : ∃ d : Nat, c.tmod (3 * (L : Int)) = (d : Int) ∧ d < 3 * L := by
  have h1 : c.tmod (3 * (L : Int)) = c % (3 * (L : Int)) := Int.tmod_eq_emod_of_nonneg h0
  have h2 := Int.emod_nonneg c (show (3 * (L : Int)) ≠ 0 by omega)
  have h3 := Int.emod_lt_of_pos c (show (0 : Int) < 3 * (L : Int) by omega)
  exact ⟨(c % (3 * (L : Int))).toNat, by omega, by omega⟩
set_option maxRecDepth 100000 in
set_option maxHeartbeats 8000000 in
theorem canonTwice_walk (N : Int) (v : Value) (T : List Tr) (c : Int) (w : World) (h : TrisRd w v T) (hc0 : 0 ≤ c) (hc1 : c ≤ 255) :
    Calls Try.prog 7 #[.agg #[.int .i64 N, v], .int .u8 c] w fun en w' => en = .returned (.bool true) ∧ Below w.heap.size w w' := by
  have hb1 := Blk.new w 24 #[.int .i64 N, v]
  have hB0 : Below w.heap.size w (w.alloc (.cells #[.int .i64 N, v] 24)) := (Below.refl _ _).alloc (Nat.le_refl _) _
  have HR1 := Lib.hid (fun (W : World) (hW : Below w.heap.size w W) => h.below hW)
  obtain ⟨a1, c1, rfl, -⟩ := h
  obtain ⟨F, hF⟩ : ∃ F, T.length = F := ⟨_, rfl⟩
  have HF := Lib.hid hF
  rw [hF] at hB0 hb1 HR1 ⊢
  have HB0 := Lib.hid hB0
  have K0 := Lib.hid hb1
  clear hB0 hb1 hF
  go_enter Try.func7, Try.ntmps7
  go_wp2_with fail
  refine (awake46_any _).mono ?_
  rintro en w1 ⟨rfl, hb⟩
  have HB1 := Lib.hid (HB0.out.trans (hb.mono HB0.out.size))
  have K01 := Lib.hid (K0.out.below hb K0.out.lt)
  clear hb K0 HB0
  obtain ⟨l0, x0, -, x1, -⟩ := K01.out.two
  by_cases f1 : 24 < F
  · have d1 : (24 : Int) < (F : Int) := by omega
    go_wp2
    go_ret
    exact ⟨rfl, HB1.out⟩
  have d1 : ¬ (24 : Int) < (F : Int) := by omega
  have HLd := Lib.hid (laid10_any N _ T w1 (HR1.out _ HB1.out))
  go_wp2_with fail
  refine HLd.out.mono ?_
  rintro en w2 ⟨hres, hb⟩
  have HB2 := Lib.hid (HB1.out.trans (hb.mono HB1.out.size))
  have K02 := Lib.hid (K01.out.below hb K01.out.lt)
  clear hb K01 HB1 x0 x1 l0 HLd
  obtain ⟨l0, x0, -, x1, -⟩ := K02.out.two
  rcases hres with rfl | ⟨g0, rfl, -, hS, -, h60⟩
  · go_wp2
    go_ret
    exact ⟨rfl, HB2.out⟩
  obtain ⟨n, rfl⟩ : ∃ n : Nat, N = n := ⟨N.toNat, by have := hS.n0; omega⟩
  have HS := Lib.hid hS
  have HFm := Lib.hid (cform_two (n : Int) _ T w2 (HR1.out _ HB2.out) (by rw [HF.out]; omega) h60)
  clear hS
  go_upto_region 5 with fail
  go_wp2_with fail
  refine HFm.out.mono ?_
  rintro en w3 ⟨S, O, aT, cT, aO, cO, er, rfl, hT, hO, -, hc, hb⟩
  rcases hc with ⟨rfl, -, hI⟩ | ⟨-, hno, -, -⟩
  rotate_left 1
  · exact absurd HS.out hno
  obtain ⟨cs, hk⟩ := form_k HS.out hI
  obtain ⟨S1, M⟩ := S
  have hS1 : S1 = (n : Int) := by
    have := hk.eS
    rw [Prod.mk.injEq] at this
    rw [this.1]
    exact hk.num
  subst hS1
  have hMl : M.length = F := by have := hk.len; rw [HF.out] at this; exact this
  have hOl : O.length = n := by have := hk.num; omega
  simp only [hMl, hOl] at hT hO ⊢
  have hA3 := (Below.refl w3.heap.size w3).alloc (Nat.le_refl _) (.cells #[.int .i64 (n : Int), .slice aT F cT] 24)
  have HB3 := Lib.hid ((HB2.out.trans (hb.mono HB2.out.size)).trans (hA3.mono (Nat.le_trans HB2.out.size hb.size)))
  have K03 := Lib.hid ((K02.out.below hb K02.out.lt).below hA3 (K02.out.below hb K02.out.lt).lt)
  have KF3 := Lib.hid (Blk.new w3 24 #[.int .i64 (n : Int), .slice aT F cT])
  have HT3 := Lib.hid (hT.below hA3)
  have HK := Lib.hid hk
  have HM := Lib.hid hMl
  have HFi := Lib.hid hI
  clear hA3 hb K02 HB2 x0 x1 l0 hT hO hI hk hMl hOl HFm
  go_upto_region 6 with fail
  generalize w3.alloc (.cells #[.int .i64 (n : Int), .slice aT F cT] 24) = w4 at *
  generalize w3.heap.size = qf at *
  obtain ⟨l1, y0, -, y1, -⟩ := KF3.out.two
  have HFm2 := Lib.hid (show Calls Try.prog 24 #[.agg #[.int .i64 (n : Int), .slice aT F cT]] w4 _ from cform_two (n : Int) _ M w4 HT3.out (by rw [HM.out]; omega) h60)
  go_wp2_with fail
  refine HFm2.out.mono ?_
  rintro en w5 ⟨S', O', aT', cT', aO', cO', er, rfl, hT, hO, -, hc, hb⟩
  rcases hc with ⟨rfl, -, hI⟩ | ⟨-, hno, -, -⟩
  rotate_left 1
  · exact absurd HK.out.surf hno
  obtain ⟨e1, e2, e3⟩ := form_twice HS.out HFi.out hI
  subst e1
  rw [Int.toNat_natCast] at e2
  have hOl : O'.length = n := by rw [e3]; have := HK.out.num; omega
  simp only [HM.out, hOl] at hT hO ⊢
  have hA5 := (Below.refl w5.heap.size w5).alloc (Nat.le_refl _) (.cells #[.int .i64 (n : Int), .slice aT' F cT'] 24)
  have HB5 := Lib.hid ((HB3.out.trans (hb.mono HB3.out.size)).trans (hA5.mono (Nat.le_trans HB3.out.size hb.size)))
  have K05 := Lib.hid ((K03.out.below hb K03.out.lt).below hA5 (K03.out.below hb K03.out.lt).lt)
  have KF5 := Lib.hid ((KF3.out.below hb KF3.out.lt).below hA5 (KF3.out.below hb KF3.out.lt).lt)
  have KG5 := Lib.hid (Blk.new w5 24 #[.int .i64 (n : Int), .slice aT' F cT'])
  have HT5 := Lib.hid ((HT3.out.below hb).below hA5)
  have HTG := Lib.hid (hT.below hA5)
  have HO5 := Lib.hid (hO.below hA5)
  have HOl := Lib.hid (And.intro e2 hOl)
  clear hA5 hb K03 HB3 y0 y1 l1 hT hO hI e2 e3 hOl HFm2 KF3 HT3
  go_upto_region 7 with fail
  generalize w5.alloc (.cells #[.int .i64 (n : Int), .slice aT' F cT'] 24) = w6 at *
  generalize w5.heap.size = qg at *
  obtain ⟨l0, x0, -, x1, -⟩ := K05.out.two
  obtain ⟨l1, y0, -, y1, -⟩ := KF5.out.two
  obtain ⟨l2, z0, -, z1, -⟩ := KG5.out.two
  have HSm := Lib.hid (show Calls Try.prog 25 #[.agg #[.int .i64 (n : Int), .slice aT F cT], .agg #[.int .i64 (n : Int), .slice aT' F cT']] w6 (fun e w' => e = .returned (.bool true) ∧ Below w6.heap.size w6 w') from by
    have := same_any (n : Int) (n : Int) _ _ M M w6 HT5.out HTG.out (by rw [HM.out]; omega) (by rw [HM.out]; omega)
    rw [decide_eq_true (show (n : Int) = n ∧ M = M from ⟨rfl, rfl⟩)] at this
    exact this)
  go_upto_region 9 with (go_at_call 25; go_loud (refine HSm.out.mono ?_; rintro en w7 ⟨rfl, hb⟩; obtain ⟨m0, x0', -, x1', -⟩ := (K05.out.below hb K05.out.lt).two))
  have HB7 := Lib.hid (HB5.out.trans (hb.mono HB5.out.size))
  have KF7 := Lib.hid (KF5.out.below hb KF5.out.lt)
  have HT7 := Lib.hid (HT5.out.below hb)
  have HO7 := Lib.hid (HO5.out.below hb)
  clear hb x0 x1 l0 y0 y1 l1 z0 z1 l2 x0' x1' m0 HSm K05 KF5 KG5 HT5 HTG HO5 HB5
  go_wp2
  go_loopw [74] (fun i wr => ∃ k : Nat, k ≤ n ∧ i = .int .i64 k ∧ wr = w7) (fun i _ => n - (intOf i).toNat)
  case atStart => exact ⟨0, Nat.zero_le _, rfl, rfl⟩
  case round =>
    obtain ⟨k, hk, rfl, hw⟩ := hrel
    subst hw
    by_cases hkn : k < n
    · have hki : (k : Int) < (n : Int) := by omega
      have hx : O'[k]? = some (k : Int) := by
        rw [HOl.out.1]
        simp [idL, List.getElem?_range hkn]
      obtain ⟨a, c', e, -, hr⟩ := HO7.out
      rw [HOl.out.2] at e
      cases e
      obtain ⟨b, o, rfl, hbl, hcell⟩ := hr k _ hx
      clear hr hx
      go_wp2
      go_roundw
      case measure => simp [intOf]; omega
      case rel => exact ⟨k + 1, by omega, by go_num, by first | rfl | trivial⟩
    · obtain rfl : n = k := by omega
      obtain ⟨l1, y0, -, y1, -⟩ := KF7.out.two
      have HNw := Lib.hid (show Calls Try.prog 22 #[.agg #[.int .i64 (n : Int), .slice aT F cT]] wr _ from new_any (n : Int) _ M wr HT7.out (by rw [HM.out]; omega))
      go_wp2_with fail
      refine HNw.out.mono ?_
      rintro en w8 ⟨hres, hb⟩
      rcases hres with ⟨-, g, rfl, hTab, -⟩ | ⟨hno, -⟩
      rotate_left 1
      · exact absurd HK.out.surf hno
      unfold witV
      have hA8 := (Below.refl w8.heap.size w8).alloc (Nat.le_refl _) (.cells #[.int .i64 0, .int .i64 0, .int .i64 0] 44)
      have HB9 := Lib.hid ((HB7.out.trans (hb.mono HB7.out.size)).trans (hA8.mono (Nat.le_trans HB7.out.size hb.size)))
      have HTab := Lib.hid (hTab.below hA8)
      clear hTab hA8 hb y0 y1 l1 HNw
      go_upto_region 16 with fail
      generalize w8.alloc (.cells #[.int .i64 0, .int .i64 0, .int .i64 0] 44) = w9 at *
      have HSp := Lib.hid (split_any g (n : Int) M w9 HTab.out HK.out.surf.twice)
      go_wp2_with fail
      refine HSp.out.mono ?_
      rintro en wS ⟨out, m, hsh, hm, hcase, hbS⟩
      have HBS := Lib.hid (HB9.out.trans (hbS.mono HB9.out.size))
      rcases hcase with ⟨rfl, rfl⟩ | ⟨hm0, pb, l, rfl, -, hpb, hll, hdone⟩
      · clear hm hbS HSp HB9 hsh
        go_wp2
        go_loopw [94] (fun i wr => i = .int .i64 0 ∧ wr = wS) (fun i _ => 0)
        case atStart => exact ⟨rfl, rfl⟩
        case round =>
          obtain ⟨rfl, rfl⟩ := hrel
          go_wp2
          go_ret
          exact ⟨rfl, HBS.out⟩
      · have hok := HK.out.ok HS.out (by rw [HF.out]; omega) hsh hm (l := l.map fun p => (p.n, p.S)) (by rw [List.length_map]; exact hll) (fun i x hx => by
          rw [List.getElem?_map] at hx
          obtain ⟨p, hp, rfl⟩ := Option.map_eq_some_iff.1 hx
          have := hdone i p hp
          rw [this.en, this.eV, this.eS])
        have HOk := Lib.hid hok
        have HD := Lib.hid hdone
        have Hpb := Lib.hid hpb
        have Hll := Lib.hid hll
        have hm9 : m ≤ 24 := by
          have := (hsh.hasP hm).le HK.out.surf hsh
          omega
        clear hok hdone hpb hll hm hsh hbS HSp HB9
        go_wp2
        go_loopw [94] (fun i wr => ∃ k : Nat, k ≤ m ∧ i = .int .i64 k ∧ Below wS.heap.size wS wr) (fun i _ => m - (intOf i).toNat)
        case atStart => exact ⟨0, Nat.zero_le _, rfl, Below.refl _ _⟩
        case round =>
          rename World => wr
          obtain ⟨k, hk, rfl, hbr⟩ := hrel
          by_cases hkm : k < m
          · obtain ⟨p, hp⟩ : ∃ p, l[k]? = some p := ⟨l[k]'(by rw [Hll.out]; exact hkm), List.getElem?_eq_getElem (by rw [Hll.out]; exact hkm)⟩
            have hki : (k : Int) < (m : Int) := by omega
            have hd := HD.out k p hp
            have hps : (p.n, p.S) ∈ l.map fun p => (p.n, p.S) := List.mem_map.2 ⟨p, List.mem_of_getElem? hp, rfl⟩
            have hps2 := HOk.out.pos _ hps
            obtain ⟨nV, hnV⟩ : ∃ nV, p.V.length = nV := ⟨_, rfl⟩
            obtain ⟨L, hL⟩ : ∃ L, p.S.length = L := ⟨_, rfl⟩
            have hn := hd.en
            rw [hnV] at hn
            obtain ⟨aS, cS, eS⟩ := ownsRow_slice hd.rS
            obtain ⟨aV, cV, eV⟩ := ownsRow_slice hd.rV
            obtain ⟨aI, cI, eI⟩ := ownsRow_slice hd.rI
            have hRd := TrisRd.of_row (own_below hd.rS hbr)
            obtain ⟨q0, q1, q2, q3⟩ := pt_cells (Hpb.out.below hbr Hpb.out.lt) hp
            rw [hn] at q0
            rw [eS, hL] at q1
            rw [eV, hnV] at q2
            rw [eI] at q3
            rw [eS, hL] at hRd
            have hLp : 0 < L ∧ L ≤ 1000 := by have := hps2; simp only [hL] at this; exact this
            have HRd := Lib.hid hRd
            have HP := Lib.hid hp
            have HPs := Lib.hid hps
            have HE := Lib.hid (And.intro hn (And.intro eS hL))
            have Hbr := Lib.hid hbr
            have hA := (Below.refl wr.heap.size wr).alloc (Nat.le_refl _) (.cells #[.int .i64 (nV : Int), .slice aS L cS, .slice aV nV cV, .slice aI p.I.length cI] 56)
            have hbb := hbr.trans (hA.mono hbr.size)
            have KP := Lib.hid (Blk.new wr 56 #[.int .i64 (nV : Int), .slice aS L cS, .slice aV nV cV, .slice aI p.I.length cI])
            have HRb := Lib.hid (hRd.below hA)
            have Hbb := Lib.hid hbb
            obtain ⟨nI, hnI⟩ : ∃ nI, p.I.length = nI := ⟨_, rfl⟩
            rw [hnI] at q3 KP HRb Hbb
            clear hd hps hps2 hnV hn eS eV eI hL hRd hp hbr hA hbb
            go_upto_region 22 with fail
            rw [hnI] at *
            clear q0 q1 q2 q3 hnI
            generalize wr.alloc (.cells #[.int .i64 (nV : Int), .slice aS L cS, .slice aV nV cV, .slice aI nI cI] 56) = wb at *
            generalize wr.heap.size = qb at *
            obtain ⟨lb, b0, b1, b2, b3⟩ := fourF KP.out
            go_cut [111] (fun v W => v = .bool false ∧ Below wb.heap.size wb W)
            case first =>
              by_cases hk0 : k = 0
              · subst hk0
                refine wp_region_U 12 (fun w' => w'.cell? ⟨qb, 0, none⟩ = some (.int .i64 (nV : Int)) ∧ w'.cell? ⟨qb, 1, none⟩ = some (.slice aS L cS)) (by kernel_rfl) ⟨b0, b1⟩ ?_
                change AtU _ _ _ _ _ _ 13 (Array.replicate 13 false) _ _
                refine AtU.take (i := 0) (v := ?_) rfl (by kernel_rfl) (by kernel_rfl) (fun _ _ _ h => h) (by rfl) ?_ ?_
                rotate_left 1
                · intro w9 hSw; (try dsimp only at hSw); go_simp; try with_reducible rfl
                try simp only [Act.put, List.setIfInBounds_toArray, List.set_cons_zero, List.set_cons_succ]
                refine AtU.take (i := 1) (v := ?_) rfl (by kernel_rfl) (by kernel_rfl) (fun _ _ _ h => h) (by rfl) ?_ ?_
                rotate_left 1
                · intro w9 hSw; (try dsimp only at hSw); go_simp; try with_reducible rfl
                try simp only [Act.put, List.setIfInBounds_toArray, List.set_cons_zero, List.set_cons_succ]
                refine AtU.take (i := 2) (v := ?_) rfl (by kernel_rfl) (by kernel_rfl) (fun _ _ _ h => h) (by rfl) ?_ ?_
                rotate_left 1
                · intro w9 hSw; (try dsimp only at hSw); go_simp; try with_reducible rfl
                try simp only [Act.put, List.setIfInBounds_toArray, List.set_cons_zero, List.set_cons_succ]
                refine AtU.skip (i := 3) rfl (by kernel_rfl) (by kernel_rfl) (fun _ _ _ h => h) (by rfl) ?_
                try simp only [Act.put, List.setIfInBounds_toArray, List.set_cons_zero, List.set_cons_succ]
                refine AtU.skip (i := 4) rfl (by kernel_rfl) (by kernel_rfl) (fun _ _ _ h => h) (by rfl) ?_
                try simp only [Act.put, List.setIfInBounds_toArray, List.set_cons_zero, List.set_cons_succ]
                refine AtU.skip (i := 5) rfl (by kernel_rfl) (by kernel_rfl) (fun _ _ _ h => h) (by rfl) ?_
                try simp only [Act.put, List.setIfInBounds_toArray, List.set_cons_zero, List.set_cons_succ]
                refine AtU.skip (i := 6) rfl (by kernel_rfl) (by kernel_rfl) (fun _ _ _ h => h) (by rfl) ?_
                try simp only [Act.put, List.setIfInBounds_toArray, List.set_cons_zero, List.set_cons_succ]
                refine AtU.skip (i := 7) rfl (by kernel_rfl) (by kernel_rfl) (fun _ _ _ h => h) (by rfl) ?_
                try simp only [Act.put, List.setIfInBounds_toArray, List.set_cons_zero, List.set_cons_succ]
                refine AtU.skip (i := 8) rfl (by kernel_rfl) (by kernel_rfl) (fun _ _ _ h => h) (by rfl) ?_
                try simp only [Act.put, List.setIfInBounds_toArray, List.set_cons_zero, List.set_cons_succ]
                refine AtU.skip (i := 9) rfl (by kernel_rfl) (by kernel_rfl) (fun _ _ _ h => h) (by rfl) ?_
                try simp only [Act.put, List.setIfInBounds_toArray, List.set_cons_zero, List.set_cons_succ]
                refine AtU.skip (i := 10) rfl (by kernel_rfl) (by kernel_rfl) (fun _ _ _ h => h) (by rfl) ?_
                try simp only [Act.put, List.setIfInBounds_toArray, List.set_cons_zero, List.set_cons_succ]
                refine AtU.skip (i := 11) rfl (by kernel_rfl) (by kernel_rfl) (fun _ _ _ h => h) (by rfl) ?_
                try simp only [Act.put, List.setIfInBounds_toArray, List.set_cons_zero, List.set_cons_succ]
                refine AtU.last (i := 12) rfl (by kernel_rfl) (fun K hK => ?_)
                go_simp
                refine hK.out _ _ ?_
                clear hK K
                go_wp2_with fail
                go_meet
                exact ⟨rfl, below_d (Below.refl _ _)⟩
              · obtain ⟨k1, hk1⟩ : ∃ k1, k = k1 + 1 := ⟨k - 1, by omega⟩
                subst hk1
                have hwr := IntWalk.i64_in (k1 : Int) (by omega)
                have hk1m : (k1 : Int) < (m : Int) := by omega
                obtain ⟨p', hp'⟩ : ∃ p', l[k1]? = some p' := ⟨l[k1]'(by rw [Hll.out]; omega), List.getElem?_eq_getElem (by rw [Hll.out]; omega)⟩
                have hd := HD.out k1 p' hp'
                have hnx := HOk.out.next k1 (p'.n, p'.S) (p.n, p.S) (by rw [List.getElem?_map, hp']; rfl) (by rw [List.getElem?_map, HP.out]; rfl)
                simp only at hnx
                obtain ⟨nV', hnV'⟩ : ∃ nV', p'.V.length = nV' := ⟨_, rfl⟩
                obtain ⟨L', hL'⟩ : ∃ L', p'.S.length = L' := ⟨_, rfl⟩
                have hn' := hd.en
                rw [hnV'] at hn'
                obtain ⟨aS', cS', eS'⟩ := ownsRow_slice hd.rS
                have hRd' := TrisRd.of_row (own_below hd.rS Hbb.out)
                obtain ⟨q0, q1, -, -⟩ := pt_cells (Hpb.out.below Hbb.out Hpb.out.lt) hp'
                rw [hn'] at q0
                rw [eS', hL'] at q1
                rw [eS', hL'] at hRd'
                have hps' : p'.S.length ≤ 1000 := (HOk.out.pos (p'.n, p'.S) (List.mem_map.2 ⟨p', List.mem_of_getElem? hp', rfl⟩)).2
                have HLs := Lib.hid (show Calls Try.prog 27 #[.agg #[.int .i64 (nV : Int), .slice aS L cS], .agg #[.int .i64 (nV' : Int), .slice aS' L' cS']] wb.drew (fun e w' => e = .returned (.bool false) ∧ Below wb.drew.heap.size wb.drew w') from by
                  have := less_any (nV : Int) (nV' : Int) _ _ p.S p'.S wb.drew HRb.out.drew hRd'.drew (by rw [HE.out.2.2]; omega) (by omega)
                  rw [← HE.out.1, ← hn', decide_eq_false hnx] at this
                  rw [HE.out.1, hn'] at this
                  exact this)
                have lpb := (Hpb.out.below Hbb.out Hpb.out.lt).lt
                clear hnx hn' hd hRd' hp' hps' hnV' hL' eS'
                refine wp_region_U 12 (fun w' => w'.cell? ⟨qb, 0, none⟩ = some (.int .i64 (nV : Int)) ∧ w'.cell? ⟨qb, 1, none⟩ = some (.slice aS L cS) ∧ w'.cell? ⟨pb, k1 * 4, none⟩ = some (.int .i64 (nV' : Int)) ∧ w'.cell? ⟨pb, k1 * 4 + 1, none⟩ = some (.slice aS' L' cS')) (by kernel_rfl) ⟨b0, b1, q0, q1⟩ ?_
                change AtU _ _ _ _ _ _ 13 (Array.replicate 13 false) _ _
                refine AtU.take (i := 0) (v := ?_) rfl (by kernel_rfl) (by kernel_rfl) (fun _ _ _ h => h) (by rfl) ?_ ?_
                rotate_left 1
                · intro w9 hSw; (try dsimp only at hSw); go_simp; try with_reducible rfl
                try simp only [Act.put, List.setIfInBounds_toArray, List.set_cons_zero, List.set_cons_succ]
                refine AtU.take (i := 1) (v := ?_) rfl (by kernel_rfl) (by kernel_rfl) (fun _ _ _ h => h) (by rfl) ?_ ?_
                rotate_left 1
                · intro w9 hSw; (try dsimp only at hSw); go_simp; try with_reducible rfl
                try simp only [Act.put, List.setIfInBounds_toArray, List.set_cons_zero, List.set_cons_succ]
                refine AtU.take (i := 2) (v := ?_) rfl (by kernel_rfl) (by kernel_rfl) (fun _ _ _ h => h) (by rfl) ?_ ?_
                rotate_left 1
                · intro w9 hSw; (try dsimp only at hSw); go_simp; try with_reducible rfl
                try simp only [Act.put, List.setIfInBounds_toArray, List.set_cons_zero, List.set_cons_succ]
                refine AtU.take (i := 3) (v := ?_) rfl (by kernel_rfl) (by kernel_rfl) (fun _ _ _ h => h) (by rfl) ?_ ?_
                rotate_left 1
                · intro w9 hSw; (try dsimp only at hSw); go_simp; try with_reducible rfl
                try simp only [Act.put, List.setIfInBounds_toArray, List.set_cons_zero, List.set_cons_succ]
                refine AtU.take (i := 4) (v := ?_) rfl (by kernel_rfl) (by kernel_rfl) (fun _ _ _ h => h) (by rfl) ?_ ?_
                rotate_left 1
                · intro w9 hSw; (try dsimp only at hSw); go_simp; try with_reducible rfl
                try simp only [Act.put, List.setIfInBounds_toArray, List.set_cons_zero, List.set_cons_succ]
                refine AtU.take (i := 5) (v := ?_) rfl (by kernel_rfl) (by kernel_rfl) (fun _ _ _ h => h) (by rfl) ?_ ?_
                rotate_left 1
                · intro w9 hSw; (try dsimp only at hSw); go_simp; try with_reducible rfl
                try simp only [Act.put, List.setIfInBounds_toArray, List.set_cons_zero, List.set_cons_succ]
                refine AtU.take (i := 6) (v := ?_) rfl (by kernel_rfl) (by kernel_rfl) (fun _ _ _ h => h) (by rfl) ?_ ?_
                rotate_left 1
                · intro w9 hSw; (try dsimp only at hSw); go_simp; try with_reducible rfl
                try simp only [Act.put, List.setIfInBounds_toArray, List.set_cons_zero, List.set_cons_succ]
                refine AtU.take (i := 7) (v := ?_) rfl (by kernel_rfl) (by kernel_rfl) (fun _ _ _ h => h) (by rfl) ?_ ?_
                rotate_left 1
                · intro w9 hSw; (try dsimp only at hSw); go_simp; try with_reducible rfl
                try simp only [Act.put, List.setIfInBounds_toArray, List.set_cons_zero, List.set_cons_succ]
                refine AtU.take (i := 8) (v := ?_) rfl (by kernel_rfl) (by kernel_rfl) (fun _ _ _ h => h) (by rfl) ?_ ?_
                rotate_left 1
                · intro w9 hSw; (try dsimp only at hSw); go_simp; try with_reducible rfl
                try simp only [Act.put, List.setIfInBounds_toArray, List.set_cons_zero, List.set_cons_succ]
                refine AtU.take (i := 9) (v := ?_) rfl (by kernel_rfl) (by kernel_rfl) (fun _ _ _ h => h) (by rfl) ?_ ?_
                rotate_left 1
                · intro w9 hSw; (try dsimp only at hSw); go_simp; try with_reducible rfl
                try simp only [Act.put, List.setIfInBounds_toArray, List.set_cons_zero, List.set_cons_succ]
                refine AtU.take (i := 10) (v := ?_) rfl (by kernel_rfl) (by kernel_rfl) (fun _ _ _ h => h) (by rfl) ?_ ?_
                rotate_left 1
                · intro w9 hSw; (try dsimp only at hSw); go_simp; try with_reducible rfl
                try simp only [Act.put, List.setIfInBounds_toArray, List.set_cons_zero, List.set_cons_succ]
                refine AtU.step (i := 11) rfl (by kernel_rfl) (fun K hK => ?_)
                rw [if_pos (by rfl)]
                go_wp2_with (go_at_call 27; refine HLs.out.mono ?_; rintro e9 w10 ⟨rfl, hw10⟩)
                have b0_ := (hw10.cell (p := ⟨qb, 0, none⟩) lb).trans b0
                have b1_ := (hw10.cell (p := ⟨qb, 1, none⟩) lb).trans b1
                have q0_ := (hw10.cell (p := ⟨pb, k1 * 4, none⟩) lpb).trans q0
                have q1_ := (hw10.cell (p := ⟨pb, k1 * 4 + 1, none⟩) lpb).trans q1
                refine hK.out _ _ ⟨b0_, b1_, q0_, q1_⟩ ?_
                clear hK K
                try simp only [Act.put, List.setIfInBounds_toArray, List.set_cons_zero, List.set_cons_succ]
                refine AtU.last (i := 12) rfl (by kernel_rfl) (fun K hK => ?_)
                go_simp
                refine hK.out _ _ ?_
                clear hK K
                go_wp2_with fail
                go_meet
                exact ⟨rfl, (below_d (Below.refl wb.heap.size wb)).trans hw10⟩
            case rest =>
              obtain ⟨rfl, hbC⟩ := hcut
              rename World => wc
              have KC := Lib.hid (KP.out.below hbC KP.out.lt)
              have HRc := Lib.hid (HRb.out.below hbC)
              have Hbc := Lib.hid (Hbb.out.trans (hbC.mono Hbb.out.size))
              have HSf := Lib.hid (HOk.out.surf _ HPs.out)
              have HTn := Lib.hid (HOk.out.turn _ HPs.out)
              clear b0 b1 b2 b3 lb hbC KP HRb Hbb
              obtain ⟨lb, b0, b1, b2, b3⟩ := fourF KC.out
              have HNw := Lib.hid (show Calls Try.prog 22 #[.agg #[.int .i64 (nV : Int), .slice aS L cS]] wc _ from new_any (nV : Int) _ p.S wc HRc.out (by rw [HE.out.2.2]; omega))
              go_wp2_with fail
              refine HNw.out.mono ?_
              rintro en wd ⟨hres, hb⟩
              rcases hres with ⟨-, g', rfl, hTab, -⟩ | ⟨hno, -⟩
              rotate_left 1
              · exact absurd (by have := HSf.out; rw [HE.out.1] at this; exact this) hno
              unfold witV
              have hA := (Below.refl wd.heap.size wd).alloc (Nat.le_refl _) (.cells #[.int .i64 0, .int .i64 0, .int .i64 0] 44)
              have KD := Lib.hid ((KC.out.below hb KC.out.lt).below hA (KC.out.below hb KC.out.lt).lt)
              have HRd2 := Lib.hid ((HRc.out.below hb).below hA)
              have Hbd := Lib.hid (((Hbc.out.trans (hb.mono Hbc.out.size))).trans (hA.mono (Nat.le_trans Hbc.out.size hb.size)))
              have HTb := Lib.hid (hTab.below hA)
              clear hb hA hTab b0 b1 b2 b3 lb KC HRc Hbc HNw
              go_upto_region 25 with fail
              generalize wd.alloc (.cells #[.int .i64 0, .int .i64 0, .int .i64 0] 44) = we at *
              obtain ⟨lb, b0, b1, b2, b3⟩ := fourF KD.out
              obtain ⟨d, hd1, hd2⟩ := rem_u8 hc0 hLp.1
              have hdE : c % (3 * max (L : Int) 1) = (d : Int) := by rw [show max (L : Int) 1 = L from by omega, ← hd1, Int.tmod_eq_emod_of_nonneg hc0]
              have HRt := Lib.hid (rooted_any g' (nV : Int) p.S we d HTb.out (by rw [HE.out.2.2]; exact hd2))
              go_wp2_with fail
              rw [hdE]
              refine HRt.out.mono ?_
              rintro en wf ⟨vT9, vO9, vC9, rfl, hrT, hrO, hrC, hb⟩
              obtain ⟨aT9, cT9, rfl⟩ := ownsRow_slice hrT
              obtain ⟨aO9, cO9, rfl⟩ := ownsRow_slice hrO
              obtain ⟨aC9, cC9, rfl⟩ := ownsRow_slice hrC
              have hlr := rtN_lens (T := p.S) (c := d) (by rw [HE.out.2.2]; exact hd2)
              obtain ⟨n9, hn9⟩ : ∃ n9, (rtN p.S d).1.length = n9 := ⟨_, rfl⟩
              obtain ⟨L9, hL9⟩ : ∃ L9, (rtN p.S d).2.length = L9 := ⟨_, rfl⟩
              obtain ⟨l9, hl9⟩ : ∃ l9, (rtL p.S d).length = l9 := ⟨_, rfl⟩
              have hRt9 := TrisRd.of_row hrT
              rw [hL9] at hRt9
              rw [hn9, hL9, hl9]
              have hA := (Below.refl wf.heap.size wf).alloc (Nat.le_refl _) (.cells #[.int .i64 (n9 : Int), .slice aT9 L9 cT9] 24)
              have KF := Lib.hid ((KD.out.below hb KD.out.lt).below hA (KD.out.below hb KD.out.lt).lt)
              have KR := Lib.hid (Blk.new wf 24 #[.int .i64 (n9 : Int), .slice aT9 L9 cT9])
              have HRf := Lib.hid ((HRd2.out.below hb).below hA)
              have HRr := Lib.hid (hRt9.below hA)
              have Hbf := Lib.hid (((Hbd.out.trans (hb.mono Hbd.out.size))).trans (hA.mono (Nat.le_trans Hbd.out.size hb.size)))
              have hL9' : L9 ≤ 100000 := by rw [← hL9]; have := HE.out.2.2; omega
              have HN9 := Lib.hid (And.intro hn9 hL9)
              clear hb hA b0 b1 b2 b3 lb KD HRd2 Hbd HRt hrT hrO hrC hRt9 hn9 hL9 hl9 hlr
              go_upto_region 26 with fail
              generalize wf.alloc (.cells #[.int .i64 (n9 : Int), .slice aT9 L9 cT9] 24) = wg at *
              obtain ⟨lb, b0, b1, b2, b3⟩ := fourF KF.out
              obtain ⟨lr, r0, -, r1, -⟩ := KR.out.two
              have HL2 := Lib.hid (show Calls Try.prog 27 #[.agg #[.int .i64 (n9 : Int), .slice aT9 L9 cT9], .agg #[.int .i64 (nV : Int), .slice aS L cS]] wg (fun e w' => e = .returned (.bool false) ∧ Below wg.heap.size wg w') from by
                have := less_any (n9 : Int) (nV : Int) _ _ (rtN p.S d).2 p.S wg HRr.out HRf.out (by rw [HN9.out.2]; exact hL9') (by rw [HE.out.2.2]; omega)
                have ht := HTn.out d (by show d < 3 * p.S.length; rw [HE.out.2.2]; exact hd2)
                rw [HE.out.1, HN9.out.1] at ht
                rw [decide_eq_false (show ¬ ordM (n9 : Int) (rtN p.S d).2 (nV : Int) p.S < 0 from by omega)] at this
                exact this)
              go_wp2_with fail
              refine HL2.out.mono ?_
              rintro en wh ⟨rfl, hb⟩
              have Hbh := Lib.hid (Hbf.out.trans (hb.mono Hbf.out.size))
              clear hb b0 b1 b2 b3 lb r0 r1 lr KF KR HRf HRr Hbf HL2
              go_wp2
              go_roundw
              case measure => simp [intOf]; omega
              case rel => exact ⟨k + 1, by omega, by go_num, Hbh.out⟩
          · obtain rfl : m = k := by omega
            have HBr := Lib.hid (HBS.out.trans (hbr.mono HBS.out.size))
            clear hbr
            go_wp2
            go_ret
            exact ⟨rfl, HBr.out⟩
end Go.Proofs.Ytpnkhgjjlionnaa
namespace Go.Proofs.Ytpnkhgjjlionnaa
open Go.RowKit

theorem three_cells {P : Program} {H : Type} {enc : TypeId × Value → H} {w : World} {base : Nat} {spare : Nat → Bool} {held : Bool} {t u : TypeId} {m : Nat} {cs : List Value} {x : DataW H × List MemPlace}
    (ht : P.underlying t = some (.array 3 u)) (hu : P.underlying u = some (.int .i64)) (hc : P.cellsOf u = 1) (hl : cs.length = 3) (h : DataW.trod enc P w base spare held m t cs = some x) :
    ∃ a b c : Int, cs = [.int .i64 a, .int .i64 b, .int .i64 c] := by
  obtain ⟨xs, n, -, -, -, hx, hel⟩ := DataW.trod_array ht h
  rw [hc] at hel
  match cs, hl with
  | [v0, v1, v2], _ =>
    have key : ∀ i v, i < 3 → ([v0, v1, v2].drop (i * 1)).take 1 = [v] → ∃ z : Int, v = .int .i64 z := by
      intro i v hi hv
      have e := hel i hi
      rw [hv] at e
      obtain ⟨y, hy⟩ : ∃ y, xs[i]? = some y := ⟨xs[i]'(by omega), List.getElem?_eq_getElem _⟩
      rw [hy] at e
      obtain ⟨z, hz, -, -⟩ := DataW.trod_int hu e
      exact ⟨z, by simpa using hz⟩
    obtain ⟨a, rfl⟩ := key 0 v0 (by omega) rfl
    obtain ⟨b, rfl⟩ := key 1 v1 (by omega) rfl
    obtain ⟨c, rfl⟩ := key 2 v2 (by omega) rfl
    exact ⟨a, b, c, rfl⟩
theorem tris_open {H : Type} {enc : TypeId × Value → H} {w : World} {base : Nat} {spare : Nat → Bool} {held : Bool} {m : Nat} {v : Value} {x : DataW H × List MemPlace}
    (h : DataW.trod enc Try.prog w base spare held m 22 [v] = some x) : ∃ T, TrisRd w v T := by
  rcases Go.Deep.open_slice Try.underlying22 h with ⟨e1, -⟩ | ⟨a, len, cap, q, n, D, Pl, e1, hb, hl, hm, hq, -, hall⟩
  · have e : v = .slice none 0 0 := by simpa using e1
    subst e
    exact ⟨[], none, 0, rfl, by simp, by decide, fun k x y z hk => by simp at hk⟩
  · have e : v = .slice (some a) len cap := by simpa using e1
    subst e
    have h3 : Try.prog.cellsOf 61 = 3 := by kernel_rfl
    have hlq : len ≤ q := by rw [hq]; split <;> omega
    have key : ∀ i, ∃ t : Tr, i < len → w.cell? (a.add (i * 3)) = some (.int .i64 t.1) ∧ w.cell? ((a.add (i * 3)).add 1) = some (.int .i64 t.2.1) ∧ w.cell? ((a.add (i * 3)).add 2) = some (.int .i64 t.2.2) := by
      intro i
      by_cases hi : i < len
      · obtain ⟨cs, hcs, htr⟩ := hall i (by omega)
        rw [h3] at hcs
        obtain ⟨-, hcl, hce⟩ := World.cells?_some hcs
        obtain ⟨x, y, z, rfl⟩ := three_cells Try.underlying61 Try.underlying3 (by kernel_rfl) hcl htr
        refine ⟨(x, y, z), fun _ => ⟨?_, hce 1 (by omega), hce 2 (by omega)⟩⟩
        have := hce 0 (by omega)
        have e0 : (a.add (i * 3)).add 0 = a.add (i * 3) := by simp [Addr.add]
        rw [e0] at this
        exact this
      · exact ⟨(0, 0, 0), fun h => absurd h hi⟩
    obtain ⟨f, hf⟩ := Classical.axiomOfChoice key
    refine ⟨(List.range len).map f, some a, cap, by simp, by simpa using hl, by unfold maxLen at hm; omega, fun k x y z hk => ?_⟩
    have hk' : k < len := by
      have := (List.getElem?_eq_some_iff.1 hk).1
      simpa using this
    rw [List.getElem?_map, List.getElem?_range hk'] at hk
    have hfk : f k = (x, y, z) := by simpa using hk
    obtain ⟨c0, c1, c2⟩ := hf k hk'
    rw [hfk] at c0 c1 c2
    obtain ⟨b, off, spot⟩ := a
    have hspot : spot = none := by simpa [Addr.add] using World.cell?_spot (hf 0 (by omega)).1
    subst hspot
    rw [Addr.add_lit] at c0
    rw [Addr.add_lit, Addr.add_lit] at c1 c2
    refine ⟨b, off, rfl, ?_, c0, c1, c2⟩
    rcases Nat.lt_or_ge b w.heap.size with hlt | hge
    · exact hlt
    · exfalso
      unfold World.cell? at c0
      simp [Array.getElem?_eq_none hge] at c0
set_option maxRecDepth 100000 in
theorem soup_open {H : Type} {enc : TypeId × Value → H} {w : World} {base : Nat} {spare : Nat → Bool} {held : Bool} {r : Go.Reach} {b0 : Nat} {v : Value} {d : DataW H} {p : List MemPlace}
    (hv : Value.okWide Try.prog w r b0 24 v) (h : DataW.Trod enc Try.prog w base spare held 24 v d p) :
    ∃ (N : Int) (vT : Value) (T : List Tr), v = .agg #[.int .i64 N, vT] ∧ TrisRd w vT T ∧ (Lit.int .i64 N).wf = true := by
  obtain ⟨v0, v1, y0, y1, n, rfl, -, -, h0, h1⟩ := Go.Joins.open_agg2 Try.underlying24 (by kernel_rfl) (by kernel_rfl) hv h
  obtain ⟨N, e0, -, hw⟩ := DataW.trod_int Try.underlying3 h0
  obtain ⟨T, hT⟩ := tris_open h1
  exact ⟨N, v1, T, by simpa using e0, hT, hw⟩
end Go.Proofs.Ytpnkhgjjlionnaa
