/-
  (*zipper).add, by walking its text.
-/
import Derived.Test.YtgjcigokjfhfkaaZipM
import Derived.Test.YtgjcigokjfhfkaaLen
import Derived.Lib.Hide
import Derived.Deep.RegionLaw
import Derived.Deep.AppendLies
namespace Go.Proofs.Ytgjcigokjfhfkaa
open Go.RowKit Go.Maps

theorem arrEdge : WideMaps.ArrKey Try.prog 87 3 2 := ⟨Try.underlying87, by kernel_rfl, by kernel_rfl, by kernel_rfl⟩
theorem arrThree : WideMaps.ArrKey Try.prog 56 3 3 := ⟨Try.underlying56, by kernel_rfl, by kernel_rfl, by kernel_rfl⟩
theorem types_succ : ∃ m, Try.prog.types.size = m + 1 := ⟨Try.prog.types.size - 1, by kernel_rfl⟩
theorem zero_bool (w : World) : (zeroValue 4).run Try.prog w = .ok (.bool false) w := by kernel_rfl

section
variable {w : World} {b n : Nat}
theorem edge_look {es : List (Int × Int)} (h : MapB Try.prog 87 4 w b n (es.map edgeV)) (x y : Int) (wx : (Lit.int .i64 x).wf = true) (wy : (Lit.int .i64 y).wf = true) :
    (Instr.lookup 63 (.map (some b)) (.agg #[.int .i64 x, .int .i64 y]) false).run Try.prog w = .ok (.bool (decide ((x, y) ∈ es))) w := by
  obtain ⟨r, hrun, hi⟩ := h.look (Keyed.of_law arrEdge.law) Try.underlying63 Try.underlying4 (zero_bool w) (WideMaps.keyOf_pair arrEdge Try.underlying3 types_succ wx wy)
  rw [hrun]
  have : r = decide ((x, y) ∈ es) := by
    have h2 := mem_edgeV (x, y) es
    unfold edgeV at h2 hi
    rw [Bool.eq_iff_iff, decide_eq_true_iff]
    exact hi.trans h2
  rw [this]
theorem edge_store {es : List (Int × Int)} (h : MapB Try.prog 87 4 w b n (es.map edgeV)) (x y : Int) (wx : (Lit.int .i64 x).wf = true) (wy : (Lit.int .i64 y).wf = true) (hn : n < maxLen) :
    ∃ w', (Instr.mapUpdate 63 (.map (some b)) (.agg #[.int .i64 x, .int .i64 y]) (.bool true)).run Try.prog w = .ok () w' ∧ MapB Try.prog 87 4 w' b (n + 1) (((x, y) :: es).map edgeV) ∧ w.grownBy w' (some b) :=
  h.store (Keyed.of_law arrEdge.law) Try.underlying63 Try.underlying4 hn (WideMaps.keyOf_pair arrEdge Try.underlying3 types_succ wx wy)
theorem tri_look {ts : List Tr} (h : MapB Try.prog 56 4 w b n (ts.map triV)) (x y z : Int) (wx : (Lit.int .i64 x).wf = true) (wy : (Lit.int .i64 y).wf = true) (wz : (Lit.int .i64 z).wf = true) :
    (Instr.lookup 64 (.map (some b)) (.agg #[.int .i64 x, .int .i64 y, .int .i64 z]) false).run Try.prog w = .ok (.bool (decide ((x, y, z) ∈ ts))) w := by
  obtain ⟨r, hrun, hi⟩ := h.look (Keyed.of_law arrThree.law) Try.underlying64 Try.underlying4 (zero_bool w) (keyOf_three arrThree Try.underlying3 types_succ wx wy wz)
  rw [hrun]
  have : r = decide ((x, y, z) ∈ ts) := by
    have h2 := mem_triV (x, y, z) ts
    unfold triV at h2 hi
    rw [Bool.eq_iff_iff, decide_eq_true_iff]
    exact hi.trans h2
  rw [this]
theorem tri_store {ts : List Tr} (h : MapB Try.prog 56 4 w b n (ts.map triV)) (x y z : Int) (wx : (Lit.int .i64 x).wf = true) (wy : (Lit.int .i64 y).wf = true) (wz : (Lit.int .i64 z).wf = true) (hn : n < maxLen) :
    ∃ w', (Instr.mapUpdate 64 (.map (some b)) (.agg #[.int .i64 x, .int .i64 y, .int .i64 z]) (.bool true)).run Try.prog w = .ok () w' ∧ MapB Try.prog 56 4 w' b (n + 1) (((x, y, z) :: ts).map triV) ∧ w.grownBy w' (some b) :=
  h.store (Keyed.of_law arrThree.law) Try.underlying64 Try.underlying4 hn (keyOf_three arrThree Try.underlying3 types_succ wx wy wz)
end

theorem sort3_in (a b c : Int) : (sort3 a b c).1 ∈ [a, b, c] ∧ (sort3 a b c).2.1 ∈ [a, b, c] ∧ (sort3 a b c).2.2 ∈ [a, b, c] := by
  have h := sort3_eq a b c
  have hp : (sortL [a, b, c]).Perm [a, b, c] := List.mergeSort_perm _ _
  rw [h] at hp
  exact ⟨hp.mem_iff.1 (by simp), hp.mem_iff.1 (by simp), hp.mem_iff.1 (by simp)⟩
theorem sort3_range {a b c : Int} (ha : 0 ≤ a ∧ a ≤ 1000000) (hb : 0 ≤ b ∧ b ≤ 1000000) (hc : 0 ≤ c ∧ c ≤ 1000000) :
    (0 ≤ (sort3 a b c).1 ∧ (sort3 a b c).1 ≤ 1000000) ∧ (0 ≤ (sort3 a b c).2.1 ∧ (sort3 a b c).2.1 ≤ 1000000) ∧ (0 ≤ (sort3 a b c).2.2 ∧ (sort3 a b c).2.2 ≤ 1000000) := by
  obtain ⟨h1, h2, h3⟩ := sort3_in a b c
  have H : ∀ x, x ∈ [a, b, c] → 0 ≤ x ∧ x ≤ 1000000 := by
    intro x hx
    simp at hx
    rcases hx with rfl | rfl | rfl <;> assumption
  exact ⟨H _ h1, H _ h2, H _ h3⟩
theorem Blk.six' {w : World} {g : Nat} {t : TypeId} {a b c d e f : Value} (h : Blk w g t #[a, b, c, d, e, f]) : g < w.heap.size ∧ w.cell? ⟨g, 0, none⟩ = some a ∧ w.cell? ⟨g, 1, none⟩ = some b ∧ w.cell? ⟨g, 2, none⟩ = some c ∧ w.cell? ⟨g, 3, none⟩ = some d ∧ w.cell? ⟨g, 4, none⟩ = some e ∧ w.cell? ⟨g, 5, none⟩ = some f ∧ (∀ i, w.frozen? ⟨g, i, none⟩ = false) :=
  ⟨h.lt, h.cell 0, h.cell 1, h.cell 2, h.cell 3, h.cell 4, h.cell 5, fun i => h.frozen i⟩

theorem info_sl : (Try.prog.info? 52).map (fun i => (i.zero, i.size, i.bytes)) = some (some (.slice none 0 0), 1, 24) := by kernel_rfl
theorem info_tri : (Try.prog.info? 57).map (fun i => (i.zero, i.size, i.bytes)) = some (some (.agg #[.int .i64 0, .int .i64 0, .int .i64 0]), 3, 24) := by kernel_rfl
/-- The three edges, and which of them are put first. -/
def edAt (a b c : Int) : Nat → Int × Int
  | 0 => (a, b)
  | 1 => (b, c)
  | _ => (c, a)
def esAt (es : List (Int × Int)) (a b c : Int) : Nat → List (Int × Int)
  | 0 => es
  | k + 1 => edAt a b c k :: esAt es a b c k
def okAt (ok : Bool) (es : List (Int × Int)) (a b c : Int) : Nat → Bool
  | 0 => ok
  | k + 1 => okAt ok es a b c k && !decide (edAt a b c k ∈ esAt es a b c k)
theorem edAt_wf {a b c : Int} (ha : 0 ≤ a ∧ a ≤ 1000000) (hb : 0 ≤ b ∧ b ≤ 1000000) (hc : 0 ≤ c ∧ c ≤ 1000000) (k : Nat) : (Lit.int .i64 (edAt a b c k).1).wf = true ∧ (Lit.int .i64 (edAt a b c k).2).wf = true := by
  unfold edAt
  split <;> exact ⟨WalkArith.wf_i64 (by simp only; omega), WalkArith.wf_i64 (by simp only; omega)⟩
set_option maxRecDepth 100000 in
set_option maxHeartbeats 2000000 in
theorem add_any {w : World} {base z be bt : Nat} {vT vL vW : Value} {vs : List Value} {m : ZM} (h : ZS w base z be bt vT vL vW vs m) (a b c : Int) (ha : 0 ≤ a ∧ a ≤ 1000000) (hb : 0 ≤ b ∧ b ≤ 1000000) (hc : 0 ≤ c ∧ c ≤ 1000000) (hT : m.T.length ≤ 1000000) :
    Calls Try.prog 34 #[.pointer (some ⟨z, 0, none⟩), .int .i64 a, .int .i64 b, .int .i64 c] w fun en w' => en = .returned (.bool (fitsM m.T (a, b, c))) ∧ (∃ vT', ZS w' base z be bt vT' vL vW vs { m with T := m.T ++ [(a, b, c)] }) ∧ Below base w w' := by
  obtain ⟨hs1, hs2, hs3⟩ := sort3_range ha hb hc
  obtain ⟨nE, nS, hnE, hnS, h⟩ := h
  have hbase : base ≤ w.heap.size := Nat.le_trans h.hz (Nat.le_of_lt h.blk.lt)
  have hb0 : Blk (w.alloc (.cells #[.int .i64 a, .int .i64 b, .int .i64 c] 56)) w.heap.size 56 #[.int .i64 a, .int .i64 b, .int .i64 c] := Blk.new _ _ _
  have heb := h.he
  have htb := h.ht
  have H := Lib.hid h
  clear h
  go_enter Try.func34, Try.ntmps34
  go_wp2_with fail
  refine (sort3_any a b c _ _ _ hb0).mono ?_
  rintro en w1 ⟨rfl, hs, hg⟩
  have h1 := H.out.new (by decide) hg
  have hB1 : Below base w w1 := below_of_grown (gGrown (World.grownBy_alloc w _ none) hg (fun j e => by cases e; exact .inr (Nat.le_refl _))) hbase (fun j e => by cases e)
  have hsz1 : w.heap.size < w1.heap.size := hs.lt
  clear H hb0 hg
  have mS := h1.S
  obtain ⟨-, c0, c1, c2, c3, c4, c5, fz⟩ := h1.blk.six'
  obtain ⟨-, s0, -, s1, -, s2, -⟩ := hs.three
  generalize hst : sort3 a b c = st at *
  obtain ⟨sx, sy, sz⟩ := st
  simp only at hs hs1 hs2 hs3 s0 s1 s2
  have e1 := tri_look (w := w1.drew) mS sx sy sz (WalkArith.wf_i64 (by omega)) (WalkArith.wf_i64 (by omega)) (WalkArith.wf_i64 (by omega))
  obtain ⟨w2, e2, mS2, hg2⟩ := tri_store (w := w1.drew.drew) mS sx sy sz (WalkArith.wf_i64 (by omega)) (WalkArith.wf_i64 (by omega)) (WalkArith.wf_i64 (by omega)) (by unfold maxLen; omega)
  have h2 := h1.drew.drew.tri hg2 mS2
  have hB2 : Below base w w2 := hB1.drew.drew.grown hg2 (Nat.le_trans hbase hB1.size) (fun j e => by cases e; exact htb)
  have H2 := Lib.hid h2
  have HB2 := Lib.hid hB2
  clear h1
  go_wp2
  go_region
  go_wp2
  go_region
  clear h2 hB2 mS2 mS hg2 e1 e2 c0 c1 c2 c3 c4 c5 fz s0 s1 s2 hs hB1
  have hq0 : decide ((sx, sy, sz) ∈ List.map sortedT m.T) = decide (sortedT (a, b, c) ∈ List.map sortedT m.T) := by simp only [sortedT, hst]
  have Hq := Lib.hid hq0
  clear hq0
  generalize decide ((sx, sy, sz) ∈ List.map sortedT m.T) = q at *
  go_wp2
  have hg0 : Blk (w2.alloc (.cells #[.int .i64 a, .int .i64 b, .int .i64 b, .int .i64 c, .int .i64 c, .int .i64 a] 87)) w2.heap.size 87 #[.int .i64 a, .int .i64 b, .int .i64 b, .int .i64 c, .int .i64 c, .int .i64 a] := Blk.new _ _ _
  have hsz2 : base ≤ w2.heap.size := Nat.le_trans hbase HB2.out.size
  go_loopw [42, 10] (fun i ov wr => ∃ k : Nat, k ≤ 3 ∧ i = .int .i64 k ∧ ov = .bool (okAt (!q) (edgesOf m.T) a b c k) ∧ Blk wr w2.heap.size 87 #[.int .i64 a, .int .i64 b, .int .i64 b, .int .i64 c, .int .i64 c, .int .i64 a] ∧
    ZSX wr base z be bt vT vL vW vs m (nE + k) (esAt (edgesOf m.T) a b c k) (nS + 1) ((sx, sy, sz) :: m.T.map sortedT) ∧ Below base w wr) (fun i _ _ => 3 - (intOf i).toNat)
  case atStart => exact ⟨0, by omega, rfl, rfl, hg0, H2.out.alloc _, HB2.out.alloc hsz2 _⟩
  case round =>
    obtain ⟨k, hk, rfl, rfl, hG, hZ, hB⟩ := hrel
    have hsz3 : base ≤ wr.heap.size := Nat.le_trans hbase hB.size
    have hGn := hZ.blk_ne hG
    have hGl := hG.lt
    obtain ⟨-, g0, g1, g2, g3, g4, g5, -⟩ := hG.six'
    by_cases hlt : k < 3
    · have H3 := Lib.hid hZ
      have HG := Lib.hid hG
      have HB := Lib.hid hB
      obtain ⟨wx, wy⟩ := edAt_wf ha hb hc k
      have hA := hZ.alloc (.cells #[.int .i64 (edAt a b c k).1, .int .i64 (edAt a b c k).2] 87)
      have e1 := edge_look hA.drew.E _ _ wx wy
      obtain ⟨w3, e2, hm3, hg3⟩ := edge_store hA.drew.drew.E _ _ wx wy (by unfold maxLen; omega)
      have h5' : ZSX w3 base z be bt vT vL vW vs m (nE + (k + 1)) (esAt (edgesOf m.T) a b c (k + 1)) (nS + 1) ((sx, sy, sz) :: m.T.map sortedT) := hA.drew.drew.edge hg3 hm3
      have h5 := Lib.hid h5'
      clear h5'
      have hG5 : Blk w3 w2.heap.size 87 #[.int .i64 a, .int .i64 b, .int .i64 b, .int .i64 c, .int .i64 c, .int .i64 a] := (((hG.alloc _).drew).drew).grown hg3 (by simpa using hGn.1)
      have hB5 : Below base w w3 := ((hB.alloc hsz3 _).drew.drew).grown hg3 (by simp; omega) (fun j e => by cases e; exact heb)
      have HG5 := Lib.hid hG5
      have HB5 := Lib.hid hB5
      have nA : Blk (wr.alloc (.cells #[.int .i64 (edAt a b c k).1, .int .i64 (edAt a b c k).2] 87)) wr.heap.size 87 #[.int .i64 (edAt a b c k).1, .int .i64 (edAt a b c k).2] := Blk.new _ _ _
      obtain ⟨-, n0, -, n1, -⟩ := nA.two
      obtain ⟨-, c0, c1, c2, c3, c4, c5, fz⟩ := hA.blk.six'
      have Hok : okAt (!q) (edgesOf m.T) a b c (k + 1) = (okAt (!q) (edgesOf m.T) a b c k && !decide (edAt a b c k ∈ esAt (edgesOf m.T) a b c k)) := rfl
      have HOK := Lib.hid Hok
      clear hA hm3 hg3 hG5 hB5 hB hG hZ nA Hok
      have hkk : k = 0 ∨ k = 1 ∨ k = 2 := by omega
      generalize okAt (!q) (edgesOf m.T) a b c k = ov at *
      generalize esAt (edgesOf m.T) a b c k = ev at *
      rcases hkk with rfl | rfl | rfl
      all_goals
        simp only [edAt] at e1 e2 n0 n1 c0 c1 c2 c3 c4 c5 fz
        cases ov
        all_goals
          go_wp2
          go_region
          go_wp2
          go_region
          go_wp2
          go_roundw
          case measure => simp [intOf]
          case rel => first
            | exact ⟨1, by omega, rfl, by rw [HOK.out]; rfl, HG5.out, h5.out, HB5.out⟩
            | exact ⟨2, by omega, rfl, by rw [HOK.out]; rfl, HG5.out, h5.out, HB5.out⟩
            | exact ⟨3, by omega, rfl, by rw [HOK.out]; rfl, HG5.out, h5.out, HB5.out⟩
    · obtain rfl : k = 3 := by omega
      obtain ⟨i0, hi, hz0, hz1, hz2⟩ := info_parts info_tri
      have hf : okAt (!q) (edgesOf m.T) a b c 3 = fitsM m.T (a, b, c) := by
        by_cases hh : sortedT (a, b, c) ∈ m.T.map sortedT
        · simp only [okAt, fitsM, esAt, edAt, Hq.out, hh, not_true, decide_true, decide_false, Bool.not_true, Bool.false_and]
        · simp [okAt, fitsM, esAt, edAt, Hq.out, hh]
      have HF := Lib.hid hf
      have hes : ∀ x, x ∈ (esAt (edgesOf m.T) a b c 3).map edgeV ↔ x ∈ (edgesOf (m.T ++ [(a, b, c)])).map edgeV := by
        intro x
        rw [edgesOf_snoc]
        simp [esAt, edAt]
        grind
      have hss : ∀ x, x ∈ ((sx, sy, sz) :: m.T.map sortedT).map triV ↔ x ∈ ((m.T ++ [(a, b, c)]).map sortedT).map triV := by
        intro x
        simp [sortedT, hst]
        grind
      have Hes := Lib.hid hes
      have Hss := Lib.hid hss
      have H3 := Lib.hid hZ
      have HB := Lib.hid hB
      have hT0 := hZ.T
      obtain ⟨-, c0, c1, c2, c3, c4, c5, fz⟩ := hZ.blk.six'
      clear hf hes hss hZ hB hG
      have hca := cells_new wr [.int .i64 a, .int .i64 b, .int .i64 c] 57
      have Hca := Lib.hid hca
      clear hca
      have c6 : m.T.length + 1 ≤ maxLen := by unfold maxLen; omega
      have c7 : (m.T.length + 1) * 24 ≤ 140737488355328 := by omega
      have hblk := H3.out.blk
      have hzne := own_blk_ne hT0 hblk (by decide)
      have hzlt := hblk.lt
      have hTlt := hT0.lt
      have Hb := Lib.hid hblk
      clear hblk
      go_wp2_with (at_builtin; refine wpList_append_lies _ rfl (.tmp 67) (.tmp 72) 40 rfl base 57 i0 _ 3 24 Try.underlying40 hi hz0 hz1 hz2 rfl (by decide) _ _ _ rfl (hT0.alloc _) ⟨wr.heap.size, 0, none⟩ 1 1 [.int .i64 a, .int .i64 b, .int .i64 c] rfl rfl Hca.out (by simp [Value.oneCell']) (by decide) c6 c7 (by simp; omega) (wr.heap.size + 1) (by simp) ?_; intro g4 cap4 W4 hr4 hg4 hat4 hlt4; obtain ⟨-, d0, d1, d2, d3, d4, d5, dz⟩ := ((Hb.out.alloc _).grown hg4 (fun e => hzne e.symm)).six')
      go_ret
      refine ⟨by rw [HF.out]; rfl, ⟨.slice (some ⟨g4, 0, none⟩) (m.T.length + 1) cap4, nE + 3, nS + 1, ?_, ?_, ?_⟩, ?_⟩
      · simp only [List.length_append, List.length_cons, List.length_nil]; omega
      · simp only [List.length_append, List.length_cons, List.length_nil]; omega
      · obtain ⟨a1, a2, a3, a4, a5, a6, a7, a8, a9, b1, b2⟩ := H3.out.putT hg4 hr4
        exact ⟨a1, a2, a3, a4, a5, a6, a7, a8, a9, b1.congr Hes.out, b2.congr Hss.out⟩
      · exact (HB.out.grown (gGrown (World.grownBy_alloc wr _ _) hg4 (row := vT.ownBlock) (fun j e => .inl e)) hsz3 (fun j e => (hTlt j e).1)).setCell (p := ⟨z, 1, none⟩) H3.out.hz _
end Go.Proofs.Ytgjcigokjfhfkaa
