/-
  Texts joined by program: Lw46 ArgS.
-/
import Derived.Test.YtghlnknncahkgaaGreatV9
import Derived.Deep.QuietTactic
import Derived.BigQuiet
import Derived.Test.YtghlnknncahkgaaGreatV1
import Derived.ProofKit
import Derived.WideShapes
import Derived.OpenShut
import Derived.Deep.Slices
import Derived.Lib.SmallJoins
/-
  The laws' own functions: gypsumlaw10.Great, Laid, gypsumlaw46.rows; gypsumref46.Rooted at no corner.
-/
namespace Go.Proofs.YtghlnknncahkgaaGreat
open Go.RowKit Go.Maps

set_option maxRecDepth 100000 in
theorem great10_any (N : Int) (v : Value) (T : List Tr) (w : World) (h : TrisRd w v T) : Calls Tryz.prog 17 #[.agg #[.int .i64 N, v]] w fun e w' => ∃ g : Int, e = .returned (.int .i64 g) ∧ ((g = 0 ∧ T.length ≤ 40 ∧ N ≤ 60) ∨ g = 1) ∧ Below w.heap.size w w' := by
  have b1 := Blk.new w 24 #[.int .i64 N, v]
  have hB0 : Below w.heap.size w (w.alloc (.cells #[.int .i64 N, v] 24)) := (Below.refl _ _).alloc (Nat.le_refl _) _
  obtain ⟨a, cT, rfl, -⟩ := h
  obtain ⟨n, hn⟩ : ∃ n, T.length = n := ⟨_, rfl⟩
  rw [hn] at b1 hB0 ⊢
  obtain ⟨l0, x0, -, x1, -⟩ := b1.two
  have HB := Lib.hid hB0
  clear hn b1 hB0
  by_cases c0 : 40 < n
  · have d0 : (40 : Int) < (n : Int) := by omega
    go_enter Tryz.func17, Tryz.ntmps17
    go_wp2
    go_ret
    exact ⟨1, rfl, .inr rfl, HB.out⟩
  · have d0 : decide ((40 : Int) < (n : Int)) = false := by simp; omega
    by_cases c1 : 60 < N
    · go_enter Tryz.func17, Tryz.ntmps17
      go_wp2
      go_ret
      exact ⟨1, rfl, .inr rfl, HB.out⟩
    · have d1 : decide (60 < N) = false := by simp; omega
      by_cases c2 : N < -1000
      · go_enter Tryz.func17, Tryz.ntmps17
        go_wp2
        go_ret
        exact ⟨1, rfl, .inr rfl, HB.out⟩
      · have d2 : decide (N < -1000) = false := by simp; omega
        have HF := Lib.hid (show n ≤ 40 ∧ N ≤ 60 from by omega)
        clear c0 c1 c2
        go_enter Tryz.func17, Tryz.ntmps17
        go_wp2
        go_ret
        exact ⟨0, rfl, .inl ⟨rfl, HF.out.1, HF.out.2⟩, HB.out⟩
set_option maxRecDepth 100000 in
set_option maxHeartbeats 1000000 in
theorem laid10_any (N : Int) (v : Value) (T : List Tr) (w : World) (h : TrisRd w v T) : Calls Tryz.prog 12 #[.agg #[.int .i64 N, v]] w fun e w' => (e = .returned (.pointer none) ∨ ∃ g, e = .returned (.pointer (some ⟨g, 0, none⟩)) ∧ Tab w' g N T ∧ Surf N T ∧ T.length ≤ 40 ∧ N ≤ 60) ∧ Below w.heap.size w w' := by
  have b1 := Blk.new w 24 #[.int .i64 N, v]
  have hB0 : Below w.heap.size w (w.alloc (.cells #[.int .i64 N, v] 24)) := (Below.refl _ _).alloc (Nat.le_refl _) _
  have HG := Lib.hid (great10_any N v T _ (h.below hB0))
  have HN := Lib.hid (fun (W : World) (hW : Below w.heap.size w W) (hl : T.length ≤ 40) => new_any N v T W (h.below hW) (by omega))
  obtain ⟨a, cT, rfl, -⟩ := h
  obtain ⟨l0, x0, -, x1, -⟩ := b1.two
  have HB := Lib.hid hB0
  have HK := Lib.hid b1
  clear b1 hB0
  go_enter Tryz.func12, Tryz.ntmps12
  go_upto_if 7 with (go_at_call 17; go_loud (with_reducible refine HG.out.mono ?_; rintro e w1 ⟨g, rfl, hg, hb⟩))
  have hBw := HB.out.trans (hb.mono HB.out.size)
  obtain ⟨l1, y0, -, y1, -⟩ := (HK.out.below hb l0).two
  have HBw := Lib.hid hBw
  clear hb hBw x0 x1
  rcases hg with ⟨rfl, hl, hN⟩ | rfl
  · have HNw := Lib.hid (HN.out w1 HBw.out hl)
    have HS := Lib.hid (And.intro hl hN)
    clear hl hN
    go_upto_region 4 with (go_at_call 33; go_loud (with_reducible refine HNw.out.mono ?_; rintro e w2 ⟨hcase, hb2⟩; obtain ⟨p, hp⟩ : ∃ (p : Option Addr) (cs : Int × Int × Int), e = .returned (.tuple #[.pointer p, .agg #[.int .i64 cs.1, .int .i64 cs.2.1, .int .i64 cs.2.2]]) ∧ (p = none ∨ ∃ g, p = some ⟨g, 0, none⟩ ∧ Tab w2 g N T ∧ Surf N T) := (by rcases hcase with ⟨hS, g, he, ht, -⟩ | ⟨-, k, a, b, -, he⟩; exact ⟨some ⟨g, 0, none⟩, (0, 0, 0), by rw [he]; unfold witV; rfl, .inr ⟨g, rfl, ht, hS⟩⟩; exact ⟨none, (k, a, b), by rw [he]; unfold witV; rfl, .inl rfl⟩); obtain ⟨⟨k1, k2, k3⟩, rfl, hp2⟩ := hp))
    have hA := (Below.refl w2.heap.size w2).alloc (Nat.le_refl _) (.cells #[.int .i64 k1, .int .i64 k2, .int .i64 k3] 74)
    have HBe := Lib.hid (HBw.out.trans ((hb2.trans (hA.mono hb2.size)).mono HBw.out.size))
    have HP := Lib.hid (show p = none ∨ ∃ g, p = some ⟨g, 0, none⟩ ∧ Tab (w2.alloc (.cells #[.int .i64 k1, .int .i64 k2, .int .i64 k3] 74)) g N T ∧ Surf N T from by
      rcases hp2 with h | ⟨g, h1, h2, h3⟩
      · exact .inl h
      · exact .inr ⟨g, h1, h2.below hA, h3⟩)
    clear hA hp2 hcase hb2
    go_wp2
    go_ret
    refine ⟨?_, HBe.out⟩
    rcases HP.out with h | ⟨g, h1, h2, h3⟩
    · exact .inl (by rw [h]; rfl)
    · exact .inr ⟨g, by rw [h1]; rfl, h2, h3, HS.out.1, HS.out.2⟩
  · go_wp2
    go_ret
    exact ⟨.inl rfl, HBw.out⟩
set_option maxRecDepth 100000 in
theorem rows46_same (v1 v2 : Value) (xs : List Int) (w : World) (h1 : IntsRd w v1 xs) (h2 : IntsRd w v2 xs) (hl : xs.length ≤ 100000) : Calls Tryz.prog 16 #[v1, v2] w fun e w' => e = .returned (.bool true) ∧ Below w.heap.size w w' := by
  obtain ⟨a1, c1, rfl, l1, r1⟩ := h1
  obtain ⟨a2, c2, rfl, l2, r2⟩ := h2
  have R1 := Lib.hid r1
  have R2 := Lib.hid r2
  obtain ⟨n, hn⟩ : ∃ n, xs.length = n := ⟨_, rfl⟩
  rw [hn] at l1 l2 hl ⊢
  have Hn := Lib.hid hn
  clear r1 r2 hn
  go_enter Tryz.func16, Tryz.ntmps16
  go_wp2
  go_loopw [13] (fun i W => ∃ k : Nat, k ≤ n ∧ i = .int .i64 k ∧ ∃ q, W = w.drewN q) (fun i _ => n - (intOf i).toNat)
  case atStart => exact ⟨0, Nat.zero_le _, rfl, 0, rfl⟩
  case round =>
    obtain ⟨k, hk, rfl, q0, rfl⟩ := hrel
    by_cases hlt : k < n
    · obtain ⟨x, hx⟩ : ∃ x, xs[k]? = some x := ⟨xs[k]'(by rw [Hn.out]; exact hlt), List.getElem?_eq_getElem _⟩
      obtain ⟨b1, o1, rfl, hb1, s1⟩ := R1.out k x hx
      obtain ⟨b2, o2, rfl, hb2, s2⟩ := R2.out k x hx
      have hki : (k : Int) < (n : Int) := by omega
      clear hx
      go_upto_region 6 with fail
      go_quiet (fail)
      go_wp2
      go_roundw
      case measure => simp [intOf]; omega
      case rel => exact ⟨k + 1, by omega, by go_num, q0 + nq, by first | rfl | rw [World.drewN_drewN]⟩
    · obtain rfl : k = n := by omega
      go_wp2
      go_ret
      exact ⟨rfl, ⟨rfl, rfl, rfl, Nat.le_refl _, fun _ _ => rfl⟩⟩
set_option maxRecDepth 100000 in
set_option maxHeartbeats 1000000 in
theorem rooted46_none (N c : Int) (v : Value) (T : List Tr) (w : World) (h : TrisRd w v T) (hc : hasC T c = false) (hl : T.length ≤ 100000) :
    Calls Tryz.prog 14 #[.agg #[.int .i64 N, v], .int .i64 c] w fun e w' => e = .returned (.tuple #[.agg #[.int .i64 0, .slice none 0 0], .slice none 0 0, .slice none 0 0]) ∧ Below w.heap.size w w' := by
  have hb1 := (Blk.new w 24 #[.int .i64 N, v]).alloc (.cells #[.int .i64 0, .slice none 0 0] 24)
  have hb2 : Blk ((w.alloc (.cells #[.int .i64 N, v] 24)).alloc (.cells #[.int .i64 0, .slice none 0 0] 24)) (w.heap.size + 1) 24 #[.int .i64 0, .slice none 0 0] := blk_new_at (by simp)
  have hB0 : Below w.heap.size w ((w.alloc (.cells #[.int .i64 N, v] 24)).alloc (.cells #[.int .i64 0, .slice none 0 0] 24)) := ((Below.refl _ _).alloc (Nat.le_refl _) _).alloc (by simp) _
  have hIs := is10_any N c v T _ (h.below hB0) hl
  rw [hc] at hIs
  have HIs := Lib.hid hIs
  obtain ⟨aT, cT, rfl, -⟩ := h
  obtain ⟨l0, x0, -, x1, -⟩ := hb1.two
  have HB0 := Lib.hid hB0
  have HKr := Lib.hid hb2
  clear hb1 hb2 hB0 hIs hc
  go_enter Tryz.func14, Tryz.ntmps14
  go_upto_if 22 with (go_at_call 40; go_loud (with_reducible refine HIs.out.mono ?_; rintro e w1 ⟨rfl, hb⟩))
  have hkr := HKr.out.below hb HKr.out.lt
  obtain ⟨lr, r0, q0, r1, q1⟩ := hkr.two
  have hr3 := (hkr.set_ 0 (.int .i64 0)).set_ 1 (.slice none 0 0)
  have HF := Lib.hid (show Blk _ (w.heap.size + 1) 24 #[.int .i64 0, .slice none 0 0] from by simpa using hr3)
  have HBe := Lib.hid (((HB0.out.trans (hb.mono HB0.out.size)).setCell (p := ⟨w.heap.size + 1, 0, none⟩) (by simp) (.int .i64 0)).setCell (p := ⟨w.heap.size + 1, 1, none⟩) (by simp) (.slice none 0 0))
  clear hkr hr3 hb x0 x1
  go_wp2
  obtain ⟨-, p0, -, p1, -⟩ := HF.out.two
  refine bodyPost_ret (v := .tuple #[.agg #[.int .i64 0, .slice none 0 0], .slice none 0 0, .slice none 0 0]) (by simp [results, Tryz.results14, go_sem, p0, p1]) rfl ?_
  exact ⟨rfl, HBe.out⟩
end Go.Proofs.YtghlnknncahkgaaGreat
/-
  A list of triangles, as an argument: its numbers can be read.
-/
namespace Go.Proofs.YtghlnknncahkgaaGreat
open Go.RowKit

theorem three_cells {P : Program} {H : Type} {enc : TypeId × Value → H} {w : World} {base : Nat} {spare : Nat → Bool} {held : Bool} {t u : TypeId} {m : Nat} {cs : List Value} {x : DataW H × List MemPlace}
    (ht : P.underlying t = some (.array 3 u)) (hu : P.underlying u = some (.int .i64)) (hc : P.cellsOf u = 1) (hl : cs.length = 3) (h : DataW.trod enc P w base spare held m t cs = some x) :
    ∃ a b c : Int, cs = [.int .i64 a, .int .i64 b, .int .i64 c] := by
  obtain ⟨xs, n, -, -, -, hx, hel⟩ := DataW.trod_array ht h
  rw [hc] at hel
  match cs, hl with
  | [v0, v1, v2], _ =>
    have key : ∀ i v, i < 3 → ([v0, v1, v2].drop (i * 1)).take 1 = [v] → ∃ z : Int, v = .int .i64 z := by
      intro i v hi hv
      have e := hel i hi
      rw [hv] at e
      obtain ⟨y, hy⟩ : ∃ y, xs[i]? = some y := ⟨xs[i]'(by omega), List.getElem?_eq_getElem _⟩
      rw [hy] at e
      obtain ⟨z, hz, -, -⟩ := DataW.trod_int hu e
      exact ⟨z, by simpa using hz⟩
    obtain ⟨a, rfl⟩ := key 0 v0 (by omega) rfl
    obtain ⟨b, rfl⟩ := key 1 v1 (by omega) rfl
    obtain ⟨c, rfl⟩ := key 2 v2 (by omega) rfl
    exact ⟨a, b, c, rfl⟩
theorem tris_open {H : Type} {enc : TypeId × Value → H} {w : World} {base : Nat} {spare : Nat → Bool} {held : Bool} {m : Nat} {v : Value} {x : DataW H × List MemPlace}
    (h : DataW.trod enc Tryz.prog w base spare held m 22 [v] = some x) : ∃ T, TrisRd w v T := by
  rcases Go.Deep.open_slice Tryz.underlying22 h with ⟨e1, -⟩ | ⟨a, len, cap, q, n, D, Pl, e1, hb, hl, hm, hq, -, hall⟩
  · have e : v = .slice none 0 0 := by simpa using e1
    subst e
    exact ⟨[], none, 0, rfl, by simp, by decide, fun k x y z hk => by simp at hk⟩
  · have e : v = .slice (some a) len cap := by simpa using e1
    subst e
    have h3 : Tryz.prog.cellsOf 72 = 3 := by kernel_rfl
    have hlq : len ≤ q := by rw [hq]; split <;> omega
    have key : ∀ i, ∃ t : Tr, i < len → w.cell? (a.add (i * 3)) = some (.int .i64 t.1) ∧ w.cell? ((a.add (i * 3)).add 1) = some (.int .i64 t.2.1) ∧ w.cell? ((a.add (i * 3)).add 2) = some (.int .i64 t.2.2) := by
      intro i
      by_cases hi : i < len
      · obtain ⟨cs, hcs, htr⟩ := hall i (by omega)
        rw [h3] at hcs
        obtain ⟨-, hcl, hce⟩ := World.cells?_some hcs
        obtain ⟨x, y, z, rfl⟩ := three_cells Tryz.underlying72 Tryz.underlying3 (by kernel_rfl) hcl htr
        refine ⟨(x, y, z), fun _ => ⟨?_, hce 1 (by omega), hce 2 (by omega)⟩⟩
        have := hce 0 (by omega)
        have e0 : (a.add (i * 3)).add 0 = a.add (i * 3) := by simp [Addr.add]
        rw [e0] at this
        exact this
      · exact ⟨(0, 0, 0), fun h => absurd h hi⟩
    obtain ⟨f, hf⟩ := Classical.axiomOfChoice key
    refine ⟨(List.range len).map f, some a, cap, by simp, by simpa using hl, by unfold maxLen at hm; omega, fun k x y z hk => ?_⟩
    have hk' : k < len := by
      have := (List.getElem?_eq_some_iff.1 hk).1
      simpa using this
    rw [List.getElem?_map, List.getElem?_range hk'] at hk
    have hfk : f k = (x, y, z) := by simpa using hk
    obtain ⟨c0, c1, c2⟩ := hf k hk'
    rw [hfk] at c0 c1 c2
    obtain ⟨b, off, spot⟩ := a
    have hspot : spot = none := by simpa [Addr.add] using World.cell?_spot (hf 0 (by omega)).1
    subst hspot
    rw [Addr.add_lit] at c0
    rw [Addr.add_lit, Addr.add_lit] at c1 c2
    refine ⟨b, off, rfl, ?_, c0, c1, c2⟩
    rcases Nat.lt_or_ge b w.heap.size with hlt | hge
    · exact hlt
    · exfalso
      unfold World.cell? at c0
      simp [Array.getElem?_eq_none hge] at c0
set_option maxRecDepth 100000 in
theorem soup_open {H : Type} {enc : TypeId × Value → H} {w : World} {base : Nat} {spare : Nat → Bool} {held : Bool} {r : Go.Reach} {b0 : Nat} {v : Value} {d : DataW H} {p : List MemPlace}
    (hv : Value.okWide Tryz.prog w r b0 24 v) (h : DataW.Trod enc Tryz.prog w base spare held 24 v d p) :
    ∃ (N : Int) (vT : Value) (T : List Tr), v = .agg #[.int .i64 N, vT] ∧ TrisRd w vT T ∧ (Lit.int .i64 N).wf = true := by
  obtain ⟨v0, v1, y0, y1, n, rfl, -, -, h0, h1⟩ := Go.Joins.open_agg2 Tryz.underlying24 (by kernel_rfl) (by kernel_rfl) hv h
  obtain ⟨N, e0, -, hw⟩ := DataW.trod_int Tryz.underlying3 h0
  obtain ⟨T, hT⟩ := tris_open h1
  exact ⟨N, v1, T, by simpa using e0, hT, hw⟩
end Go.Proofs.YtghlnknncahkgaaGreat
