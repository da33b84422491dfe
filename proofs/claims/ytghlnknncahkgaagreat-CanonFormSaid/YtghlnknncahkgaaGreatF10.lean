/-
  Texts joined by program: Lw46 CnFm OrdR Lst FrI RfS ShlM Shl10 Rf46 CnFmW ArgS.
-/
import Derived.Test.YtghlnknncahkgaaGreatF9
import Derived.Deep.QuietTactic
import Derived.BigQuiet
import Derived.Test.YtghlnknncahkgaaGreatF7
import Derived.Test.YtghlnknncahkgaaGreatF4
import Derived.Test.YtghlnknncahkgaaGreatF5
import Derived.Test.YtghlnknncahkgaaGreatF6
import Derived.Deep.RegionLaw
import Derived.Deep.DeepCutAuto
import Derived.Lib.QuietBelow
import Derived.Deep.RegionHeld3
import Derived.Test.YtghlnknncahkgaaGreatF1
import Derived.ProofKit
import Derived.WideShapes
import Derived.OpenShut
import Derived.Deep.Slices
import Derived.Lib.SmallJoins
/-
  The laws' own functions: gypsumlaw10.Great, Laid, gypsumlaw46.rows; gypsumref46.Rooted at no corner.
-/
namespace Go.Proofs.YtghlnknncahkgaaGreat
open Go.RowKit Go.Maps

set_option maxRecDepth 100000 in
theorem great10_any (N : Int) (v : Value) (T : List Tr) (w : World) (h : TrisRd w v T) : Calls Tryz.prog 17 #[.agg #[.int .i64 N, v]] w fun e w' => ∃ g : Int, e = .returned (.int .i64 g) ∧ ((g = 0 ∧ T.length ≤ 40 ∧ N ≤ 60) ∨ g = 1) ∧ Below w.heap.size w w' := by
  have b1 := Blk.new w 24 #[.int .i64 N, v]
  have hB0 : Below w.heap.size w (w.alloc (.cells #[.int .i64 N, v] 24)) := (Below.refl _ _).alloc (Nat.le_refl _) _
  obtain ⟨a, cT, rfl, -⟩ := h
  obtain ⟨n, hn⟩ : ∃ n, T.length = n := ⟨_, rfl⟩
  rw [hn] at b1 hB0 ⊢
  obtain ⟨l0, x0, -, x1, -⟩ := b1.two
  have HB := Lib.hid hB0
  clear hn b1 hB0
  by_cases c0 : 40 < n
  · have d0 : (40 : Int) < (n : Int) := by omega
    go_enter Tryz.func17, Tryz.ntmps17
    go_wp2
    go_ret
    exact ⟨1, rfl, .inr rfl, HB.out⟩
  · have d0 : decide ((40 : Int) < (n : Int)) = false := by simp; omega
    by_cases c1 : 60 < N
    · go_enter Tryz.func17, Tryz.ntmps17
      go_wp2
      go_ret
      exact ⟨1, rfl, .inr rfl, HB.out⟩
    · have d1 : decide (60 < N) = false := by simp; omega
      by_cases c2 : N < -1000
      · go_enter Tryz.func17, Tryz.ntmps17
        go_wp2
        go_ret
        exact ⟨1, rfl, .inr rfl, HB.out⟩
      · have d2 : decide (N < -1000) = false := by simp; omega
        have HF := Lib.hid (show n ≤ 40 ∧ N ≤ 60 from by omega)
        clear c0 c1 c2
        go_enter Tryz.func17, Tryz.ntmps17
        go_wp2
        go_ret
        exact ⟨0, rfl, .inl ⟨rfl, HF.out.1, HF.out.2⟩, HB.out⟩
set_option maxRecDepth 100000 in
set_option maxHeartbeats 1000000 in
theorem laid10_any (N : Int) (v : Value) (T : List Tr) (w : World) (h : TrisRd w v T) : Calls Tryz.prog 12 #[.agg #[.int .i64 N, v]] w fun e w' => (e = .returned (.pointer none) ∨ ∃ g, e = .returned (.pointer (some ⟨g, 0, none⟩)) ∧ Tab w' g N T ∧ Surf N T ∧ T.length ≤ 40 ∧ N ≤ 60) ∧ Below w.heap.size w w' := by
  have b1 := Blk.new w 24 #[.int .i64 N, v]
  have hB0 : Below w.heap.size w (w.alloc (.cells #[.int .i64 N, v] 24)) := (Below.refl _ _).alloc (Nat.le_refl _) _
  have HG := Lib.hid (great10_any N v T _ (h.below hB0))
  have HN := Lib.hid (fun (W : World) (hW : Below w.heap.size w W) (hl : T.length ≤ 40) => new_any N v T W (h.below hW) (by omega))
  obtain ⟨a, cT, rfl, -⟩ := h
  obtain ⟨l0, x0, -, x1, -⟩ := b1.two
  have HB := Lib.hid hB0
  have HK := Lib.hid b1
  clear b1 hB0
  go_enter Tryz.func12, Tryz.ntmps12
  go_upto_if 7 with (go_at_call 17; go_loud (with_reducible refine HG.out.mono ?_; rintro e w1 ⟨g, rfl, hg, hb⟩))
  have hBw := HB.out.trans (hb.mono HB.out.size)
  obtain ⟨l1, y0, -, y1, -⟩ := (HK.out.below hb l0).two
  have HBw := Lib.hid hBw
  clear hb hBw x0 x1
  rcases hg with ⟨rfl, hl, hN⟩ | rfl
  · have HNw := Lib.hid (HN.out w1 HBw.out hl)
    have HS := Lib.hid (And.intro hl hN)
    clear hl hN
    go_upto_region 4 with (go_at_call 33; go_loud (with_reducible refine HNw.out.mono ?_; rintro e w2 ⟨hcase, hb2⟩; obtain ⟨p, hp⟩ : ∃ (p : Option Addr) (cs : Int × Int × Int), e = .returned (.tuple #[.pointer p, .agg #[.int .i64 cs.1, .int .i64 cs.2.1, .int .i64 cs.2.2]]) ∧ (p = none ∨ ∃ g, p = some ⟨g, 0, none⟩ ∧ Tab w2 g N T ∧ Surf N T) := (by rcases hcase with ⟨hS, g, he, ht, -⟩ | ⟨-, k, a, b, -, he⟩; exact ⟨some ⟨g, 0, none⟩, (0, 0, 0), by rw [he]; unfold witV; rfl, .inr ⟨g, rfl, ht, hS⟩⟩; exact ⟨none, (k, a, b), by rw [he]; unfold witV; rfl, .inl rfl⟩); obtain ⟨⟨k1, k2, k3⟩, rfl, hp2⟩ := hp))
    have hA := (Below.refl w2.heap.size w2).alloc (Nat.le_refl _) (.cells #[.int .i64 k1, .int .i64 k2, .int .i64 k3] 74)
    have HBe := Lib.hid (HBw.out.trans ((hb2.trans (hA.mono hb2.size)).mono HBw.out.size))
    have HP := Lib.hid (show p = none ∨ ∃ g, p = some ⟨g, 0, none⟩ ∧ Tab (w2.alloc (.cells #[.int .i64 k1, .int .i64 k2, .int .i64 k3] 74)) g N T ∧ Surf N T from by
      rcases hp2 with h | ⟨g, h1, h2, h3⟩
      · exact .inl h
      · exact .inr ⟨g, h1, h2.below hA, h3⟩)
    clear hA hp2 hcase hb2
    go_wp2
    go_ret
    refine ⟨?_, HBe.out⟩
    rcases HP.out with h | ⟨g, h1, h2, h3⟩
    · exact .inl (by rw [h]; rfl)
    · exact .inr ⟨g, by rw [h1]; rfl, h2, h3, HS.out.1, HS.out.2⟩
  · go_wp2
    go_ret
    exact ⟨.inl rfl, HBw.out⟩
set_option maxRecDepth 100000 in
theorem rows46_same (v1 v2 : Value) (xs : List Int) (w : World) (h1 : IntsRd w v1 xs) (h2 : IntsRd w v2 xs) (hl : xs.length ≤ 100000) : Calls Tryz.prog 16 #[v1, v2] w fun e w' => e = .returned (.bool true) ∧ Below w.heap.size w w' := by
  obtain ⟨a1, c1, rfl, l1, r1⟩ := h1
  obtain ⟨a2, c2, rfl, l2, r2⟩ := h2
  have R1 := Lib.hid r1
  have R2 := Lib.hid r2
  obtain ⟨n, hn⟩ : ∃ n, xs.length = n := ⟨_, rfl⟩
  rw [hn] at l1 l2 hl ⊢
  have Hn := Lib.hid hn
  clear r1 r2 hn
  go_enter Tryz.func16, Tryz.ntmps16
  go_wp2
  go_loopw [13] (fun i W => ∃ k : Nat, k ≤ n ∧ i = .int .i64 k ∧ ∃ q, W = w.drewN q) (fun i _ => n - (intOf i).toNat)
  case atStart => exact ⟨0, Nat.zero_le _, rfl, 0, rfl⟩
  case round =>
    obtain ⟨k, hk, rfl, q0, rfl⟩ := hrel
    by_cases hlt : k < n
    · obtain ⟨x, hx⟩ : ∃ x, xs[k]? = some x := ⟨xs[k]'(by rw [Hn.out]; exact hlt), List.getElem?_eq_getElem _⟩
      obtain ⟨b1, o1, rfl, hb1, s1⟩ := R1.out k x hx
      obtain ⟨b2, o2, rfl, hb2, s2⟩ := R2.out k x hx
      have hki : (k : Int) < (n : Int) := by omega
      clear hx
      go_upto_region 6 with fail
      go_quiet (fail)
      go_wp2
      go_roundw
      case measure => simp [intOf]; omega
      case rel => exact ⟨k + 1, by omega, by go_num, q0 + nq, by first | rfl | rw [World.drewN_drewN]⟩
    · obtain rfl : k = n := by omega
      go_wp2
      go_ret
      exact ⟨rfl, ⟨rfl, rfl, rfl, Nat.le_refl _, fun _ _ => rfl⟩⟩
set_option maxRecDepth 100000 in
set_option maxHeartbeats 1000000 in
theorem rooted46_none (N c : Int) (v : Value) (T : List Tr) (w : World) (h : TrisRd w v T) (hc : hasC T c = false) (hl : T.length ≤ 100000) :
    Calls Tryz.prog 14 #[.agg #[.int .i64 N, v], .int .i64 c] w fun e w' => e = .returned (.tuple #[.agg #[.int .i64 0, .slice none 0 0], .slice none 0 0, .slice none 0 0]) ∧ Below w.heap.size w w' := by
  have hb1 := (Blk.new w 24 #[.int .i64 N, v]).alloc (.cells #[.int .i64 0, .slice none 0 0] 24)
  have hb2 : Blk ((w.alloc (.cells #[.int .i64 N, v] 24)).alloc (.cells #[.int .i64 0, .slice none 0 0] 24)) (w.heap.size + 1) 24 #[.int .i64 0, .slice none 0 0] := blk_new_at (by simp)
  have hB0 : Below w.heap.size w ((w.alloc (.cells #[.int .i64 N, v] 24)).alloc (.cells #[.int .i64 0, .slice none 0 0] 24)) := ((Below.refl _ _).alloc (Nat.le_refl _) _).alloc (by simp) _
  have hIs := is10_any N c v T _ (h.below hB0) hl
  rw [hc] at hIs
  have HIs := Lib.hid hIs
  obtain ⟨aT, cT, rfl, -⟩ := h
  obtain ⟨l0, x0, -, x1, -⟩ := hb1.two
  have HB0 := Lib.hid hB0
  have HKr := Lib.hid hb2
  clear hb1 hb2 hB0 hIs hc
  go_enter Tryz.func14, Tryz.ntmps14
  go_upto_if 22 with (go_at_call 40; go_loud (with_reducible refine HIs.out.mono ?_; rintro e w1 ⟨rfl, hb⟩))
  have hkr := HKr.out.below hb HKr.out.lt
  obtain ⟨lr, r0, q0, r1, q1⟩ := hkr.two
  have hr3 := (hkr.set_ 0 (.int .i64 0)).set_ 1 (.slice none 0 0)
  have HF := Lib.hid (show Blk _ (w.heap.size + 1) 24 #[.int .i64 0, .slice none 0 0] from by simpa using hr3)
  have HBe := Lib.hid (((HB0.out.trans (hb.mono HB0.out.size)).setCell (p := ⟨w.heap.size + 1, 0, none⟩) (by simp) (.int .i64 0)).setCell (p := ⟨w.heap.size + 1, 1, none⟩) (by simp) (.slice none 0 0))
  clear hkr hr3 hb x0 x1
  go_wp2
  obtain ⟨-, p0, -, p1, -⟩ := HF.out.two
  refine bodyPost_ret (v := .tuple #[.agg #[.int .i64 0, .slice none 0 0], .slice none 0 0, .slice none 0 0]) (by simp [results, Tryz.results14, go_sem, p0, p1]) rfl ?_
  exact ⟨rfl, HBe.out⟩
end Go.Proofs.YtghlnknncahkgaaGreat
/-
  The law CanonForm, by walking its text; what gypsumref46.Form answers is a premise here (RfOk), shown elsewhere.
-/
namespace Go.Proofs.YtghlnknncahkgaaGreat
open Go.RowKit Go.Maps

/-- gypsumref46.Form answers the form. -/
def RfOk : Prop := ∀ (N : Int) (v : Value) (T : List Tr) (w : World), TrisRd w v T → Surf N T → T.length ≤ 24 → N ≤ 60 →
    Calls Tryz.prog 20 #[.agg #[.int .i64 N, v]] w fun e w' => ∃ S O aT cT aO cO, FormIs T S O ∧ e = .returned (.tuple #[.agg #[.int .i64 S.1, .slice aT S.2.length cT], .slice aO O.length cO]) ∧ TrisRd w' (.slice aT S.2.length cT) S.2 ∧ IntsRd w' (.slice aO O.length cO) O ∧ Below w.heap.size w w'
theorem FormIs.lenO {T : List Tr} {S : Int × List Tr} {O : List Int} (h : FormIs T S O) : O.length ≤ 3 * T.length := by
  obtain ⟨out, m, h1, h2, rfl, rfl⟩ := h
  have := flat_O (P := []) (K := []) h1 (h1.hasP h2) m
  rw [List.take_of_length_le (Nat.le_of_eq (sort_len T [] [] out m))] at this
  exact this
set_option maxRecDepth 100000 in
set_option maxHeartbeats 4000000 in
theorem canonForm_walk' (HRf : RfOk) (N0 : Int) (v0 : Value) (T0 : List Tr) (w : World) (h0 : TrisRd w v0 T0) :
    Calls Tryz.prog 4 #[.agg #[.int .i64 N0, v0]] w fun en w' => en = .returned (.bool true) ∧ Below w.heap.size w w' := by
  have hb1 := Blk.new w 24 #[.int .i64 N0, v0]
  have hB0 : Below w.heap.size w (w.alloc (.cells #[.int .i64 N0, v0] 24)) := (Below.refl _ _).alloc (Nat.le_refl _) _
  have HAw := Lib.hid (awake46_any (w.alloc (.cells #[.int .i64 N0, v0] 24)))
  have HGr := Lib.hid (fun (W : World) (hW : Below w.heap.size w W) => great10_any N0 v0 T0 W (h0.below hW))
  have HIs := Lib.hid (fun (W : World) (hW : Below w.heap.size w W) (hl : T0.length ≤ 24) => is_any N0 v0 T0 W (h0.below hW) (by omega))
  have HFm := Lib.hid (fun (W : World) (hW : Below w.heap.size w W) (hl : T0.length ≤ 24) (hN : N0 ≤ 60) => cform_two N0 v0 T0 W (h0.below hW) (by omega) hN)
  have HRF := Lib.hid (fun (W : World) (hW : Below w.heap.size w W) (hS : Surf N0 T0) (hl : T0.length ≤ 24) (hN : N0 ≤ 60) => HRf N0 v0 T0 W (h0.below hW) hS hl hN)
  obtain ⟨a0, c0, rfl, -⟩ := h0
  obtain ⟨n0, hn0⟩ : ∃ n, T0.length = n := ⟨_, rfl⟩
  rw [hn0] at hb1 hB0 HAw HGr HIs HFm HRF ⊢
  have Hn := Lib.hid hn0
  obtain ⟨l0, x0, -, x1, -⟩ := hb1.two
  have HB0 := Lib.hid hB0
  have HK := Lib.hid hb1
  clear hn0 hb1 hB0 HRf
  go_enter Tryz.func4, Tryz.ntmps4
  go_upto_if 9 with (go_at_call 11; go_loud (with_reducible refine HAw.out.mono ?_; rintro e w1 ⟨rfl, hb⟩))
  have hBw := HB0.out.trans (hb.mono HB0.out.size)
  have hk := HK.out.below hb l0
  obtain ⟨l1, y0, -, y1, -⟩ := hk.two
  have HK1 := Lib.hid hk
  have HB1 := Lib.hid hBw
  have HG1 := Lib.hid (HGr.out w1 hBw)
  clear hb hk hBw x0 x1
  by_cases h24 : 24 < n0
  · have d0 : (24 : Int) < (n0 : Int) := by omega
    go_wp2
    go_ret
    exact ⟨rfl, HB1.out⟩
  · have d0 : decide ((24 : Int) < (n0 : Int)) = false := by simp; omega
    have hl24 : n0 ≤ 24 := by omega
    clear h24
    go_upto_if 18 with (go_at_call 17; go_loud (with_reducible refine HG1.out.mono ?_; rintro e w2 ⟨g, rfl, hg, hb2⟩))
    have hB2 := HB1.out.trans (hb2.mono HB1.out.size)
    have hk2 := HK1.out.below hb2 l1
    obtain ⟨l2, z0, -, z1, -⟩ := hk2.two
    have HB2 := Lib.hid hB2
    have HK2 := Lib.hid hk2
    clear hb2 hB2 hk2 y0 y1
    rcases hg with ⟨rfl, -, hN⟩ | rfl
    · have HF2 := Lib.hid (HFm.out w2 HB2.out hl24 hN)
      have hz2 := HB2.out.size
      go_upto_region 6 with (go_at_call 18; go_loud (with_reducible refine HF2.out.mono ?_; rintro e w3 ⟨S, O, aT, cT, aO, cO, er, rfl, hT3, hO3, hs3, hcs, hb3⟩))
      have hA3 := (Below.refl w3.heap.size w3).alloc (Nat.le_refl _) (.cells #[.int .i64 S.1, .slice aT S.2.length cT] 24)
      have hB3 := HB2.out.trans ((hb3.trans (hA3.mono hb3.size)).mono hz2)
      have hk3 := (HK2.out.below hb3 l2).below hA3 (Nat.lt_of_lt_of_le l2 hb3.size)
      have hr3 := Blk.new w3 24 #[.int .i64 S.1, .slice aT S.2.length cT]
      have hT3 := hT3.below hA3
      have hO3 := hO3.below hA3
      generalize w3.alloc (.cells #[.int .i64 S.1, .slice aT S.2.length cT] 24) = W3 at *
      generalize w3.heap.size = q3 at *
      obtain ⟨l3, y0, -, y1, -⟩ := hk3.two
      have HB3 := Lib.hid hB3
      have HI3 := Lib.hid (HIs.out W3 hB3 hl24)
      have HT3 := Lib.hid (And.intro hk3 (And.intro hr3 (And.intro hT3 hO3)))
      have hz3 := hB3.size
      clear hA3 hB3 hk3 hr3 hT3 hO3 hb3 z0 z1 l2
      go_upto_if 27 with (go_at_call 19; go_loud (with_reducible refine HI3.out.mono ?_; rintro e w4 ⟨bs, rfl, hbs, hb4⟩))
      have hB4 := HB3.out.trans (hb4.mono hz3)
      have hk4 := HT3.out.1.below hb4 l3
      have hr4 := HT3.out.2.1.below hb4 HT3.out.2.1.lt
      have hT4 := HT3.out.2.2.1.below hb4
      have hO4 := HT3.out.2.2.2.below hb4
      have HB4 := Lib.hid hB4
      have hz4 := hB4.size
      obtain ⟨l4, z0, -, z1, -⟩ := hk4.two
      obtain ⟨l5, u0, -, u1, -⟩ := hr4.two
      have HT4 := Lib.hid (And.intro hk4 (And.intro hr4 (And.intro hT4 hO4)))
      clear hB4 hk4 hr4 hT4 hO4 hb4 y0 y1 l3
      cases bs with
      | false =>
        have hno : ¬ Surf N0 T0 := fun h => by have := hbs.2 h; cases this
        rcases hcs with ⟨-, hS, -⟩ | ⟨rfl, -, rfl, rfl⟩
        · exact absurd hS hno
        · clear hbs hno
          go_wp2
          go_ret
          exact ⟨by simp, HB4.out⟩
      | true =>
        have hS := hbs.1 rfl
        rcases hcs with ⟨rfl, -, hFI⟩ | ⟨-, hno, -⟩
        · have HQ4 := Lib.hid (HRF.out w4 HB4.out hS hl24 hN)
          have HFI := Lib.hid hFI
          clear hbs hS hFI
          go_upto_region 9 with (go_at_call 20; go_loud (with_reducible refine HQ4.out.mono ?_; rintro e w5 ⟨S2, O2, aT2, cT2, aO2, cO2, hF2, rfl, hT5, hO5, hb5⟩))
          obtain ⟨eS, eO⟩ := FormIs.one hF2 HFI.out
          subst eS
          subst eO
          have hA5 := (Below.refl w5.heap.size w5).alloc (Nat.le_refl _) (.cells #[.int .i64 S2.1, .slice aT2 S2.2.length cT2] 24)
          have hBB := hb5.trans (hA5.mono hb5.size)
          have hB5 := HB4.out.trans (hBB.mono hz4)
          have hr5 := HT4.out.2.1.below hBB HT4.out.2.1.lt
          have hs5 := Blk.new w5 24 #[.int .i64 S2.1, .slice aT2 S2.2.length cT2]
          have hTa := HT4.out.2.2.1.below hBB
          have hOa := HT4.out.2.2.2.below hBB
          have hTb := hT5.below hA5
          have hOb := hO5.below hA5
          have hlS := hF2.len
          have hlO := hF2.lenO
          rw [Hn.out] at hlS hlO
          generalize w5.alloc (.cells #[.int .i64 S2.1, .slice aT2 S2.2.length cT2] 24) = W5 at *
          generalize w5.heap.size = q5 at *
          have HB5 := Lib.hid hB5
          have HSm := Lib.hid ((same_any S2.1 S2.1 _ _ S2.2 S2.2 W5 hTa hTb (by omega) (by omega)).mono (R' := fun e w' => e = .returned (.bool true) ∧ Below W5.heap.size W5 w') (by
            rintro e w' ⟨he, hb⟩
            exact ⟨by simpa using he, hb⟩))
          have HRv := Lib.hid (fun (W : World) (hW : Below W5.heap.size W5 W) => rows46_same _ _ O2 W (hOa.below hW) (hOb.below hW) (by omega))
          obtain ⟨l6, r0, -, r1, -⟩ := hr5.two
          obtain ⟨l7, s0, -, s1, -⟩ := hs5.two
          clear hA5 hBB hB5 hr5 hs5 hTa hOa hTb hOb hlS hlO hb5 hT5 hO5 hF2 u0 u1 z0 z1 l4 l5
          go_wp2_with (first
            | (go_at_call 15; go_loud (with_reducible refine HSm.out.mono ?_); rintro e w9 ⟨rfl, hb9⟩)
            | (go_at_call 16; go_loud (with_reducible refine (HRv.out _ hb9).mono ?_); rintro e w8 ⟨rfl, hb8⟩))
          go_ret
          exact ⟨by simp, HB5.out.trans ((hb9.trans (hb8.mono hb9.size)).mono HB5.out.size)⟩
        · exact absurd hS hno
    · go_wp2
      go_ret
      exact ⟨by simp, HB2.out⟩
end Go.Proofs.YtghlnknncahkgaaGreat
/-
  gypsumref46.Order, by walking its text.
-/
namespace Go.Proofs.YtghlnknncahkgaaGreat
open Go.RowKit

set_option maxRecDepth 100000 in
set_option maxHeartbeats 2000000 in
theorem order_any (N1 N2 : Int) (v1 v2 : Value) (T1 T2 : List Tr) (w : World) (h1 : TrisRd w v1 T1) (h2 : TrisRd w v2 T2) (l1 : T1.length ≤ 100000) (_l2 : T2.length ≤ 100000) :
    Calls Tryz.prog 49 #[.agg #[.int .i64 N1, v1], .agg #[.int .i64 N2, v2]] w fun e w' => e = .returned (.int .i64 (ordM N1 T1 N2 T2)) ∧ Below w.heap.size w w' := by
  obtain ⟨a1, c1, rfl, g1, -, -⟩ := id h1
  obtain ⟨a2, c2, rfl, g2, -, -⟩ := id h2
  have b1 := (Blk.new w 24 #[.int .i64 N1, .slice a1 T1.length c1]).alloc (.cells #[.int .i64 N2, .slice a2 T2.length c2] 24)
  have b2 : Blk ((w.alloc (.cells #[.int .i64 N1, .slice a1 T1.length c1] 24)).alloc (.cells #[.int .i64 N2, .slice a2 T2.length c2] 24)) (w.heap.size + 1) 24 #[.int .i64 N2, .slice a2 T2.length c2] := by
    have := Blk.new (w.alloc (.cells #[.int .i64 N1, .slice a1 T1.length c1] 24)) 24 #[.int .i64 N2, .slice a2 T2.length c2]
    rwa [size_alloc'] at this
  have hB : Below w.heap.size w ((w.alloc (.cells #[.int .i64 N1, .slice a1 T1.length c1] 24)).alloc (.cells #[.int .i64 N2, .slice a2 T2.length c2] 24)) := ((Below.refl _ _).alloc (Nat.le_refl _) _).alloc (by simp) _
  obtain ⟨p0, x0, -, x1, -⟩ := b1.two
  obtain ⟨q0, y0, -, y1, -⟩ := b2.two
  have t1 := h1.below hB
  have t2 := h2.below hB
  clear h1 h2
  by_cases hN : N1 = N2
  · subst hN
    have bN : (N1 != N1) = false := by simp
    by_cases hL : T1.length = T2.length
    · have bL : ((T1.length : Int) != (T2.length : Int)) = false := by simp; omega
      have HL := Lib.hid hL
      clear hL
      go_enter Tryz.func49, Tryz.ntmps49
      go_wp2
      generalize (w.alloc (.cells #[.int .i64 N1, .slice a1 T1.length c1] 24)).alloc (.cells #[.int .i64 N1, .slice a2 T2.length c2] 24) = W0 at *
      have HX := Lib.hid (fun (W : World) (hW : Below W0.heap.size W0 W) => And.intro ((hW.cell (p := ⟨w.heap.size, 0, none⟩) p0).trans x0) (And.intro ((hW.cell (p := ⟨w.heap.size, 1, none⟩) p0).trans x1) (And.intro ((hW.cell (p := ⟨w.heap.size + 1, 0, none⟩) q0).trans y0) ((hW.cell (p := ⟨w.heap.size + 1, 1, none⟩) q0).trans y1))))
      have HT1 := Lib.hid t1
      have HT2 := Lib.hid t2
      have HB := Lib.hid hB
      clear x0 x1 y0 y1 b1 b2 t1 t2 hB
      go_loopw [5] (fun i5 wx => ∃ t : Nat, i5 = .int .i64 t ∧ t ≤ T1.length ∧ (flatT T1).take (3 * t) = (flatT T2).take (3 * t) ∧ Below W0.heap.size W0 wx) (fun i5 _ => T1.length - (intOf i5).toNat)
      case atStart => exact ⟨0, rfl, Nat.zero_le _, rfl, Below.refl _ _⟩
      case round =>
        rename World => wx
        obtain ⟨t, rfl, htl, he, hbx⟩ := hrel
        obtain ⟨x0, x1, y0, y1⟩ := HX.out _ hbx
        have HE := Lib.hid he
        have HBX := Lib.hid hbx
        clear he hbx
        by_cases hlt : t < T1.length
        · have hlt3 : (t : Int) < (T1.length : Int) := by omega
          have hlt4 : (t : Int) < (T2.length : Int) := by have := HL.out; omega
          have ht0 : (0 : Int) ≤ (t : Int) := by omega
          have Hlt := Lib.hid hlt
          clear hlt
          go_wp2
          go_loopw [6] (fun i6 wy => ∃ k : Nat, i6 = .int .i64 k ∧ k ≤ 3 ∧ (flatT T1).take (3 * t + k) = (flatT T2).take (3 * t + k) ∧ Below W0.heap.size W0 wy) (fun i6 _ => 3 - (intOf i6).toNat)
          case atStart => exact ⟨0, rfl, by omega, HE.out, HBX.out⟩
          case round =>
            rename World => wy
            clear x0 x1 y0 y1 HBX
            obtain ⟨k, rfl, hk, he, hby⟩ := hrel
            obtain ⟨x0, x1, y0, y1⟩ := HX.out _ hby
            have HE2 := Lib.hid he
            have HBY := Lib.hid hby
            by_cases hk3 : k < 3
            · obtain ⟨b, o, x, rfl, hb, hx, hc⟩ := HT1.out.at_ Hlt.out hk3
              obtain ⟨b', o', y, rfl, hb', hy, hc'⟩ := HT2.out.at_ (t := t) (by have := HL.out; have := Hlt.out; omega) hk3
              have hc2 := (hby.cell (p := ⟨b, _, none⟩) hb).trans hc
              have hc2' := (hby.cell (p := ⟨b', _, none⟩) hb').trans hc'
              have hk4 : (k : Int) < 3 := by omega
              have hk0 : (0 : Int) ≤ (k : Int) := by omega
              by_cases hne : x = y
              · subst hne
                have bx : (x != x) = false := by simp
                have HE3 := Lib.hid (show (flatT T1).take (3 * t + (k + 1)) = (flatT T2).take (3 * t + (k + 1)) from by
                  rw [show 3 * t + (k + 1) = (3 * t + k) + 1 from by omega, List.take_add_one, List.take_add_one, he, hx, hy])
                clear he hby hx hy hc hc' hb hb'
                go_wp2
                go_region
                all_goals
                  go_wp2
                  go_roundw
                  case measure => simp [intOf]; omega
                  case rel => exact ⟨k + 1, by go_num, by omega, HE3.out, HBY.out.drew⟩
              · have bx : (x != y) = true := by simpa using hne
                have HZ := Lib.hid (ordM_f (N := N1) HL.out he hx hy hne)
                clear he hby hx hy hc hc' hb hb' hne
                go_wp2
                go_region
                all_goals
                  go_wp2
                  go_region_with (go_at_call 79; refine (sign_any _ _ _).mono ?_; rintro e w' ⟨rfl, rfl⟩)
                  all_goals
                    go_wp2
                    go_ret
                    exact ⟨by rw [HZ.out]; rfl, HB.out.trans ((HBY.out.drew.drew).mono HB.out.size)⟩
            · obtain rfl : k = 3 := by omega
              clear he hby
              go_wp2
              go_roundw
              case measure => simp [intOf]; omega
              case rel => exact ⟨t + 1, by go_num, by have := Hlt.out; omega, by rw [show 3 * (t + 1) = 3 * t + 3 from by omega]; exact HE2.out, HBY.out⟩
        · obtain rfl : t = T1.length := by omega
          have HZ := Lib.hid (show ordM N1 T1 N1 T2 = 0 from ordM_e (by
            have := HE.out
            have e1 := flatT_length T1
            have e2 := flatT_length T2
            have := HL.out
            rwa [List.take_of_length_le (by omega), List.take_of_length_le (by omega)] at HE) HL.out)
          go_wp2
          go_ret
          exact ⟨by rw [HZ.out]; rfl, HB.out.trans (HBX.out.mono HB.out.size)⟩
    · have hz := ordM_l (N := N1) (T1 := T1) (T2 := T2) hL
      rw [hz]
      have bL : ((T1.length : Int) != (T2.length : Int)) = true := by simp; omega
      have HB := Lib.hid hB
      clear hB t1 t2 b1 b2 hz hL
      go_enter Tryz.func49, Tryz.ntmps49
      go_wp2_with fail
      refine (sign_any _ _ _).mono ?_
      rintro e w' ⟨rfl, rfl⟩
      go_wp2
      go_ret
      exact ⟨rfl, HB.out⟩
  · have hz := ordM_n (T1 := T1) (T2 := T2) hN
    have bN : (N1 != N2) = true := by simpa using hN
    have HB := Lib.hid hB
    rw [hz]
    clear hB t1 t2 b1 b2 hz hN
    go_enter Tryz.func49, Tryz.ntmps49
    go_wp2_with fail
    refine (sign_any _ _ _).mono ?_
    rintro e w' ⟨rfl, rfl⟩
    go_wp2
    go_ret
    exact ⟨rfl, HB.out⟩
end Go.Proofs.YtghlnknncahkgaaGreat
/-
  gypsumref46.least, by walking its text: a part's least form, and the old numbers.
-/
namespace Go.Proofs.YtghlnknncahkgaaGreat
open Go.RowKit Go.Maps

theorem rowC_nil (T : List Tr) (c : Nat) : rowC T [] [] c = rowM ((rtN T c).1.length : Int) (rtN T c).2 := by
  unfold rowC RecM.row fromM
  simp [paintL, sideL, flatT]
theorem ord_row (T : List Tr) (c d : Nat) : ordM ((rtN T c).1.length : Int) (rtN T c).2 ((rtN T d).1.length : Int) (rtN T d).2 = cmpL (rowC T [] [] c) (rowC T [] [] d) := by
  rw [rowC_nil, rowC_nil]
  rfl
/-- The best so far. -/
def LsB (w W : World) (b : Nat) (T : List Tr) (o : Option Nat) : Prop := match o with
  | none => Blk W b 90 #[.int .i64 0, .slice none 0 0, .slice none 0 0]
  | some d => ∃ vT vV, Blk W b 90 #[.int .i64 ((rtN T d).1.length : Int), vT, vV] ∧ W.ownsRow w.heap.size 72 3 vT (rtN T d).2.length (ws3 (rtN T d).2) ∧ W.ownsRow w.heap.size 3 1 vV (rtN T d).1.length (intsV (rtN T d).1)
theorem LsB.below {w W W' : World} {b : Nat} {T : List Tr} {o : Option Nat} (h : LsB w W b T o) (hb : Below W.heap.size W W') : LsB w W' b T o := by
  cases o with
  | none => exact Blk.below h hb (Blk.lt h)
  | some d =>
    obtain ⟨vT, vV, h1, h2, h3⟩ := h
    exact ⟨vT, vV, h1.below hb h1.lt, own_below h2 hb, own_below h3 hb⟩
theorem bestN_lt {rw_ : Nat → List Int} {out : List Int} {n k d : Nat} (h : bestN rw_ out n k = some d) : d < k := (bestN_some h).1
/-- The best is put. -/
theorem ls_put {w W : World} {T : List Tr} {o : Option Nat} {k ln tn : Nat} {aX aY : Option Addr} {cX cY : Nat} {xs ys : Array Value} (h : LsB w W (w.heap.size + 1 + 1) T o) (h0 : Blk W w.heap.size 24 xs) (h1 : Blk W (w.heap.size + 1) 90 ys) (hb : Below w.heap.size w W)
    (hln : (rtN T k).1.length = ln) (htn : (rtN T k).2.length = tn) (hX : W.ownsRow w.heap.size 72 3 (.slice aX tn cX) tn (ws3 (rtN T k).2)) (hY : W.ownsRow w.heap.size 3 1 (.slice aY ln cY) ln (intsV (rtN T k).1)) :
    LsB w (((W.setCell ⟨w.heap.size + 1 + 1, 0, none⟩ (.int .i64 (ln : Int))).setCell ⟨w.heap.size + 1 + 1, 1, none⟩ (.slice aX tn cX)).setCell ⟨w.heap.size + 1 + 1, 2, none⟩ (.slice aY ln cY)) (w.heap.size + 1 + 1) T (some k) ∧
    Blk (((W.setCell ⟨w.heap.size + 1 + 1, 0, none⟩ (.int .i64 (ln : Int))).setCell ⟨w.heap.size + 1 + 1, 1, none⟩ (.slice aX tn cX)).setCell ⟨w.heap.size + 1 + 1, 2, none⟩ (.slice aY ln cY)) w.heap.size 24 xs ∧
    Blk (((W.setCell ⟨w.heap.size + 1 + 1, 0, none⟩ (.int .i64 (ln : Int))).setCell ⟨w.heap.size + 1 + 1, 1, none⟩ (.slice aX tn cX)).setCell ⟨w.heap.size + 1 + 1, 2, none⟩ (.slice aY ln cY)) (w.heap.size + 1) 90 ys ∧
    Below w.heap.size w (((W.setCell ⟨w.heap.size + 1 + 1, 0, none⟩ (.int .i64 (ln : Int))).setCell ⟨w.heap.size + 1 + 1, 1, none⟩ (.slice aX tn cX)).setCell ⟨w.heap.size + 1 + 1, 2, none⟩ (.slice aY ln cY)) := by
  obtain ⟨c0, c1, c2, hB⟩ : ∃ c0 c1 c2, Blk W (w.heap.size + 1 + 1) 90 #[c0, c1, c2] := by
    cases o with
    | none => exact ⟨_, _, _, h⟩
    | some d =>
      obtain ⟨vT, vV, h1, -⟩ := h
      exact ⟨_, _, _, h1⟩
  have b1 := hB.set_ 0 (.int .i64 (ln : Int))
  have b2 := b1.set_ 1 (.slice aX tn cX)
  have b3 := b2.set_ 2 (.slice aY ln cY)
  have hne0 : w.heap.size ≠ w.heap.size + 1 + 1 := by omega
  have hne1 : w.heap.size + 1 ≠ w.heap.size + 1 + 1 := by omega
  refine ⟨⟨.slice aX tn cX, .slice aY ln cY, by rw [hln]; simpa using b3, ?_, ?_⟩, ((h0.far (p := ⟨_, 0, none⟩) hne0 _).far (p := ⟨_, 1, none⟩) hne0 _).far (p := ⟨_, 2, none⟩) hne0 _, ((h1.far (p := ⟨_, 0, none⟩) hne1 _).far (p := ⟨_, 1, none⟩) hne1 _).far (p := ⟨_, 2, none⟩) hne1 _, ((hb.setCell (p := ⟨_, 0, none⟩) (by simp; omega) _).setCell (p := ⟨_, 1, none⟩) (by simp; omega) _).setCell (p := ⟨_, 2, none⟩) (by simp; omega) _⟩
  · rw [htn]
    exact own_alloc_st (own_alloc_st (own_alloc_st hX hB (by decide)) b1 (by decide)) b2 (by decide)
  · rw [hln]
    exact own_alloc_st (own_alloc_st (own_alloc_st hY hB (by decide)) b1 (by decide)) b2 (by decide)
theorem ls_blk {w W : World} {b : Nat} {T : List Tr} {o : Option Nat} (h : LsB w W b T o) : ∃ c0 c1 c2, Blk W b 90 #[c0, c1, c2] := by
  cases o with
  | none => exact ⟨_, _, _, h⟩
  | some d =>
    obtain ⟨vT, vV, h1, -⟩ := h
    exact ⟨_, _, _, h1⟩
set_option maxRecDepth 100000 in
set_option maxHeartbeats 4000000 in
theorem least_any (N : Int) (v vS : Value) (T : List Tr) (out : List Int) (n d : Nat) (w : World) (h : TrisRd w v T) (hS : IntsRd w vS out) (ho : out.length = T.length) (hl : T.length ≤ 1000) (hd : bestN (rowC T [] []) out n (3 * T.length) = some d) :
    Calls Tryz.prog 48 #[.agg #[.int .i64 N, v], vS, .int .i64 (n : Int)] w fun e w' => ∃ vT vV, e = .returned (.agg #[.int .i64 ((rtN T d).1.length : Int), vT, vV]) ∧
      w'.ownsRow w.heap.size 72 3 vT (rtN T d).2.length (ws3 (rtN T d).2) ∧ w'.ownsRow w.heap.size 3 1 vV (rtN T d).1.length (intsV (rtN T d).1) ∧ Below w.heap.size w w' := by
  have hb0 := (Blk.new w 24 #[.int .i64 N, v]).alloc (.cells #[.int .i64 0, .slice none 0 0, .slice none 0 0] 90) |>.alloc (.cells #[.int .i64 0, .slice none 0 0, .slice none 0 0] 90)
  have hb1 : Blk ((w.alloc (.cells #[.int .i64 N, v] 24)).alloc (.cells #[.int .i64 0, .slice none 0 0, .slice none 0 0] 90)) (w.heap.size + 1) 90 #[.int .i64 0, .slice none 0 0, .slice none 0 0] := blk_new_at (by simp)
  have hb1' := hb1.alloc (.cells #[.int .i64 0, .slice none 0 0, .slice none 0 0] 90)
  have hb2 : Blk (((w.alloc (.cells #[.int .i64 N, v] 24)).alloc (.cells #[.int .i64 0, .slice none 0 0, .slice none 0 0] 90)).alloc (.cells #[.int .i64 0, .slice none 0 0, .slice none 0 0] 90)) (w.heap.size + 1 + 1) 90 #[.int .i64 0, .slice none 0 0, .slice none 0 0] := blk_new_at (by simp)
  have hB0 : Below w.heap.size w (((w.alloc (.cells #[.int .i64 N, v] 24)).alloc (.cells #[.int .i64 0, .slice none 0 0, .slice none 0 0] 90)).alloc (.cells #[.int .i64 0, .slice none 0 0, .slice none 0 0] 90)) := (((Below.refl _ _).alloc (Nat.le_refl _) _).alloc (by simp) _).alloc (by simp; omega) _
  have HRt := Lib.hid (fun (k : Nat) (hk : k < 3 * T.length) (W : World) (hW : Below w.heap.size w W) => rooted46_any N k v T W (h.below hW) hk hl)
  obtain ⟨aT, cT, rfl, -⟩ := h
  obtain ⟨aS, cS, rfl, lS, rS⟩ := hS
  obtain ⟨F, hF⟩ : ∃ F, T.length = F := ⟨_, rfl⟩
  have HF := Lib.hid hF
  rw [ho] at lS
  rw [hF] at hb0 hb1' hb2 hB0 HRt hl lS hd ho
  have RS := Lib.hid rS
  have Ho := Lib.hid ho
  have Hd := Lib.hid hd
  have H0 := Lib.hid (And.intro hb0 (And.intro hb1' (And.intro hb2 hB0)))
  rw [hF]
  rw [ho]
  clear ho hb0 hb1 hb1' hb2 hB0 rS hd hF
  go_enter Tryz.func48, Tryz.ntmps48
  go_wp2
  go_loopw [8, 9] (fun b i wr => ∃ k : Nat, k ≤ 3 * F ∧ i = .int .i64 (k : Int) ∧ b = .bool (bestN (rowC T [] []) out n k).isNone ∧ Blk wr w.heap.size 24 #[.int .i64 N, .slice aT F cT] ∧ Blk wr (w.heap.size + 1) 90 #[.int .i64 0, .slice none 0 0, .slice none 0 0] ∧ LsB w wr (w.heap.size + 1 + 1) T (bestN (rowC T [] []) out n k) ∧ Below w.heap.size w wr) (fun _ i _ => 3 * F - (intOf i).toNat)
  case atStart => exact ⟨0, Nat.zero_le _, rfl, rfl, H0.out.1, H0.out.2.1, H0.out.2.2.1, H0.out.2.2.2⟩
  case round =>
    clear H0
    rename World => wr
    obtain ⟨k, hk, rfl, rfl, hK0, hK1, hLb, hb⟩ := hrel
    obtain ⟨l0, x0, -, x1, -⟩ := hK0.two
    have hs1 := hK1.lt
    by_cases hlt : k < 3 * F
    · obtain ⟨kt, hkt⟩ : ∃ kt, k / 3 = kt := ⟨_, rfl⟩
      have hktF : kt < F := by omega
      have e3 : (k : Int) / 3 = (kt : Int) := by omega
      have hk0 : (0 : Int) ≤ (k : Int) := by omega
      have hk1 : (k : Int) ≤ 100000 := by omega
      have hki : (k : Int) < 3 * (F : Int) := by omega
      have hkti : (kt : Int) < (F : Int) := by omega
      have hat9 : out[kt]? = some (at_ out kt) := by
        have hh : kt < out.length := by rw [Ho.out]; exact hktF
        simp [at_, List.getD, List.getElem?_eq_getElem hh]
      obtain ⟨bS, oS, rfl, hbS, sS⟩ := RS.out kt _ hat9
      have sS' := (hb.cell (p := ⟨bS, _, none⟩) hbS).trans sS
      have hbS' := Nat.lt_of_lt_of_le hbS hb.size
      have HKt := Lib.hid hkt
      by_cases hn : at_ out kt = (n : Int)
      · rw [hn] at sS'
        have hsuc := bestN_succ (rowC T [] []) out n k
        rw [hkt, if_pos hn] at hsuc
        have hR9 := HRt.out k hlt wr hb
        have hlens := rtN_lens (T := T) (c := k) (by rw [HF.out]; exact hlt)
        rw [HF.out] at hlens
        obtain ⟨ln, hln⟩ : ∃ ln, (rtN T k).1.length = ln := ⟨_, rfl⟩
        obtain ⟨tn, htn⟩ : ∃ tn, (rtN T k).2.length = tn := ⟨_, rfl⟩
        rw [hln, htn] at hR9 hlens
        have hln1 : ln ≤ 3000 ∧ tn ≤ 1000 := by omega
        obtain ⟨hln2, htn2⟩ := hln1
        clear hlens
        have HR9 := Lib.hid hR9
        have HLn := Lib.hid (And.intro hln htn)
        have HSt := Lib.hid (And.intro hK0 (And.intro hK1 (And.intro hLb (And.intro hb hsuc))))
        clear hK0 hK1 hLb hb hsuc hR9 hat9 sS hkt hn hln htn
        go_upto_region 8 with (go_at_call 14; go_loud (with_reducible refine HR9.out.mono ?_; rintro e w2 ⟨vX, vY, vZ, rfl, hX, hY, hZ, hb2⟩; obtain ⟨aX, cX, rfl⟩ := ownsRow_slice hX; obtain ⟨aY, cY, rfl⟩ := ownsRow_slice hY))
        have hA := (Below.refl w2.heap.size w2).alloc (Nat.le_refl _) (.cells #[.int .i64 (ln : Int), .slice aX tn cX] 24)
        have hBB := hb2.trans (hA.mono hb2.size)
        obtain ⟨hK0, hK1, hLb, hb, hsuc⟩ := HSt.out
        have hK0 := hK0.below hBB hK0.lt
        have hK1 := hK1.below hBB hK1.lt
        have hL3 := hLb.below hBB
        have hb3 := hb.trans (hBB.mono hb.size)
        have hX3 := own_lower (own_below hX hA) hb.size
        have hY3 := own_lower (own_below hY hA) hb.size
        have hQ := Blk.new w2 24 #[.int .i64 (ln : Int), .slice aX tn cX]
        obtain ⟨lq, q0, -, q1, -⟩ := hQ.two
        generalize w2.alloc (.cells #[.int .i64 (ln : Int), .slice aX tn cX] 24) = W3 at *
        generalize w2.heap.size = qq at *
        obtain ⟨cA, cB, cC, hB7⟩ := ls_blk hL3
        obtain ⟨lb7, p0, f0, p1, f1, p2, f2⟩ := hB7.three
        clear hA hBB hX hY hZ hb2 hb hLb hQ x0 x1 l0
        cases hbo : bestN (rowC T [] []) out n k with
        | none =>
          rw [hbo] at hsuc hL3
          have HSu := Lib.hid (show bestN (rowC T [] []) out n (k + 1) = some k from by rw [hsuc]; rfl)
          clear hsuc HSt
          have hPut := ls_put hL3 hK0 hK1 hb3 HLn.out.1 HLn.out.2 hX3 hY3
          have HPut := Lib.hid hPut
          clear hPut hL3 hK0 hK1 hb3 hX3 hY3
          simp only [Option.isNone_none]
          go_wp2
          go_roundw
          case measure => simp [intOf]; omega
          case rel => exact ⟨k + 1, by omega, by go_num, by rw [HSu.out]; rfl, HPut.out.2.1, HPut.out.2.2.1, by rw [HSu.out]; exact HPut.out.1, HPut.out.2.2.2⟩
        | some d' =>
          rw [hbo] at hsuc hL3
          have hd3 := bestN_lt hbo
          obtain ⟨vT', vV', hB', hT', hV'⟩ := id hL3
          have hBe := hB'.cell 0
          obtain ⟨aT', cT', rfl⟩ := ownsRow_slice hT'
          obtain ⟨ld, hld⟩ : ∃ ld, (rtN T d').1.length = ld := ⟨_, rfl⟩
          obtain ⟨td, htd⟩ : ∃ td, (rtN T d').2.length = td := ⟨_, rfl⟩
          have hlens' := rtN_lens (T := T) (c := d') (by rw [HF.out]; omega)
          rw [hld, htd, HF.out] at hlens'
          have hld1 : ld ≤ 3000 ∧ td ≤ 1000 := by omega
          obtain ⟨hld2, htd2⟩ := hld1
          clear hlens'
          rw [hld, htd] at hB'
          clear p0 f0 p1 f1 p2 f2 hB7
          obtain ⟨-, p0, f0, p1, f1, p2, f2⟩ := hB'.three
          have hOr := order_any (ln : Int) (ld : Int) (.slice aX tn cX) (.slice aT' td cT') (rtN T k).2 (rtN T d').2 W3 (by rw [← HLn.out.2]; exact TrisRd.of_row (by rw [HLn.out.2]; exact hX3)) (by rw [← htd]; exact TrisRd.of_row hT') (by rw [HLn.out.2]; omega) (by rw [htd]; omega)
          have e9 := ord_row T k d'
          rw [HLn.out.1, hld] at e9
          rw [e9] at hOr
          have HOr := Lib.hid hOr
          obtain ⟨cm, hcm⟩ : ∃ cm, cmpL (rowC T [] [] k) (rowC T [] [] d') = cm := ⟨_, rfl⟩
          rw [hcm] at HOr
          have hpk : pickC (rowC T [] []) (some d') k = if cm < 0 then some k else some d' := by
            show (if cmpL (rowC T [] [] k) (rowC T [] [] d') < 0 then some k else some d') = _
            rw [hcm]
          rw [hpk] at hsuc
          simp only [Option.isNone_some]
          clear hpk e9 hOr hld htd hcm hbo hBe
          by_cases hlt2 : cm < 0
          · have hdc : decide (cm < 0) = true := by simpa using hlt2
            have HSu := Lib.hid (show bestN (rowC T [] []) out n (k + 1) = some k from by rw [hsuc, if_pos hlt2])
            have hst := HSt
            clear hsuc HSt hst hlt2
            go_upto_if 43 with (go_at_call 49; go_loud (with_reducible refine HOr.out.mono ?_); rintro e w4 ⟨rfl, hb4⟩)
            have hK0 := hK0.below hb4 hK0.lt
            have hK1 := hK1.below hb4 hK1.lt
            have hL4 := hL3.below hb4
            have hb5 := hb3.trans (hb4.mono hb3.size)
            have hX4 := own_below hX3 hb4
            have hY4 := own_below hY3 hb4
            obtain ⟨cA', cB', cC', hB8⟩ := ls_blk hL4
            obtain ⟨lb8, r0, g0, r1, g1, r2, g2⟩ := hB8.three
            have u0 := (hb4.cell (p := ⟨qq, 0, none⟩) lq).trans q0
            have u1 := (hb4.cell (p := ⟨qq, 1, none⟩) lq).trans q1
            have hPut := ls_put hL4 hK0 hK1 hb5 HLn.out.1 HLn.out.2 hX4 hY4
            have HPut := Lib.hid hPut
            clear hPut hL4 hL3 hK0 hK1 hb3 hb5 hX3 hY3 hX4 hY4 hb4 p0 f0 p1 f1 p2 f2 q0 q1 hB' hT' hV' hB8
            go_wp2
            go_roundw
            case measure => simp [intOf]; omega
            case rel => exact ⟨k + 1, by omega, by go_num, by rw [HSu.out]; rfl, HPut.out.2.1, HPut.out.2.2.1, by rw [HSu.out]; exact HPut.out.1, HPut.out.2.2.2⟩
          · have hdc : decide (cm < 0) = false := by simpa using hlt2
            have HSu := Lib.hid (show bestN (rowC T [] []) out n (k + 1) = some d' from by rw [hsuc, if_neg hlt2])
            clear hsuc HSt hlt2
            go_upto_if 43 with (go_at_call 49; go_loud (with_reducible refine HOr.out.mono ?_); rintro e w4 ⟨rfl, hb4⟩)
            have HK := Lib.hid (And.intro (hK0.below hb4 hK0.lt) (And.intro (hK1.below hb4 hK1.lt) (And.intro (hL3.below hb4) (hb3.trans (hb4.mono hb3.size)))))
            clear hL3 hK0 hK1 hb3 hX3 hY3 hb4 p0 f0 p1 f1 p2 f2 q0 q1 hB' hT' hV'
            go_wp2
            go_roundw
            case measure => simp [intOf]; omega
            case rel => exact ⟨k + 1, by omega, by go_num, by rw [HSu.out]; rfl, HK.out.1, HK.out.2.1, by rw [HSu.out]; exact HK.out.2.2.1, HK.out.2.2.2⟩
      · have hsuc := bestN_succ (rowC T [] []) out n k
        rw [hkt, if_neg hn] at hsuc
        have hnb : (at_ out kt != (n : Int)) = true := by simpa using hn
        have HN := Lib.hid (show (bestN (rowC T [] []) out n (k + 1)).isNone = (bestN (rowC T [] []) out n k).isNone ∧ Blk wr w.heap.size 24 #[.int .i64 N, .slice aT F cT] ∧ Blk wr (w.heap.size + 1) 90 #[.int .i64 0, .slice none 0 0, .slice none 0 0] ∧ LsB w wr (w.heap.size + 1 + 1) T (bestN (rowC T [] []) out n (k + 1)) ∧ Below w.heap.size w wr from by rw [hsuc]; exact ⟨rfl, hK0, hK1, hLb, hb⟩)
        clear hK0 hK1 hLb hb hsuc hat9 sS hkt hn
        generalize at_ out kt = ak at *
        generalize (bestN (rowC T [] []) out n k).isNone = bn at *
        go_wp2
        go_roundw
        case measure => simp [intOf]; omega
        case rel => exact ⟨k + 1, by omega, by go_num, by rw [HN.out.1], HN.out.2.1, HN.out.2.2.1, HN.out.2.2.2.1, HN.out.2.2.2.2⟩
    · obtain rfl : k = 3 * F := by omega
      rw [Hd.out] at hLb
      obtain ⟨vT, vV, hB7, hT7, hV7⟩ := hLb
      obtain ⟨aT7, cT7, rfl⟩ := ownsRow_slice hT7
      obtain ⟨aV7, cV7, rfl⟩ := ownsRow_slice hV7
      obtain ⟨lb7, p0, f0, p1, f1, p2, f2⟩ := hB7.three
      obtain ⟨l1, r0, g0, r1, g1, r2, g2⟩ := hK1.three
      have b1 := hK1.set_ 0 (.int .i64 ((rtN T d).1.length : Int))
      have b2 := b1.set_ 1 (.slice aT7 (rtN T d).2.length cT7)
      have b3 := b2.set_ 2 (.slice aV7 (rtN T d).1.length cV7)
      have HB3 := Lib.hid (show Blk _ (w.heap.size + 1) 90 #[.int .i64 ((rtN T d).1.length : Int), .slice aT7 (rtN T d).2.length cT7, .slice aV7 (rtN T d).1.length cV7] from by simpa using b3)
      have HR := Lib.hid (And.intro (own_alloc_st (i := 2) (u := .slice aV7 (rtN T d).1.length cV7) (own_alloc_st (i := 1) (u := .slice aT7 (rtN T d).2.length cT7) (own_alloc_st (i := 0) (u := .int .i64 ((rtN T d).1.length : Int)) hT7 hK1 (by decide)) b1 (by decide)) b2 (by decide)) (And.intro (own_alloc_st (i := 2) (u := .slice aV7 (rtN T d).1.length cV7) (own_alloc_st (i := 1) (u := .slice aT7 (rtN T d).2.length cT7) (own_alloc_st (i := 0) (u := .int .i64 ((rtN T d).1.length : Int)) hV7 hK1 (by decide)) b1 (by decide)) b2 (by decide)) (((hb.setCell (p := ⟨w.heap.size + 1, 0, none⟩) (by simp) (.int .i64 ((rtN T d).1.length : Int))).setCell (p := ⟨w.heap.size + 1, 1, none⟩) (by simp) (.slice aT7 (rtN T d).2.length cT7)).setCell (p := ⟨w.heap.size + 1, 2, none⟩) (by simp) (.slice aV7 (rtN T d).1.length cV7))))
      have hd9 : decide (((3 * F : Nat) : Int) < 3 * (F : Int)) = false := by simp
      clear hB7 hT7 hV7 hK0 hK1 b1 b2 b3 hb
      push_cast at *
      go_wp2
      obtain ⟨-, s0, -, s1, -, s2, -⟩ := HB3.out.three
      refine bodyPost_ret (v := .agg #[.int .i64 ((rtN T d).1.length : Int), .slice aT7 (rtN T d).2.length cT7, .slice aV7 (rtN T d).1.length cV7]) (by simp [results, Tryz.results48, go_sem, s0, s1, s2]) rfl ?_
      exact ⟨_, _, rfl, HR.out.1, HR.out.2.1, HR.out.2.2⟩
end Go.Proofs.YtghlnknncahkgaaGreat
/-
  The document's way to put a part among the others: behind all that aren't greater; and the state after k parts.
-/
namespace Go.Proofs.YtghlnknncahkgaaGreat
open Go.RowKit

theorem insB_at {α : Type} {lt : α → α → Bool} {l : List α} {x : α} {i : Nat} (h1 : ∀ y ∈ l.drop i, lt x y = true) (h2 : ∀ y, 0 < i → l[i - 1]? = some y → lt x y = false) (hi : i ≤ l.length) : insB lt l x = l.take i ++ x :: l.drop i := by
  have e : l.reverse = (l.drop i).reverse ++ (l.take i).reverse := by rw [← List.reverse_append, List.take_append_drop]
  have hp : ∀ y ∈ (l.drop i).reverse, lt x y = true := fun y hy => h1 y (List.mem_reverse.1 hy)
  unfold insB
  rw [e, List.takeWhile_append_of_pos hp, List.dropWhile_append_of_pos hp]
  have hr : (l.take i).reverse.takeWhile (lt x) = [] ∧ (l.take i).reverse.dropWhile (lt x) = (l.take i).reverse := by
    by_cases h0 : i = 0
    · subst h0
      simp
    · have hlt : i - 1 < l.length := by omega
      have e2 : l.take i = l.take (i - 1) ++ [l[i - 1]] := by
        have := List.take_succ_eq_append_getElem hlt
        rw [show i - 1 + 1 = i from by omega] at this
        exact this
      have hf := h2 _ (by omega) (List.getElem?_eq_getElem hlt)
      rw [e2, List.reverse_append, List.reverse_singleton, List.singleton_append]
      simp [hf]
  rw [hr.1, hr.2]
  simp
theorem sortB_snoc {α : Type} (lt : α → α → Bool) (l : List α) (x : α) : sortB lt (l ++ [x]) = insB lt (sortB lt l) x := by
  unfold sortB
  rw [List.foldl_append]
  rfl
theorem recsM_succ (T P : List Tr) (K out : List Int) (m : Nat) : recsM T P K out (m + 1) = recsM T P K out m ++ [fromM T P K (bestC T P K out m)] := by
  unfold recsM
  rw [List.range_succ, List.map_append]
  rfl
theorem sortM_succ (T P : List Tr) (K out : List Int) (m : Nat) : sortM T P K out (m + 1) = insB ltR (sortM T P K out m) (fromM T P K (bestC T P K out m)) := by
  unfold sortM
  rw [recsM_succ, sortB_snoc]
theorem sortM_zero (T P : List Tr) (K out : List Int) : sortM T P K out 0 = [] := rfl
/-- How two parts' soups stand: as their rows. -/
theorem ltR_ord (T : List Tr) (c d : Nat) : ltR (fromM T [] [] c) (fromM T [] [] d) = decide (0 < ordM ((rtN T d).1.length : Int) (rtN T d).2 ((rtN T c).1.length : Int) (rtN T c).2) := by
  rw [ord_row]
  unfold ltR
  have := cmpL_anti (rowC T [] [] d) (rowC T [] [] c)
  show decide (cmpL (rowC T [] [] c) (rowC T [] [] d) < 0) = _
  apply decide_eq_decide.2
  omega
end Go.Proofs.YtghlnknncahkgaaGreat
/-
  gypsumref46.Form's parts as they lie, and the steps of its statement that puts a part among the others.
-/
namespace Go.Proofs.YtghlnknncahkgaaGreat
open Go.RowKit Go.Maps Go.Sort

/-- A part as it lies, and what is meant. -/
structure PrV where
  N : Int
  vT : Value
  vV : Value
  m : RecM
def PrV.enc (x : PrV) : List Value := [.int .i64 x.N, x.vT, x.vV]
theorem PrV.enc_len (x : PrV) : x.enc.length = 3 := rfl
def PrOwn (W : World) (base : Nat) (x : PrV) : Prop := x.N = x.m.N ∧ W.ownsRow base 72 3 x.vT x.m.T.length (ws3 x.m.T) ∧ W.ownsRow base 3 1 x.vV x.m.old.length (intsV x.m.old)
theorem PrOwn.below {W W' : World} {base : Nat} {x : PrV} (h : PrOwn W base x) (hb : Below W.heap.size W W') : PrOwn W' base x := ⟨h.1, own_below h.2.1 hb, own_below h.2.2 hb⟩
/-- The parts so far, in order. -/
structure PsSt (w1 W : World) (vL : Value) (xs : List PrV) (l : List RecM) : Prop where
  map : xs.map (·.m) = l
  own : ∀ x ∈ xs, PrOwn W w1.heap.size x
  row : W.ownsRow w1.heap.size 90 3 vL xs.length (xs.flatMap PrV.enc)
  bel : Below w1.heap.size w1 W
theorem PsSt.below {w1 W W' : World} {vL : Value} {xs : List PrV} {l : List RecM} (h : PsSt w1 W vL xs l) (hb : Below W.heap.size W W') : PsSt w1 W' vL xs l :=
  ⟨h.map, fun x hx => (h.own x hx).below hb, own_below h.row hb, h.bel.trans (hb.mono h.bel.size)⟩
theorem own_nil_part {W : World} {base g : Nat} (h : Blk W g 90 #[]) (hb : base ≤ g) : W.ownsRow base 90 3 (.slice (some ⟨g, 0, none⟩) 0 0) 0 [] := ⟨rfl, .inr ⟨g, 0, #[], rfl, hb, h, Nat.le_refl _, Nat.zero_le _, rfl, rfl⟩⟩
theorem own_one_part {W : World} {base g : Nat} {a b c : Value} (h : Blk W g 90 #[a, b, c]) (hb : base ≤ g) : W.ownsRow base 90 3 (.slice (some ⟨g, 0, none⟩) 1 1) 1 [a, b, c] := ⟨rfl, .inr ⟨g, 1, #[a, b, c], rfl, hb, h, Nat.le_refl _, by decide, rfl, rfl⟩⟩
theorem own_prefix {W : World} {base g k c t : Nat} {e : TypeId} {s : Nat} {xs : List Value} (h : W.ownsRow base e s (.slice (some ⟨g, 0, none⟩) k c) k xs) (ht : t ≤ k) : W.ownsRow base e s (.slice (some ⟨g, 0, none⟩) t c) t (xs.take (t * s)) := by
  rcases h.2 with ⟨e0, _⟩ | ⟨g', cap, cur, e0, hb, hg, h1, h2, h3, h4⟩
  · cases e0
  · injection e0 with e1 e2 e3
    injection e1 with e1
    injection e1 with e1
    subst e1
    subst e3
    refine ⟨by rw [List.length_take, h.1]; exact Nat.min_eq_left (Nat.mul_le_mul_right _ ht), .inr ⟨g, c, cur, rfl, hb, hg, Nat.le_trans ht h1, h2, h3, ?_⟩⟩
    rw [← h4, List.take_take, Nat.min_eq_left (Nat.mul_le_mul_right _ ht)]
theorem step_append_at {P : Program} (w : World) {ops : Array Oper} {o : Oper} {a : Act} {K : Act → World → Prop} {Q : Exit → Act → World → Prop} {E : Prop} (hgd : o.guard = none) (s x : Operand) (t : TypeId)
    (ho : o.op = .call { callee := .builtin .append, args := #[s, x], argTypes := #[t, t] })
    (base : Nat) (e : TypeId) (i : TypeInfo) (z : Value) (size bytes : Nat) (ht : P.underlying t = some (.slice e)) (hi : P.info? e = some i) (hz : i.zero = some z)
    (hsize : i.size = size) (hby : i.bytes = bytes) (hzs : z.cells.size = size) (hsz : 0 < size)
    (v : Value) (n : Nat) (xs : List Value) (hs : a.eval s = v) (hown : w.ownsRow base e size v n xs)
    (ad : Addr) (m c : Nat) (news : List Value) (hx : a.eval x = .slice (some ad) m c) (hl : news.length = m * size) (hnews : ∀ j u, news[j]? = some u → w.cell? (ad.add j) = some u) (h1 : ∀ y ∈ news, y.oneCell' = true) (h63 : n + m ≤ maxLen) (hbytes : (n + m) * bytes ≤ 140737488355328) (hbase : base ≤ w.heap.size)
    (h : ∀ v' w', w'.ownsRow base e size v' (n + m) (xs ++ news) → w.grownBy w' v.ownBlock → (v'.ownBlock = v.ownBlock ∨ v'.ownBlock = some w.heap.size) → K (a.put o.dst v') w') :
    if Region.wanted o (yielded ops a.tmps) = true then Oper.wp P o a w K Q else E := by
  have hw : Region.wanted o (yielded ops a.tmps) = true := by simp [Region.wanted, hgd]
  rw [if_pos hw]
  obtain ⟨v', w', hr, h2, h3, -, h4⟩ := run_append_own_at (P := P) w base t o.type e i z size bytes ht hi hz hsize hby hzs hsz v n xs hown ad m c news hl hnews h1 h63 hbytes hbase
  unfold Oper.wp execOp
  simp only [ho, resolve, invoke, builtin, Sem.run_bind, Sem.run_pure, Result.andThen_ok, List.map_toArray, List.map_cons, List.map_nil, hs, hx, hr]
  exact h v' w' h2 h3 h4
theorem infoPart : (Tryz.prog.info? 90).map (fun i => (i.zero, i.size, i.bytes)) = some (some (.agg #[.int .i64 0, .slice none 0 0, .slice none 0 0]), 3, 56) := by kernel_rfl
theorem PrOwn.one {W : World} {base : Nat} {x : PrV} (h : PrOwn W base x) : ∀ y ∈ x.enc, y.oneCell' = true := by
  intro y hy
  simp only [PrV.enc, List.mem_cons, List.not_mem_nil, or_false] at hy
  rcases hy with rfl | rfl | rfl
  · rfl
  · exact own_one h.2.1
  · exact own_one h.2.2
theorem PsSt.one {w1 W : World} {vL : Value} {xs : List PrV} {l : List RecM} (h : PsSt w1 W vL xs l) : ∀ y ∈ xs.flatMap PrV.enc, y.oneCell' = true := by
  intro y hy
  obtain ⟨x, hx, hy⟩ := List.mem_flatMap.1 hy
  exact (h.own x hx).one y hy
theorem flat_enc (xs : List PrV) (i j : Nat) (hj : j < 3) : (xs.flatMap PrV.enc)[i * 3 + j]? = (xs[i]?).bind (fun x => x.enc[j]?) := by
  induction xs generalizing i with
  | nil => simp
  | cons x xs ih =>
    rw [List.flatMap_cons]
    cases i with
    | zero =>
      rw [Nat.zero_mul, Nat.zero_add, List.getElem?_append_left (by rw [PrV.enc_len]; exact hj)]
      simp
    | succ i =>
      rw [List.getElem?_append_right (by rw [PrV.enc_len]; omega), PrV.enc_len, show (i + 1) * 3 + j - 3 = i * 3 + j from by omega, ih]
      simp
theorem flat_take (xs : List PrV) (t : Nat) : (xs.flatMap PrV.enc).take (t * 3) = (xs.take t).flatMap PrV.enc := by
  induction xs generalizing t with
  | nil => simp
  | cons x xs ih =>
    cases t with
    | zero => simp
    | succ t =>
      rw [List.take_succ_cons, List.flatMap_cons, List.flatMap_cons, List.take_append, PrV.enc_len, show (t + 1) * 3 - 3 = t * 3 from by omega, ih, List.take_of_length_le (by rw [PrV.enc_len]; omega)]
theorem flat_drop (xs : List PrV) (t : Nat) : (xs.flatMap PrV.enc).drop (t * 3) = (xs.drop t).flatMap PrV.enc := by
  induction xs generalizing t with
  | nil => simp
  | cons x xs ih =>
    cases t with
    | zero => simp
    | succ t =>
      rw [List.drop_succ_cons, List.flatMap_cons, List.drop_append, PrV.enc_len, show (t + 1) * 3 - 3 = t * 3 from by omega, ih, List.drop_of_length_le (by rw [PrV.enc_len]; omega)]
      rfl
theorem flat_len (xs : List PrV) : (xs.flatMap PrV.enc).length = xs.length * 3 := by
  induction xs with
  | nil => rfl
  | cons x xs ih => rw [List.flatMap_cons, List.length_append, ih, PrV.enc_len, List.length_cons]; omega
theorem PsSt.len {w1 W : World} {vL : Value} {xs : List PrV} {l : List RecM} (h : PsSt w1 W vL xs l) : xs.length = l.length := by
  rw [← h.map, List.length_map]
/-- The k-th part's cells. -/
theorem PsSt.cells {w1 W : World} {g n c k : Nat} {xs : List PrV} {l : List RecM} {x : PrV} (h : PsSt w1 W (.slice (some ⟨g, 0, none⟩) n c) xs l) (hx : xs[k]? = some x) :
    g < W.heap.size ∧ W.cell? ⟨g, k * 3, none⟩ = some (.int .i64 x.N) ∧ W.cell? ⟨g, k * 3 + 1, none⟩ = some x.vT ∧ W.cell? ⟨g, k * 3 + 2, none⟩ = some x.vV := by
  have hlt : k < xs.length := (List.getElem?_eq_some_iff.1 hx).1
  have hn : n = xs.length := by
    rcases h.row.2 with ⟨e, _⟩ | ⟨g', cap', cur, e, _⟩
    · cases e
    · injection e
  subst hn
  have hc : ∀ j (hj : j < 3), W.cell? ⟨g, k * 3 + j, none⟩ = x.enc[j]? := by
    intro j hj
    rw [h.row.cellAt (k * 3 + j) (by omega), flat_enc _ _ _ hj, hx]
    rfl
  exact ⟨(h.row.lt g rfl).2, hc 0 (by decide), hc 1 (by decide), hc 2 (by decide)⟩
theorem own_some {W : World} {base : Nat} {e : TypeId} {s n m : Nat} {v : Value} {xs : List Value} (h : W.ownsRow base e s v m xs) (hm : m = n + 1) : ∃ g c, v = .slice (some ⟨g, 0, none⟩) (n + 1) c := by
  subst hm
  rcases h.2 with ⟨_, e⟩ | ⟨g, cap, cur, e, _⟩
  · cases e
  · exact ⟨g, cap, e⟩
/-- A part is put among the others. -/
theorem PsSt.ins {w1 W W' : World} {vL v' : Value} {xs : List PrV} {l l' : List RecM} {t n' : Nat} {p : PrV} (h : PsSt w1 W vL xs l) (hp : PrOwn W' w1.heap.size p) (hb : Below W.heap.size W W')
    (hr : W'.ownsRow w1.heap.size 90 3 v' n' ((([] ++ (xs.flatMap PrV.enc).take (t * 3)) ++ p.enc) ++ (xs.flatMap PrV.enc).drop (t * 3))) (ht : t ≤ xs.length) (hn : n' = xs.length + 1) (hl : l' = l.take t ++ p.m :: l.drop t) :
    PsSt w1 W' v' (xs.take t ++ p :: xs.drop t) l' := by
  refine ⟨?_, ?_, ?_, h.bel.trans (hb.mono h.bel.size)⟩
  · rw [hl, ← h.map]
    simp
  · intro x hx
    rcases List.mem_append.1 hx with hx | hx
    · exact (h.own x (List.mem_of_mem_take hx)).below hb
    · rcases List.mem_cons.1 hx with rfl | hx
      · exact hp
      · exact (h.own x (List.mem_of_mem_drop hx)).below hb
  · have e1 : (xs.take t ++ p :: xs.drop t).length = n' := by rw [List.length_append, List.length_take, List.length_cons, List.length_drop, hn]; omega
    have e2 : (xs.take t ++ p :: xs.drop t).flatMap PrV.enc = (([] ++ (xs.flatMap PrV.enc).take (t * 3)) ++ p.enc) ++ (xs.flatMap PrV.enc).drop (t * 3) := by
      rw [List.nil_append, flat_take, flat_drop, List.flatMap_append, List.flatMap_cons, List.append_assoc]
    rw [e1, e2]
    exact hr
theorem rec_ltR {T : List Tr} {c d : Nat} {y rp : RecM} (hr : fromM T [] [] d = rp) (hy : y = fromM T [] [] c) : ltR rp y = decide (0 < ordM y.N y.T ((rtN T d).1.length : Int) (rtN T d).2) := by
  subst hr
  subst hy
  exact ltR_ord T d c
theorem PsSt.get {w1 W : World} {vL : Value} {xs : List PrV} {l : List RecM} (h : PsSt w1 W vL xs l) {k : Nat} (hk : k < l.length) : ∃ x, xs[k]? = some x ∧ l[k]? = some x.m ∧ PrOwn W w1.heap.size x := by
  have hk2 : k < xs.length := by rw [h.len]; exact hk
  refine ⟨xs[k], List.getElem?_eq_getElem hk2, ?_, h.own _ (List.getElem_mem hk2)⟩
  rw [← h.map, List.getElem?_map, List.getElem?_eq_getElem hk2]
  rfl
theorem PsSt.news {w1 W : World} {g n c t : Nat} {xs : List PrV} {l : List RecM} (h : PsSt w1 W (.slice (some ⟨g, 0, none⟩) n c) xs l) : ∀ (j : Nat) (u : Value), ((xs.flatMap PrV.enc).drop (t * 3))[j]? = some u → W.cell? ((⟨g, t * 3, none⟩ : Addr).add j) = some u := by
  intro j u hj
  have hn : n = xs.length := by
    rcases h.row.2 with ⟨e, _⟩ | ⟨g', cap', cur, e, _⟩
    · cases e
    · injection e
  subst hn
  rw [List.getElem?_drop] at hj
  have hlt := (List.getElem?_eq_some_iff.1 hj).1
  rw [flat_len] at hlt
  have hadd : (⟨g, t * 3, none⟩ : Addr).add j = ⟨g, t * 3 + j, none⟩ := by unfold Addr.add; split <;> simp_all
  rw [hadd, h.row.cellAt (t * 3 + j) hlt, hj]
theorem own_prefix' {w1 W : World} {g n c t : Nat} {xs : List PrV} {l : List RecM} (h : PsSt w1 W (.slice (some ⟨g, 0, none⟩) n c) xs l) (ht : t ≤ n) : W.ownsRow w1.heap.size 90 3 (.slice (some ⟨g, 0, none⟩) t c) t ((xs.flatMap PrV.enc).take (t * 3)) := by
  have hn : n = xs.length := by
    rcases h.row.2 with ⟨e, _⟩ | ⟨g', cap', cur, e, _⟩
    · cases e
    · injection e
  subst hn
  exact own_prefix h.row ht
theorem own_ge {v v' : Value} {b s : Nat} (h : v'.ownBlock = v.ownBlock ∨ v'.ownBlock = some s) (hv : ∀ j, v.ownBlock = some j → b ≤ j) (hs : b ≤ s) : ∀ j, v'.ownBlock = some j → b ≤ j := by
  intro j e
  rcases h with h | h
  · exact hv j (h ▸ e)
  · rw [h] at e
    cases e
    exact hs
end Go.Proofs.YtghlnknncahkgaaGreat
/-
  The parts as gypsumref10.Shells numbers them: again and again over all corners, until nothing is new.
-/
namespace Go.Proofs.YtghlnknncahkgaaGreat
open Go.RowKit

/-- In the midst of part n, begun at f: W are numbered so far. -/
structure OfMid (T : List Tr) (f n : Nat) (out : List Int) (W : List Nat) (out' : List Int) : Prop where
  len : out'.length = T.length
  nd : W.Nodup
  lt : ∀ u ∈ W, u < T.length
  free : ∀ u ∈ W, at_ out u = -1
  lab : ∀ u ∈ W, at_ out' u = n
  old : ∀ j, j ∉ W → at_ out' j = at_ out j
  fin : f ∈ W
  reach : ∀ u ∈ W, Reach T f u
theorem OfInv.mid {T : List Tr} {f n : Nat} {out : List Int} (h : OfInv T f n out) (hf : f < T.length) (h0 : at_ out f < 0) : OfMid T f n out [f] (out.set f (n : Int)) := by
  have b := h.begin_ hf h0
  exact ⟨b.len, b.nd, b.lt, b.free, b.lab, b.old, b.fin, b.reach⟩
/-- Who has number n is of W. -/
theorem OfMid.mem {T : List Tr} {f n : Nat} {out : List Int} {W : List Nat} {out' : List Int} (hI : OfInv T f n out) (h : OfMid T f n out W out') {j : Nat} (hj : j < T.length) (e : at_ out' j = (n : Int)) : j ∈ W := by
  refine Classical.byContradiction fun hne => ?_
  rw [h.old j hne] at e
  have := (hI.lo j hj).2
  omega
theorem OfMid.lo {T : List Tr} {f n : Nat} {out : List Int} {W : List Nat} {out' : List Int} (hI : OfInv T f n out) (h : OfMid T f n out W out') {j : Nat} (hj : j < T.length) : -1 ≤ at_ out' j ∧ at_ out' j ≤ n := by
  by_cases e : j ∈ W
  · rw [h.lab j e]
    omega
  · rw [h.old j e]
    have := hI.lo j hj
    omega
/-- Whose number is there already, and across from one of W: he is of W. -/
theorem OfMid.old_in {T : List Tr} (hE : (T.flatMap edges3).Nodup) {f n : Nat} {out : List Int} {W : List Nat} {out' : List Int} {c o : Nat} (hI : OfInv T f n out) (h : OfMid T f n out W out') (hc : c < 3 * T.length) (hW : c / 3 ∈ W) (ho : oppI T (c : Int) = (o : Int)) (h0 : 0 ≤ at_ out' (o / 3)) : o / 3 ∈ W := by
  refine Classical.byContradiction fun hne => ?_
  rw [h.old _ hne] at h0
  have := hI.adj o c (opp_some hc ho).1 (opp_back hE hc ho) h0
  rw [h.free _ hW] at this
  omega
theorem OfMid.add {T : List Tr} {f n : Nat} {out : List Int} {W : List Nat} {out' : List Int} {c o : Nat} (hI : OfInv T f n out) (h : OfMid T f n out W out') (hc : c < 3 * T.length) (hW : c / 3 ∈ W) (ho : oppI T (c : Int) = (o : Int)) (h0 : at_ out' (o / 3) < 0) : OfMid T f n out (W ++ [o / 3]) (out'.set (o / 3) (n : Int)) := by
  have hol := (opp_some hc ho).1
  have hot : o / 3 < T.length := by omega
  have hne : o / 3 ∉ W := fun e => by
    rw [h.lab _ e] at h0
    omega
  refine ⟨by simp [h.len], ?_, ?_, ?_, ?_, ?_, List.mem_append_left _ h.fin, ?_⟩
  · rw [List.nodup_append]
    exact ⟨h.nd, by simp, fun a ha b hb e => by rw [List.mem_singleton.1 hb] at e; exact hne (by rw [← e]; exact ha)⟩
  · intro x hx
    rcases List.mem_append.1 hx with hx | hx
    · exact h.lt x hx
    · rw [List.mem_singleton.1 hx]; exact hot
  · intro x hx
    rcases List.mem_append.1 hx with hx | hx
    · exact h.free x hx
    · rw [List.mem_singleton.1 hx]
      rw [h.old _ hne] at h0
      have := (hI.lo (o / 3) hot).1
      omega
  · intro x hx
    rw [at_set (by rw [h.len]; exact hot)]
    rcases List.mem_append.1 hx with hx | hx
    · rw [if_neg (fun e => hne (by rw [← e]; exact hx))]
      exact h.lab x hx
    · rw [List.mem_singleton.1 hx, if_pos rfl]
  · intro j hj
    rw [at_set (by rw [h.len]; exact hot), if_neg (fun e => hj (by simp [e]))]
    exact h.old j (fun e => hj (List.mem_append_left _ e))
  · intro x hx
    rcases List.mem_append.1 hx with hx | hx
    · exact h.reach x hx
    · rw [List.mem_singleton.1 hx]
      exact Reach.step (h.reach _ hW) hc ho
/-- All across from W are of W: part n is whole. -/
theorem OfMid.finish {T : List Tr} {f n : Nat} {out : List Int} {W : List Nat} {out' : List Int} (hI : OfInv T f n out) (hf : f < T.length) (h : OfMid T f n out W out') (hcl : ∀ c o : Nat, c < 3 * T.length → c / 3 ∈ W → oppI T (c : Int) = (o : Int) → o / 3 ∈ W) : OfInv T (f + 1) (n + 1) out' :=
  OfBfs.finish hI hf ⟨h.len, h.nd, h.lt, h.free, h.lab, h.old, h.fin, h.reach, fun p k' u _ hu hk' o ho => by
    have hm := List.mem_of_getElem? hu
    have hul := h.lt u hm
    exact hcl (3 * u + k') o (by omega) (by rw [show (3 * u + k') / 3 = u from by omega]; exact hm) ho⟩
theorem OfMid.small {T : List Tr} {f n : Nat} {out : List Int} {W : List Nat} {out' : List Int} (h : OfMid T f n out W out') : W.length ≤ T.length := by
  have := Jor.nodup_le (m := List.range T.length) h.nd (fun x hx => List.mem_range.2 (h.lt x hx))
  simpa using this
end Go.Proofs.YtghlnknncahkgaaGreat
/-
  gypsumref10.Shells, by walking its text.
-/
namespace Go.Proofs.YtghlnknncahkgaaGreat
open Go.RowKit Go.Maps

theorem cnt_fin {T : List Tr} {out : List Int} {n : Nat} (hl : out.length = T.length) (h0 : n = 0 ∨ ∃ j, j < T.length ∧ at_ out j + 1 = (n : Int)) (h1 : ∀ j, j < T.length → at_ out j < (n : Int)) : (n : Int) = cntL out := by
  have hb := cntL_bd (out := out) (m := (n : Int)) (fun j hj => h1 j (by omega)) (by omega) out.length (Nat.le_refl _)
  rw [List.take_length] at hb
  rcases h0 with e | ⟨j, hj, e⟩
  · omega
  · have key : ∀ k, k ≤ out.length → ∀ i, i < k → at_ out i + 1 ≤ cntL (out.take k) := by
      intro k
      induction k with
      | zero => intro _ i hi; omega
      | succ k ih =>
        intro hk i hi
        rw [cntL_take (j := k) (out := out) (by omega)]
        by_cases e : i = k
        · subst e
          omega
        · have := ih (by omega) i (by omega)
          omega
    have := key out.length (Nat.le_refl _) j (by omega)
    rw [List.take_length] at this
    omega
set_option maxRecDepth 100000 in
set_option maxHeartbeats 4000000 in
theorem shells10_any (N : Int) (v : Value) (T : List Tr) (w : World) (h : TrisRd w v T) (hE : (T.flatMap edges3).Nodup) (hl : T.length ≤ 1000) :
    Calls Tryz.prog 47 #[.agg #[.int .i64 N, v]] w fun e w' => ∃ vO out m, e = .returned (.tuple #[vO, .int .i64 ((m : Nat) : Int)]) ∧ w'.ownsRow w.heap.size 3 1 vO T.length (intsV out) ∧ Shl T out ∧ (m : Int) = cntL out ∧ Below w.heap.size w w' := by
  obtain ⟨i2, hj2, b20, b21, b22⟩ := info_parts infoInt
  have hb1 := Blk.new w 24 #[.int .i64 N, v]
  have hB0 : Below w.heap.size w (w.alloc (.cells #[.int .i64 N, v] 24)) := (Below.refl _ _).alloc (Nat.le_refl _) _
  have HOp := Lib.hid (fun (k : Nat) (hk : k < 3 * T.length) (W : World) (hW : Below w.heap.size w W) => opp10_any N k v T W (h.below hW) hk (by omega))
  obtain ⟨aT, cT, rfl, -⟩ := h
  obtain ⟨F, hF⟩ : ∃ F, T.length = F := ⟨_, rfl⟩
  have HF := Lib.hid hF
  rw [hF] at hb1 hB0 HOp hl ⊢
  obtain ⟨l0, x0, -, x1, -⟩ := hb1.two
  have HB0 := Lib.hid hB0
  have HK := Lib.hid hb1
  have hz0 := hB0.size
  clear hb1 hB0 hF
  go_enter Tryz.func47, Tryz.ntmps47
  go_upto_region 1 with fail
  generalize w.alloc (.cells #[.int .i64 N, .slice aT F cT] 24) = w1 at *
  have hL2 := own_nil_blk (base := w1.heap.size) (Blk.new w1 3 #[]) (Nat.le_refl _)
  have hb2 : Below w1.heap.size w1 (w1.alloc (.cells #[] 3)) := (Below.refl w1.heap.size w1).alloc (Nat.le_refl _) (.cells #[] 3)
  have H2 := Lib.hid (And.intro hL2 hb2)
  clear hL2 hb2
  go_wp2
  clear x0 x1
  go_loopw [4, 5] (fun vL i wr => ∃ k : Nat, k ≤ F ∧ i = .int .i64 k ∧ wr.ownsRow w1.heap.size 3 1 vL k (intsV (List.replicate k (-1))) ∧ Below w1.heap.size w1 wr) (fun _ i _ => F - (intOf i).toNat)
  case atStart => exact ⟨0, Nat.zero_le _, rfl, H2.out.1, H2.out.2⟩
  case round =>
    rename World => wr
    obtain ⟨k, hk, rfl, hrL, hbr⟩ := hrel
    obtain ⟨l2, y0, -, y1, -⟩ := (HK.out.below hbr l0).two
    have hzr := hbr.size
    by_cases hlt : k < F
    · have hki : (k : Int) < (F : Int) := by omega
      have HA := Lib.hid (And.intro hrL hbr)
      have c6 : k + 1 ≤ maxLen := by unfold maxLen; omega
      have c7 : (k + 1) * 8 ≤ 140737488355328 := by omega
      have hrLa := own_below hrL ((Below.refl wr.heap.size wr).alloc (Nat.le_refl _) (.cells #[.int .i64 (-1)] 3))
      have HLa := Lib.hid hrLa
      clear hrL hbr hrLa
      go_upto_region 4 with (at_builtin; go_loud (refine wpList_append_lies _ rfl (.tmp 19) (.tmp 20) 28 rfl w1.heap.size 3 i2 _ 1 8 Tryz.underlying28 hj2 b20 b21 b22 rfl (by decide) _ _ _ rfl HLa.out ⟨wr.heap.size, 0, none⟩ 1 1 [.int .i64 (-1)] rfl rfl (World.news_of_block (heap_alloc_new _ _)) (by simp [Value.oneCell']) (by decide) c6 c7 (by simp; omega) (wr.heap.size + 1) (by simp) ?_); go_loud (intro g8 cap8 W8 hr8 hg8 hat8 hlt8))
      have hb8 := (HA.out.2.trans (((Below.refl wr.heap.size wr).alloc (Nat.le_refl _) (.cells #[.int .i64 (-1)] 3)).mono hzr)).grown hg8 (by simp; omega) (fun j e => (HLa.out.lt j e).1)
      have H8 := Lib.hid (And.intro hr8 hb8)
      clear hr8 hg8 hat8 hlt8 hb8
      go_wp2
      go_roundw
      case measure => simp [intOf]; omega
      case rel => exact ⟨k + 1, by omega, by go_num, by rw [rep_snoc]; exact H8.out.1, H8.out.2⟩
    · obtain rfl : F = k := by omega
      obtain ⟨aO, cO, rfl⟩ := ownsRow_slice hrL
      have HI0 := Lib.hid (show OfInv T 0 0 (List.replicate F (-1)) ∧ wr.ownsRow w1.heap.size 3 1 (.slice aO F cO) F (intsV (List.replicate F (-1))) ∧ Below w1.heap.size w1 wr from ⟨by rw [← HF.out]; exact OfInv.start T, hrL, hbr⟩)
      clear hrL hbr H2
      go_wp2
      clear y0 y1
      go_loopw [6, 7] (fun vn vt wx => ∃ (f n : Nat) (out : List Int), f ≤ F ∧ vn = .int .i64 (n : Int) ∧ vt = .int .i64 (f : Int) ∧ n ≤ f ∧ OfInv T f n out ∧ wx.ownsRow w1.heap.size 3 1 (.slice aO F cO) F (intsV out) ∧ Below w1.heap.size w1 wx) (fun _ vt _ => F - (intOf vt).toNat)
      case atStart => exact ⟨0, 0, _, Nat.zero_le _, rfl, rfl, Nat.le_refl _, HI0.out.1, HI0.out.2.1, HI0.out.2.2⟩
      case round =>
        clear HI0
        rename World => wx
        obtain ⟨f, n, out, hf, rfl, rfl, hnf, hI, hrO, hbx⟩ := hrel
        obtain ⟨l3, y0, -, y1, -⟩ := (HK.out.below hbx l0).two
        have hzx := hbx.size
        by_cases hfF : f < F
        · obtain ⟨gO, capO, eO, -, lO⟩ := hrO.form (by omega)
          cases eO
          have hfi : (f : Int) < (F : Int) := by omega
          have holen : out.length = F := by rw [hI.len, HF.out]
          have c0 : wx.cell? ⟨gO, f, none⟩ = some (.int .i64 (at_ out f)) := by
            rw [hrO.cellAt f (by omega), intsV_at (by omega)]
          have fz := hrO.frozenAt f
          by_cases h0 : 0 ≤ at_ out f
          · have HI := Lib.hid (And.intro (hI.skip h0) (And.intro hrO hbx))
            have h0b : decide (0 ≤ at_ out f) = true := by simpa using h0
            clear hI hrO hbx
            generalize at_ out f = af at *
            go_wp2
            go_roundw
            case measure => simp [intOf]; omega
            case rel => exact ⟨f + 1, n, out, by omega, by go_num, by go_num, by omega, HI.out.1, HI.out.2.1, HI.out.2.2⟩
          · have h0b : decide (0 ≤ at_ out f) = false := by simp; omega
            have hm := hI.mid (by rw [HF.out]; exact hfF) (by omega)
            have hst := hrO.stored f (.int .i64 (n : Int))
            rw [intsV_set9] at hst
            have hbs := hbx.grown hst.2 hbx.size (fun j e => by cases e; exact (hrO.lt gO rfl).1)
            have HI := Lib.hid hI
            have HM := Lib.hid (And.intro hm (And.intro hst.1 hbs))
            clear hI hrO hbx hm hst hbs h0
            generalize at_ out f = af at *
            have hni : (n : Int) ≤ 1000 := by omega
            go_wp2
            clear y0 y1 c0 fz
            go_loopg [8] (2 * F + 2) (fun gk b wy => ∃ (bb : Bool) (W : List Nat) (out' : List Int), b = .bool bb ∧ 2 * (F - W.length) + (if bb then 1 else 0) ≤ gk ∧ OfMid T f n out W out' ∧ wy.ownsRow w1.heap.size 3 1 (.slice (some ⟨gO, 0, none⟩) F cO) F (intsV out') ∧ Below w1.heap.size w1 wy ∧ (bb = false → ∀ c o : Nat, c < 3 * T.length → c / 3 ∈ W → oppI T (c : Int) = (o : Int) → o / 3 ∈ W))
            case atStart => exact ⟨true, [f], _, rfl, by simp; omega, HM.out.1, HM.out.2.1, HM.out.2.2, fun h => by cases h⟩
            case round =>
              clear HM
              rename World => wy
              obtain ⟨bb, W, out', rfl, hgk, hM, hrO, hby, hcl⟩ := hrel
              obtain ⟨l4, y0, -, y1, -⟩ := (HK.out.below hby l0).two
              cases bb with
              | false =>
                have hfi2 := hM.finish HI.out (by rw [HF.out]; exact hfF) (hcl rfl)
                have HN := Lib.hid (And.intro hfi2 (And.intro hrO hby))
                clear hfi2 hrO hby hM hcl hgk
                go_wp2
                go_roundw
                case measure => simp [intOf]; omega
                case rel => exact ⟨f + 1, n + 1, out', by omega, by go_num, by go_num, by omega, HN.out.1, HN.out.2.1, HN.out.2.2⟩
              | true =>
                have HM := Lib.hid (And.intro hM (And.intro hrO hby))
                have hWF := hM.small
                rw [HF.out] at hWF
                simp only [if_true] at hgk
                clear hM hrO hby hcl
                go_wp2
                clear y0 y1
                go_loopw [8, 9] (fun b i wz => ∃ (b2 : Bool) (c : Nat) (W2 : List Nat) (out2 : List Int), b = .bool b2 ∧ i = .int .i64 (c : Int) ∧ c ≤ 3 * F ∧ OfMid T f n out W2 out2 ∧ wz.ownsRow w1.heap.size 3 1 (.slice (some ⟨gO, 0, none⟩) F cO) F (intsV out2) ∧ Below w1.heap.size w1 wz ∧ W.length ≤ W2.length ∧ (b2 = true → W.length < W2.length) ∧ (b2 = false → ∀ c' o : Nat, c' < c → c' / 3 ∈ W2 → oppI T (c' : Int) = (o : Int) → o / 3 ∈ W2)) (fun _ i _ => 3 * F - (intOf i).toNat)
                case atStart => exact ⟨false, 0, W, out', rfl, rfl, by omega, HM.out.1, HM.out.2.1, HM.out.2.2, Nat.le_refl _, (fun h => by cases h), fun _ c' o h => absurd h (by omega)⟩
                case round =>
                  clear HM
                  rename World => wz
                  obtain ⟨b2, c, W2, out2, rfl, rfl, hc3, hM, hrO, hbz, hWl, hWt, hcl⟩ := hrel
                  obtain ⟨l5, y0, -, y1, -⟩ := (HK.out.below hbz l0).two
                  have hzz := hbz.size
                  by_cases hc : c < 3 * F
                  · have hcT : c < 3 * T.length := by rw [HF.out]; exact hc
                    obtain ⟨ct, hct⟩ : ∃ ct, c / 3 = ct := ⟨_, rfl⟩
                    have e3 : (c : Int) / 3 = (ct : Int) := by omega
                    have hc0 : (0 : Int) ≤ (c : Int) := by omega
                    have hc1 : (c : Int) ≤ 100000 := by omega
                    have hci : (c : Int) < 3 * (F : Int) := by omega
                    have hctF : ct < F := by omega
                    have hcti : (ct : Int) < (F : Int) := by omega
                    obtain ⟨x, hx⟩ : ∃ x, oppI T (c : Int) = x := ⟨_, rfl⟩
                    have hOc := HOp.out c hc wz (HB0.out.trans (hbz.mono hz0))
                    rw [hx] at hOc
                    have HOc := Lib.hid hOc
                    have Hx := Lib.hid (And.intro hx (And.intro hct hcT))
                    have HMz := Lib.hid (And.intro hM (And.intro hrO (And.intro hbz (And.intro hWl (And.intro hWt hcl)))))
                    clear hM hrO hbz hWl hWt hcl hx hct hOc hcT y0 y1 l5
                    obtain ⟨l5, y0, -, y1, -⟩ := (HK.out.below HMz.out.2.2.1 l0).two
                    go_upto_region 19 with (go_at_call 71; go_loud (with_reducible refine HOc.out.mono ?_; rintro e wa ⟨rfl, hba⟩))
                    obtain ⟨hM, hrO, hbz, hWl, hWt, hcl⟩ := HMz.out
                    obtain ⟨hx, hct, hcT⟩ := Hx.out
                    have hrOa := own_below hrO hba
                    have hbza := hbz.trans (hba.mono hzz)
                    have ho2 : out2.length = F := by rw [hM.len, HF.out]
                    have c1 : wa.cell? ⟨gO, ct, none⟩ = some (.int .i64 (at_ out2 ct)) := by
                      rw [hrOa.cellAt ct (by omega), intsV_at (by omega)]
                    by_cases hn : at_ out2 ct = (n : Int)
                    · have hmem : c / 3 ∈ W2 := by
                        rw [hct]
                        exact hM.mem HI.out (by rw [HF.out]; exact hctF) hn
                      rw [hn] at c1
                      rcases opp_cases T (c : Int) with h1 | ⟨o, h1, ho⟩
                      · have hx1 : x = -1 := hx.symm.trans h1
                        subst hx1
                        have HN := Lib.hid (And.intro hM (And.intro hrOa (And.intro hbza (show b2 = false → ∀ c' o : Nat, c' < c + 1 → c' / 3 ∈ W2 → oppI T (c' : Int) = (o : Int) → o / 3 ∈ W2 from fun hb c' o hc' hm ho => by
                          by_cases e : c' = c
                          · subst e
                            rw [h1] at ho
                            omega
                          · exact hcl hb c' o (by omega) hm ho))))
                        clear hM hrO hbz hcl hrOa hbza hx hct hcT h1 hmem hba
                        go_wp2
                        go_roundw
                        case measure => simp [intOf]; omega
                        case rel => exact ⟨b2, c + 1, W2, out2, rfl, by go_num, by omega, HN.out.1, HN.out.2.1, HN.out.2.2.1, hWl, hWt, HN.out.2.2.2⟩
                      · have hx1 : x = (o : Int) := hx.symm.trans h1
                        subst hx1
                        rw [HF.out] at ho
                        obtain ⟨ot, hot⟩ : ∃ ot, o / 3 = ot := ⟨_, rfl⟩
                        have hot3 : ot < F := by omega
                        have e3o : (o : Int) / 3 = (ot : Int) := by omega
                        have ho0 : (0 : Int) ≤ (o : Int) := by omega
                        have ho1 : (o : Int) ≤ 100000 := by omega
                        have hotI : (ot : Int) < (F : Int) := by omega
                        have c2 : wa.cell? ⟨gO, ot, none⟩ = some (.int .i64 (at_ out2 ot)) := by
                          rw [hrOa.cellAt ot (by omega), intsV_at (by omega)]
                        by_cases hneg : at_ out2 ot < 0
                        · have hngb : decide (at_ out2 ot < 0) = true := by simpa using hneg
                          have hadd := hM.add HI.out hcT hmem h1 (by rw [hot]; exact hneg)
                          rw [hot] at hadd
                          have hst := hrOa.stored ot (.int .i64 (n : Int))
                          rw [intsV_set9] at hst
                          have hbst := hbza.grown hst.2 hbza.size (fun j e => by cases e; exact (hrOa.lt gO rfl).1)
                          have fz := hrOa.frozenAt ot
                          have HN := Lib.hid (And.intro hadd (And.intro hst.1 hbst))
                          clear hM hrO hbz hcl hrOa hbza hx hct hcT h1 hmem hba hadd hst hbst hneg ho hot
                          generalize at_ out2 ot = ao at *
                          go_wp2
                          go_roundw
                          case measure => simp [intOf]; omega
                          case rel => exact ⟨true, c + 1, W2 ++ [ot], _, rfl, by go_num, by omega, HN.out.1, HN.out.2.1, HN.out.2.2, by rw [List.length_append]; omega, fun _ => by rw [List.length_append]; simp; omega, fun h => by cases h⟩
                        · have hngb : decide (at_ out2 ot < 0) = false := by simp; omega
                          have hin := hM.old_in hE HI.out hcT hmem h1 (by rw [hot]; omega)
                          have HN := Lib.hid (And.intro hM (And.intro hrOa (And.intro hbza (show b2 = false → ∀ c' o : Nat, c' < c + 1 → c' / 3 ∈ W2 → oppI T (c' : Int) = (o : Int) → o / 3 ∈ W2 from fun hb c' o' hc' hm ho' => by
                            by_cases e : c' = c
                            · subst e
                              rw [h1] at ho'
                              have : o = o' := by omega
                              rw [← this]
                              exact hin
                            · exact hcl hb c' o' (by omega) hm ho'))))
                          clear hM hrO hbz hcl hrOa hbza hx hct hcT h1 hmem hba hneg ho hot hin
                          generalize at_ out2 ot = ao at *
                          go_wp2
                          go_roundw
                          case measure => simp [intOf]; omega
                          case rel => exact ⟨b2, c + 1, W2, out2, rfl, by go_num, by omega, HN.out.1, HN.out.2.1, HN.out.2.2.1, hWl, hWt, HN.out.2.2.2⟩
                    · have hnb : (at_ out2 ct == (n : Int)) = false := by simpa using hn
                      have HN := Lib.hid (And.intro hM (And.intro hrOa (And.intro hbza (show b2 = false → ∀ c' o : Nat, c' < c + 1 → c' / 3 ∈ W2 → oppI T (c' : Int) = (o : Int) → o / 3 ∈ W2 from fun hb c' o hc' hm ho => by
                        by_cases e : c' = c
                        · subst e
                          rw [hct] at hm
                          exact absurd (hM.lab ct hm) hn
                        · exact hcl hb c' o (by omega) hm ho))))
                      clear hM hrO hbz hcl hrOa hbza hx hct hcT hba hn
                      generalize at_ out2 ct = ac at *
                      go_wp2
                      go_roundw
                      case measure => simp [intOf]; omega
                      case rel => exact ⟨b2, c + 1, W2, out2, rfl, by go_num, by omega, HN.out.1, HN.out.2.1, HN.out.2.2.1, hWl, hWt, HN.out.2.2.2⟩
                  · obtain rfl : c = 3 * F := by omega
                    have hsm := hM.small
                    rw [HF.out] at hsm
                    have HN := Lib.hid (And.intro hM (And.intro hrO (And.intro hbz hcl)))
                    have hd : decide (((3 * F : Nat) : Int) < 3 * (F : Int)) = false := by simp
                    clear hM hrO hbz hcl
                    push_cast at *
                    go_wp2
                    go_roundg (2 * (F - W2.length) + (if b2 then 1 else 0))
                    case measure => cases b2 <;> simp at hWt ⊢ <;> omega
                    case rel => exact ⟨b2, W2, out2, rfl, Nat.le_refl _, HN.out.1, HN.out.2.1, HN.out.2.2.1, fun hb c' o hc' hm ho => HN.out.2.2.2 hb c' o (by rw [HF.out] at hc'; exact hc') hm ho⟩
        · obtain rfl : F = f := by omega
          rw [← HF.out] at hI
          obtain ⟨s1, s2, s3⟩ := hI.finish
          have HR := Lib.hid (And.intro s1 (And.intro (cnt_fin hI.len s2 s3) (And.intro hrO hbx)))
          clear hI hrO hbx s1 s2 s3
          go_wp2
          refine bodyPost_ret (v := .tuple #[.slice aO F cO, .int .i64 (n : Int)]) (by simp [results, Tryz.results47, go_sem]) rfl ?_
          exact ⟨_, out, n, rfl, own_lower HR.out.2.2.1 hz0, HR.out.1, HR.out.2.1, HB0.out.trans (HR.out.2.2.2.mono hz0)⟩
end Go.Proofs.YtghlnknncahkgaaGreat
/-
  gypsumref46.Form, by walking its text: the form of a surface, and the old numbers.
-/
namespace Go.Proofs.YtghlnknncahkgaaGreat
open Go.RowKit Go.Maps Go.Sort

theorem own_capP {w : World} {base n s g cap m : Nat} {e : TypeId} {xs : List Value} (h : w.ownsRow base e s (.slice (some ⟨g, 0, none⟩) m cap) n xs) : n ≤ cap := by
  rcases h.2 with ⟨e, _⟩ | ⟨g, cap, cur, e, _, _, k1, _⟩
  · cases e
  · cases e
    exact k1
theorem own_alloc9 {W : World} {base n s : Nat} {v : Value} {e : TypeId} {xs : List Value} (h : W.ownsRow base e s v n xs) (o : Obj) : (W.alloc o).ownsRow base e s v n xs := own_below h ((Below.refl _ _).alloc (Nat.le_refl _) _)
/-- The form as it is joined: the soup in block b, the old numbers. -/
structure FjSt (w W : World) (b : Nat) (N : Int) (T : List Tr) (vT vO : Value) (O : List Int) : Prop where
  k4 : Blk W b 24 #[.int .i64 N, vT]
  rT : W.ownsRow w.heap.size 72 3 vT T.length (ws3 T)
  rO : W.ownsRow w.heap.size 3 1 vO O.length (intsV O)
  bel : Below w.heap.size w W
  l4 : w.heap.size ≤ b
section
variable {w W W' w4 : World} {b : Nat} {N N' : Int} {T : List Tr} {vT vO : Value} {O : List Int}
theorem FjSt.below (h : FjSt w W b N T vT vO O) (hb : Below W.heap.size W W') : FjSt w W' b N T vT vO O :=
  ⟨h.k4.below hb h.k4.lt, own_below h.rT hb, own_below h.rO hb, h.bel.trans (hb.mono h.bel.size), h.l4⟩
theorem FjSt.alloc (h : FjSt w W b N T vT vO O) (o : Obj) : FjSt w (W.alloc o) b N T vT vO O := h.below ((Below.refl _ _).alloc (Nat.le_refl _) _)
theorem FjSt.appT (h : FjSt w W b N T vT vO O) (hg : W.grownBy w4 vT.ownBlock) {v4 : Value} {T4 : List Tr} (hr : w4.ownsRow w.heap.size 72 3 v4 T4.length (ws3 T4)) :
    Blk w4 b 24 #[.int .i64 N, vT] ∧ FjSt w (w4.setCell ⟨b, 1, none⟩ v4) b N T4 v4 vO O := by
  have c4 := h.k4.grown hg (fun e => own_blk_ne h.rT h.k4 (by decide) e.symm)
  have o4 := h.rO.kept hg (own_own_ne h.rO h.rT (by decide))
  have hS : w4.grownBy (w4.setCell ⟨b, 1, none⟩ v4) (some b) := gStR (World.grownBy.refl _ _)
  exact ⟨c4, ⟨by simpa using c4.set_ 1 v4, hr.kept hS (.inr (own_blk_ne hr c4 (by decide))), o4.kept hS (.inr (own_blk_ne o4 c4 (by decide))), (h.bel.grown hg h.bel.size (fun j e => (h.rT.lt j e).1)).setCell h.l4 _, h.l4⟩⟩
theorem FjSt.appO (h : FjSt w W b N T vT vO O) (hg : W.grownBy w4 vO.ownBlock) {v4 : Value} {O4 : List Int} (hr : w4.ownsRow w.heap.size 3 1 v4 O4.length (intsV O4)) : FjSt w w4 b N T vT v4 O4 :=
  ⟨h.k4.grown hg (fun e => own_blk_ne h.rO h.k4 (by decide) e.symm), h.rT.kept hg (own_own_ne h.rT h.rO (by decide)), hr, h.bel.grown hg h.bel.size (fun j e => (h.rO.lt j e).1), h.l4⟩
theorem FjSt.setN (h : FjSt w W b N T vT vO O) : FjSt w (W.setCell ⟨b, 0, none⟩ (.int .i64 N')) b N' T vT vO O :=
  ⟨by simpa using h.k4.set_ 0 (.int .i64 N'), own_alloc_st h.rT h.k4 (by decide), own_alloc_st h.rO h.k4 (by decide), h.bel.setCell h.l4 _, h.l4⟩
end
theorem own_nil_int {W : World} {base g : Nat} (h : Blk W g 3 #[]) (hb : base ≤ g) : W.ownsRow base 3 1 (.slice (some ⟨g, 0, none⟩) 0 0) 0 [] := ⟨rfl, .inr ⟨g, 0, #[], rfl, hb, h, Nat.le_refl _, Nat.zero_le _, rfl, rfl⟩⟩
theorem infoInt9 : (Tryz.prog.info? 3).map (fun i => (i.zero, i.size, i.bytes)) = some (some (.int .i64 0), 1, 8) := by kernel_rfl
theorem soupsM_take (l : List RecM) (j : Nat) : soupsM (l.take j) = (soupsM l).take j := by simp [soupsM]
theorem soupsM_get {l : List RecM} {j : Nat} {x : RecM} (h : l[j]? = some x) : (soupsM l)[j]? = some (x.N, x.T) := by simp [soupsM, h]
theorem old_take {l : List RecM} {j : Nat} {x : RecM} (h : l[j]? = some x) : (l.take (j + 1)).flatMap (·.old) = (l.take j).flatMap (·.old) ++ x.old := by
  obtain ⟨hk, he⟩ := List.getElem?_eq_some_iff.1 h
  rw [List.take_succ_eq_append_getElem hk, he]
  simp
set_option maxRecDepth 100000 in
set_option maxHeartbeats 4000000 in
theorem form46_any (N : Int) (v : Value) (T : List Tr) (w : World) (h : TrisRd w v T) (hS : Surf N T) (hl : T.length ≤ 24) (hN : N ≤ 60) :
    Calls Tryz.prog 20 #[.agg #[.int .i64 N, v]] w fun e w' => ∃ S O aT cT aO cO, FormIs T S O ∧ e = .returned (.tuple #[.agg #[.int .i64 S.1, .slice aT S.2.length cT], .slice aO O.length cO]) ∧ TrisRd w' (.slice aT S.2.length cT) S.2 ∧ IntsRd w' (.slice aO O.length cO) O ∧ Below w.heap.size w w' := by
  obtain ⟨iP, hjP, bP0, bP1, bP2⟩ := info_parts infoPart
  have hb1 := (Blk.new w 24 #[.int .i64 N, v]).alloc (.cells #[.int .i64 0, .slice none 0 0] 24)
  have hb2 : Blk ((w.alloc (.cells #[.int .i64 N, v] 24)).alloc (.cells #[.int .i64 0, .slice none 0 0] 24)) (w.heap.size + 1) 24 #[.int .i64 0, .slice none 0 0] := blk_new_at (by simp)
  have hB0 : Below w.heap.size w ((w.alloc (.cells #[.int .i64 N, v] 24)).alloc (.cells #[.int .i64 0, .slice none 0 0] 24)) := ((Below.refl _ _).alloc (Nat.le_refl _) _).alloc (by simp) _
  have HSh := Lib.hid (shells10_any N v T _ (h.below hB0) hS.twice (by omega))
  have HLs := Lib.hid (fun (vS : Value) (out : List Int) (n d : Nat) (W : World) (hW : Below w.heap.size w W) (hv : IntsRd W vS out) (ho : out.length = T.length) (hd : bestN (rowC T [] []) out n (3 * T.length) = some d) => least_any N v vS T out n d W (h.below hW) hv ho (by omega) hd)
  obtain ⟨aT, cT, rfl, -⟩ := h
  obtain ⟨F, hF⟩ : ∃ F, T.length = F := ⟨_, rfl⟩
  have HF := Lib.hid hF
  have HS := Lib.hid hS
  rw [hF] at hb1 hb2 hB0 HSh hl HLs
  rw [hF]
  obtain ⟨l0, x0, -, x1, -⟩ := hb1.two
  have HB0 := Lib.hid hB0
  have HK := Lib.hid hb1
  have HKr := Lib.hid hb2
  clear hb1 hb2 hB0 hF hS
  go_enter Tryz.func20, Tryz.ntmps20
  go_upto_region 2 with (go_at_call 47; go_loud (with_reducible refine HSh.out.mono ?_; rintro e w1 ⟨vS, out, m, rfl, hrS, hsh, hm, hb⟩; have Hm := Lib.hid hm; clear hm))
  obtain ⟨aS, cS, rfl⟩ := ownsRow_slice hrS
  have hBw := HB0.out.trans (hb.mono HB0.out.size)
  have hk := HK.out.below hb l0
  have hkr := HKr.out.below hb HKr.out.lt
  obtain ⟨l1, y0, -, y1, -⟩ := hk.two
  have HB1 := Lib.hid hBw
  have HK1 := Lib.hid hk
  have HKr1 := Lib.hid hkr
  have hz1 := hBw.size
  have Hsh := Lib.hid hsh
  have HmP := Lib.hid (hsh.hasP Hm.out)
  have hol : out.length = F := by rw [hsh.len, HF.out]
  have HvS := Lib.hid (show IntsRd w1 (.slice aS F cS) out from IntsRd.of_row hrS hol)
  have hm20 : m ≤ 20 := by have := (hsh.hasP Hm.out).le HS.out hsh; have := HS.out.n0; omega
  clear hb hBw hk hkr x0 x1 hrS hsh
  have HP0 := Lib.hid (show PsSt w1 (w1.alloc (.cells #[] 90)) (.slice (some ⟨w1.heap.size, 0, none⟩) 0 0) [] (sortM T [] [] out 0) from
    ⟨rfl, (fun x hx => by cases hx), own_nil_part (Blk.new w1 _ _) (Nat.le_refl _), (Below.refl _ _).alloc (Nat.le_refl _) _⟩)
  go_wp2
  clear y0 y1
  go_loopw [6, 7] (fun vL i wr => ∃ k : Nat, k ≤ m ∧ i = .int .i64 k ∧ ∃ gL cL xs, vL = .slice (some ⟨gL, 0, none⟩) k cL ∧ PsSt w1 wr vL xs (sortM T [] [] out k)) (fun _ i _ => m - (intOf i).toNat)
  case atStart => exact ⟨0, Nat.zero_le _, rfl, _, _, [], rfl, HP0.out⟩
  case round =>
    clear HP0
    rename World => wr
    obtain ⟨k, hk, rfl, gL, cL, xs, rfl, hP⟩ := hrel
    obtain ⟨l2, y0, -, y1, -⟩ := (HK1.out.below hP.bel l1).two
    have hzr := hP.bel.size
    by_cases hkm : k < m
    · have hki : (k : Int) < (m : Int) := by omega
      obtain ⟨hbn, hbl, hba⟩ := bestC_ok (P := []) (K := []) HmP.out hkm
      obtain ⟨d, hd⟩ : ∃ d, bestC T [] [] out k = d := ⟨_, rfl⟩
      have hsu := sortM_succ T [] [] out k
      rw [hd] at hbn hbl hsu
      have HLk := Lib.hid (HLs.out (.slice aS F cS) out k d wr (HB1.out.trans (hP.bel.mono hz1)) (HvS.out.below hP.bel) (by rw [hol]) (by rw [← HF.out]; exact hbn))
      have Hsu := Lib.hid hsu
      have HP := Lib.hid hP
      have HDl := Lib.hid hbl
      clear hP hbn hbl hba hd hsu
      go_upto_region 7 with (go_at_call 48; go_loud (with_reducible refine HLk.out.mono ?_; rintro e w2 ⟨vX, vY, rfl, hX, hY, hb2⟩; obtain ⟨aX, cX, rfl⟩ := ownsRow_slice hX; obtain ⟨aY, cY, rfl⟩ := ownsRow_slice hY))
      clear HLk
      generalize hR9 : rtN T d = R9 at *
      have HR9 := Lib.hid hR9
      have hlens := rtN_lens (T := T) (c := d) HDl.out
      rw [hR9] at hlens
      have hR9l : R9.2.length ≤ 1000 := by have := HF.out; omega
      have hR9m : R9.1.length ≤ 1000 := by have := HF.out; omega
      clear hlens hR9
      have hA := (Below.refl w2.heap.size w2).alloc (Nat.le_refl _) (.cells #[.int .i64 (R9.1.length : Int), .slice aX R9.2.length cX, .slice aY R9.1.length cY] 90)
      have hBB := hb2.trans (hA.mono hb2.size)
      have hP2 := HP.out.below hBB
      have hq2 := Blk.new w2 90 #[.int .i64 (R9.1.length : Int), .slice aX R9.2.length cX, .slice aY R9.1.length cY]
      have hX2 := own_lower (own_below hX hA) hzr
      have hY2 := own_lower (own_below hY hA) hzr
      generalize w2.alloc (.cells #[.int .i64 (R9.1.length : Int), .slice aX R9.2.length cX, .slice aY R9.1.length cY] 90) = W2 at *
      generalize w2.heap.size = q8 at *
      have H2 := Lib.hid (And.intro hP2 (And.intro hq2 (And.intro hX2 hY2)))
      clear hA hBB hP2 hq2 hX2 hY2 hX hY hb2 y0 y1 l2
      go_wp2
      obtain ⟨rp, hrp⟩ : ∃ rp, fromM T [] [] d = rp := ⟨_, rfl⟩
      obtain ⟨l, hsl⟩ : ∃ l, sortM T [] [] out k = l := ⟨_, rfl⟩
      have hll : l.length = k := by rw [← hsl]; exact sort_len T [] [] out k
      have hmem : ∀ y ∈ l, ∃ c, c < 3 * T.length ∧ y = fromM T [] [] c := fun y hy => sort_mem (m := k) (fun n hn => HmP.out n (by omega)) (by rw [hsl]; exact hy)
      rw [hsl] at H2
      have HMem := Lib.hid hmem
      have Hll := Lib.hid hll
      have Hrp := Lib.hid hrp
      have Hsl := Lib.hid hsl
      have Hll2 := Lib.hid hll
      clear hmem hll hrp hsl
      go_loopw [9] (fun i wy => ∃ t : Nat, t ≤ k ∧ i = .int .i64 (t : Int) ∧ Below W2.heap.size W2 wy ∧ ∀ y ∈ l.drop t, ltR rp y = true) (fun i _ => (intOf i).toNat)
      case atStart => exact ⟨k, Nat.le_refl _, rfl, Below.refl _ _, fun y hy => by rw [List.drop_of_length_le (Nat.le_of_eq Hll.out)] at hy; cases hy⟩
      case round =>
        rename World => wy
        obtain ⟨t, htk, rfl, hby, hall⟩ := hrel
        have HB := Lib.hid hby
        have HAl := Lib.hid hall
        have hzy : w1.heap.size ≤ wy.heap.size := Nat.le_trans H2.out.1.bel.size HB.out.size
        have HPW := Lib.hid (fun (W : World) (hW : Below wy.heap.size wy W) => (H2.out.1.below HB.out).below hW)
        have hq8 := (H2.out.2.1.below HB.out H2.out.2.1.lt)
        obtain ⟨l8, r0, -, r1, -, r2, -⟩ := hq8.three
        have HX8 := Lib.hid (fun (W : World) (hW : Below wy.heap.size wy W) => (show W.ownsRow w1.heap.size 72 3 (.slice aX R9.2.length cX) R9.2.length (ws3 R9.2) from own_below (own_below H2.out.2.2.1 HB.out) hW))
        have HY8 := Lib.hid (fun (W : World) (hW : Below wy.heap.size wy W) => (show W.ownsRow w1.heap.size 3 1 (.slice aY R9.1.length cY) R9.1.length (intsV R9.1) from own_below (own_below H2.out.2.2.2 HB.out) hW))
        have HQ8 := Lib.hid (fun (W : World) (hW : Below wy.heap.size wy W) => hq8.below hW l8)
        obtain ⟨cb, hcb⟩ : ∃ cb : Bool, (if h : 0 < t ∧ t - 1 < l.length then ltR rp (l[t - 1]'h.2) else false) = cb := ⟨_, rfl⟩
        have HCb := Lib.hid hcb
        clear hby hall hq8 hcb
        go_upto_region 8 with fail
        go_cut [45] (fun v45 W => v45 = .bool cb ∧ Below wy.heap.size wy W)
        case first =>
          by_cases ht0 : 0 < t
          · have htl : t - 1 < l.length := by rw [Hll.out]; omega
            obtain ⟨x, hx, hlx, hox⟩ := (HPW.out _ (Below.refl _ _)).get htl
            obtain ⟨g0, c0, c1, c2⟩ := (HPW.out _ (Below.refl _ _)).cells hx
            obtain ⟨aTx, cTx, hvx⟩ := ownsRow_slice hox.2.1
            obtain ⟨N9, vT9, vV9, m9⟩ := x
            simp only at hvx hox hlx c0 c1 c2
            subst hvx
            obtain ⟨t1, ht1⟩ : ∃ t1, t - 1 = t1 := ⟨_, rfl⟩
            rw [ht1] at c0 c1 c2
            have d0 := cell_regrown c0
            have d1 := cell_regrown c1
            have e0 := cell_regrown r0
            have e1 := cell_regrown r1
            have hti : (t : Int) - 1 = (t1 : Int) := by omega
            have ht1k : (t1 : Int) < (k : Int) := by omega
            have hd0 : decide ((0 : Int) < (t : Int)) = true := by simp; omega
            have hm9 : m9 = l[t - 1] := by rw [List.getElem?_eq_getElem htl] at hlx; exact (Option.some.inj hlx).symm
            obtain ⟨c9, hc9, he9⟩ := HMem.out m9 (by rw [hm9]; exact List.getElem_mem htl)
            have hcb : cb = decide (0 < ordM m9.N m9.T (R9.1.length : Int) R9.2) := by
              rw [← HCb.out, dif_pos ⟨ht0, htl⟩, ← hm9, rec_ltR Hrp.out he9, HR9.out]
            have hN9 : N9 = m9.N := hox.1
            subst hN9
            have hlm9 : m9.T.length ≤ 1000 := by
              rw [he9]
              have := rtN_lens (T := T) (c := c9) hc9
              have := HF.out
              show (rtN T c9).2.length ≤ 1000
              omega
            have hOr : ∀ (W : World), Below wy.heap.size wy W → Calls Tryz.prog 49 #[.agg #[.int .i64 m9.N, .slice aTx m9.T.length cTx], .agg #[.int .i64 (R9.1.length : Int), .slice aX R9.2.length cX]] W fun e w' => e = .returned (.int .i64 (ordM m9.N m9.T (R9.1.length : Int) R9.2)) ∧ Below W.heap.size W w' := fun W hW =>
              order_any m9.N (R9.1.length : Int) (.slice aTx m9.T.length cTx) (.slice aX R9.2.length cX) m9.T R9.2 W (TrisRd.of_row (own_below hox.2.1 hW)) (TrisRd.of_row (HX8.out W hW)) (by omega) (by omega)
            generalize ordM m9.N m9.T (R9.1.length : Int) R9.2 = om at *
            have HOr := Lib.hid hOr
            clear hOr hox hlx he9 hm9 hx c2
            refine wp_region_quiet_below (by kernel_rfl) (by kernel_rfl) ?_
            repeat (go_big_quiet_step ((go_at_call 49; exact Calls.regrown_of (HOr.out _ (below_regrown _ _ _)))))
            refine wpQuiet_nil ?_
            intro _ hw'
            obtain ⟨⟨dq, osq⟩, hw''⟩ := hw'
            have hb3 := below_regrown wy dq osq
            subst hw''
            generalize Sort.grow (redrawn wy dq) osq = w3 at *
            go_wp2_with fail
            go_meet
            exact ⟨by rw [hcb], hb3⟩
          · obtain rfl : t = 0 := by omega
            have hcb : cb = false := by rw [← HCb.out, dif_neg (by omega)]
            refine wp_region_quiet_below (by kernel_rfl) (by kernel_rfl) ?_
            repeat (go_big_quiet_step (fail))
            refine wpQuiet_nil ?_
            intro _ hw'
            obtain ⟨⟨dq, osq⟩, hw''⟩ := hw'
            have hb3 := below_regrown wy dq osq
            subst hw''
            generalize Sort.grow (redrawn wy dq) osq = w3 at *
            go_wp2_with fail
            go_meet
            exact ⟨by rw [hcb], hb3⟩
        case rest =>
          obtain ⟨rfl, hbC⟩ := hcut
          rename World => wd
          have HBd := Lib.hid (HB.out.trans (hbC.mono HB.out.size))
          cases cb with
          | true =>
            have h9 := HCb.out
            have ht0 : 0 < t := by
              refine Classical.byContradiction fun hn => ?_
              rw [dif_neg (fun h => hn h.1)] at h9
              cases h9
            have htl : t - 1 < l.length := by rw [Hll.out]; omega
            rw [dif_pos ⟨ht0, htl⟩] at h9
            have HAl2 := Lib.hid (show ∀ y ∈ l.drop (t - 1), ltR rp y = true from by
              intro y hy
              rw [List.drop_eq_getElem_cons htl] at hy
              rcases List.mem_cons.1 hy with rfl | hy
              · exact h9
              · rw [show t - 1 + 1 = t from by omega] at hy
                exact HAl.out y hy)
            clear h9 htl
            obtain ⟨t1, rfl⟩ : ∃ t1, t = t1 + 1 := ⟨t - 1, by omega⟩
            clear r0 r1 r2 l8 hbC
            go_wp2
            go_roundw
            case measure => simp [intOf]
            case rel => exact ⟨t1, by omega, by go_num, HBd.out, HAl2.out⟩
          | false =>
            have HEx := Lib.hid (show ∀ y, 0 < t → l[t - 1]? = some y → ltR rp y = false from by
              intro y h0 hy
              have h9 := HCb.out
              obtain ⟨hl9, e9⟩ := List.getElem?_eq_some_iff.1 hy
              rw [dif_pos ⟨h0, hl9⟩, e9] at h9
              exact h9)
            obtain ⟨hlq, q0, -, q1, -, q2, -⟩ := (HQ8.out wd hbC).three
            have hpw := HPW.out wd hbC
            have hxl := hpw.len
            rw [Hll.out] at hxl
            have HPd := Lib.hid (fun (W : World) (hW : Below wd.heap.size wd W) => hpw.below hW)
            have HpO := Lib.hid (fun (W : World) (hW : Below wd.heap.size wd W) => (show PrOwn W w1.heap.size ⟨(R9.1.length : Int), .slice aX R9.2.length cX, .slice aY R9.1.length cY, rp⟩ from by
              rw [← Hrp.out]
              refine ⟨?_, ?_, ?_⟩
              · show (R9.1.length : Int) = ((rtN T d).1.length : Int)
                rw [HR9.out]
              · show W.ownsRow w1.heap.size 72 3 (.slice aX R9.2.length cX) (rtN T d).2.length (ws3 (rtN T d).2)
                rw [HR9.out]
                exact own_below (HX8.out wd hbC) hW
              · show W.ownsRow w1.heap.size 3 1 (.slice aY R9.1.length cY) (rtN T d).1.length (intsV (rtN T d).1)
                rw [HR9.out]
                exact own_below (HY8.out wd hbC) hW))
            have HL9 := Lib.hid (show sortM T [] [] out (k + 1) = l.take t ++ rp :: l.drop t from by
              rw [Hsu.out, Hsl.out, Hrp.out]
              exact insB_at HAl.out HEx.out (by rw [Hll.out]; exact htk))
            have HQd := Lib.hid (fun (W : World) (hW : Below wd.heap.size wd W) => (HQ8.out wd hbC).below hW hlq)
            have hcap : k ≤ cL := by have := own_capP hpw.row; omega
            have hgL := (hpw.row.lt gL rfl).2
            have hzd : w1.heap.size ≤ wd.heap.size := Nat.le_trans hzy hbC.size
            clear r0 r1 r2 l8 hbC hpw
            have htc : (t : Int) ≤ (cL : Int) := by omega
            have htk2 : (t : Int) ≤ (k : Int) := by omega
            have hkc2 : (k : Int) ≤ (cL : Int) := by omega
            have hzd9 := hzd
            by_cases hct : cL = t
            · subst hct
              obtain rfl : k = cL := by omega
              have HkT := Lib.hid (show k + 1 + 0 = k + 1 from rfl)
              go_upto_region 10 with fail
              have hE1 : Below wd.heap.size wd (wd.alloc (.cells #[] 90)).drew := ((Below.refl _ _).alloc (Nat.le_refl _) _).drew
              have hEP : Below wd.heap.size wd ((wd.alloc (.cells #[] 90)).alloc (.cells #[.int .i64 (R9.1.length : Int), .slice aX R9.2.length cX, .slice aY R9.1.length cY] 90)).drew := (((Below.refl _ _).alloc (Nat.le_refl _) _).alloc (by simp) _).drew
              have hPE : Below wd.heap.size wd ((wd.alloc (.cells #[.int .i64 (R9.1.length : Int), .slice aX R9.2.length cX, .slice aY R9.1.length cY] 90)).alloc (.cells #[] 90)).drew := (((Below.refl _ _).alloc (Nat.le_refl _) _).alloc (by simp) _).drew
              have oE1 : (wd.alloc (.cells #[] 90)).drew.ownsRow wd.heap.size 90 3 (.slice (some ⟨wd.heap.size, 0, none⟩) 0 0) 0 [] := own_nil_part (Blk.new wd _ _).drew (Nat.le_refl _)
              have oEP : ((wd.alloc (.cells #[] 90)).alloc (.cells #[.int .i64 (R9.1.length : Int), .slice aX R9.2.length cX, .slice aY R9.1.length cY] 90)).drew.ownsRow wd.heap.size 90 3 (.slice (some ⟨wd.heap.size, 0, none⟩) 0 0) 0 [] := own_nil_part ((Blk.new wd _ _).alloc _).drew (Nat.le_refl _)
              have oPE : ((wd.alloc (.cells #[.int .i64 (R9.1.length : Int), .slice aX R9.2.length cX, .slice aY R9.1.length cY] 90)).alloc (.cells #[] 90)).drew.ownsRow wd.heap.size 90 3 (.slice (some ⟨wd.heap.size + 1, 0, none⟩) 0 0) 0 [] := own_nil_part (Blk.drew (blk_new_at (by simp))) (by omega)
              have bEP : Blk ((wd.alloc (.cells #[] 90)).alloc (.cells #[.int .i64 (R9.1.length : Int), .slice aX R9.2.length cX, .slice aY R9.1.length cY] 90)).drew (wd.heap.size + 1) 90 #[.int .i64 (R9.1.length : Int), .slice aX R9.2.length cX, .slice aY R9.1.length cY] := Blk.drew (blk_new_at (by simp))
              have bPE : Blk ((wd.alloc (.cells #[.int .i64 (R9.1.length : Int), .slice aX R9.2.length cX, .slice aY R9.1.length cY] 90)).alloc (.cells #[] 90)).drew wd.heap.size 90 #[.int .i64 (R9.1.length : Int), .slice aX R9.2.length cX, .slice aY R9.1.length cY] := ((Blk.new wd _ _).alloc _).drew
              have HOrd := Lib.hid (And.intro hE1 (And.intro oE1 (And.intro hEP (And.intro oEP (And.intro bEP (And.intro hPE (And.intro oPE bPE)))))))
              clear hE1 hEP hPE oE1 oEP oPE bEP bPE
              have c63 : 0 + k ≤ maxLen := by unfold maxLen; omega
              have cby : (0 + k) * 56 ≤ 140737488355328 := by omega
              have cA : ∀ y ∈ (xs.flatMap PrV.enc).take (k * 3), y.oneCell' = true := fun y hy => (HPd.out wd (Below.refl _ _)).one y (List.mem_of_mem_take hy)
              have HcA := Lib.hid cA
              clear cA
              have HSt := Lib.hid (fun (W : World) (hW : Below wd.heap.size wd W) => own_prefix' (HPd.out W hW) htk)
              have HoP := Lib.hid (show ∀ y ∈ [Value.int .i64 (R9.1.length : Int), .slice aX R9.2.length cX, .slice aY R9.1.length cY], y.oneCell' = true from fun y hy => by
                simp only [List.mem_cons, List.not_mem_nil, or_false] at hy
                rcases hy with rfl | rfl | rfl <;> rfl)
              have HcD := Lib.hid (show ∀ y ∈ (xs.flatMap PrV.enc).drop (k * 3), y.oneCell' = true from fun y hy => (HPd.out wd (Below.refl _ _)).one y (List.mem_of_mem_drop hy))
              have HlD := Lib.hid (show ((xs.flatMap PrV.enc).drop (k * 3)).length = 0 * 3 from by rw [List.length_drop, flat_len]; omega)
              have HNw := Lib.hid (fun (W : World) (hW : Below wd.heap.size wd W) => (HPd.out W hW).news (t := k))
              have c64 : k + 1 ≤ maxLen := by unfold maxLen; omega
              have cby2 : (k + 1) * 56 ≤ 140737488355328 := by omega
              have c65 : k + 1 + 0 ≤ maxLen := by unfold maxLen; omega
              have cby3 : (k + 1 + 0) * 56 ≤ 140737488355328 := by omega
              have hxl9 := Lib.hid hxl
              clear hxl
              go_region_held3 (fun w' => w'.cell? ⟨q8, 0, none⟩ = some (.int .i64 (R9.1.length : Int)) ∧ w'.cell? ⟨q8, 1, none⟩ = some (.slice aX R9.2.length cX) ∧ w'.cell? ⟨q8, 2, none⟩ = some (.slice aY R9.1.length cY)) (first | go_keep | exact ⟨(HQd.out _ (by assumption)).cell 0, (HQd.out _ (by assumption)).cell 1, (HQd.out _ (by assumption)).cell 2⟩)
                (first
                | (refine step_append_any (wd.alloc (.cells #[] 90)).drew (by rfl) (.tmp 48) (.tmp 51) 88 (by rfl) wd.heap.size 90 iP _ 3 56 Tryz.underlying88 hjP bP0 bP1 bP2 (by rfl) (by decide) _ 0 [] (by rfl) HOrd.out.2.1 w1.heap.size (.slice (some ⟨gL, 0, none⟩) k k) k ((xs.flatMap PrV.enc).take (k * 3)) (by rfl) (HSt.out _ HOrd.out.1) HcA.out c63 cby (by simp; try omega) ?_; intro vA WA hrA hgA hatA; rw [Nat.zero_add, List.nil_append] at hrA; have hBA := HOrd.out.1.grown hgA (by simp; try omega) (fun j e => (HOrd.out.2.1.lt j e).1); obtain ⟨aA, cA, rfl⟩ := ownsRow_slice hrA; clear hgA hatA)
                | (refine step_append_any ((wd.alloc (.cells #[] 90)).alloc (.cells #[.int .i64 (R9.1.length : Int), .slice aX R9.2.length cX, .slice aY R9.1.length cY] 90)).drew (by rfl) (.tmp 48) (.tmp 51) 88 (by rfl) wd.heap.size 90 iP _ 3 56 Tryz.underlying88 hjP bP0 bP1 bP2 (by rfl) (by decide) _ 0 [] (by rfl) HOrd.out.2.2.2.1 w1.heap.size (.slice (some ⟨gL, 0, none⟩) k k) k ((xs.flatMap PrV.enc).take (k * 3)) (by rfl) (HSt.out _ HOrd.out.2.2.1) HcA.out c63 cby (by simp; try omega) ?_; intro vA WA hrA hgA hatA; rw [Nat.zero_add, List.nil_append] at hrA; have hBA := HOrd.out.2.2.1.grown hgA (by simp; try omega) (fun j e => (HOrd.out.2.2.2.1.lt j e).1); obtain ⟨aA, cA, rfl⟩ := ownsRow_slice hrA; have hPA := HOrd.out.2.2.2.2.1.grown hgA (by simp [Value.ownBlock]); have hnA : (Value.slice aA k cA).ownBlock ≠ some (wd.heap.size + 1) := (by rcases hatA with h | h <;> rw [h] <;> simp [Value.ownBlock] <;> omega); clear hgA hatA)
                | (refine step_append_any ((wd.alloc (.cells #[.int .i64 (R9.1.length : Int), .slice aX R9.2.length cX, .slice aY R9.1.length cY] 90)).alloc (.cells #[] 90)).drew (by rfl) (.tmp 48) (.tmp 51) 88 (by rfl) wd.heap.size 90 iP _ 3 56 Tryz.underlying88 hjP bP0 bP1 bP2 (by rfl) (by decide) _ 0 [] (by rfl) HOrd.out.2.2.2.2.2.2.1 w1.heap.size (.slice (some ⟨gL, 0, none⟩) k k) k ((xs.flatMap PrV.enc).take (k * 3)) (by rfl) (HSt.out _ HOrd.out.2.2.2.2.2.1) HcA.out c63 cby (by simp; try omega) ?_; intro vA WA hrA hgA hatA; rw [Nat.zero_add, List.nil_append] at hrA; have hBA := HOrd.out.2.2.2.2.2.1.grown hgA (by simp; try omega) (fun j e => (HOrd.out.2.2.2.2.2.2.1.lt j e).1); obtain ⟨aA, cA, rfl⟩ := ownsRow_slice hrA; have hPA := HOrd.out.2.2.2.2.2.2.2.grown hgA (by simp [Value.ownBlock]); have hnA : (Value.slice aA k cA).ownBlock ≠ some (wd.heap.size) := (by rcases hatA with h | h <;> rw [h] <;> simp [Value.ownBlock] <;> omega); clear hgA hatA)
                | (refine step_append_at (WA.alloc (.cells #[.int .i64 (R9.1.length : Int), .slice aX R9.2.length cX, .slice aY R9.1.length cY] 90)) (by rfl) (.tmp 52) (.tmp 54) 88 (by rfl) wd.heap.size 90 iP _ 3 56 Tryz.underlying88 hjP bP0 bP1 bP2 (by rfl) (by decide) (.slice aA k cA) k ((xs.flatMap PrV.enc).take (k * 3)) (by rfl) (own_alloc9 hrA _) ⟨WA.heap.size, 0, none⟩ 1 1 [.int .i64 (R9.1.length : Int), .slice aX R9.2.length cX, .slice aY R9.1.length cY] (by rfl) (by rfl) (World.news_of_block (blk_new_at (by simp))) HoP.out c64 cby2 (by have := hBA.size; simp; try omega) ?_; intro vB WB hrB hgB hatB; have hBB := (hBA.alloc hBA.size _).grown hgB (by have := hBA.size; simp; try omega) (fun j e => (hrA.lt j e).1); obtain ⟨aB, cB, rfl⟩ := ownsRow_slice hrB; clear hgB hatB)
                | (refine step_append_at (WA) (by rfl) (.tmp 52) (.tmp 54) 88 (by rfl) wd.heap.size 90 iP _ 3 56 Tryz.underlying88 hjP bP0 bP1 bP2 (by rfl) (by decide) (.slice aA k cA) k ((xs.flatMap PrV.enc).take (k * 3)) (by rfl) hrA ⟨wd.heap.size + 1, 0, none⟩ 1 1 [.int .i64 (R9.1.length : Int), .slice aX R9.2.length cX, .slice aY R9.1.length cY] (by rfl) (by rfl) (World.news_of_block hPA) HoP.out c64 cby2 (by have := hBA.size; simp; try omega) ?_; intro vB WB hrB hgB hatB; have hBB := hBA.grown hgB (by have := hBA.size; simp; try omega) (fun j e => (hrA.lt j e).1); obtain ⟨aB, cB, rfl⟩ := ownsRow_slice hrB; clear hgB hatB)
                | (refine step_append_at (WA) (by rfl) (.tmp 52) (.tmp 54) 88 (by rfl) wd.heap.size 90 iP _ 3 56 Tryz.underlying88 hjP bP0 bP1 bP2 (by rfl) (by decide) (.slice aA k cA) k ((xs.flatMap PrV.enc).take (k * 3)) (by rfl) hrA ⟨wd.heap.size, 0, none⟩ 1 1 [.int .i64 (R9.1.length : Int), .slice aX R9.2.length cX, .slice aY R9.1.length cY] (by rfl) (by rfl) (World.news_of_block hPA) HoP.out c64 cby2 (by have := hBA.size; simp; try omega) ?_; intro vB WB hrB hgB hatB; have hBB := hBA.grown hgB (by have := hBA.size; simp; try omega) (fun j e => (hrA.lt j e).1); obtain ⟨aB, cB, rfl⟩ := ownsRow_slice hrB; clear hgB hatB)
                | (refine step_append_at WB (by rfl) (.tmp 55) (.tmp 58) 88 (by rfl) wd.heap.size 90 iP _ 3 56 Tryz.underlying88 hjP bP0 bP1 bP2 (by rfl) (by decide) (.slice aB (k + 1) cB) (k + 1) _ (by rfl) hrB ⟨gL, 0, none⟩ 0 0 ((xs.flatMap PrV.enc).drop (k * 3)) (by rfl) HlD.out (fun j u hj => by rw [List.eq_nil_of_length_eq_zero HlD.out] at hj; cases hj) HcD.out c65 cby3 (by have := hBB.size; omega) ?_; intro vC WC hrC hgC hatC; have hBC := hBB.grown hgC (by have := hBB.size; omega) (fun j e => (hrB.lt j e).1); obtain ⟨g9, c9, rfl⟩ := own_some hrC (n := k) HkT.out; clear hgC hatC)
                | (fail "zz"))
              all_goals
                have HPn := Lib.hid (PsSt.ins (p := ⟨(R9.1.length : Int), .slice aX R9.2.length cX, .slice aY R9.1.length cY, rp⟩) (t := k) (HPd.out wd (Below.refl _ _)) (HpO.out _ hBC) hBC (by rw [List.nil_append]; exact own_lower hrC hzd) (by have := hxl9.out; omega) (by have := hxl9.out; omega) HL9.out)
                clear hrC hBC hrB hBB hrA hBA
                go_wp2
                go_roundw
                case measure => simp [intOf]; omega
                case rel => exact ⟨k + 1, by omega, by go_num, g9, c9, _, rfl, HPn.out⟩
            · have HkT := Lib.hid (show t + 1 + (k - t) = k + 1 from by omega)
              go_upto_region 10 with fail
              have hE1 : Below wd.heap.size wd (wd.alloc (.cells #[] 90)).drew := ((Below.refl _ _).alloc (Nat.le_refl _) _).drew
              have hEP : Below wd.heap.size wd ((wd.alloc (.cells #[] 90)).alloc (.cells #[.int .i64 (R9.1.length : Int), .slice aX R9.2.length cX, .slice aY R9.1.length cY] 90)).drew := (((Below.refl _ _).alloc (Nat.le_refl _) _).alloc (by simp) _).drew
              have hPE : Below wd.heap.size wd ((wd.alloc (.cells #[.int .i64 (R9.1.length : Int), .slice aX R9.2.length cX, .slice aY R9.1.length cY] 90)).alloc (.cells #[] 90)).drew := (((Below.refl _ _).alloc (Nat.le_refl _) _).alloc (by simp) _).drew
              have oE1 : (wd.alloc (.cells #[] 90)).drew.ownsRow wd.heap.size 90 3 (.slice (some ⟨wd.heap.size, 0, none⟩) 0 0) 0 [] := own_nil_part (Blk.new wd _ _).drew (Nat.le_refl _)
              have oEP : ((wd.alloc (.cells #[] 90)).alloc (.cells #[.int .i64 (R9.1.length : Int), .slice aX R9.2.length cX, .slice aY R9.1.length cY] 90)).drew.ownsRow wd.heap.size 90 3 (.slice (some ⟨wd.heap.size, 0, none⟩) 0 0) 0 [] := own_nil_part ((Blk.new wd _ _).alloc _).drew (Nat.le_refl _)
              have oPE : ((wd.alloc (.cells #[.int .i64 (R9.1.length : Int), .slice aX R9.2.length cX, .slice aY R9.1.length cY] 90)).alloc (.cells #[] 90)).drew.ownsRow wd.heap.size 90 3 (.slice (some ⟨wd.heap.size + 1, 0, none⟩) 0 0) 0 [] := own_nil_part (Blk.drew (blk_new_at (by simp))) (by omega)
              have bEP : Blk ((wd.alloc (.cells #[] 90)).alloc (.cells #[.int .i64 (R9.1.length : Int), .slice aX R9.2.length cX, .slice aY R9.1.length cY] 90)).drew (wd.heap.size + 1) 90 #[.int .i64 (R9.1.length : Int), .slice aX R9.2.length cX, .slice aY R9.1.length cY] := Blk.drew (blk_new_at (by simp))
              have bPE : Blk ((wd.alloc (.cells #[.int .i64 (R9.1.length : Int), .slice aX R9.2.length cX, .slice aY R9.1.length cY] 90)).alloc (.cells #[] 90)).drew wd.heap.size 90 #[.int .i64 (R9.1.length : Int), .slice aX R9.2.length cX, .slice aY R9.1.length cY] := ((Blk.new wd _ _).alloc _).drew
              have HOrd := Lib.hid (And.intro hE1 (And.intro oE1 (And.intro hEP (And.intro oEP (And.intro bEP (And.intro hPE (And.intro oPE bPE)))))))
              clear hE1 hEP hPE oE1 oEP oPE bEP bPE
              have c63 : 0 + t ≤ maxLen := by unfold maxLen; omega
              have cby : (0 + t) * 56 ≤ 140737488355328 := by omega
              have cA : ∀ y ∈ (xs.flatMap PrV.enc).take (t * 3), y.oneCell' = true := fun y hy => (HPd.out wd (Below.refl _ _)).one y (List.mem_of_mem_take hy)
              have HcA := Lib.hid cA
              clear cA
              have HSt := Lib.hid (fun (W : World) (hW : Below wd.heap.size wd W) => own_prefix' (HPd.out W hW) htk)
              have HoP := Lib.hid (show ∀ y ∈ [Value.int .i64 (R9.1.length : Int), .slice aX R9.2.length cX, .slice aY R9.1.length cY], y.oneCell' = true from fun y hy => by
                simp only [List.mem_cons, List.not_mem_nil, or_false] at hy
                rcases hy with rfl | rfl | rfl <;> rfl)
              have HcD := Lib.hid (show ∀ y ∈ (xs.flatMap PrV.enc).drop (t * 3), y.oneCell' = true from fun y hy => (HPd.out wd (Below.refl _ _)).one y (List.mem_of_mem_drop hy))
              have HlD := Lib.hid (show ((xs.flatMap PrV.enc).drop (t * 3)).length = (k - t) * 3 from by rw [List.length_drop, flat_len]; omega)
              have HNw := Lib.hid (fun (W : World) (hW : Below wd.heap.size wd W) => (HPd.out W hW).news (t := t))
              have c64 : t + 1 ≤ maxLen := by unfold maxLen; omega
              have cby2 : (t + 1) * 56 ≤ 140737488355328 := by omega
              have c65 : t + 1 + (k - t) ≤ maxLen := by unfold maxLen; omega
              have cby3 : (t + 1 + (k - t)) * 56 ≤ 140737488355328 := by omega
              have hxl9 := Lib.hid hxl
              clear hxl
              go_region_held3 (fun w' => w'.cell? ⟨q8, 0, none⟩ = some (.int .i64 (R9.1.length : Int)) ∧ w'.cell? ⟨q8, 1, none⟩ = some (.slice aX R9.2.length cX) ∧ w'.cell? ⟨q8, 2, none⟩ = some (.slice aY R9.1.length cY)) (first | go_keep | exact ⟨(HQd.out _ (by assumption)).cell 0, (HQd.out _ (by assumption)).cell 1, (HQd.out _ (by assumption)).cell 2⟩)
                (first
                | (refine step_append_any (wd.alloc (.cells #[] 90)).drew (by rfl) (.tmp 48) (.tmp 51) 88 (by rfl) wd.heap.size 90 iP _ 3 56 Tryz.underlying88 hjP bP0 bP1 bP2 (by rfl) (by decide) _ 0 [] (by rfl) HOrd.out.2.1 w1.heap.size (.slice (some ⟨gL, 0, none⟩) t cL) t ((xs.flatMap PrV.enc).take (t * 3)) (by rfl) (HSt.out _ HOrd.out.1) HcA.out c63 cby (by simp; try omega) ?_; intro vA WA hrA hgA hatA; rw [Nat.zero_add, List.nil_append] at hrA; have hBA := HOrd.out.1.grown hgA (by simp; try omega) (fun j e => (HOrd.out.2.1.lt j e).1); obtain ⟨aA, cA, rfl⟩ := ownsRow_slice hrA; clear hgA hatA)
                | (refine step_append_any ((wd.alloc (.cells #[] 90)).alloc (.cells #[.int .i64 (R9.1.length : Int), .slice aX R9.2.length cX, .slice aY R9.1.length cY] 90)).drew (by rfl) (.tmp 48) (.tmp 51) 88 (by rfl) wd.heap.size 90 iP _ 3 56 Tryz.underlying88 hjP bP0 bP1 bP2 (by rfl) (by decide) _ 0 [] (by rfl) HOrd.out.2.2.2.1 w1.heap.size (.slice (some ⟨gL, 0, none⟩) t cL) t ((xs.flatMap PrV.enc).take (t * 3)) (by rfl) (HSt.out _ HOrd.out.2.2.1) HcA.out c63 cby (by simp; try omega) ?_; intro vA WA hrA hgA hatA; rw [Nat.zero_add, List.nil_append] at hrA; have hBA := HOrd.out.2.2.1.grown hgA (by simp; try omega) (fun j e => (HOrd.out.2.2.2.1.lt j e).1); obtain ⟨aA, cA, rfl⟩ := ownsRow_slice hrA; have hPA := HOrd.out.2.2.2.2.1.grown hgA (by simp [Value.ownBlock]); have hnA : (Value.slice aA t cA).ownBlock ≠ some (wd.heap.size + 1) := (by rcases hatA with h | h <;> rw [h] <;> simp [Value.ownBlock] <;> omega); clear hgA hatA)
                | (refine step_append_any ((wd.alloc (.cells #[.int .i64 (R9.1.length : Int), .slice aX R9.2.length cX, .slice aY R9.1.length cY] 90)).alloc (.cells #[] 90)).drew (by rfl) (.tmp 48) (.tmp 51) 88 (by rfl) wd.heap.size 90 iP _ 3 56 Tryz.underlying88 hjP bP0 bP1 bP2 (by rfl) (by decide) _ 0 [] (by rfl) HOrd.out.2.2.2.2.2.2.1 w1.heap.size (.slice (some ⟨gL, 0, none⟩) t cL) t ((xs.flatMap PrV.enc).take (t * 3)) (by rfl) (HSt.out _ HOrd.out.2.2.2.2.2.1) HcA.out c63 cby (by simp; try omega) ?_; intro vA WA hrA hgA hatA; rw [Nat.zero_add, List.nil_append] at hrA; have hBA := HOrd.out.2.2.2.2.2.1.grown hgA (by simp; try omega) (fun j e => (HOrd.out.2.2.2.2.2.2.1.lt j e).1); obtain ⟨aA, cA, rfl⟩ := ownsRow_slice hrA; have hPA := HOrd.out.2.2.2.2.2.2.2.grown hgA (by simp [Value.ownBlock]); have hnA : (Value.slice aA t cA).ownBlock ≠ some (wd.heap.size) := (by rcases hatA with h | h <;> rw [h] <;> simp [Value.ownBlock] <;> omega); clear hgA hatA)
                | (refine step_append_at (WA.alloc (.cells #[.int .i64 (R9.1.length : Int), .slice aX R9.2.length cX, .slice aY R9.1.length cY] 90)) (by rfl) (.tmp 52) (.tmp 54) 88 (by rfl) wd.heap.size 90 iP _ 3 56 Tryz.underlying88 hjP bP0 bP1 bP2 (by rfl) (by decide) (.slice aA t cA) t ((xs.flatMap PrV.enc).take (t * 3)) (by rfl) (own_alloc9 hrA _) ⟨WA.heap.size, 0, none⟩ 1 1 [.int .i64 (R9.1.length : Int), .slice aX R9.2.length cX, .slice aY R9.1.length cY] (by rfl) (by rfl) (World.news_of_block (blk_new_at (by simp))) HoP.out c64 cby2 (by have := hBA.size; simp; try omega) ?_; intro vB WB hrB hgB hatB; have hBB := (hBA.alloc hBA.size _).grown hgB (by have := hBA.size; simp; try omega) (fun j e => (hrA.lt j e).1); obtain ⟨aB, cB, rfl⟩ := ownsRow_slice hrB; clear hgB hatB)
                | (refine step_append_at (WA) (by rfl) (.tmp 52) (.tmp 54) 88 (by rfl) wd.heap.size 90 iP _ 3 56 Tryz.underlying88 hjP bP0 bP1 bP2 (by rfl) (by decide) (.slice aA t cA) t ((xs.flatMap PrV.enc).take (t * 3)) (by rfl) hrA ⟨wd.heap.size + 1, 0, none⟩ 1 1 [.int .i64 (R9.1.length : Int), .slice aX R9.2.length cX, .slice aY R9.1.length cY] (by rfl) (by rfl) (World.news_of_block hPA) HoP.out c64 cby2 (by have := hBA.size; simp; try omega) ?_; intro vB WB hrB hgB hatB; have hBB := hBA.grown hgB (by have := hBA.size; simp; try omega) (fun j e => (hrA.lt j e).1); obtain ⟨aB, cB, rfl⟩ := ownsRow_slice hrB; clear hgB hatB)
                | (refine step_append_at (WA) (by rfl) (.tmp 52) (.tmp 54) 88 (by rfl) wd.heap.size 90 iP _ 3 56 Tryz.underlying88 hjP bP0 bP1 bP2 (by rfl) (by decide) (.slice aA t cA) t ((xs.flatMap PrV.enc).take (t * 3)) (by rfl) hrA ⟨wd.heap.size, 0, none⟩ 1 1 [.int .i64 (R9.1.length : Int), .slice aX R9.2.length cX, .slice aY R9.1.length cY] (by rfl) (by rfl) (World.news_of_block hPA) HoP.out c64 cby2 (by have := hBA.size; simp; try omega) ?_; intro vB WB hrB hgB hatB; have hBB := hBA.grown hgB (by have := hBA.size; simp; try omega) (fun j e => (hrA.lt j e).1); obtain ⟨aB, cB, rfl⟩ := ownsRow_slice hrB; clear hgB hatB)
                | (refine step_append_at WB (by rfl) (.tmp 55) (.tmp 58) 88 (by rfl) wd.heap.size 90 iP _ 3 56 Tryz.underlying88 hjP bP0 bP1 bP2 (by rfl) (by decide) (.slice aB (t + 1) cB) (t + 1) _ (by rfl) hrB ⟨gL, t * 3, none⟩ (k - t) (cL - t) ((xs.flatMap PrV.enc).drop (t * 3)) (by rfl) HlD.out (HNw.out _ hBB) HcD.out c65 cby3 (by have := hBB.size; omega) ?_; intro vC WC hrC hgC hatC; have hBC := hBB.grown hgC (by have := hBB.size; omega) (fun j e => (hrB.lt j e).1); obtain ⟨g9, c9, rfl⟩ := own_some hrC (n := k) HkT.out; clear hgC hatC)
                | (fail "zz"))
              all_goals
                have HPn := Lib.hid (PsSt.ins (p := ⟨(R9.1.length : Int), .slice aX R9.2.length cX, .slice aY R9.1.length cY, rp⟩) (t := t) (HPd.out wd (Below.refl _ _)) (HpO.out _ hBC) hBC (by rw [List.nil_append]; exact own_lower hrC hzd) (by have := hxl9.out; omega) (by have := hxl9.out; omega) HL9.out)
                clear hrC hBC hrB hBB hrA hBA
                go_wp2
                go_roundw
                case measure => simp [intOf]; omega
                case rel => exact ⟨k + 1, by omega, by go_num, g9, c9, _, rfl, HPn.out⟩
    · obtain rfl : k = m := by omega
      have HPm := Lib.hid (fun (W : World) (hW : Below wr.heap.size wr W) => hP.below hW)
      have hlen := sort_len T [] [] out k
      have hrT := Lib.hid (own_nil_int (base := wr.heap.size) ((Blk.new (wr.alloc (.cells #[.int .i64 0, .slice none 0 0] 24)) 3 #[])) (by simp))
      have HJ0 := Lib.hid (show FjSt wr ((wr.alloc (.cells #[.int .i64 0, .slice none 0 0] 24)).alloc (.cells #[] 3)) wr.heap.size 0 [] (.slice none 0 0) (.slice (some ⟨wr.heap.size + 1, 0, none⟩) 0 0) [] from
        ⟨(Blk.new wr _ _).alloc _, World.ownsRow_nil _ _ _ _, own_nil_int (blk_new_at (by simp)) (by omega), ((Below.refl _ _).alloc (Nat.le_refl _) _).alloc (by simp) _, Nat.le_refl _⟩)
      have hmem : ∀ y ∈ sortM T [] [] out k, ∃ c, c < 3 * T.length ∧ y = fromM T [] [] c := fun y hy => sort_mem (m := k) HmP.out hy
      have hbd := soups_bd (P := []) (K := []) Hsh.out HmP.out
      have hfo := flat_O (P := []) (K := []) Hsh.out HmP.out
      rw [HF.out] at hbd hfo
      obtain ⟨l, hsl⟩ : ∃ l, sortM T [] [] out k = l := ⟨_, rfl⟩
      rw [hsl] at HPm hlen hmem hbd hfo
      have HSl := Lib.hid hsl
      have HMem := Lib.hid hmem
      have hnn : ∀ x ∈ soupsM l, (0 : Int) ≤ x.1 := by
        intro x hx
        unfold soupsM at hx
        obtain ⟨r, hr, rfl⟩ := List.mem_map.1 hx
        obtain ⟨c, hc, rfl⟩ := hmem r hr
        show (0 : Int) ≤ ((rtN T c).1.length : Int)
        omega
      have HBd := Lib.hid (fun j => joinM_bd (l := soupsM l) hnn j)
      have HNn := Lib.hid (fun j => joinM_nn (l := (soupsM l).take j) (fun x hx => hnn x (List.mem_of_mem_take hx)))
      have Hlen := Lib.hid hlen
      have Hfo := Lib.hid hfo
      obtain ⟨hbd1, hbd2⟩ := hbd
      have hKr := HKr1.out.below hP.bel HKr1.out.lt
      have HKr2 := Lib.hid hKr
      have HBw := Lib.hid (HB1.out.trans (hP.bel.mono hz1))
      have hzw := (HB1.out.trans (hP.bel.mono hz1)).size
      have hd9 : decide ((k : Int) < (k : Int)) = false := by simp
      clear hsl hmem hnn hlen hfo hP hKr y0 y1 l2
      go_wp2
      obtain ⟨i2, hj2, b20, b21, b22⟩ := info_parts infoInt9
      obtain ⟨i3, hj3, b30, b31, b32⟩ := info_parts infoTriJ
      go_loopw [11, 12] (fun v i wx => ∃ j : Nat, j ≤ k ∧ i = .int .i64 (j : Int) ∧ ∃ vT vO, vO = v ∧ FjSt wr wx wr.heap.size (joinM ((soupsM l).take j)).1 (joinM ((soupsM l).take j)).2 vT vO ((l.take j).flatMap (·.old))) (fun _ i _ => k - (intOf i).toNat)
      case atStart => exact ⟨0, Nat.zero_le _, rfl, _, _, rfl, HJ0.out⟩
      case round =>
        rename World => wx
        obtain ⟨j, hj, rfl, vS, v9, rfl, hI⟩ := hrel
        by_cases hlt : j < k
        · have hjl : j < l.length := by rw [Hlen.out]; exact hlt
          obtain ⟨x, hx, hlx, hox⟩ := (HPm.out _ hI.bel).get hjl
          obtain ⟨g0, c0, c1, c2⟩ := (HPm.out _ hI.bel).cells hx
          have HCx := Lib.hid (fun (W : World) (hW : Below wr.heap.size wr W) => (HPm.out W hW).cells hx)
          have HOx := Lib.hid (fun (W : World) (hW : Below wr.heap.size wr W) => (HPm.out W hW).own x (List.mem_of_getElem? hx))
          obtain ⟨aTx, cTx, hvx⟩ := ownsRow_slice hox.2.1
          obtain ⟨aVx, cVx, hvv⟩ := ownsRow_slice hox.2.2
          obtain ⟨N9, vT9, vV9, m9⟩ := x
          simp only at hvx hvv hox hlx c0 c1 c2 HCx HOx
          subst hvx
          subst hvv
          have hN9 : N9 = m9.N := hox.1
          subst hN9
          have HS1 := Lib.hid (joinM_take (soupsM_get hlx))
          have HO1 := Lib.hid (old_take hlx)
          have hb1 := HBd.out (j + 1)
          have hn1 := HNn.out j
          rw [HS1.out] at hb1
          obtain ⟨c9, hc9, he9⟩ := HMem.out m9 (List.mem_of_getElem? hlx)
          have hlens := rtN_lens (T := T) (c := c9) hc9
          have hm9N : 0 ≤ m9.N := by rw [he9]; show (0 : Int) ≤ ((rtN T c9).1.length : Int); omega
          have hmO : m9.old.length ≤ 1000 := by rw [he9]; show (rtN T c9).1.length ≤ 1000; have := HF.out; omega
          have hfo1 : ((l.take (j + 1)).flatMap (·.old)).length ≤ 3 * F := by exact Hfo.out (j + 1)
          rw [HO1.out, List.length_append] at hfo1
          obtain ⟨SN, hSN⟩ : ∃ SN, (joinM ((soupsM l).take j)).1 = SN := ⟨_, rfl⟩
          obtain ⟨ST, hST⟩ : ∃ ST, (joinM ((soupsM l).take j)).2 = ST := ⟨_, rfl⟩
          obtain ⟨OO, hOO⟩ : ∃ OO, (l.take j).flatMap (·.old) = OO := ⟨_, rfl⟩
          have HOO := Lib.hid hOO
          have HJ := Lib.hid (show joinS (joinM ((soupsM l).take j)) (m9.N, m9.T) = (SN + m9.N, ST ++ m9.T.map (shT SN)) from by unfold joinS; rw [hSN, hST])
          rw [HJ.out] at hb1
          rw [hOO] at hfo1
          rw [hSN, hST, hOO] at hI
          rw [hSN] at hn1
          obtain ⟨nT, hnT⟩ : ∃ nT, m9.T.length = nT := ⟨_, rfl⟩
          obtain ⟨nS, hnS⟩ : ∃ nS, ST.length = nS := ⟨_, rfl⟩
          have hlen2 : nS + nT ≤ F ∧ SN + m9.N ≤ 3 * (F : Int) := by
            have e1 : (ST ++ m9.T.map (shT SN)).length = nS + nT := by simp [hnS, hnT]
            simp only [e1] at hb1
            omega
          obtain ⟨hle1, hle2⟩ := hlen2
          have HFt := Lib.hid (show ∀ t ∈ m9.T, fitsM t m9.N from by rw [he9]; exact rtN_fitsM HS.out.simple hc9)
          have HHx := Lib.hid (And.intro hox.2.1 hox.2.2)
          have HI := Lib.hid hI
          have HnT := Lib.hid hnT
          have HnS := Lib.hid hnS
          have hjk : (j : Int) < (k : Int) := by omega
          have hzx := hI.bel.size
          rw [hnT] at c1
          clear hI hox hlx hx hb1 hSN hST hOO hnT hnS he9 hlens hjl
          go_wp2
          go_loopw [13] (fun i wy => ∃ t : Nat, t ≤ nT ∧ i = .int .i64 (t : Int) ∧ ∃ vS, FjSt wr wy wr.heap.size SN (ST ++ (m9.T.take t).map (shT SN)) vS v9 OO) (fun i _ => nT - (intOf i).toNat)
          case atStart => exact ⟨0, Nat.zero_le _, rfl, _, by simpa using HI.out⟩
          case round =>
            rename World => wy
            obtain ⟨t, ht, rfl, vS', hI'⟩ := hrel
            obtain ⟨g0, c0', c1', c2'⟩ := HCx.out wy hI'.bel
            try simp only at c0' c1' c2'
            rw [HnT.out] at c1'
            by_cases hlj : t < nT
            · have hjT : t < m9.T.length := by rw [HnT.out]; exact hlj
              obtain ⟨⟨px, py, pz⟩, hp⟩ : ∃ t', m9.T[t]? = some t' := ⟨m9.T[t], List.getElem?_eq_getElem hjT⟩
              have hrd := TrisRd.of_row (HOx.out wy hI'.bel).2.1
              obtain ⟨a', c', e', -, -, hr⟩ := hrd
              simp only at e'
              cases e'
              obtain ⟨bT, oT, e2, hbT, s0, s1, s2⟩ := hr t px py pz hp
              subst e2
              obtain ⟨⟨p0, p1⟩, ⟨p2, p3⟩, ⟨p4, p5⟩, -⟩ := HFt.out _ (List.mem_of_getElem? hp)
              simp only at p0 p1 p2 p3 p4 p5
              obtain ⟨S9, hS9⟩ : ∃ S9, ST ++ (m9.T.take t).map (shT SN) = S9 := ⟨_, rfl⟩
              have hl9 : S9.length ≤ 1000 := by
                rw [← hS9, List.length_append, List.length_map, List.length_take, HnS.out]
                omega
              have HS9 := Lib.hid (show ST ++ (m9.T.take (t + 1)).map (shT SN) = S9 ++ [(px + SN, py + SN, pz + SN)] from by
                rw [← hS9, List.take_succ_eq_append_getElem hjT, List.map_append, ← List.append_assoc]
                congr 1
                have : m9.T[t] = (px, py, pz) := by rw [List.getElem?_eq_getElem hjT] at hp; exact Option.some.inj hp
                rw [this]
                rfl)
              rw [hS9] at hI'
              have hzy := hI'.bel.size
              obtain ⟨l4', u0, f0, u1, f1⟩ := hI'.k4.two
              have HI' := Lib.hid hI'
              have c9' : S9.length + 1 ≤ maxLen := by unfold maxLen; omega
              have c8' : (S9.length + 1) * 24 ≤ 140737488355328 := by omega
              have hlj9 : (t : Int) < (nT : Int) := by omega
              clear hI' hS9 hr hp hjT c0' c2'
              go_upto_region 18 with (at_builtin; go_loud (refine wpList_append_lies _ rfl (.tmp 89) (.tmp 106) 22 rfl wr.heap.size 72 i3 _ 3 24 Tryz.underlying22 hj3 b30 b31 b32 rfl (by decide) vS' S9.length (ws3 S9) rfl ((HI'.out.alloc (.cells #[.int .i64 px, .int .i64 py, .int .i64 pz] 72)).alloc (.cells #[.int .i64 (px + SN), .int .i64 (py + SN), .int .i64 (pz + SN)] 72)).rT ⟨wy.heap.size + 1, 0, none⟩ 1 1 [.int .i64 (px + SN), .int .i64 (py + SN), .int .i64 (pz + SN)] rfl rfl (World.news_of_block (blk_new_at (by simp))) (by simp [Value.oneCell']) (by decide) c9' c8' (by simp; omega) (wy.heap.size + 1 + 1) (by simp) ?_); go_loud (intro g8 cap8 W8 hr8 hg8 hat8 hlt8; have h9 := ((HI'.out.alloc (.cells #[.int .i64 px, .int .i64 py, .int .i64 pz] 72)).alloc (.cells #[.int .i64 (px + SN), .int .i64 (py + SN), .int .i64 (pz + SN)] 72)).appT hg8 (T4 := S9 ++ [(px + SN, py + SN, pz + SN)]) (v4 := .slice (some ⟨g8, 0, none⟩) (S9.length + 1) cap8) (by rw [ws3_snoc, List.length_append]; exact hr8); obtain ⟨lx8, z0, q0, z1, q1⟩ := h9.1.two; have HF8 := Lib.hid h9.2; clear hr8 hg8 hat8 hlt8 h9))
              go_wp2
              go_roundw
              case measure => simp [intOf]; omega
              case rel => exact ⟨t + 1, by omega, by go_num, _, by rw [HS9.out]; exact HF8.out⟩
            · obtain rfl : t = nT := by omega
              rw [List.take_of_length_le (Nat.le_of_eq HnT.out)] at hI'
              obtain ⟨aS', cS', rfl⟩ := ownsRow_slice hI'.rT
              obtain ⟨l4, u0, f0, u1, f1⟩ := hI'.k4.two
              have HI2 := Lib.hid ((hI'.setN (N' := SN + m9.N)).below (Below.refl _ _).drew)
              have hnb : SN + m9.N ≤ 100000 := by omega
              have hwr : IntKind.i64.wrap (SN + m9.N) = SN + m9.N := IntWalk.i64_in _ (by omega)
              have cO1 : OO.length + m9.old.length ≤ maxLen := by unfold maxLen; omega
              have cO2 : (OO.length + m9.old.length) * 8 ≤ 140737488355328 := by omega
              clear hI' c1
              go_upto_region 21 with fail
              go_region_law (fail)
              all_goals
                try rw [hwr]
                generalize (wy.setCell ⟨wr.heap.size, 0, none⟩ (.int .i64 (SN + m9.N))).drew = W6 at *
                obtain ⟨g1, c3, c4, c5⟩ := HCx.out _ HI2.out.bel
                try simp only at c3 c4 c5
                have HVx := Lib.hid (HOx.out _ HI2.out.bel).2.2
                have hzy9 := HI2.out.bel.size
                clear c0' c1' c2' u0 f0 u1 f1
                go_upto_region 15 with (at_builtin; go_loud (refine wpList_append_any _ rfl (.tmp 119) (.tmp 124) 28 rfl wr.heap.size 3 i2 _ 1 8 Tryz.underlying28 hj2 b20 b21 b22 rfl (by decide) v9 OO.length (intsV OO) rfl HI2.out.rO w1.heap.size (.slice aVx m9.old.length cVx) m9.old.length (intsV m9.old) rfl HVx.out (intsV_one9 _) cO1 cO2 hzy9 ?_); go_loud (intro v8 W9 hr9 hg9 hat9; have h9 := HI2.out.appO hg9 (O4 := OO ++ m9.old) (v4 := v8) (by rw [intsV_app9, List.length_append]; exact hr9); have HF9 := Lib.hid h9; clear hr9 hg9 hat9 h9))
                go_wp2
                go_roundw
                case measure => simp [intOf]; omega
                case rel => exact ⟨j + 1, by omega, by go_num, _, _, rfl, by rw [HS1.out, HJ.out, HO1.out, HOO.out]; exact HF9.out⟩
        · obtain rfl : j = k := by omega
          rw [List.take_of_length_le (Nat.le_of_eq Hlen.out), List.take_of_length_le (by unfold soupsM; rw [List.length_map]; exact Nat.le_of_eq Hlen.out)] at hI
          obtain ⟨aS, cS, rfl⟩ := ownsRow_slice hI.rT
          obtain ⟨aO, cO, rfl⟩ := ownsRow_slice hI.rO
          obtain ⟨l4, u0, -, u1, -⟩ := hI.k4.two
          have hk2 := HKr2.out.below hI.bel HKr2.out.lt
          obtain ⟨l5, z0, f0, z1, f1⟩ := hk2.two
          have hB2 := (hk2.set_ 0 (.int .i64 (joinM (soupsM l)).1)).set_ 1 (.slice aS (joinM (soupsM l)).2.length cS)
          have HFn := Lib.hid (And.intro (show Blk _ (w.heap.size + 1) 24 #[.int .i64 (joinM (soupsM l)).1, .slice aS (joinM (soupsM l)).2.length cS] from by simpa using hB2)
            (And.intro (own_alloc_st (i := 1) (u := .slice aS (joinM (soupsM l)).2.length cS) (own_alloc_st (i := 0) (u := .int .i64 (joinM (soupsM l)).1) hI.rT hk2 (by decide)) (hk2.set_ 0 (.int .i64 (joinM (soupsM l)).1)) (by decide))
            (And.intro (own_alloc_st (i := 1) (u := .slice aS (joinM (soupsM l)).2.length cS) (own_alloc_st (i := 0) (u := .int .i64 (joinM (soupsM l)).1) hI.rO hk2 (by decide)) (hk2.set_ 0 (.int .i64 (joinM (soupsM l)).1)) (by decide))
              (((HBw.out.trans (hI.bel.mono hzw)).setCell (p := ⟨w.heap.size + 1, 0, none⟩) (by simp) (.int .i64 (joinM (soupsM l)).1)).setCell (p := ⟨w.heap.size + 1, 1, none⟩) (by simp) (.slice aS (joinM (soupsM l)).2.length cS)))))
          clear hI hB2 hk2
          go_wp2
          obtain ⟨hb2, hr2, ho2, hbel⟩ := HFn.out
          obtain ⟨-, p0, -, p1, -⟩ := hb2.two
          refine bodyPost_ret (v := .tuple #[.agg #[.int .i64 (joinM (soupsM l)).1, .slice aS (joinM (soupsM l)).2.length cS], .slice aO (l.flatMap (·.old)).length cO]) (by simp [results, Tryz.results20, go_sem, p0, p1]) rfl ?_
          exact ⟨joinM (soupsM l), l.flatMap (·.old), aS, cS, aO, cO, ⟨out, j, Hsh.out, Hm.out, by unfold frmS; rw [HSl.out], by unfold frmO; rw [HSl.out]⟩, rfl, TrisRd.of_row hr2, IntsRd.of_row ho2 rfl, hbel⟩
end Go.Proofs.YtghlnknncahkgaaGreat
/-
  The law CanonForm returns true: its walk, with what gypsumref46.Form answers.
-/
namespace Go.Proofs.YtghlnknncahkgaaGreat
open Go.RowKit

theorem canonForm_walk (N0 : Int) (v0 : Value) (T0 : List Tr) (w : World) (h0 : TrisRd w v0 T0) :
    Calls Tryz.prog 4 #[.agg #[.int .i64 N0, v0]] w fun e w' => e = .returned (.bool true) ∧ Below w.heap.size w w' :=
  canonForm_walk' (fun N v T w h hS hl hN => form46_any N v T w h hS hl hN) N0 v0 T0 w h0
end Go.Proofs.YtghlnknncahkgaaGreat
/-
  A list of triangles, as an argument: its numbers can be read.
-/
namespace Go.Proofs.YtghlnknncahkgaaGreat
open Go.RowKit

theorem three_cells {P : Program} {H : Type} {enc : TypeId × Value → H} {w : World} {base : Nat} {spare : Nat → Bool} {held : Bool} {t u : TypeId} {m : Nat} {cs : List Value} {x : DataW H × List MemPlace}
    (ht : P.underlying t = some (.array 3 u)) (hu : P.underlying u = some (.int .i64)) (hc : P.cellsOf u = 1) (hl : cs.length = 3) (h : DataW.trod enc P w base spare held m t cs = some x) :
    ∃ a b c : Int, cs = [.int .i64 a, .int .i64 b, .int .i64 c] := by
  obtain ⟨xs, n, -, -, -, hx, hel⟩ := DataW.trod_array ht h
  rw [hc] at hel
  match cs, hl with
  | [v0, v1, v2], _ =>
    have key : ∀ i v, i < 3 → ([v0, v1, v2].drop (i * 1)).take 1 = [v] → ∃ z : Int, v = .int .i64 z := by
      intro i v hi hv
      have e := hel i hi
      rw [hv] at e
      obtain ⟨y, hy⟩ : ∃ y, xs[i]? = some y := ⟨xs[i]'(by omega), List.getElem?_eq_getElem _⟩
      rw [hy] at e
      obtain ⟨z, hz, -, -⟩ := DataW.trod_int hu e
      exact ⟨z, by simpa using hz⟩
    obtain ⟨a, rfl⟩ := key 0 v0 (by omega) rfl
    obtain ⟨b, rfl⟩ := key 1 v1 (by omega) rfl
    obtain ⟨c, rfl⟩ := key 2 v2 (by omega) rfl
    exact ⟨a, b, c, rfl⟩
theorem tris_open {H : Type} {enc : TypeId × Value → H} {w : World} {base : Nat} {spare : Nat → Bool} {held : Bool} {m : Nat} {v : Value} {x : DataW H × List MemPlace}
    (h : DataW.trod enc Tryz.prog w base spare held m 22 [v] = some x) : ∃ T, TrisRd w v T := by
  rcases Go.Deep.open_slice Tryz.underlying22 h with ⟨e1, -⟩ | ⟨a, len, cap, q, n, D, Pl, e1, hb, hl, hm, hq, -, hall⟩
  · have e : v = .slice none 0 0 := by simpa using e1
    subst e
    exact ⟨[], none, 0, rfl, by simp, by decide, fun k x y z hk => by simp at hk⟩
  · have e : v = .slice (some a) len cap := by simpa using e1
    subst e
    have h3 : Tryz.prog.cellsOf 72 = 3 := by kernel_rfl
    have hlq : len ≤ q := by rw [hq]; split <;> omega
    have key : ∀ i, ∃ t : Tr, i < len → w.cell? (a.add (i * 3)) = some (.int .i64 t.1) ∧ w.cell? ((a.add (i * 3)).add 1) = some (.int .i64 t.2.1) ∧ w.cell? ((a.add (i * 3)).add 2) = some (.int .i64 t.2.2) := by
      intro i
      by_cases hi : i < len
      · obtain ⟨cs, hcs, htr⟩ := hall i (by omega)
        rw [h3] at hcs
        obtain ⟨-, hcl, hce⟩ := World.cells?_some hcs
        obtain ⟨x, y, z, rfl⟩ := three_cells Tryz.underlying72 Tryz.underlying3 (by kernel_rfl) hcl htr
        refine ⟨(x, y, z), fun _ => ⟨?_, hce 1 (by omega), hce 2 (by omega)⟩⟩
        have := hce 0 (by omega)
        have e0 : (a.add (i * 3)).add 0 = a.add (i * 3) := by simp [Addr.add]
        rw [e0] at this
        exact this
      · exact ⟨(0, 0, 0), fun h => absurd h hi⟩
    obtain ⟨f, hf⟩ := Classical.axiomOfChoice key
    refine ⟨(List.range len).map f, some a, cap, by simp, by simpa using hl, by unfold maxLen at hm; omega, fun k x y z hk => ?_⟩
    have hk' : k < len := by
      have := (List.getElem?_eq_some_iff.1 hk).1
      simpa using this
    rw [List.getElem?_map, List.getElem?_range hk'] at hk
    have hfk : f k = (x, y, z) := by simpa using hk
    obtain ⟨c0, c1, c2⟩ := hf k hk'
    rw [hfk] at c0 c1 c2
    obtain ⟨b, off, spot⟩ := a
    have hspot : spot = none := by simpa [Addr.add] using World.cell?_spot (hf 0 (by omega)).1
    subst hspot
    rw [Addr.add_lit] at c0
    rw [Addr.add_lit, Addr.add_lit] at c1 c2
    refine ⟨b, off, rfl, ?_, c0, c1, c2⟩
    rcases Nat.lt_or_ge b w.heap.size with hlt | hge
    · exact hlt
    · exfalso
      unfold World.cell? at c0
      simp [Array.getElem?_eq_none hge] at c0
set_option maxRecDepth 100000 in
theorem soup_open {H : Type} {enc : TypeId × Value → H} {w : World} {base : Nat} {spare : Nat → Bool} {held : Bool} {r : Go.Reach} {b0 : Nat} {v : Value} {d : DataW H} {p : List MemPlace}
    (hv : Value.okWide Tryz.prog w r b0 24 v) (h : DataW.Trod enc Tryz.prog w base spare held 24 v d p) :
    ∃ (N : Int) (vT : Value) (T : List Tr), v = .agg #[.int .i64 N, vT] ∧ TrisRd w vT T ∧ (Lit.int .i64 N).wf = true := by
  obtain ⟨v0, v1, y0, y1, n, rfl, -, -, h0, h1⟩ := Go.Joins.open_agg2 Tryz.underlying24 (by kernel_rfl) (by kernel_rfl) hv h
  obtain ⟨N, e0, -, hw⟩ := DataW.trod_int Tryz.underlying3 h0
  obtain ⟨T, hT⟩ := tris_open h1
  exact ⟨N, v1, T, by simpa using e0, hT, hw⟩
end Go.Proofs.YtghlnknncahkgaaGreat
