/-
  gypsumlaw21.WalkSteps returns true, by walking its text.
-/
import Derived.Test.YtghlnknncahkgaaGreatQ10
import Derived.Test.YtghlnknncahkgaaGreatQ8
import Derived.Test.YtghlnknncahkgaaGreatQ9
namespace Go.Proofs.YtghlnknncahkgaaGreat
open Go.RowKit Go.Maps Go.Shelf
attribute [local go_sem] Oper.semAt_some

theorem ran_at {n c : Nat} {T : List Tr} (h : Simp n T) (hc : c < 3 * T.length) {pre : List WStep} {x : WStep} {s' : WSt} (R' : Ran T (beginS T c) (pre ++ [x]) s') : (stepsM T c)[pre.length]? = some x := by
  obtain ⟨s, Xs, R, e, -, -⟩ := walk_end h hc
  have hle := R.end_ e R'
  have hl : (pre ++ [x]).length = pre.length + 1 := by simp
  obtain ⟨s2, R2⟩ := R.take (pre.length + 1) (by omega)
  have h1 := (R'.one R2 (by rw [List.length_take]; omega)).1
  have h3 : (pre ++ [x])[pre.length]? = some x := by simp
  rw [h1, List.getElem?_take_of_lt (by omega)] at h3
  exact h3
/-- The count of steps, between two rounds; what else the call made is as it was. -/
def StI (w0 W3 : World) (nb : Nat) (pre : List WStep) (C : Nat → Prop) (W : World) : Prop :=
  (∀ k, C k ↔ w0.heap.size ≤ k ∧ k < W3.heap.size) ∧ Below w0.heap.size w0 W ∧ Blk W nb 3 #[.int .i64 (pre.length : Int)] ∧ (∀ j, w0.heap.size ≤ j → j < W3.heap.size → j ≠ nb → W.heap[j]? = W3.heap[j]?)
theorem stI_stable {w0 W3 : World} {nb : Nat} (h1 : w0.heap.size ≤ nb) (h2 : nb < W3.heap.size) : Stable w0.heap.size (StI w0 W3 nb) := by
  rintro pre C A B ⟨hC, hB, hb, hs⟩ hbel hsame
  exact ⟨hC, hB.trans (hbel.mono (Nat.le_refl _)), blk_same hb (hsame _ ((hC _).2 ⟨h1, h2⟩)), fun j j1 j2 j3 => (hsame j ((hC _).2 ⟨j1, j2⟩)).trans (hs j j1 j2 j3)⟩
/-- .. where the law stops asking. -/
def StX (w0 W3 : World) (nb : Nat) (st : Int) (c : Code) (pre : List WStep) (C : Nat → Prop) (W : World) : Prop := c = .exit 2 ∧ (pre.length : Int) = st ∧ StI w0 W3 nb pre C W
theorem stX_stable {w0 W3 : World} {nb : Nat} {st : Int} (h1 : w0.heap.size ≤ nb) (h2 : nb < W3.heap.size) (c : Code) : Stable w0.heap.size (StX w0 W3 nb st c) := by
  rintro pre C A B ⟨hc, hl, h⟩ hbel hsame
  exact ⟨hc, hl, stI_stable h1 h2 _ _ _ _ h hbel hsame⟩
theorem wordS_size (L : List WStep) : (wordS L).size = L.length := by simp [wordS, ByteArray.size]
theorem wordS_at {L : List WStep} {k : Nat} {x : WStep} (h : L[k]? = some x) (hx : 0 ≤ x.letter ∧ x.letter < 256) : ∃ hs : k < (wordS L).size, ((((wordS L)[k]'hs).toNat : Nat) : Int) = x.letter := by
  obtain ⟨hk, he⟩ := List.getElem?_eq_some_iff.1 h
  have hs : k < (wordS L).size := by rw [wordS_size]; exact hk
  refine ⟨hs, ?_⟩
  have he2 : (wordS L)[k]'hs = UInt8.ofNat (L[k]).letter.toNat := by
    show ((wordS L).data[k]'hs) = _
    simp [wordS]
  rw [he2, he, UInt8.toNat_ofNat']
  omega
set_option maxRecDepth 100000 in
set_option maxHeartbeats 8000000 in
theorem walkSteps_walk (N : Int) (v : Value) (T : List Tr) (r st : Int) (w : World) (h : TrisRd w v T) (hr : 0 ≤ r ∧ r ≤ 255) (hst : 0 ≤ st ∧ st ≤ 255) :
    Calls Tryz.prog 6 #[.agg #[.int .i64 N, v], .int .u8 r, .int .u8 st] w fun e w' => e = .returned (.bool true) ∧ Below w.heap.size w w' := by
  have hB0 : Below w.heap.size w (((w.alloc (.cells #[.int .i64 N, v] 24)).alloc (.cells #[.int .u8 st] 5)).alloc (.cells #[.bool false] 4)) := (((Below.refl _ _).alloc (Nat.le_refl _) _).alloc (by simp) _).alloc (by simp; omega) _
  have bs := ((Blk.new w 24 #[.int .i64 N, v]).alloc (.cells #[.int .u8 st] 5)).alloc (.cells #[.bool false] 4)
  have bt : Blk (((w.alloc (.cells #[.int .i64 N, v] 24)).alloc (.cells #[.int .u8 st] 5)).alloc (.cells #[.bool false] 4)) (w.heap.size + 1) 5 #[.int .u8 st] := (blk_new_at (w := w.alloc (.cells #[.int .i64 N, v] 24)) (by simp)).alloc _
  have br : Blk (((w.alloc (.cells #[.int .i64 N, v] 24)).alloc (.cells #[.int .u8 st] 5)).alloc (.cells #[.bool false] 4)) (w.heap.size + 1 + 1) 4 #[.bool false] := blk_new_at (by simp)
  have HF := Lib.hid (fits21_any N v T _ (h.below hB0))
  have HTr := Lib.hid (fun (W : World) (hW : Below w.heap.size w W) => h.below hW)
  have HA := Lib.hid awake21_any
  obtain ⟨a, c, rfl, -, -, -⟩ := h
  have HB0 := Lib.hid hB0
  have HBs := Lib.hid bs
  have HBt := Lib.hid bt
  have HBr := Lib.hid br
  obtain ⟨l0, x0, -, x1, -⟩ := bs.two
  clear hB0 bs bt br
  refine (callsIn_wide (n := 9)).1 ?_
  refine callsIn_of_wp_marks Tryz.func6 rfl trivial ?_ rfl
  simp only [Tryz.ntmps6, List.size_toArray, List.length_cons, List.length_nil, Nat.reduceAdd, Nat.reduceSub, Array.replicate_succ, Array.replicate_zero, List.push_toArray, List.append_toArray, List.nil_append, List.cons_append]
  gi_hideQ
  gi_wp2_with fail
  refine ⟨trivial, (callsIn_wide.2 HF.out).mono ?_⟩
  rintro e w1 ⟨p, b, rfl, hfit, hb1⟩
  have HB1 := Lib.hid (HB0.out.trans (hb1.mono HB0.out.size))
  have HBs1 := Lib.hid (HBs.out.below hb1 HBs.out.lt)
  have HBt1 := Lib.hid (HBt.out.below hb1 HBt.out.lt)
  have HBr1 := Lib.hid (HBr.out.below hb1 HBr.out.lt)
  clear hb1 HB0 HBs HBt HBr x0 x1 l0 HF
  cases b
  · clear hfit
    gi_wp2_with fail
    refine ⟨trivial, (callsIn_wide.2 (HA.out _)).mono ?_⟩
    rintro e w2 ⟨rfl, hb2⟩
    have HB2 := Lib.hid (HB1.out.trans (hb2.mono HB1.out.size))
    have HBr2 := Lib.hid (HBr1.out.below hb2 HBr1.out.lt)
    clear hb2
    gi_wp2_with fail
    refine ⟨trivial, (callsIn_wide.2 (HA.out _)).mono ?_⟩
    rintro e w3 ⟨rfl, hb3⟩
    have HB3 := Lib.hid (HB2.out.trans (hb3.mono HB2.out.size))
    have HBr3 := Lib.hid (HBr2.out.below hb3 HBr2.out.lt)
    obtain ⟨lr, r0, rf0⟩ := HBr3.out.one
    clear hb3
    gi_wp2
    have bF := HBr3.out.set1 (.bool true)
    obtain ⟨-, q0, -⟩ := bF.one
    refine ⟨.bool true, ?_, rfl, ?_⟩
    · simp [results, Tryz.results6, go_sem, q0]
    · exact HB3.out.setCell (p := ⟨w.heap.size + 1 + 1, 0, none⟩) (by simp only; omega) _
  · obtain ⟨g, n, rfl, rfl, hT, hSu, hl⟩ := hfit rfl
    clear hfit
    have HSu := Lib.hid hSu
    gi_wp2_with fail
    refine ⟨trivial, (callsIn_wide.2 (HA.out _)).mono ?_⟩
    rintro e w2 ⟨rfl, hb2⟩
    have HB2 := Lib.hid (HB1.out.trans (hb2.mono HB1.out.size))
    have hS2 := HBs1.out.below hb2 HBs1.out.lt
    have HBs2 := Lib.hid hS2
    have HBt2 := Lib.hid (HBt1.out.below hb2 HBt1.out.lt)
    have HBr2 := Lib.hid (HBr1.out.below hb2 HBr1.out.lt)
    have HT2 := Lib.hid (hT.below hb2)
    clear hb2 HB1 HBs1 HBt1 HBr1 hT hSu
    obtain ⟨l0, x0, -, x1, -⟩ := hS2.two
    have HSR := Lib.hid (simR_iff HSu.out)
    have HSi := Lib.hid (fun (W : World) (hW : Below w.heap.size w W) => simple21_any n (.slice a T.length c) T W (HTr.out W hW) hl (by have := HSu.out.n1; omega))
    have HRf := Lib.hid (fun (W : World) (k : Nat) (hk : k < 3 * T.length) (hs : Simp n T) (hW : Below w.heap.size w W) => ref21_any hs (HTr.out W hW) hk hl)
    obtain ⟨F, hF⟩ : ∃ F, T.length = F := ⟨_, rfl⟩
    rw [hF] at x1 hl HSi HRf ⊢
    have HFl := Lib.hid hF
    clear hF hS2 HTr
    by_cases hF0 : F = 0
    · subst hF0
      gi_wp2_with fail
      refine ⟨trivial, (callsIn_wide.2 (HA.out _)).mono ?_⟩
      rintro e w3 ⟨rfl, hb3⟩
      have HB3 := Lib.hid (HB2.out.trans (hb3.mono HB2.out.size))
      have HBr3 := Lib.hid (HBr2.out.below hb3 HBr2.out.lt)
      obtain ⟨lr, r0, rf0⟩ := HBr3.out.one
      clear hb3
      gi_wp2
      have bF := HBr3.out.set1 (.bool true)
      obtain ⟨-, q0, -⟩ := bF.one
      refine ⟨.bool true, ?_, rfl, ?_⟩
      · simp [results, Tryz.results6, go_sem, q0]
      · exact HB3.out.setCell (p := ⟨w.heap.size + 1 + 1, 0, none⟩) (by simp only; omega) _
    · have nz0 : ((F : Int) == 0) = false := by simp; omega
      obtain ⟨rn, rfl⟩ : ∃ rn : Nat, r = rn := ⟨r.toNat, by omega⟩
      have nz : ((3 : Int) * (F : Int) == 0) = false := by simp; omega
      have hm : ((rn : Int)).tmod (3 * (F : Int)) = ((rn % (3 * F) : Nat) : Int) := by
        rw [Int.tmod_eq_emod_of_nonneg (by omega)]
        push_cast
        rfl
      have hlt : rn % (3 * F) < 3 * F := Nat.mod_lt _ (by omega)
      obtain ⟨k, hk⟩ : ∃ k, rn % (3 * F) = k := ⟨_, rfl⟩
      rw [hk] at hm hlt
      have HK := Lib.hid hlt
      have HIS := Lib.hid (show w.heap.size + 1 + 1 < w2.heap.size from HBr2.out.lt)
      clear hlt hk
      have hb3 : Below w2.heap.size w2 (w2.alloc (.cells #[.int .i64 0] 3)) := (Below.refl _ _).alloc (Nat.le_refl _) _
      have HN3 := Lib.hid (Blk.new w2 3 #[.int .i64 0])
      have HB3 := Lib.hid (HB2.out.trans (hb3.mono HB2.out.size))
      have HB3' := Lib.hid hb3
      clear hb3
      gi_wp2_with fail
      refine ⟨trivial, (callsIn_wide.2 (HSi.out _ HB3.out)).mono ?_⟩
      rintro e w4 ⟨b, rfl, hbb, hb4⟩
      have HN4 := Lib.hid (HN3.out.below hb4 HN3.out.lt)
      have HB4' := Lib.hid (HB3'.out.trans (hb4.mono HB3'.out.size))
      have HB4 := Lib.hid (HB3.out.trans (hb4.mono HB3.out.size))
      clear HN3 HB3 HB3' hb4 x0 x1 l0
      by_cases hs : Simp n T
      · have hbt : b = true := hbb.2 (HSR.out.2 hs)
        subst hbt
        have Hs := Lib.hid hs
        clear hbb
        obtain ⟨l0, x0, -, x1, -⟩ := (HBs2.out.below HB4'.out HBs2.out.lt).two
        rw [HFl.out] at x1
        gi_wp2_with fail
        clear l0 x0 x1
        refine ⟨trivial, (callsIn_wide.2 (HRf.out _ k HK.out Hs.out HB4.out)).mono ?_⟩
        rintro e w5 ⟨uV, uC, uO, uE, rfl, hRw, hb5⟩
        obtain ⟨L, hL⟩ : ∃ L, stepsM T k = L := ⟨_, rfl⟩
        have HAt := Lib.hid (fun (pre : List WStep) (x : WStep) (s' : WSt) (R' : Ran T (beginS T k) (pre ++ [x]) s') => (show L[pre.length]? = some x from by rw [← hL]; exact ran_at Hs.out (by rw [HFl.out]; exact HK.out) R'))
        have HLe := Lib.hid (show (∀ x ∈ L, 0 ≤ x.letter ∧ x.letter < 256) ∧ L.length ≤ 40 from by
          have h9 := walk_len Hs.out (c := k) (by rw [HFl.out]; exact HK.out)
          rw [hL, HFl.out] at h9
          exact ⟨by rw [← hL]; exact (stepsM_facts Hs.out (by rw [HFl.out]; exact HK.out)).2, by omega⟩)
        rw [hL] at hRw
        have hrC := hRw.get (l1 := [_])
        have hrO := hRw.get (l1 := [_, _])
        have hrE := hRw.get (l1 := [_, _, _])
        have hrV := hRw.get (l1 := [])
        obtain ⟨aV, cV, rfl⟩ := ownsRow_slice hrV
        generalize ((beginS T k).come ++ newV T L).length = nV at *
        have hLp : 0 < L.length := by rw [← hL]; exact (stepsM_facts Hs.out (by rw [HFl.out]; exact HK.out)).1
        simp only [List.length_cons, List.length_map] at hrC hrO hrE
        obtain ⟨gC, capC, rfl, hgC, -⟩ := hrC.form (by omega)
        obtain ⟨gO, capO, rfl, hgO, -⟩ := hrO.form (by omega)
        obtain ⟨gE, capE, rfl, hgE, -⟩ := hrE.form (by omega)
        have HHL := Lib.hid hL
        clear hrV hRw
        rw [hL]
        obtain ⟨m, hm9⟩ : ∃ m, L.length = m := ⟨_, rfl⟩
        rw [hm9] at hrC hrO hrE hLp ⊢
        have Hm := Lib.hid hm9
        have hm40 : m ≤ 40 := by have := HLe.out.2; omega
        have hws : (wordS L).size = m := by rw [wordS_size]; exact hm9
        have HrC := Lib.hid hrC
        have HrO := Lib.hid hrO
        have HrE := Lib.hid hrE
        have hz4 := HB4'.out.size
        have Hg := Lib.hid (show w2.heap.size + 1 ≤ gC ∧ w2.heap.size + 1 ≤ gO ∧ w2.heap.size + 1 ≤ gE ∧ gC < w5.heap.size ∧ gO < w5.heap.size ∧ gE < w5.heap.size from by
          have h1 := HN4.out.lt
          exact ⟨by omega, by omega, by omega, (hrC.lt _ rfl).2, (hrO.lt _ rfl).2, (hrE.lt _ rfl).2⟩)
        clear hrC hrO hrE hgC hgO hgE hL hm9
        generalize hwd : wordS L = wd at *
        have Hwd := Lib.hid hwd
        have HN5 := Lib.hid (HN4.out.below hb5 HN4.out.lt)
        have HB5' := Lib.hid (HB4'.out.trans (hb5.mono hz4))
        have hb6 : Below w5.heap.size w5 (w5.alloc (.cells #[.string wd, .slice aV nV cV, .slice (some ⟨gC, 0, none⟩) (m + 1) capC, .slice (some ⟨gO, 0, none⟩) m capO, .slice (some ⟨gE, 0, none⟩) m capE] 49)) := (Below.refl _ _).alloc (Nat.le_refl _) _
        have HY6 := Lib.hid (Blk.new w5 49 #[.string wd, .slice aV nV cV, .slice (some ⟨gC, 0, none⟩) (m + 1) capC, .slice (some ⟨gO, 0, none⟩) m capO, .slice (some ⟨gE, 0, none⟩) m capE])
        have HN6 := Lib.hid (HN5.out.below hb6 HN5.out.lt)
        have HB6' := Lib.hid (HB5'.out.trans (hb6.mono HB5'.out.size))
        have HrC6 := Lib.hid (own_same HrC.out (fun j e => hb6.block j (HrC.out.lt j e).2))
        have HrO6 := Lib.hid (own_same HrO.out (fun j e => hb6.block j (HrO.out.lt j e).2))
        have HrE6 := Lib.hid (own_same HrE.out (fun j e => hb6.block j (HrE.out.lt j e).2))
        have hz6 : (w5.alloc (.cells #[.string wd, .slice aV nV cV, .slice (some ⟨gC, 0, none⟩) (m + 1) capC, .slice (some ⟨gO, 0, none⟩) m capO, .slice (some ⟨gE, 0, none⟩) m capE] 49)).heap.size = w5.heap.size + 1 := by simp
        have HZ6 := Lib.hid hz6
        have hz45 := hb5.size
        have hnlt := HN4.out.lt
        clear hb5 hb6 HN4 HB4' HrC HrO HrE HN5 HB5' hz6 hwd
        gi_wp2_with fail
        generalize w5.alloc (.cells #[.string wd, .slice aV nV cV, .slice (some ⟨gC, 0, none⟩) (m + 1) capC, .slice (some ⟨gO, 0, none⟩) m capO, .slice (some ⟨gE, 0, none⟩) m capE] 49) = W3 at *
        have HI0 := Lib.hid (show StI w2 W3 w2.heap.size [] (fun j => w2.heap.size ≤ j ∧ j < W3.heap.size) W3 from ⟨fun _ => Iff.rfl, HB6'.out, HN6.out, fun _ _ _ _ => rfl⟩)
        refine ⟨trivial, (callsIn_wide.2 (callsIn_wide.1 (wsteps_any Fence.wide 8 trivial rfl (some ⟨g, 0, none⟩) (k : Int) W3))).mono ?_⟩
        rintro e w6 ⟨rfl, rfl⟩
        have hnb : w2.heap.size < W3.heap.size := HN6.out.lt
        have hb4 : Below W3.heap.size W3 ((W3.alloc (.cells #[.pointer (some ⟨g, 0, none⟩)] 26)).alloc (.cells #[.int .i64 (k : Int)] 3)) := ((Below.refl _ _).alloc (Nat.le_refl _) _).alloc (by simp) _
        have bx : Blk ((W3.alloc (.cells #[.pointer (some ⟨g, 0, none⟩)] 26)).alloc (.cells #[.int .i64 (k : Int)] 3)) W3.heap.size 26 #[.pointer (some ⟨g, 0, none⟩)] := (Blk.new _ _ _).alloc _
        have bv : Blk ((W3.alloc (.cells #[.pointer (some ⟨g, 0, none⟩)] 26)).alloc (.cells #[.int .i64 (k : Int)] 3)) (W3.heap.size + 1) 3 #[.int .i64 (k : Int)] := blk_new_at (by simp)
        have HI4 := Lib.hid (stI_stable (Nat.le_refl _) hnb _ _ _ _ HI0.out (hb4.mono HB6'.out.size) (fun j hj => hb4.block j hj.2))
        have Hbx := Lib.hid bx
        have Hbv := Lib.hid bv
        clear hb4 bx bv HI0
        gi_wp2_with fail
        have HZ4 := Lib.hid (show ((W3.alloc (.cells #[.pointer (some ⟨g, 0, none⟩)] 26)).alloc (.cells #[.int .i64 (k : Int)] 3)).heap.size = W3.heap.size + 2 by simp)
        generalize (W3.alloc (.cells #[.pointer (some ⟨g, 0, none⟩)] 26)).alloc (.cells #[.int .i64 (k : Int)] 3) = W4 at *
        refine wpIn_rangeFunc_sepO rfl (by omega) (gf := 58) (lb := #[.pointer (some ⟨W3.heap.size, 0, none⟩), .pointer (some ⟨W3.heap.size + 1, 0, none⟩)]) rfl trivial (enters_of Tryz.func58 (by kernel_rfl) rfl)
          (steps1_sepO (w := w2) (m := 8) (Bt := W3.heap.size) (Bc := W3.heap.size + 1) Hs.out HT2.out (by rw [HFl.out]; exact HK.out)) (fun W hW => ⟨(hW.cell (p := ⟨W3.heap.size, 0, none⟩) Hbx.out.lt).trans (Hbx.out.cell 0), (hW.cell (p := ⟨W3.heap.size + 1, 0, none⟩) Hbv.out.lt).trans (Hbv.out.cell 0), Nat.lt_of_lt_of_le Hbx.out.lt hW.size, Nat.lt_of_lt_of_le Hbv.out.lt hW.size⟩) (fun _ h => h.elim) HI4.out.2.1 (fun _ => rfl)
          (StI w2 W3 w2.heap.size) (StX w2 W3 w2.heap.size st) (stI_stable (Nat.le_refl _) hnb) (stX_stable (Nat.le_refl _) hnb) (fun j => w2.heap.size ≤ j ∧ j < W3.heap.size) (fun j hj => ⟨hj.1, by rw [HZ4.out]; omega, fun h => h⟩) HI4.out ?_ ?_ ?_
        · intro l pre x C W hl hl2 hI hCb hlen hok
          obtain ⟨s', R'⟩ := hok
          have hLx := HAt.out pre x s' R'
          have HI1 := Lib.hid (stI_stable (Nat.le_refl _) hnb _ _ _ _ hI ((Below.refl _ _).alloc hI.2.1.size (.cells #[.int .u8 x.letter, .int .i64 x.corner, .int .i64 x.loops, .int .i64 x.length] 55)) (fun j hj => Below.heap_alloc _ _ _ (hCb j hj).2))
          have hxl := HLe.out.1 x (List.mem_of_getElem? hLx)
          have hWs := wordS_at hLx hxl
          rw [Hwd.out] at hWs
          have HHx := Lib.hid hLx
          have hpm : pre.length < m := by have := (List.getElem?_eq_some_iff.1 hLx).1; have := Hm.out; omega
          have hrng : W3.heap.size < W.heap.size := by have := HZ4.out; omega
          have hLW := hl2
          clear hI R' HI4 hLx hl hl2 hlen
          obtain ⟨xl, xc, xo, xn⟩ := x
          simp only at HI1 hxl hWs
          unfold encS
          gi_wp2
          refine ⟨(Kept.refl _ _).alloc _, HI1.out, ?_⟩
          intro W2 hk2 hI2 hCb2 hz2
          have bs : Blk W2 W.heap.size 55 #[.int .u8 xl, .int .i64 xc, .int .i64 xo, .int .i64 xn] := blk_same (Blk.new W _ _) (hk2.block W.heap.size (by simp) (by omega))
          obtain ⟨ls, s0, s1, s2, s3, -⟩ := four bs
          obtain ⟨hCi, hBI, hn, hsame⟩ := hI2
          have hrC := own_same HrC6.out (fun j e => by have h9 := HrC6.out.lt j e; have h8 := Hg.out; cases e; exact hsame gC (by omega) h9.2 (by omega))
          have hrO := own_same HrO6.out (fun j e => by have h9 := HrO6.out.lt j e; have h8 := Hg.out; cases e; exact hsame gO (by omega) h9.2 (by omega))
          have hrE := own_same HrE6.out (fun j e => by have h9 := HrE6.out.lt j e; have h8 := Hg.out; cases e; exact hsame gE (by omega) h9.2 (by omega))
          have hY := blk_same HY6.out (hsame w5.heap.size (by omega) (by have := HZ6.out; omega) (by omega))
          obtain ⟨k9, hk9⟩ : ∃ k9, pre.length = k9 := ⟨_, rfl⟩
          have HHk := Lib.hid hk9
          rw [hk9] at hn hWs hpm HHx
          have hC1 : W2.cell? ⟨gC, k9 + 1, none⟩ = some (.int .i64 xc) := by
            rw [hrC.cellAt (k9 + 1) (by omega)]
            unfold intsV
            rw [List.map_cons, List.getElem?_cons_succ, List.map_map, List.getElem?_map, HHx.out]
            rfl
          have hO1 : W2.cell? ⟨gO, k9, none⟩ = some (.int .i64 (xo : Int)) := by
            rw [hrO.cellAt k9 (by omega)]
            unfold intsV
            rw [List.map_map, List.getElem?_map, HHx.out]
            rfl
          have hE1 : W2.cell? ⟨gE, k9, none⟩ = some (.int .i64 (xn : Int)) := by
            rw [hrE.cellAt k9 (by omega)]
            unfold intsV
            rw [List.map_map, List.getElem?_map, HHx.out]
            rfl
          obtain ⟨ly, y0, -, y1, -, y2, -, y3, -, y4, -⟩ := five9 hY
          obtain ⟨ln, n0, nf0⟩ := hn.one
          have HBI := Lib.hid hBI
          have HCi := Lib.hid hCi
          have HSame := Lib.hid hsame
          have HN := Lib.hid hn
          have hk9m : (k9 : Int) < (m : Int) := by omega
          have hk9z : decide (m ≤ k9) = false := by simp; omega
          clear hk9 hk2 hz2 bs hCi hBI hn hsame hrC hrO hrE hY hCb hCb2 HI1 y1
          obtain ⟨hs9, hs8⟩ := hWs
          have hidx : ∀ w', (Instr.index 9 (.string wd) (.int .i64 (k9 : Int))).run Tryz.prog w' = .ok (.int .u8 xl) w' := by
            intro w'
            rw [← hs8]
            simp [Instr.index, run_underlying Tryz.underlying9, go_sem, hs9]
          have bt2 := HBt2.out.below HBI.out HBt2.out.lt
          obtain ⟨lt0, t0, -⟩ := bt2.one
          have hne1 : w2.heap.size ≠ w.heap.size + 1 := by have := HIS.out; omega
          gi_wp2_with fail
          refine wpIn_round_quiet rfl (by kernel_rfl) (by kernel_rfl) (by kernel_rfl) ?_
          repeat (gi_big_quiet_step (fail))
          refine wpQuietIn_nil ?_
          intro _ hw'
          obtain ⟨nq, hw''⟩ := hw'
          subst hw''
          have hkF : Kept C W2 ((W2.drewN nq).setCell ⟨w2.heap.size, 0, none⟩ (.int .i64 ((k9 : Int) + 1))) := Kept.setCell (a := W2) (w := W2.drewN nq) (p := ⟨w2.heap.size, 0, none⟩) (Kept.of (w := W2) (w' := W2.drewN nq) ⟨rfl, rfl, rfl, Nat.le_refl _, fun _ _ => rfl⟩) (.inl ((HCi.out _).2 ⟨Nat.le_refl _, hnb⟩)) _
          have HFin := Lib.hid (show Kept C W2 ((W2.drewN nq).setCell ⟨w2.heap.size, 0, none⟩ (.int .i64 ((k9 : Int) + 1))) ∧ StI w2 W3 w2.heap.size (pre ++ [(⟨xl, xc, xo, xn⟩ : WStep)]) C ((W2.drewN nq).setCell ⟨w2.heap.size, 0, none⟩ (.int .i64 ((k9 : Int) + 1))) from by
            refine ⟨hkF, HCi.out, HBI.out.trans (hkF.below (fun j hj => ((HCi.out j).1 hj).1) HBI.out.size), ?_, fun j j1 j2 j3 => ?_⟩
            · have e9 : ((pre ++ [(⟨xl, xc, xo, xn⟩ : WStep)]).length : Int) = (k9 : Int) + 1 := by rw [List.length_append, HHk.out]; simp
              rw [e9]
              exact (HN.out.drewN nq).set1 _
            · exact (Below.heap_setCell _ _ _ j j3).trans (HSame.out j j1 j2 j3))
          have HLn := Lib.hid (show ((pre ++ [(⟨xl, xc, xo, xn⟩ : WStep)]).length : Int) = (k9 : Int) + 1 from by
            rw [List.length_append, HHk.out]
            simp)
          clear hkF
          by_cases hst9 : (k9 : Int) + 1 = st
          · have hq9 : ((k9 : Int) + 1 == st) = true := by simpa using hst9
            have Hst9 := Lib.hid hst9
            clear hst9
            gi_wp2
            exact ⟨HFin.out.1, C, fun j hj => .inl hj, rfl, by rw [HLn.out]; exact Hst9.out, HFin.out.2⟩
          · have hq9 : ((k9 : Int) + 1 == st) = false := by simpa using hst9
            clear hst9
            gi_wp2
            exact ⟨HFin.out.1, C, fun j hj => .inl hj, HFin.out.2⟩
        · intro D xs C W hD hnD hfin hI hK
          subst hfin
          obtain ⟨hCi, hBI, hn, hsame⟩ := hI
          rw [HHL.out, Hm.out] at hn
          have hY := blk_same HY6.out (hsame w5.heap.size (by omega) (by have := HZ6.out; omega) (by omega))
          have HB5 := Lib.hid (HB2.out.trans (hBI.mono HB2.out.size))
          have HBr5 := Lib.hid (HBr2.out.below hBI HBr2.out.lt)
          have hz9 : w2.heap.size < D := by have := HZ4.out; omega
          have hDr : D ≠ w.heap.size + 1 + 1 := fun e => by have := HIS.out; omega
          have hwD : w.heap.size ≤ D := by have := HIS.out; omega
          obtain ⟨-, y0, -⟩ := five9 hY
          obtain ⟨-, n0, -⟩ := hn.one
          obtain ⟨lr, r0, rf0⟩ := HBr5.out.one
          have HKx := Lib.hid hK
          have HDr := Lib.hid hDr
          clear hCi hBI hn hsame hY hK hDr hnD HI4 Hbx Hbv hD
          gi_wp2
          have bF := HBr5.out.set1 (.bool true)
          refine ⟨by simp, .inl ⟨_, _, rfl, run_takeDeferred ((Below.heap_setCell _ _ _ D (by simpa using HDr.out)).trans HKx.out), ?_⟩⟩
          obtain ⟨-, q0, -⟩ := (blk_same bF (World.putObj_heap_other (o := .deferred none) (fun e => HDr.out e.symm)) : Blk ((W.setCell ⟨w.heap.size + 1 + 1, 0, none⟩ (.bool true)).putObj D (.deferred none)) _ _ _).one
          refine ⟨.bool true, ?_, rfl, ?_⟩
          · simp [results, Tryz.results6, go_sem, q0]
          · exact (HB5.out.setCell (p := ⟨w.heap.size + 1 + 1, 0, none⟩) (by simp only; omega) _).trans (putObj_below hwD)
        · intro D cd pre C W hD hnD hsp hI hK
          obtain ⟨rfl, hln, hCi, hBI, hn, hsame⟩ := hI
          rw [hln] at hn
          have hY := blk_same HY6.out (hsame w5.heap.size (by omega) (by have := HZ6.out; omega) (by omega))
          have HB5 := Lib.hid (HB2.out.trans (hBI.mono HB2.out.size))
          have HBr5 := Lib.hid (HBr2.out.below hBI HBr2.out.lt)
          have hbt5 := HBt2.out.below hBI HBt2.out.lt
          have hz9 : w2.heap.size < D := by have := HZ4.out; omega
          have hDr : D ≠ w.heap.size + 1 + 1 := fun e => by have := HIS.out; omega
          have hwD : w.heap.size ≤ D := by have := HIS.out; omega
          obtain ⟨-, y0, -⟩ := five9 hY
          obtain ⟨-, n0, -⟩ := hn.one
          obtain ⟨-, t0, -⟩ := hbt5.one
          obtain ⟨lr, r0, rf0⟩ := HBr5.out.one
          have HKx := Lib.hid hK
          have HDr := Lib.hid hDr
          clear hCi hBI hn hsame hY hK hDr hnD HI4 Hbx Hbv hD hbt5 hln hsp
          by_cases hq : st = (m : Int)
          all_goals
            first
              | (have hq9 : (st == (m : Int)) = true := by simpa using hq)
              | (have hq9 : (st == (m : Int)) = false := by simpa using hq)
            clear hq
            gi_wp2
            have bF := HBr5.out.set1 (.bool true)
            refine ⟨by simp, .inl ⟨_, _, rfl, run_takeDeferred ((Below.heap_setCell _ _ _ D (by simpa using HDr.out)).trans HKx.out), ?_⟩⟩
            obtain ⟨-, q0, -⟩ := (blk_same bF (World.putObj_heap_other (o := .deferred none) (fun e => HDr.out e.symm)) : Blk ((W.setCell ⟨w.heap.size + 1 + 1, 0, none⟩ (.bool true)).putObj D (.deferred none)) _ _ _).one
            refine ⟨.bool true, ?_, rfl, ?_⟩
            · simp [results, Tryz.results6, go_sem, q0]
            · exact (HB5.out.setCell (p := ⟨w.heap.size + 1 + 1, 0, none⟩) (by simp only; omega) _).trans (putObj_below hwD)
      · have hbt : b = false := by
          cases b
          · rfl
          · exact absurd (HSR.out.1 (hbb.1 rfl)) hs
        subst hbt
        have Hs := Lib.hid hs
        clear hbb hs
        gi_wp2_with fail
        refine ⟨trivial, (callsIn_wide.2 (callsIn_wide.1 (wsteps_any Fence.wide 8 trivial rfl (some ⟨g, 0, none⟩) (k : Int) w4))).mono ?_⟩
        rintro e w6 ⟨rfl, rfl⟩
        have hb5 : Below w4.heap.size w4 ((w4.alloc (.cells #[.pointer (some ⟨g, 0, none⟩)] 26)).alloc (.cells #[.int .i64 (k : Int)] 3)) := ((Below.refl _ _).alloc (Nat.le_refl _) _).alloc (by simp) _
        have bx : Blk ((w4.alloc (.cells #[.pointer (some ⟨g, 0, none⟩)] 26)).alloc (.cells #[.int .i64 (k : Int)] 3)) w4.heap.size 26 #[.pointer (some ⟨g, 0, none⟩)] := (Blk.new _ _ _).alloc _
        have bv : Blk ((w4.alloc (.cells #[.pointer (some ⟨g, 0, none⟩)] 26)).alloc (.cells #[.int .i64 (k : Int)] 3)) (w4.heap.size + 1) 3 #[.int .i64 (k : Int)] := blk_new_at (by simp)
        have HT5 := Lib.hid (HT2.out.below (HB4'.out.trans (hb5.mono HB4'.out.size)))
        have HN5 := Lib.hid (HN4.out.below hb5 HN4.out.lt)
        have HB5 := Lib.hid (HB4.out.trans (hb5.mono HB4.out.size))
        have HR5 := Lib.hid ((HBr2.out.below HB4'.out HBr2.out.lt).below hb5 (by have := HBr2.out.lt; have := HB4'.out.size; omega))
        have Hbx := Lib.hid bx
        have Hbv := Lib.hid bv
        clear hb5 bx bv HN4 HB4 HB4'
        gi_wp2_with fail
        generalize (w4.alloc (.cells #[.pointer (some ⟨g, 0, none⟩)] 26)).alloc (.cells #[.int .i64 (k : Int)] 3) = W4 at *
        refine wpIn_rangeFunc_sep rfl (by omega) (gf := 58) (lb := #[.pointer (some ⟨w4.heap.size, 0, none⟩), .pointer (some ⟨w4.heap.size + 1, 0, none⟩)]) rfl trivial (enters_of Tryz.func58 (by kernel_rfl) rfl)
          (steps_none_sep (w := W4) (m := 8) (Bt := w4.heap.size) (Bc := w4.heap.size + 1) (a := some ⟨g, 0, none⟩) (r := (k : Int)) (z := 12) (by decide) (fun W hW => by
            have := check_walk g n T W (k : Int) (HT5.out.below hW) HSu.out (by have := HK.out; omega) (fun W' hW' => loopsB_any g n T W' ((HT5.out.below hW).below hW') HSu.out (by have := HSu.out.n1; omega))
            rw [if_neg (by have h8 := HK.out; have h9 := HFl.out; rw [h9]; omega), if_neg (fun h => Hs.out ((chk_simp HSu.out).1 h))] at this
            exact this)) (fun W hW => ⟨(hW.cell (p := ⟨w4.heap.size, 0, none⟩) Hbx.out.lt).trans (Hbx.out.cell 0), (hW.cell (p := ⟨w4.heap.size + 1, 0, none⟩) Hbv.out.lt).trans (Hbv.out.cell 0), Nat.lt_of_lt_of_le Hbx.out.lt hW.size, Nat.lt_of_lt_of_le Hbv.out.lt hW.size⟩) (fun _ h => h.elim) (Below.refl _ _) (fun _ => rfl)
          (fun _ _ W => Below W4.heap.size W4 W) (fun _ _ _ _ => False) (fun _ _ A B h hb _ => h.trans (hb.mono (Nat.le_refl _))) (fun _ _ _ _ _ h => h.elim) (fun _ => False) (fun _ h => h.elim) (Below.refl _ _) ?_ ?_ ?_
        · intro l pre x C W _ _ _ _ hlen
          exact absurd hlen (Nat.not_lt_zero _)
        · intro D xs C W hD _ _ hI hK
          have HB6 := Lib.hid (HB5.out.trans (hI.mono HB5.out.size))
          have hN6 := HN5.out.below hI HN5.out.lt
          have hR6 := HR5.out.below hI HR5.out.lt
          have HR6 := Lib.hid hR6
          have hDr : D ≠ w.heap.size + 1 + 1 := fun e => by have := HR5.out.lt; omega
          have hwD : w.heap.size ≤ D := by have := HB5.out.size; omega
          have HKx := Lib.hid hK
          have HDr := Lib.hid hDr
          obtain ⟨-, n0, -⟩ := hN6.one
          obtain ⟨-, r0, rf0⟩ := hR6.one
          clear hI hK hN6 hR6 hDr Hbx Hbv
          gi_wp2
          have bF := HR6.out.set1 (.bool true)
          refine ⟨by simp, .inl ⟨_, _, rfl, run_takeDeferred ((Below.heap_setCell _ _ _ D (by simpa using HDr.out)).trans HKx.out), ?_⟩⟩
          obtain ⟨-, q0, -⟩ := (blk_same bF (World.putObj_heap_other (o := .deferred none) (fun e => HDr.out e.symm)) : Blk ((W.setCell ⟨w.heap.size + 1 + 1, 0, none⟩ (.bool true)).putObj D (.deferred none)) _ _ _).one
          refine ⟨.bool true, ?_, rfl, ?_⟩
          · simp [results, Tryz.results6, go_sem, q0]
          · exact (HB6.out.setCell (p := ⟨w.heap.size + 1 + 1, 0, none⟩) (by simp only; omega) _).trans (putObj_below hwD)
        · intro D cd pre C W _ _ _ h _
          exact h.elim
end Go.Proofs.YtghlnknncahkgaaGreat
