/-
  gypsumlaw21.WalkBits returns true, by walking its text.
-/
import Derived.Test.YtghlnknncahkgaaGreatK14
import Derived.Test.YtghlnknncahkgaaGreatK1
import Derived.Lib.OthersKept
namespace Go.Proofs.YtghlnknncahkgaaGreat
open Go.RowKit Go.Maps Go.Shelf

/-- How often a letter stands in a row of steps. -/
def many (z : Int) (L : List WStep) : Nat := L.countP fun x => decide (x.letter = z)
theorem many_snoc (z : Int) (L : List WStep) (x : WStep) : many z (L ++ [x]) = many z L + (if x.letter = z then 1 else 0) := by
  unfold many
  rw [List.countP_append]
  by_cases h : x.letter = z <;> simp [h]
theorem many_le (z : Int) (L : List WStep) : many z L ≤ L.length := List.countP_le_length
theorem many_sum : ∀ (L : List WStep), (∀ x ∈ L, x.letter = 67 ∨ x.letter = 69 ∨ x.letter = 76 ∨ x.letter = 82 ∨ x.letter = 83) → many 67 L + many 76 L + many 82 L + many 69 L + many 83 L = L.length := by
  intro L
  induction L with
  | nil => intro _; rfl
  | cons x r ih =>
    intro h
    have h1 := ih (fun y hy => h y (List.mem_cons_of_mem _ hy))
    have h2 := h x (List.mem_cons_self ..)
    unfold many at h1 ⊢
    simp only [List.countP_cons, decide_eq_true_eq, List.length_cons]
    rcases h2 with e | e | e | e | e <;> rw [e] <;> simp <;> omega
theorem newV_len (T : List Tr) (L : List WStep) : (newV T L).length = many 67 L := by
  unfold newV many
  rw [List.length_map, List.countP_eq_length_filter]
theorem walk_many {n c : Nat} {T : List Tr} (h : Simp n T) (hc : c < 3 * T.length) : many 67 (stepsM T c) + 3 = n ∧ many 69 (stepsM T c) = many 83 (stepsM T c) + 1 ∧ many 67 (stepsM T c) + many 76 (stepsM T c) + many 82 (stepsM T c) + many 69 (stepsM T c) + many 83 (stepsM T c) = (stepsM T c).length ∧ (stepsM T c).length + 1 = T.length ∧ 2 * n = T.length + 4 := by
  obtain ⟨s, Xs, R, e, G, rfl⟩ := walk_end h hc
  have h1 := walkV_len h hc
  unfold walkV at h1
  rw [List.length_append, newV_len] at h1
  have h2 := G.cnt
  have h3 := many_sum (stepsM T c) (fun x hx => by
    obtain ⟨d, -, -, -, -, -, h⟩ := G.each x hx
    exact h)
  have h4 := h.euler
  have hb : (beginS T c).come.length = 3 := rfl
  refine ⟨by omega, ?_, h3, walk_len h hc, by omega⟩
  show List.countP _ _ = List.countP _ _ + 1
  simp only [List.length_nil] at h2
  omega
/-- The bits, and the map, behind so many letters. -/
def bitsM (L : List WStep) : Int := 3 * (L.length : Int) - 2 * (many 67 L : Int)
theorem bitsM_snoc (L : List WStep) (x : WStep) : bitsM (L ++ [x]) = bitsM L + (if x.letter = 67 then 1 else 3) := by
  unfold bitsM
  rw [many_snoc, List.length_append]
  split <;> simp <;> omega
def cntM (L : List WStep) : Int → Int := fun z => (many z L : Int)
theorem cntM_snoc (L : List WStep) (x : WStep) : cntM (L ++ [x]) = fun y => if y = x.letter then cntM L x.letter + 1 else cntM L y := by
  funext y
  unfold cntM
  rw [many_snoc]
  by_cases e : y = x.letter
  · subst e; simp
  · rw [if_neg e, if_neg (fun h => e h.symm)]
    simp
set_option maxRecDepth 100000 in
set_option maxHeartbeats 8000000 in
theorem walkBits_walk (N : Int) (v : Value) (T : List Tr) (r : Int) (w : World) (h : TrisRd w v T) (hr : 0 ≤ r ∧ r ≤ 255) :
    Calls Tryz.prog 8 #[.agg #[.int .i64 N, v], .int .u8 r] w fun e w' => e = .returned (.bool true) ∧ Below w.heap.size w w' := by
  have b1 := Blk.new w 24 #[.int .i64 N, v]
  have hB0 : Below w.heap.size w (w.alloc (.cells #[.int .i64 N, v] 24)) := (Below.refl _ _).alloc (Nat.le_refl _) _
  have HS := Lib.hid (simpleL_any N v T r _ (h.below hB0) hr)
  have HA := Lib.hid awake21_any
  obtain ⟨a, c, rfl, -, -, -⟩ := h
  have HB0 := Lib.hid hB0
  have Hb1 := Lib.hid b1
  obtain ⟨l0, x0, -, x1, -⟩ := b1.two
  clear b1 hB0
  have hmm := @run_makeMap Tryz.prog
  go_enter Tryz.func8, Tryz.ntmps8
  go_wp2_with fail
  refine HS.out.mono ?_
  rintro e w1 ⟨p, cz, b, rfl, hfit, hb1⟩
  have HS1 := Lib.hid (Hb1.out.below hb1 l0)
  have HB1 := Lib.hid (HB0.out.trans (hb1.mono HB0.out.size))
  clear x0 x1 l0 hb1
  cases b
  · clear hfit
    go_wp2_with fail
    refine (HA.out _).mono ?_
    rintro e w2 ⟨rfl, hb2⟩
    have HB2 := Lib.hid (HB1.out.trans (hb2.mono HB1.out.size))
    clear hb2
    go_wp2_with fail
    refine (HA.out _).mono ?_
    rintro e w3 ⟨rfl, hb3⟩
    have HB3 := Lib.hid (HB2.out.trans (hb3.mono HB2.out.size))
    clear hb3
    go_wp2
    go_ret
    exact ⟨rfl, HB3.out⟩
  · obtain ⟨g, n, k, rfl, rfl, rfl, hT, hSi, hl, hk⟩ := hfit rfl
    have HSi := Lib.hid hSi
    have HT1 := Lib.hid hT
    have HK := Lib.hid hk
    clear hfit hT hSi hk
    go_wp2_with fail
    refine (HA.out _).mono ?_
    rintro e w2 ⟨rfl, hb2⟩
    have HB2 := Lib.hid (HB1.out.trans (hb2.mono HB1.out.size))
    have HS2 := Lib.hid (HS1.out.below hb2 HS1.out.lt)
    have HT2 := Lib.hid (HT1.out.below hb2)
    clear hb2
    have HW := Lib.hid (walk_any HSi.out HT2.out HK.out)
    go_wp2_with fail
    refine HW.out.mono ?_
    rintro e w3 ⟨vV, vC, rfl, hV, hC, hb3⟩
    obtain ⟨aV, cV, rfl⟩ := ownsRow_slice hV
    obtain ⟨aC, cC, rfl⟩ := ownsRow_slice hC
    generalize ((beginS T k).come ++ newV T (stepsM T k)).length = lV at *
    generalize (stepsM T k).length.succ = lC at *
    clear hV hC
    have HB3 := Lib.hid (HB2.out.trans (hb3.mono HB2.out.size))
    have HS3 := Lib.hid (HS2.out.below hb3 HS2.out.lt)
    obtain ⟨L, hL⟩ : ∃ L, stepsM T k = L := ⟨_, rfl⟩
    have HM := Lib.hid (walk_many HSi.out HK.out)
    have hby : Hid (∀ i (hi : i < L.length), ∃ hs : i < (wordS L).size, ((((wordS L)[i]'hs).toNat : Nat) : Int) = (L[i]).letter ∧ ((wordS L)[i]'hs).toNat < 128) := by
      refine Lib.hid (fun i hi => ?_)
      obtain ⟨s, Xs, R, e, G, -⟩ := walk_end HSi.out HK.out
      rw [hL] at G
      obtain ⟨d, -, -, -, -, -, hlt⟩ := G.each _ (List.getElem_mem hi)
      have hs : i < (wordS L).size := by simpa [wordS, ByteArray.size] using hi
      have he : (wordS L)[i]'hs = UInt8.ofNat (L[i]).letter.toNat := by
        show ((wordS L).data[i]'hs) = _
        simp [wordS]
      refine ⟨hs, ?_, ?_⟩
      · rw [he, UInt8.toNat_ofNat']; omega
      · rw [he, UInt8.toNat_ofNat']; omega
    have hws : (wordS L).size = L.length := by simp [wordS, ByteArray.size]
    rw [hL] at HM ⊢
    obtain ⟨W, hW⟩ : ∃ W, wordS L = W := ⟨_, rfl⟩
    rw [hW] at hws hby ⊢
    obtain ⟨F, hF⟩ : ∃ F, T.length = F := ⟨_, rfl⟩
    rw [hF] at hl HS3 HM ⊢
    clear hb3 hW hF HS1 HS2 HT1 HT2 HB1 HB2 HW hL
    have hL4 : L.length ≤ 40 := by have := HM.out; omega
    have bT := Blk.new w3 45 #[.string W, .slice aV lV cV, .slice aC lC cC]
    have HBx := Lib.hid (show Below w.heap.size w (w3.alloc (.cells #[.string W, .slice aV lV cV, .slice aC lC cC] 45)) from HB3.out.alloc HB3.out.size _)
    obtain ⟨lt0, t0, tf0, t1, tf1, t2, tf2⟩ := bT.three
    obtain ⟨ls, s0, -, s1, -⟩ := (HS3.out.alloc (.cells #[.string W, .slice aV lV cV, .slice aC lC cC] 45)).two
    go_wp2
    have hm0 := MapI.made (w3.alloc (.cells #[.string W, .slice aV lV cV, .slice aC lC cC] 45)) Tryz.prog 21 3 .i32 .i64
    have HX := Lib.hid (fun (Y : World) (hY : Below (w3.alloc (.cells #[.string W, .slice aV lV cV, .slice aC lC cC] 45)).heap.size (w3.alloc (.cells #[.string W, .slice aV lV cV, .slice aC lC cC] 45)) Y) =>
      And.intro (bT.below hY bT.lt) ((HS3.out.alloc (.cells #[.string W, .slice aV lV cV, .slice aC lC cC] 45)).below hY ls))
    have hz4 : (w3.alloc (.cells #[.string W, .slice aV lV cV, .slice aC lC cC] 45)).heap.size = w3.heap.size + 1 := by simp
    rw [hz4] at hm0
    have HZ4 := Lib.hid hz4
    clear hz4 bT t0 tf0 t1 tf1 t2 tf2 lt0 s0 s1 ls hmm HS3
    generalize (w3.alloc (.cells #[.string W, .slice aV lV cV, .slice aC lC cC] 45)) = w4 at *
    have hz5 : (w4.alloc (.map #[] 0)).heap.size = w3.heap.size + 1 + 1 := by rw [size_alloc', HZ4.out]
    have hit := World.iter_heap (w4.alloc (.map #[] 0)) W 0
    rw [hz5] at hit
    have hm1 : MapI Tryz.prog 21 3 .i32 .i64 ((w4.alloc (.map #[] 0)).iter W 0) (w3.heap.size + 1) 0 (fun _ => 0) := hm0.below ((Below.refl _ _).alloc (Nat.le_refl _) _) (by rw [hz5]; omega)
    have hB5 : Below w4.heap.size w4 ((w4.alloc (.map #[] 0)).iter W 0) := ((Below.refl _ _).alloc (Nat.le_refl _) _).alloc (by simp) _
    have HM1 := Lib.hid hm1
    have HIt := Lib.hid hit
    have HB5 := Lib.hid hB5
    clear hm0 hm1 hit hB5 hz5
    generalize (w4.alloc (.map #[] 0)).iter W 0 = w5 at *
    go_loopw [10] (fun v10 Y => ∃ j : Nat, j ≤ L.length ∧ v10 = .int .i64 (bitsM (L.take j)) ∧ MapI Tryz.prog 21 3 .i32 .i64 Y (w3.heap.size + 1) j (cntM (L.take j)) ∧ Y.heap[w3.heap.size + 1 + 1]? = some (.stringIter W j) ∧ Below w4.heap.size w4 Y) (fun v10 _ => 200 - (intOf v10).toNat)
    case atStart => exact ⟨0, Nat.zero_le _, rfl, HM1.out, HIt.out, HB5.out⟩
    case round =>
      obtain ⟨j, hj, rfl, hm, hit, hB⟩ := hrel
      rename World => wr
      have HM2 := Lib.hid hm
      have HI2 := Lib.hid hit
      have HB := Lib.hid hB
      by_cases hjL : j < L.length
      · obtain ⟨hs, hz, h128⟩ := hby.out j hjL
        obtain ⟨z, hzz⟩ : ∃ z, (L[j]).letter = z := ⟨_, rfl⟩
        have hnext := fun ty => Lib.run_next_ascii_at (P := Tryz.prog) wr (w3.heap.size + 1 + 1) W j ty hit hs h128
        have hz' : (((W[j]'hs).toNat : Nat) : Int) = z := by rw [hz, hzz]
        rw [hz'] at hnext
        have hzr : 0 ≤ z ∧ z < 128 := by omega
        have htk : L.take (j + 1) = L.take j ++ [L[j]] := List.take_succ_eq_append_getElem hjL
        have hbt := bitsM_snoc (L.take j) L[j]
        have hct := cntM_snoc (L.take j) L[j]
        rw [← htk, hzz] at hbt hct
        have hbl : 0 ≤ bitsM (L.take j) ∧ bitsM (L.take j) ≤ 3 * j := by
          unfold bitsM
          have h1 := many_le 67 (L.take j)
          have h2 : (L.take j).length = j := by rw [List.length_take]; omega
          rw [h2] at h1 ⊢
          omega
        have hcl : 0 ≤ cntM (L.take j) z ∧ cntM (L.take j) z ≤ j := by
          unfold cntM
          have h1 := many_le z (L.take j)
          have h2 : (L.take j).length = j := by rw [List.length_take]; omega
          omega
        obtain ⟨B, hBv⟩ : ∃ B, bitsM (L.take j) = B := ⟨_, rfl⟩
        rw [hBv] at hbl hbt ⊢
        have Hbt := Lib.hid hbt
        have Hct := Lib.hid hct
        have hbI := Lib.below_iterAt (B := w3.heap.size + 1 + 1) (a := wr) (Below.refl _ _) (k := w3.heap.size + 1 + 1) (Nat.le_refl _) W (j + 1)
        have hmI : MapI Tryz.prog 21 3 .i32 .i64 (wr.iterAt (w3.heap.size + 1 + 1) W (j + 1)) (w3.heap.size + 1) j (cntM (L.take j)) := HM2.out.below hbI (by omega)
        have HmI := Lib.hid hmI
        have HhI := Lib.hid (Lib.iterAt_heap wr (w3.heap.size + 1 + 1) W j (j + 1) hit)
        have HBI := Lib.hid (show Below w4.heap.size w4 (wr.iterAt (w3.heap.size + 1 + 1) W (j + 1)) from HB.out.trans (hbI.mono (by rw [HZ4.out]; omega)))
        have Hjl := Lib.hid hjL
        have hj40 : (j : Int) < 40 := by omega
        have hwz : (Lit.int .i32 z).wf = true := WalkArith.wf_i32 (by omega)
        clear hz hz' hzz hbt hct hBv hm hit hB htk hbI hmI h128
        by_cases h67 : z = 67
        · have hq : (z == 67) = true := by simpa using h67
          have H67 := Lib.hid h67
          clear h67
          go_wp2_with (first
            | (at_lookup; refine wpList_lookupI HmI.out rfl _ _ 62 rfl Tryz.underlying21 Tryz.underlying62 Tryz.underlying3 (zero_int _) rfl _ rfl hwz ?_)
            | (at_mapUpdate; refine wpList_storeI HmI.out rfl _ _ _ 62 rfl Tryz.underlying21 Tryz.underlying62 Tryz.underlying3 (by unfold maxLen; omega) rfl _ _ rfl rfl hwz (WalkArith.wf_i64 (by omega)) ?_; intro w6 hm6 hg6))
          go_roundw
          case measure => simp [intOf]; omega
          case rel => exact ⟨j + 1, by have := Hjl.out; omega, by rw [Hbt.out, if_pos H67.out], by rw [Hct.out]; exact hm6, (hg6.block _ (by rw [Lib.iterAt_size]; have := (Array.getElem?_eq_some_iff.1 HI2.out).1; exact this) (by simp)).trans HhI.out, HBI.out.grown hg6 HBI.out.size (fun q e => by cases e; rw [HZ4.out]; omega)⟩
        · have hq : (z == 67) = false := by simpa using h67
          have H67 := Lib.hid h67
          clear h67
          go_wp2_with (first
            | (at_lookup; refine wpList_lookupI HmI.out rfl _ _ 62 rfl Tryz.underlying21 Tryz.underlying62 Tryz.underlying3 (zero_int _) rfl _ rfl hwz ?_)
            | (at_mapUpdate; refine wpList_storeI HmI.out rfl _ _ _ 62 rfl Tryz.underlying21 Tryz.underlying62 Tryz.underlying3 (by unfold maxLen; omega) rfl _ _ rfl rfl hwz (WalkArith.wf_i64 (by omega)) ?_; intro w6 hm6 hg6))
          go_roundw
          case measure => simp [intOf]; omega
          case rel => exact ⟨j + 1, by have := Hjl.out; omega, by rw [Hbt.out, if_neg H67.out], by rw [Hct.out]; exact hm6, (hg6.block _ (by rw [Lib.iterAt_size]; have := (Array.getElem?_eq_some_iff.1 HI2.out).1; exact this) (by simp)).trans HhI.out, HBI.out.grown hg6 HBI.out.size (fun q e => by cases e; rw [HZ4.out]; omega)⟩
      · obtain rfl : j = L.length := by omega
        have hnext := fun ty => Lib.run_next_end_at (P := Tryz.prog) wr (w3.heap.size + 1 + 1) W L.length ty hit (by omega)
        obtain ⟨xT, xS⟩ := HX.out _ hB
        obtain ⟨lt0, t0, -, t1, -, t2, -⟩ := xT.three
        obtain ⟨ls, s0, -, s1, -⟩ := xS.two
        have look : ∀ z : Int, (Lit.int .i32 z).wf = true → (Instr.lookup 62 (.map (some (w3.heap.size + 1))) (.int .i32 z) false).run Tryz.prog wr = .ok (.int .i64 (many z L : Int)) wr := fun z hz => by
          have := hm.look (t := 62) Tryz.underlying21 Tryz.underlying62 Tryz.underlying3 (zero_int _) hz
          rw [List.take_length] at this
          exact this
        have k67 := look 67 (by decide)
        have k69 := look 69 (by decide)
        have k76 := look 76 (by decide)
        have k82 := look 82 (by decide)
        have k83 := look 83 (by decide)
        rw [List.take_length]
        have hbb : bitsM L = 3 * (L.length : Int) - 2 * (many 67 L : Int) := rfl
        rw [hbb]
        obtain ⟨m1, m2, m3, m4, m5⟩ := HM.out
        generalize many 67 L = p1 at *
        generalize many 69 L = p2 at *
        generalize many 76 L = p3 at *
        generalize many 82 L = p4 at *
        generalize many 83 L = p5 at *
        clear look hm hit hB xT xS hbb HM2 HI2 hby HM1
        generalize L.length = ll at *
        have f1 : (3 * (ll : Int) - 2 * (p1 : Int) == 2 * (F : Int) - 1) = true := by simp; omega
        have f2 : ((p1 : Int) == (n : Int) - 3) = true := by simp; omega
        have f3 : ((p2 : Int) == (p5 : Int) + 1) = true := by simp; omega
        have f4 : ((p1 : Int) + (p3 : Int) + (p4 : Int) + (p2 : Int) + (p5 : Int) == (ll : Int)) = true := by simp; omega
        have hfin : ((p1 : Int) + (p3 : Int) + (p4 : Int) + ((p5 : Int) + 1) + (p5 : Int) == (ll : Int)) = true := by simp; omega
        have Hfin := Lib.hid hfin
        have HFB := Lib.hid (HBx.out.trans (HB.out.mono HBx.out.size))
        clear f4 hfin
        go_wp2
        go_ret
        refine ⟨?_, HFB.out⟩
        first
          | rfl
          | (exact congrArg (fun b => Ending.returned (Value.bool b)) Hfin.out)
end Go.Proofs.YtghlnknncahkgaaGreat
