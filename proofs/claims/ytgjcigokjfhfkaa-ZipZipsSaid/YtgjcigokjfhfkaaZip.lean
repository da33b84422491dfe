/-
  zip.Zip, by walking its text.
-/
import Derived.Test.YtgjcigokjfhfkaaStepE
import Derived.Test.YtgjcigokjfhfkaaAdd
import Derived.Test.YtgjcigokjfhfkaaZipN
import Derived.Test.YtgjcigokjfhfkaaSeconds
import Derived.Test.YtgjcigokjfhfkaaWCount
import Derived.Test.YtgjcigokjfhfkaaLeast
namespace Go.Proofs.Ytgjcigokjfhfkaa
open Go.RowKit Go.Maps

theorem below_chain {B : Nat} {w a b : World} (h : Below B w a) (h2 : Below B a b) : Below B w b :=
  ⟨h2.os.trans h.os, h2.tape.trans h.tape, h2.output.trans h.output, Nat.le_trans h.size h2.size, fun k hk => (h2.block k hk).trans (h.block k hk)⟩
theorem results_ctt {fn : Func} {p u v : Tmp} {ty : TypeId} (h : fn.results = #[.cell p ty, .tmp u, .tmp v]) (tmps : Array Value) (P : Program) (w : World) :
    (results fn tmps).run P w =
      ((asAddr (tmps.getD p undef)).run P w).andThen fun a w₁ => ((loadVar ty a).run P w₁).andThen fun x w₂ => .ok (.tuple #[x, tmps.getD u undef, tmps.getD v undef]) w₂ := by
  simp only [results, h]
  simp [Sem.run_bind, Result.andThen]
/-- What zip.Zip answers, of texts of at most a thousand letters. -/
def ZipPost (w : World) (zs : List Int) (e : Ending) (w' : World) : Prop :=
  Below w.heap.size w w' ∧
  ((ref24M zs = false ∧ ∃ r : Nat, LeastAt zs r ∧ e = .returned (.tuple #[.agg #[.int .i64 0, .slice none 0 0], .int .i64 r, .int .i64 3])) ∨
   (ref24M zs = true ∧ ∃ k, k < zs.length ∧ (∀ j, j < k → fitsAt zs j = true) ∧ fitsAt zs k = false ∧ e = .returned (.tuple #[.agg #[.int .i64 0, .slice none 0 0], .int .i64 ((k : Int) + 1), .int .i64 11])) ∨
   (ref24M zs = true ∧ (∀ j, j < zs.length → fitsAt zs j = true) ∧ ∃ v, w'.ownsRow w.heap.size 57 3 v (zs.length + 1) (triCells (zmAt zs zs.length).T) ∧
      e = .returned (.tuple #[.agg #[.int .i64 ((zmAt zs zs.length).n : Int), v], .int .i64 0, .int .i64 0])))

set_option maxRecDepth 100000 in
set_option maxHeartbeats 4000000 in
theorem zip_wrong (s : ByteArray) (hs : s.size ≤ 1000) (h : ref24M (lettersOf s) = false) (w : World) :
    Calls Try.prog 24 #[.string s] w (ZipPost w (lettersOf s)) := by
  have hr : rightM (lettersOf s) = false := by rw [right_eq]; exact h
  have Hr := Lib.hid hr
  have H := Lib.hid h
  clear hr h
  have hb0 : Blk (w.alloc (.cells #[.int .i64 0, .slice none 0 0] 42)) w.heap.size 42 #[.int .i64 0, .slice none 0 0] := Blk.new _ _ _
  have hB0 : Below w.heap.size w (w.alloc (.cells #[.int .i64 0, .slice none 0 0] 42)) := (Below.refl _ _).alloc (Nat.le_refl _) _
  go_enter Try.func24, Try.ntmps24
  go_wp2_with fail
  refine (right_any s (by omega) _).mono ?_
  rw [Hr.out]
  rintro e w1 ⟨rfl, hb1⟩
  have hB1 := below_on hB0 hB0.size hb1
  have hS1 := hb0.below hb1 (by simp)
  go_wp2_with fail
  refine (least_any s (by omega) Hr.out _).mono ?_
  rintro e w2 ⟨r, rfl, hl, hb2⟩
  have hB2 := below_on hB1 hB1.size hb2
  have hS2 := hS1.below hb2 hS1.lt
  obtain ⟨s0, s1, s2, s3, s4⟩ := hS2.two
  go_wp2
  refine bodyPost_ret (v := .tuple #[.agg #[.int .i64 0, .slice none 0 0], .int .i64 r, .int .i64 3]) ?_ rfl ⟨?_, .inl ⟨H.out, r, hl, rfl⟩⟩
  · rw [results_ctt rfl]
    go_simp
  · exact (hB2.setCell (p := ⟨w.heap.size, 0, none⟩) (Nat.le_refl _) _).setCell (p := ⟨w.heap.size, 1, none⟩) (Nat.le_refl _) _

theorem step_facts {zs : List Int} {k i : Nat} {c a b : Int} (hc : zs.getD k 0 = c) (hi : iAt zs k = i) (ha : (zmAt zs k).loop.getD 0 0 = a) (hb : (zmAt zs k).loop.getD 1 0 = b) :
    fitsM (stepM c i (zmAt zs k)).2.T ((stepM c i (zmAt zs k)).1, a, b) = fitsAt zs k ∧ ({ (stepM c i (zmAt zs k)).2 with T := (stepM c i (zmAt zs k)).2.T ++ [((stepM c i (zmAt zs k)).1, a, b)] } : ZM) = zmAt zs (k + 1) := by
  subst hc hi ha hb
  refine ⟨by rw [stepM_T]; rfl, ?_⟩
  rw [stepM_T]
  rfl
/-- The zipper as it is made. -/
theorem zs_start (w : World) : ZS ((((w.alloc (.cells #[.int .i64 1, .int .i64 0, .int .i64 2] 3)).alloc (.map #[] 0)).alloc (.map #[] 0)).alloc (.cells #[.int .i64 3, .slice none 0 0, .slice (some ⟨w.heap.size, 0, none⟩) 3 3, .slice none 0 0, .map (some (w.heap.size + 1)), .map (some (w.heap.size + 1 + 1))] 67))
    w.heap.size (w.heap.size + 1 + 1 + 1) (w.heap.size + 1) (w.heap.size + 1 + 1) (.slice none 0 0) (.slice (some ⟨w.heap.size, 0, none⟩) 3 3) (.slice none 0 0) [] ⟨3, [], [1, 0, 2], []⟩ := by
  have m1 := MapB.made (w.alloc (.cells #[.int .i64 1, .int .i64 0, .int .i64 2] 3)) Try.prog 87 4
  have m2 := MapB.made ((w.alloc (.cells #[.int .i64 1, .int .i64 0, .int .i64 2] 3)).alloc (.map #[] 0)) Try.prog 56 4
  have hb := Blk.new (((w.alloc (.cells #[.int .i64 1, .int .i64 0, .int .i64 2] 3)).alloc (.map #[] 0)).alloc (.map #[] 0)) 67 #[.int .i64 3, .slice none 0 0, .slice (some ⟨w.heap.size, 0, none⟩) 3 3, .slice none 0 0, .map (some (w.heap.size + 1)), .map (some (w.heap.size + 1 + 1))]
  have hL : (w.alloc (.cells #[.int .i64 1, .int .i64 0, .int .i64 2] 3)).ownsRow 0 3 1 (.slice (some ⟨w.heap.size, 0, none⟩) 3 3) 3 [.int .i64 1, .int .i64 0, .int .i64 2] :=
    World.ownsRow_lit w #[.int .i64 1, .int .i64 0, .int .i64 2] 3 (Nat.zero_le _) (by decide) rfl
  rw [size_alloc'] at m1
  rw [size_alloc', size_alloc'] at m2
  rw [size_alloc', size_alloc', size_alloc'] at hb
  refine ⟨0, 0, by simp, by simp, by omega, by omega, by omega, by omega, hb, World.ownsRow_nil _ _ _ _, (((hL.alloc _).alloc _).alloc _), World.ownsRow_nil _ _ _ _, ⟨rfl, fun j v l h1 => by simp at h1⟩, ?_, ?_⟩
  · exact (m1.kept (World.grownBy_alloc _ _ none) (by simp)).kept (World.grownBy_alloc _ _ none) (by simp)
  · exact m2.kept (World.grownBy_alloc _ _ none) (by simp)

set_option maxRecDepth 100000 in
set_option maxHeartbeats 4000000 in
theorem zip_right (s : ByteArray) (hs : s.size ≤ 1000) (h : ref24M (lettersOf s) = true) (w : World) :
    Calls Try.prog 24 #[.string s] w (ZipPost w (lettersOf s)) := by
  have hr : rightM (lettersOf s) = true := by rw [right_eq]; exact h
  obtain ⟨l0, h0⟩ : ∃ l0, ref24Run (lettersOf s).reverse = some l0 := by
    unfold ref24M at h
    cases hq : ref24Run (lettersOf s).reverse with
    | none => rw [hq] at h; cases h
    | some q => exact ⟨q, rfl⟩
  obtain ⟨ls, hls⟩ : ∃ ls, lengthsM (lettersOf s) = some ls := by
    unfold rightM at hr
    cases hq : lengthsM (lettersOf s) with
    | none => rw [hq] at hr; cases hr
    | some q => exact ⟨q, rfl⟩
  have hlen := lettersOf_length s
  have hll := lengthsM_length hls
  have hwc := wcountF_le (lettersOf s) 67
  have Hr := Lib.hid hr
  have H := Lib.hid h
  have H0 := Lib.hid h0
  have HLS := Lib.hid hls
  have HLL := Lib.hid hll
  have HLEN := Lib.hid hlen
  rw [hlen] at hwc
  clear hr h hls hll hlen h0
  have hb0 : Blk (w.alloc (.cells #[.int .i64 0, .slice none 0 0] 42)) w.heap.size 42 #[.int .i64 0, .slice none 0 0] := Blk.new _ _ _
  have hB0 : Below w.heap.size w (w.alloc (.cells #[.int .i64 0, .slice none 0 0] 42)) := (Below.refl _ _).alloc (Nat.le_refl _) _
  have hmm := @run_makeMap Try.prog
  go_enter Try.func24, Try.ntmps24
  go_wp2_with fail
  refine (right_any s (by omega) _).mono ?_
  rw [Hr.out]
  rintro e w1 ⟨rfl, hb1⟩
  have hB1 := below_on hB0 hB0.size hb1
  have hS1 := hb0.below hb1 (by simp)
  clear hb0 hB0 hb1
  go_wp2_with fail
  refine (wcount_any s (by omega) _).mono ?_
  rintro e w2 ⟨rfl, hW2, hb2⟩
  have hB2 := below_on hB1 hB1.size hb2
  have hS2 := hS1.below hb2 hS1.lt
  clear hB1 hS1 hb2
  generalize w1.heap.size = bw at *
  generalize hcv : wcountF (lettersOf s) 67 = cv at *
  have hlk := hW2.look (t := 50) Try.underlying5 Try.underlying50 Try.underlying3 (zero_int _) (z := 67) (by decide)
  rw [hcv] at hlk
  have h8 : decide ((8192 : Int) < (s.size : Int) + 1) = false := by simp; omega
  have h9 : decide ((4096 : Int) < cv + 3) = false := by simp; omega
  clear hW2 hcv
  go_wp2_with fail
  refine (lengths_some s (by omega) ls HLS.out _).mono ?_
  rintro e w3 ⟨gl, cl, rfl, hL3, hb3⟩
  have hB3 := below_on hB2 hB2.size hb3
  have hS3 := hS2.below hb3 hS2.lt
  have hL3' := Go.Joins.ownsRow_le hL3 (Nat.zero_le _)
  clear hB2 hS2 hb3 h8 h9 hlk hL3
  go_wp2_with fail
  refine (seconds_any s (by omega) _ H0.out _).mono ?_
  rintro e w4 ⟨rfl, hM4, hb4⟩
  have hB4 := below_on hB3 hB3.size hb4
  have hS4 := hS3.below hb4 hS3.lt
  have hL4 := hL3'.kept (grown_of_below hb4 none) (by cases h : (Value.slice (some ⟨gl, 0, none⟩) ls.length cl).ownBlock <;> simp)
  have hm4 : w3.heap.size < w4.heap.size := by obtain ⟨n, f, h1, _⟩ := hM4; exact h1.lt
  generalize w3.heap.size = bm at *
  clear hB3 hS3 hb4 hL3'
  go_wp2_with fail
  refine (add_any (zs_start w4) 0 1 2 (by omega) (by omega) (by omega) (by simp)).mono ?_
  rintro e w5 ⟨rfl, ⟨vT, hZ⟩, hb5⟩
  have hZ0 : ZS w5 w4.heap.size (w4.heap.size + 1 + 1 + 1) (w4.heap.size + 1) (w4.heap.size + 1 + 1) vT (.slice (some ⟨w4.heap.size, 0, none⟩) 3 3) (.slice none 0 0) [] (zmAt (lettersOf s) 0) := hZ
  have hB5 : Below w4.heap.size w4 w5 := below_chain (((((Below.refl w4.heap.size w4).alloc (Nat.le_refl _) (.cells #[.int .i64 1, .int .i64 0, .int .i64 2] 3)).alloc (by simp) (.map #[] 0)).alloc (by simp; omega) (.map #[] 0)).alloc (by simp; omega) (.cells #[.int .i64 3, .slice none 0 0, .slice (some ⟨w4.heap.size, 0, none⟩) 3 3, .slice none 0 0, .map (some (w4.heap.size + 1)), .map (some (w4.heap.size + 1 + 1))] 67)) hb5
  clear hZ hb5
  generalize hbe : w4.heap.size + 1 = be at *
  generalize hbt : be + 1 = bt at *
  generalize hz : bt + 1 = z at *
  go_wp2_with fail
  have HS4 := Lib.hid hS4
  have HL4 := Lib.hid hL4
  have HM4 := Lib.hid hM4
  have HB4 := Lib.hid hB4
  have HZI := Lib.hid (zinv_at H.out)
  have hsz4 : w.heap.size < w4.heap.size := hS4.lt
  have hgl4 : gl < w4.heap.size := (hL4.lt gl rfl).2
  clear hS4 hL4 hM4 hB4 hmm hwc
  go_loopw [48] (fun i wr => ∃ k : Nat, k ≤ s.size ∧ i = .int .i64 k ∧ (∀ j, j < k → fitsAt (lettersOf s) j = true) ∧ (∃ vT vL vW vs, ZS wr w4.heap.size z be bt vT vL vW vs (zmAt (lettersOf s) k)) ∧ Below w4.heap.size w4 wr) (fun i _ => s.size - (intOf i).toNat)
  case atStart => exact ⟨0, Nat.zero_le _, rfl, fun j hj => by omega, ⟨_, _, _, _, hZ0⟩, hB5⟩
  case round =>
    obtain ⟨k, hk, rfl, hfit, ⟨vT, vL, vW, vs, hZ⟩, hB⟩ := hrel
    have hinv := HZI.out k (by rw [HLEN.out]; exact hk)
    by_cases hlt : k < s.size
    · have hkl : k < (lettersOf s).length := by rw [HLEN.out]; exact hlt
      obtain ⟨i1, i2, i3, i4, i5⟩ := hinv.len hkl
      obtain ⟨t1, t2, t3, t4, t5, t6⟩ := hinv.tri hkl
      have hat := letter_at s k hlt
      rw [← getD_getElem hkl] at hat
      have hnn : ((zmAt (lettersOf s) k).n : Int) ≤ 3 + 1000 := by
        have h1 := hinv.n
        have h2 := (cnt_le ((lettersOf s).take k) 67).2
        rw [List.length_take, HLEN.out] at h2
        omega
      obtain ⟨nE, nS, hnE, hnS, hX⟩ := hZ
      have hTl := hinv.T
      obtain ⟨g, cap, rfl, hcap, hcap'⟩ := loop_form hX.L (by omega)
      have r0 := loop_cell (k := 0) hX.L (by omega) rfl
      have r1 := loop_cell (k := 1) hX.L (by omega) rfl
      obtain ⟨-, c0, c1, c2, c3, c4, c5, fz⟩ := hX.blk.six'
      have hZd : ZS wr.drew w4.heap.size z be bt vT (.slice (some ⟨g, 0, none⟩) (zmAt (lettersOf s) k).loop.length cap) vW vs (zmAt (lettersOf s) k) := ⟨nE, nS, hnE, hnS, hX.drew⟩
      have hBd : Below w4.heap.size w4 wr.drew := hB.drew
      rw [HLEN.out] at i2 i3
      obtain ⟨a, ha⟩ : ∃ a, (zmAt (lettersOf s) k).loop.getD 0 0 = a := ⟨_, rfl⟩
      obtain ⟨b, hb⟩ : ∃ b, (zmAt (lettersOf s) k).loop.getD 1 0 = b := ⟨_, rfl⟩
      rw [ha] at t1 t2 r0
      rw [hb] at t3 t4 r1
      have HX := Lib.hid hX
      have HZd := Lib.hid hZd
      have HBd := Lib.hid hBd
      have Hat := Lib.hid hat
      have HI4 := Lib.hid i4
      have HI5 := Lib.hid i5
      have Hfit := Lib.hid hfit
      have Hinv := Lib.hid hinv
      have hll : (zmAt (lettersOf s) k).loop.length ≤ 4000 := by omega
      have hS4 := HS4.out.below hBd hsz4
      obtain ⟨f1, f2, f3, f4, f5⟩ := hS4.two
      have F4 := Lib.hid hS4
      clear hX hZd hBd hat i4 i5 hfit hB hinv c0 c1 c3 c4 c5 hS4 f1 f2 f3 f4 f5
      rw [Hat.out] at t5 t6
      by_cases hS : (s[k]'hlt).toNat = 83
      · have hSb : (((s[k]'hlt).toNat : Int) == 83) = true := by simp; omega
        have hz83 : (lettersOf s).getD k 0 = 83 := by rw [Hat.out]; omega
        obtain ⟨nm, fm, hmap, hnm, hsec⟩ := HM4.out
        obtain ⟨p, x, y, r, hfp, hkp, hpl, hst1, hst2⟩ := hsec k hkl (by rw [← getD_getElem hkl]; exact hz83)
        have hy3 := run_all3 hst2 y (by simp)
        have hia : ((iAt (lettersOf s) k : Nat) : Int) = y := by
          have : iAt (lettersOf s) k = y.toNat := by unfold iAt; rw [if_pos hz83, hst1]
          rw [this]; omega
        have hmw : MapI Try.prog 3 3 .i64 .i64 wr.drew bm nm fm := hmap.below HBd.out hm4
        have hLw := (HL4.out.kept (grown_of_below HBd.out none) (by cases h : (Value.slice (some ⟨gl, 0, none⟩) ls.length cl).ownBlock <;> simp))
        have q0 : wr.cell? ⟨gl, p, none⟩ = some (.int .i64 y) := by
          have hlp := lengths_at HLS.out hst2 hpl
          have hpl2 : p < ls.length := by rw [HLL.out]; exact hpl
          rw [show wr.cell? ⟨gl, p, none⟩ = wr.drew.cell? ⟨gl, p, none⟩ from rfl, hLw.cellAt p (by omega), List.getElem?_map, hlp]
          rfl
        have hpl2 : p < ls.length := by rw [HLL.out]; exact hpl
        have hpl3 : (p : Int) < (ls.length : Int) := by omega
        have hp0 : (0 : Int) ≤ (p : Int) := by omega
        have hls3 : ls.length ≤ 1000 := by rw [HLL.out, HLEN.out]; exact hs
        rw [← hia] at q0
        have Hmw := Lib.hid hmw
        clear hst1 hst2 hsec hmap hmw hLw hia hz83 hpl hpl2 hy3
        have hF := step_facts Hat.out rfl ha hb
        have hI4 := HI4.out
        rw [Hat.out] at hI4
        have hI5 := HI5.out
        rw [Hat.out] at hI5
        have HIA := Lib.hid (hI5 (by omega))
        have HF := Lib.hid hF
        have HI := Lib.hid hI4
        have Ha := Lib.hid ha
        have Hb := Lib.hid hb
        clear hS hF hI4 hI5 ha hb
        go_wp2
        go_region
        go_wp2_with (at_lookup; refine wpList_lookupI Hmw.out rfl _ _ 60 rfl Try.underlying3 Try.underlying60 Try.underlying3 (zero_int _) rfl (k : Int) rfl (WalkArith.wf_i64 (by omega)) ?_; rw [hfp])
        refine (step_any HZd.out _ (iAt (lettersOf s) k) HI.out (by omega) (by omega) (by omega) (by omega) (fun _ => HIA.out)).mono ?_
        rintro e w6 ⟨rfl, ⟨vL6, vW6, vs6, hZ6⟩, hb6⟩
        have hB6 := below_chain HBd.out hb6
        have hT6 : (stepM ((s[k]'hlt).toNat : Int) (iAt (lettersOf s) k) (zmAt (lettersOf s) k)).2.T.length ≤ 1000000 := by rw [stepM_T, Hinv.out.T]; omega
        obtain ⟨v, hv⟩ : ∃ v, (stepM ((s[k]'hlt).toNat : Int) (iAt (lettersOf s) k) (zmAt (lettersOf s) k)).1 = v := ⟨_, rfl⟩
        rw [hv] at t5 t6
        have hF := HF.out
        rw [hv] at hF ⊢
        have HF2 := Lib.hid hF
        clear hF
        go_wp2_with fail
        refine (add_any hZ6 v a b (by omega) (by omega) (by omega) hT6).mono ?_
        rw [HF2.out.1, HF2.out.2]
        rintro e w7 ⟨rfl, ⟨vT7, hZ7⟩, hb7⟩
        have hB7 := below_chain hB6 hb7
        have HZ7 := Lib.hid hZ7
        have HB7 := Lib.hid hB7
        obtain ⟨f1, f2, f3, f4, f5⟩ := (HS4.out.below hB7 hsz4).two
        clear hZ6 hb6 hB6 hb7 hZ7 hB7
        cases hf : fitsAt (lettersOf s) k
        · have Hf := Lib.hid hf
          clear hf
          go_wp2
          refine bodyPost_ret (v := .tuple #[.agg #[.int .i64 0, .slice none 0 0], .int .i64 ((k : Int) + 1), .int .i64 11]) ?_ rfl ⟨?_, .inr (.inl ⟨H.out, k, hkl, Hfit.out, Hf.out, rfl⟩)⟩
          · rw [results_ctt rfl]
            go_simp
          · exact ((below_on HB4.out HB4.out.size HB7.out).setCell (p := ⟨w.heap.size, 0, none⟩) (Nat.le_refl _) _).setCell (p := ⟨w.heap.size, 1, none⟩) (Nat.le_refl _) _
        · have Hf := Lib.hid hf
          clear hf
          go_wp2
          go_roundw
          case measure => simp [intOf]; omega
          case rel =>
            refine ⟨k + 1, by omega, by go_num, fun j hj => ?_, ⟨_, _, _, _, HZ7.out⟩, HB7.out⟩
            rcases Nat.lt_or_ge j k with h1 | h1
            · exact Hfit.out j h1
            · obtain rfl : j = k := by omega
              exact Hf.out
      · have hSb : (((s[k]'hlt).toNat : Int) == 83) = false := by simp; omega
        have hi0 : iAt (lettersOf s) k = 0 := by
          unfold iAt
          rw [if_neg]
          rw [Hat.out]
          omega
        have hF := step_facts Hat.out hi0 ha hb
        have hI4 := HI4.out
        rw [Hat.out] at hI4
        rw [hi0] at t5 t6
        have HF := Lib.hid hF
        have HI := Lib.hid hI4
        have Ha := Lib.hid ha
        have Hb := Lib.hid hb
        clear hS hF hI4 ha hb hi0
        go_wp2
        go_region
        go_wp2_with fail
        refine (step_any HZd.out _ 0 HI.out (by omega) (by omega) (by omega) (by omega) (fun e => by rw [e] at hSb; cases hSb)).mono ?_
        rintro e w6 ⟨rfl, ⟨vL6, vW6, vs6, hZ6⟩, hb6⟩
        have hB6 := below_chain HBd.out hb6
        have hT6 : (stepM ((s[k]'hlt).toNat : Int) 0 (zmAt (lettersOf s) k)).2.T.length ≤ 1000000 := by rw [stepM_T, Hinv.out.T]; omega
        obtain ⟨v, hv⟩ : ∃ v, (stepM ((s[k]'hlt).toNat : Int) 0 (zmAt (lettersOf s) k)).1 = v := ⟨_, rfl⟩
        rw [hv] at t5 t6
        have hF := HF.out
        rw [hv] at hF ⊢
        have HF2 := Lib.hid hF
        clear hF
        go_wp2_with fail
        refine (add_any hZ6 v a b (by omega) (by omega) (by omega) hT6).mono ?_
        rw [HF2.out.1, HF2.out.2]
        rintro e w7 ⟨rfl, ⟨vT7, hZ7⟩, hb7⟩
        have hB7 := below_chain hB6 hb7
        have HZ7 := Lib.hid hZ7
        have HB7 := Lib.hid hB7
        obtain ⟨f1, f2, f3, f4, f5⟩ := (HS4.out.below hB7 hsz4).two
        clear hZ6 hb6 hB6 hb7 hZ7 hB7
        cases hf : fitsAt (lettersOf s) k
        · have Hf := Lib.hid hf
          clear hf
          go_wp2
          refine bodyPost_ret (v := .tuple #[.agg #[.int .i64 0, .slice none 0 0], .int .i64 ((k : Int) + 1), .int .i64 11]) ?_ rfl ⟨?_, .inr (.inl ⟨H.out, k, hkl, Hfit.out, Hf.out, rfl⟩)⟩
          · rw [results_ctt rfl]
            go_simp
          · exact ((below_on HB4.out HB4.out.size HB7.out).setCell (p := ⟨w.heap.size, 0, none⟩) (Nat.le_refl _) _).setCell (p := ⟨w.heap.size, 1, none⟩) (Nat.le_refl _) _
        · have Hf := Lib.hid hf
          clear hf
          go_wp2
          go_roundw
          case measure => simp [intOf]; omega
          case rel =>
            refine ⟨k + 1, by omega, by go_num, fun j hj => ?_, ⟨_, _, _, _, HZ7.out⟩, HB7.out⟩
            rcases Nat.lt_or_ge j k with h1 | h1
            · exact Hfit.out j h1
            · obtain rfl : j = k := by omega
              exact Hf.out
    · obtain rfl : k = s.size := by omega
      obtain ⟨nE, nS, hnE, hnS, hX⟩ := hZ
      have hTl := hinv.T
      have hT0 := hX.T
      rw [hTl] at hT0
      obtain ⟨gt, ct, rfl⟩ := ownsRow_succ hT0
      obtain ⟨-, c0, c1, c2, c3, c4, c5, fz⟩ := hX.blk.six'
      obtain ⟨f1, f2, f3, f4, f5⟩ := (HS4.out.below hB hsz4).two
      have hBB := below_on HB4.out HB4.out.size hB
      have HT := Lib.hid hT0
      have HBB := Lib.hid hBB
      have Hfit := Lib.hid hfit
      have hll := HLEN.out
      have HLL2 := Lib.hid hll
      clear hX hT0 hBB hfit hB hinv hll
      go_wp2
      refine bodyPost_ret (v := .tuple #[.agg #[.int .i64 ((zmAt (lettersOf s) (lettersOf s).length).n : Int), .slice (some ⟨gt, 0, none⟩) (s.size + 1) ct], .int .i64 0, .int .i64 0]) ?_ rfl ⟨?_, .inr (.inr ⟨H.out, fun j hj => Hfit.out j (by rw [← HLL2.out]; exact hj), _, ?_, rfl⟩)⟩
      · rw [results_ctt rfl]
        rw [HLL2.out]
        go_simp
      · exact (HBB.out.setCell (p := ⟨w.heap.size, 0, none⟩) (Nat.le_refl _) _).setCell (p := ⟨w.heap.size, 1, none⟩) (Nat.le_refl _) _
      · rw [HLL2.out]
        exact Go.Joins.ownsRow_le (ownsRow_setCell_below (ownsRow_setCell_below HT.out hsz4 _) hsz4 _) (Nat.le_of_lt hsz4)
theorem zip_any (s : ByteArray) (hs : s.size ≤ 1000) (w : World) : Calls Try.prog 24 #[.string s] w (ZipPost w (lettersOf s)) := by
  cases h : ref24M (lettersOf s)
  · exact zip_wrong s hs h w
  · exact zip_right s hs h w
end Go.Proofs.Ytgjcigokjfhfkaa
