/-
  Texts joined by program, what the law uses alone: ZpZip ZpZipIs BrdE SteO BrdW BrdL BrdO WkBoth WkAll ZTwo ZShp.
-/
import Derived.BigQuiet
import Derived.Deep.AppendLies
import Derived.Deep.DeepCutAuto
import Derived.Deep.RegionHeld3
import Derived.Deep.RegionLaw
import Derived.Lib.Hide
import Derived.Lib.QuietBelow
import Derived.Lib.Slices
import Derived.Shelf.Spec.SlicesInsert
import Derived.Shelf.Spec.SlicesInsertGrow
import Derived.Sort.LoopGhostIn
import Derived.Maps.OwnIn
import Derived.BigRegion
import Derived.Deep.QuietTactic
import Derived.RegionTactic
import Derived.Test.YtpnkhgjjlionnaaG6
import Derived.Test.YtpnkhgjjlionnaaG1
import Derived.Test.YtpnkhgjjlionnaaG2
import Derived.Test.YtpnkhgjjlionnaaG5
import Derived.Test.YtpnkhgjjlionnaaShelf
import Derived.Test.YtpnkhgjjlionnaaG3
import Derived.Test.YtpnkhgjjlionnaaG4
namespace Go.Proofs.Ytpnkhgjjlionnaa.Zp
open Go.RowKit Go.Maps

theorem below_chain {B : Nat} {w a b : World} (h : Below B w a) (h2 : Below B a b) : Below B w b :=
  ⟨h2.os.trans h.os, h2.tape.trans h.tape, h2.output.trans h.output, Nat.le_trans h.size h2.size, fun k hk => (h2.block k hk).trans (h.block k hk)⟩
theorem results_ctt {fn : Func} {p u v : Tmp} {ty : TypeId} (h : fn.results = #[.cell p ty, .tmp u, .tmp v]) (tmps : Array Value) (P : Program) (w : World) :
    (results fn tmps).run P w =
      ((asAddr (tmps.getD p undef)).run P w).andThen fun a w₁ => ((loadVar ty a).run P w₁).andThen fun x w₂ => .ok (.tuple #[x, tmps.getD u undef, tmps.getD v undef]) w₂ := by
  simp only [results, h]
  simp [Sem.run_bind, Result.andThen]
/-- What zip.Zip answers, of texts of at most a thousand letters. -/
def ZipPost (w : World) (zs : List Int) (e : Ending) (w' : World) : Prop :=
  Below w.heap.size w w' ∧
  ((ref24M zs = false ∧ ∃ r : Nat, LeastAt zs r ∧ e = .returned (.tuple #[.agg #[.int .i64 0, .slice none 0 0], .int .i64 r, .int .i64 3])) ∨
   (ref24M zs = true ∧ ∃ k, k < zs.length ∧ (∀ j, j < k → fitsAt zs j = true) ∧ fitsAt zs k = false ∧ e = .returned (.tuple #[.agg #[.int .i64 0, .slice none 0 0], .int .i64 ((k : Int) + 1), .int .i64 11])) ∨
   (ref24M zs = true ∧ (∀ j, j < zs.length → fitsAt zs j = true) ∧ ∃ v, w'.ownsRow w.heap.size 61 3 v (zs.length + 1) (triCells (zmAt zs zs.length).T) ∧
      e = .returned (.tuple #[.agg #[.int .i64 ((zmAt zs zs.length).n : Int), v], .int .i64 0, .int .i64 0])))

set_option maxRecDepth 100000 in
set_option maxHeartbeats 4000000 in
theorem zip_wrong (s : ByteArray) (hs : s.size ≤ 1000) (h : ref24M (lettersOf s) = false) (w : World) :
    Calls Try.prog 20 #[.string s] w (ZipPost w (lettersOf s)) := by
  have hr : rightM (lettersOf s) = false := by rw [right_eq]; exact h
  have Hr := Lib.hid hr
  have H := Lib.hid h
  clear hr h
  have hb0 : Blk (w.alloc (.cells #[.int .i64 0, .slice none 0 0] 24)) w.heap.size 24 #[.int .i64 0, .slice none 0 0] := Blk.new _ _ _
  have hB0 : Below w.heap.size w (w.alloc (.cells #[.int .i64 0, .slice none 0 0] 24)) := (Below.refl _ _).alloc (Nat.le_refl _) _
  go_enter Try.func20, Try.ntmps20
  go_wp2_with fail
  refine (right_any s (by omega) _).mono ?_
  rw [Hr.out]
  rintro e w1 ⟨rfl, hb1⟩
  have hB1 := below_on hB0 hB0.size hb1
  have hS1 := hb0.below hb1 (by simp)
  go_wp2_with fail
  refine (least_any s (by omega) Hr.out _).mono ?_
  rintro e w2 ⟨r, rfl, hl, hb2⟩
  have hB2 := below_on hB1 hB1.size hb2
  have hS2 := hS1.below hb2 hS1.lt
  obtain ⟨s0, s1, s2, s3, s4⟩ := hS2.two
  go_wp2
  refine bodyPost_ret (v := .tuple #[.agg #[.int .i64 0, .slice none 0 0], .int .i64 r, .int .i64 3]) ?_ rfl ⟨?_, .inl ⟨H.out, r, hl, rfl⟩⟩
  · rw [results_ctt rfl]
    go_simp
  · exact (hB2.setCell (p := ⟨w.heap.size, 0, none⟩) (Nat.le_refl _) _).setCell (p := ⟨w.heap.size, 1, none⟩) (Nat.le_refl _) _

theorem step_facts {zs : List Int} {k i : Nat} {c a b : Int} (hc : zs.getD k 0 = c) (hi : iAt zs k = i) (ha : (zmAt zs k).loop.getD 0 0 = a) (hb : (zmAt zs k).loop.getD 1 0 = b) :
    fitsM (stepM c i (zmAt zs k)).2.T ((stepM c i (zmAt zs k)).1, a, b) = fitsAt zs k ∧ ({ (stepM c i (zmAt zs k)).2 with T := (stepM c i (zmAt zs k)).2.T ++ [((stepM c i (zmAt zs k)).1, a, b)] } : ZM) = zmAt zs (k + 1) := by
  subst hc hi ha hb
  refine ⟨by rw [stepM_T]; rfl, ?_⟩
  rw [stepM_T]
  rfl
/-- The zipper as it is made. -/
theorem zs_start (w : World) : ZS ((((w.alloc (.cells #[.int .i64 1, .int .i64 0, .int .i64 2] 3)).alloc (.map #[] 0)).alloc (.map #[] 0)).alloc (.cells #[.int .i64 3, .slice none 0 0, .slice (some ⟨w.heap.size, 0, none⟩) 3 3, .slice none 0 0, .map (some (w.heap.size + 1)), .map (some (w.heap.size + 1 + 1))] 80))
    w.heap.size (w.heap.size + 1 + 1 + 1) (w.heap.size + 1) (w.heap.size + 1 + 1) (.slice none 0 0) (.slice (some ⟨w.heap.size, 0, none⟩) 3 3) (.slice none 0 0) [] ⟨3, [], [1, 0, 2], []⟩ := by
  have m1 := MapB.made (w.alloc (.cells #[.int .i64 1, .int .i64 0, .int .i64 2] 3)) Try.prog 88 4
  have m2 := MapB.made ((w.alloc (.cells #[.int .i64 1, .int .i64 0, .int .i64 2] 3)).alloc (.map #[] 0)) Try.prog 60 4
  have hb := Blk.new (((w.alloc (.cells #[.int .i64 1, .int .i64 0, .int .i64 2] 3)).alloc (.map #[] 0)).alloc (.map #[] 0)) 80 #[.int .i64 3, .slice none 0 0, .slice (some ⟨w.heap.size, 0, none⟩) 3 3, .slice none 0 0, .map (some (w.heap.size + 1)), .map (some (w.heap.size + 1 + 1))]
  have hL : (w.alloc (.cells #[.int .i64 1, .int .i64 0, .int .i64 2] 3)).ownsRow 0 3 1 (.slice (some ⟨w.heap.size, 0, none⟩) 3 3) 3 [.int .i64 1, .int .i64 0, .int .i64 2] :=
    World.ownsRow_lit w #[.int .i64 1, .int .i64 0, .int .i64 2] 3 (Nat.zero_le _) (by decide) rfl
  rw [size_alloc'] at m1
  rw [size_alloc', size_alloc'] at m2
  rw [size_alloc', size_alloc', size_alloc'] at hb
  refine ⟨0, 0, by simp, by simp, by omega, by omega, by omega, by omega, hb, World.ownsRow_nil _ _ _ _, (((hL.alloc _).alloc _).alloc _), World.ownsRow_nil _ _ _ _, ⟨rfl, fun j v l h1 => by simp at h1⟩, ?_, ?_⟩
  · exact (m1.kept (World.grownBy_alloc _ _ none) (by simp)).kept (World.grownBy_alloc _ _ none) (by simp)
  · exact m2.kept (World.grownBy_alloc _ _ none) (by simp)

set_option maxRecDepth 100000 in
set_option maxHeartbeats 4000000 in
theorem zip_right (s : ByteArray) (hs : s.size ≤ 1000) (h : ref24M (lettersOf s) = true) (w : World) :
    Calls Try.prog 20 #[.string s] w (ZipPost w (lettersOf s)) := by
  have hr : rightM (lettersOf s) = true := by rw [right_eq]; exact h
  obtain ⟨l0, h0⟩ : ∃ l0, ref24Run (lettersOf s).reverse = some l0 := by
    unfold ref24M at h
    cases hq : ref24Run (lettersOf s).reverse with
    | none => rw [hq] at h; cases h
    | some q => exact ⟨q, rfl⟩
  obtain ⟨ls, hls⟩ : ∃ ls, lengthsM (lettersOf s) = some ls := by
    unfold rightM at hr
    cases hq : lengthsM (lettersOf s) with
    | none => rw [hq] at hr; cases hr
    | some q => exact ⟨q, rfl⟩
  have hlen := lettersOf_length s
  have hll := lengthsM_length hls
  have hwc := wcountF_le (lettersOf s) 67
  have Hr := Lib.hid hr
  have H := Lib.hid h
  have H0 := Lib.hid h0
  have HLS := Lib.hid hls
  have HLL := Lib.hid hll
  have HLEN := Lib.hid hlen
  rw [hlen] at hwc
  clear hr h hls hll hlen h0
  have hb0 : Blk (w.alloc (.cells #[.int .i64 0, .slice none 0 0] 24)) w.heap.size 24 #[.int .i64 0, .slice none 0 0] := Blk.new _ _ _
  have hB0 : Below w.heap.size w (w.alloc (.cells #[.int .i64 0, .slice none 0 0] 24)) := (Below.refl _ _).alloc (Nat.le_refl _) _
  have hmm := @run_makeMap Try.prog
  go_enter Try.func20, Try.ntmps20
  go_wp2_with fail
  refine (right_any s (by omega) _).mono ?_
  rw [Hr.out]
  rintro e w1 ⟨rfl, hb1⟩
  have hB1 := below_on hB0 hB0.size hb1
  have hS1 := hb0.below hb1 (by simp)
  clear hb0 hB0 hb1
  go_wp2_with fail
  refine (wcount_any s (by omega) _).mono ?_
  rintro e w2 ⟨rfl, hW2, hb2⟩
  have hB2 := below_on hB1 hB1.size hb2
  have hS2 := hS1.below hb2 hS1.lt
  clear hB1 hS1 hb2
  generalize w1.heap.size = bw at *
  generalize hcv : wcountF (lettersOf s) 67 = cv at *
  have hlk := hW2.look (t := 69) Try.underlying5 Try.underlying69 Try.underlying3 (zero_int _) (z := 67) (by decide)
  rw [hcv] at hlk
  have h8 : decide ((8192 : Int) < (s.size : Int) + 1) = false := by simp; omega
  have h9 : decide ((4096 : Int) < cv + 3) = false := by simp; omega
  clear hW2 hcv
  go_wp2_with fail
  refine (lengths_some s (by omega) ls HLS.out _).mono ?_
  rintro e w3 ⟨gl, cl, rfl, hL3, hb3⟩
  have hB3 := below_on hB2 hB2.size hb3
  have hS3 := hS2.below hb3 hS2.lt
  have hL3' := Go.Joins.ownsRow_le hL3 (Nat.zero_le _)
  clear hB2 hS2 hb3 h8 h9 hlk hL3
  go_wp2_with fail
  refine (seconds_any s (by omega) _ H0.out _).mono ?_
  rintro e w4 ⟨rfl, hM4, hb4⟩
  have hB4 := below_on hB3 hB3.size hb4
  have hS4 := hS3.below hb4 hS3.lt
  have hL4 := hL3'.kept (grown_of_below hb4 none) (by cases h : (Value.slice (some ⟨gl, 0, none⟩) ls.length cl).ownBlock <;> simp)
  have hm4 : w3.heap.size < w4.heap.size := by obtain ⟨n, f, h1, _⟩ := hM4; exact h1.lt
  generalize w3.heap.size = bm at *
  clear hB3 hS3 hb4 hL3'
  go_wp2_with fail
  refine (add_any (zs_start w4) 0 1 2 (by omega) (by omega) (by omega) (by simp)).mono ?_
  rintro e w5 ⟨rfl, ⟨vT, hZ⟩, hb5⟩
  have hZ0 : ZS w5 w4.heap.size (w4.heap.size + 1 + 1 + 1) (w4.heap.size + 1) (w4.heap.size + 1 + 1) vT (.slice (some ⟨w4.heap.size, 0, none⟩) 3 3) (.slice none 0 0) [] (zmAt (lettersOf s) 0) := hZ
  have hB5 : Below w4.heap.size w4 w5 := below_chain (((((Below.refl w4.heap.size w4).alloc (Nat.le_refl _) (.cells #[.int .i64 1, .int .i64 0, .int .i64 2] 3)).alloc (by simp) (.map #[] 0)).alloc (by simp; omega) (.map #[] 0)).alloc (by simp; omega) (.cells #[.int .i64 3, .slice none 0 0, .slice (some ⟨w4.heap.size, 0, none⟩) 3 3, .slice none 0 0, .map (some (w4.heap.size + 1)), .map (some (w4.heap.size + 1 + 1))] 80)) hb5
  clear hZ hb5
  generalize hbe : w4.heap.size + 1 = be at *
  generalize hbt : be + 1 = bt at *
  generalize hz : bt + 1 = z at *
  go_wp2_with fail
  have HS4 := Lib.hid hS4
  have HL4 := Lib.hid hL4
  have HM4 := Lib.hid hM4
  have HB4 := Lib.hid hB4
  have HZI := Lib.hid (zinv_at H.out)
  have hsz4 : w.heap.size < w4.heap.size := hS4.lt
  have hgl4 : gl < w4.heap.size := (hL4.lt gl rfl).2
  clear hS4 hL4 hM4 hB4 hmm hwc
  go_loopw [48] (fun i wr => ∃ k : Nat, k ≤ s.size ∧ i = .int .i64 k ∧ (∀ j, j < k → fitsAt (lettersOf s) j = true) ∧ (∃ vT vL vW vs, ZS wr w4.heap.size z be bt vT vL vW vs (zmAt (lettersOf s) k)) ∧ Below w4.heap.size w4 wr) (fun i _ => s.size - (intOf i).toNat)
  case atStart => exact ⟨0, Nat.zero_le _, rfl, fun j hj => by omega, ⟨_, _, _, _, hZ0⟩, hB5⟩
  case round =>
    obtain ⟨k, hk, rfl, hfit, ⟨vT, vL, vW, vs, hZ⟩, hB⟩ := hrel
    have hinv := HZI.out k (by rw [HLEN.out]; exact hk)
    by_cases hlt : k < s.size
    · have hkl : k < (lettersOf s).length := by rw [HLEN.out]; exact hlt
      obtain ⟨i1, i2, i3, i4, i5⟩ := hinv.len hkl
      obtain ⟨t1, t2, t3, t4, t5, t6⟩ := hinv.tri hkl
      have hat := letter_at s k hlt
      rw [← getD_getElem hkl] at hat
      have hnn : ((zmAt (lettersOf s) k).n : Int) ≤ 3 + 1000 := by
        have h1 := hinv.n
        have h2 := (cnt_le ((lettersOf s).take k) 67).2
        rw [List.length_take, HLEN.out] at h2
        omega
      obtain ⟨nE, nS, hnE, hnS, hX⟩ := hZ
      have hTl := hinv.T
      obtain ⟨g, cap, rfl, hcap, hcap'⟩ := loop_form hX.L (by omega)
      have r0 := loop_cell (k := 0) hX.L (by omega) rfl
      have r1 := loop_cell (k := 1) hX.L (by omega) rfl
      obtain ⟨-, c0, c1, c2, c3, c4, c5, fz⟩ := hX.blk.six'
      have hZd : ZS wr.drew w4.heap.size z be bt vT (.slice (some ⟨g, 0, none⟩) (zmAt (lettersOf s) k).loop.length cap) vW vs (zmAt (lettersOf s) k) := ⟨nE, nS, hnE, hnS, hX.drew⟩
      have hBd : Below w4.heap.size w4 wr.drew := hB.drew
      rw [HLEN.out] at i2 i3
      obtain ⟨a, ha⟩ : ∃ a, (zmAt (lettersOf s) k).loop.getD 0 0 = a := ⟨_, rfl⟩
      obtain ⟨b, hb⟩ : ∃ b, (zmAt (lettersOf s) k).loop.getD 1 0 = b := ⟨_, rfl⟩
      rw [ha] at t1 t2 r0
      rw [hb] at t3 t4 r1
      have HX := Lib.hid hX
      have HZd := Lib.hid hZd
      have HBd := Lib.hid hBd
      have Hat := Lib.hid hat
      have HI4 := Lib.hid i4
      have HI5 := Lib.hid i5
      have Hfit := Lib.hid hfit
      have Hinv := Lib.hid hinv
      have hll : (zmAt (lettersOf s) k).loop.length ≤ 4000 := by omega
      have hS4 := HS4.out.below hBd hsz4
      obtain ⟨f1, f2, f3, f4, f5⟩ := hS4.two
      have F4 := Lib.hid hS4
      clear hX hZd hBd hat i4 i5 hfit hB hinv c0 c1 c3 c4 c5 hS4 f1 f2 f3 f4 f5
      rw [Hat.out] at t5 t6
      by_cases hS : (s[k]'hlt).toNat = 83
      · have hSb : (((s[k]'hlt).toNat : Int) == 83) = true := by simp; omega
        have hz83 : (lettersOf s).getD k 0 = 83 := by rw [Hat.out]; omega
        obtain ⟨nm, fm, hmap, hnm, hsec⟩ := HM4.out
        obtain ⟨p, x, y, r, hfp, hkp, hpl, hst1, hst2⟩ := hsec k hkl (by rw [← getD_getElem hkl]; exact hz83)
        have hy3 := run_all3 hst2 y (by simp)
        have hia : ((iAt (lettersOf s) k : Nat) : Int) = y := by
          have : iAt (lettersOf s) k = y.toNat := by unfold iAt; rw [if_pos hz83, hst1]
          rw [this]; omega
        have hmw : MapI Try.prog 3 3 .i64 .i64 wr.drew bm nm fm := hmap.below HBd.out hm4
        have hLw := (HL4.out.kept (grown_of_below HBd.out none) (by cases h : (Value.slice (some ⟨gl, 0, none⟩) ls.length cl).ownBlock <;> simp))
        have q0 : wr.cell? ⟨gl, p, none⟩ = some (.int .i64 y) := by
          have hlp := lengths_at HLS.out hst2 hpl
          have hpl2 : p < ls.length := by rw [HLL.out]; exact hpl
          rw [show wr.cell? ⟨gl, p, none⟩ = wr.drew.cell? ⟨gl, p, none⟩ from rfl, hLw.cellAt p (by omega), List.getElem?_map, hlp]
          rfl
        have hpl2 : p < ls.length := by rw [HLL.out]; exact hpl
        have hpl3 : (p : Int) < (ls.length : Int) := by omega
        have hp0 : (0 : Int) ≤ (p : Int) := by omega
        have hls3 : ls.length ≤ 1000 := by rw [HLL.out, HLEN.out]; exact hs
        rw [← hia] at q0
        have Hmw := Lib.hid hmw
        clear hst1 hst2 hsec hmap hmw hLw hia hz83 hpl hpl2 hy3
        have hF := step_facts Hat.out rfl ha hb
        have hI4 := HI4.out
        rw [Hat.out] at hI4
        have hI5 := HI5.out
        rw [Hat.out] at hI5
        have HIA := Lib.hid (hI5 (by omega))
        have HF := Lib.hid hF
        have HI := Lib.hid hI4
        have Ha := Lib.hid ha
        have Hb := Lib.hid hb
        clear hS hF hI4 hI5 ha hb
        go_wp2
        go_region
        go_wp2_with (at_lookup; refine wpList_lookupI Hmw.out rfl _ _ 73 rfl Try.underlying3 Try.underlying73 Try.underlying3 (zero_int _) rfl (k : Int) rfl (WalkArith.wf_i64 (by omega)) ?_; rw [hfp])
        refine (step_any HZd.out _ (iAt (lettersOf s) k) HI.out (by omega) (by omega) (by omega) (by omega) (fun _ => HIA.out)).mono ?_
        rintro e w6 ⟨rfl, ⟨vL6, vW6, vs6, hZ6⟩, hb6⟩
        have hB6 := below_chain HBd.out hb6
        have hT6 : (stepM ((s[k]'hlt).toNat : Int) (iAt (lettersOf s) k) (zmAt (lettersOf s) k)).2.T.length ≤ 1000000 := by rw [stepM_T, Hinv.out.T]; omega
        obtain ⟨v, hv⟩ : ∃ v, (stepM ((s[k]'hlt).toNat : Int) (iAt (lettersOf s) k) (zmAt (lettersOf s) k)).1 = v := ⟨_, rfl⟩
        rw [hv] at t5 t6
        have hF := HF.out
        rw [hv] at hF ⊢
        have HF2 := Lib.hid hF
        clear hF
        go_wp2_with fail
        refine (add_any hZ6 v a b (by omega) (by omega) (by omega) hT6).mono ?_
        rw [HF2.out.1, HF2.out.2]
        rintro e w7 ⟨rfl, ⟨vT7, hZ7⟩, hb7⟩
        have hB7 := below_chain hB6 hb7
        have HZ7 := Lib.hid hZ7
        have HB7 := Lib.hid hB7
        obtain ⟨f1, f2, f3, f4, f5⟩ := (HS4.out.below hB7 hsz4).two
        clear hZ6 hb6 hB6 hb7 hZ7 hB7
        cases hf : fitsAt (lettersOf s) k
        · have Hf := Lib.hid hf
          clear hf
          go_wp2
          refine bodyPost_ret (v := .tuple #[.agg #[.int .i64 0, .slice none 0 0], .int .i64 ((k : Int) + 1), .int .i64 11]) ?_ rfl ⟨?_, .inr (.inl ⟨H.out, k, hkl, Hfit.out, Hf.out, rfl⟩)⟩
          · rw [results_ctt rfl]
            go_simp
          · exact ((below_on HB4.out HB4.out.size HB7.out).setCell (p := ⟨w.heap.size, 0, none⟩) (Nat.le_refl _) _).setCell (p := ⟨w.heap.size, 1, none⟩) (Nat.le_refl _) _
        · have Hf := Lib.hid hf
          clear hf
          go_wp2
          go_roundw
          case measure => simp [intOf]; omega
          case rel =>
            refine ⟨k + 1, by omega, by go_num, fun j hj => ?_, ⟨_, _, _, _, HZ7.out⟩, HB7.out⟩
            rcases Nat.lt_or_ge j k with h1 | h1
            · exact Hfit.out j h1
            · obtain rfl : j = k := by omega
              exact Hf.out
      · have hSb : (((s[k]'hlt).toNat : Int) == 83) = false := by simp; omega
        have hi0 : iAt (lettersOf s) k = 0 := by
          unfold iAt
          rw [if_neg]
          rw [Hat.out]
          omega
        have hF := step_facts Hat.out hi0 ha hb
        have hI4 := HI4.out
        rw [Hat.out] at hI4
        rw [hi0] at t5 t6
        have HF := Lib.hid hF
        have HI := Lib.hid hI4
        have Ha := Lib.hid ha
        have Hb := Lib.hid hb
        clear hS hF hI4 ha hb hi0
        go_wp2
        go_region
        go_wp2_with fail
        refine (step_any HZd.out _ 0 HI.out (by omega) (by omega) (by omega) (by omega) (fun e => by rw [e] at hSb; cases hSb)).mono ?_
        rintro e w6 ⟨rfl, ⟨vL6, vW6, vs6, hZ6⟩, hb6⟩
        have hB6 := below_chain HBd.out hb6
        have hT6 : (stepM ((s[k]'hlt).toNat : Int) 0 (zmAt (lettersOf s) k)).2.T.length ≤ 1000000 := by rw [stepM_T, Hinv.out.T]; omega
        obtain ⟨v, hv⟩ : ∃ v, (stepM ((s[k]'hlt).toNat : Int) 0 (zmAt (lettersOf s) k)).1 = v := ⟨_, rfl⟩
        rw [hv] at t5 t6
        have hF := HF.out
        rw [hv] at hF ⊢
        have HF2 := Lib.hid hF
        clear hF
        go_wp2_with fail
        refine (add_any hZ6 v a b (by omega) (by omega) (by omega) hT6).mono ?_
        rw [HF2.out.1, HF2.out.2]
        rintro e w7 ⟨rfl, ⟨vT7, hZ7⟩, hb7⟩
        have hB7 := below_chain hB6 hb7
        have HZ7 := Lib.hid hZ7
        have HB7 := Lib.hid hB7
        obtain ⟨f1, f2, f3, f4, f5⟩ := (HS4.out.below hB7 hsz4).two
        clear hZ6 hb6 hB6 hb7 hZ7 hB7
        cases hf : fitsAt (lettersOf s) k
        · have Hf := Lib.hid hf
          clear hf
          go_wp2
          refine bodyPost_ret (v := .tuple #[.agg #[.int .i64 0, .slice none 0 0], .int .i64 ((k : Int) + 1), .int .i64 11]) ?_ rfl ⟨?_, .inr (.inl ⟨H.out, k, hkl, Hfit.out, Hf.out, rfl⟩)⟩
          · rw [results_ctt rfl]
            go_simp
          · exact ((below_on HB4.out HB4.out.size HB7.out).setCell (p := ⟨w.heap.size, 0, none⟩) (Nat.le_refl _) _).setCell (p := ⟨w.heap.size, 1, none⟩) (Nat.le_refl _) _
        · have Hf := Lib.hid hf
          clear hf
          go_wp2
          go_roundw
          case measure => simp [intOf]; omega
          case rel =>
            refine ⟨k + 1, by omega, by go_num, fun j hj => ?_, ⟨_, _, _, _, HZ7.out⟩, HB7.out⟩
            rcases Nat.lt_or_ge j k with h1 | h1
            · exact Hfit.out j h1
            · obtain rfl : j = k := by omega
              exact Hf.out
    · obtain rfl : k = s.size := by omega
      obtain ⟨nE, nS, hnE, hnS, hX⟩ := hZ
      have hTl := hinv.T
      have hT0 := hX.T
      rw [hTl] at hT0
      obtain ⟨gt, ct, rfl⟩ := ownsRow_succ hT0
      obtain ⟨-, c0, c1, c2, c3, c4, c5, fz⟩ := hX.blk.six'
      obtain ⟨f1, f2, f3, f4, f5⟩ := (HS4.out.below hB hsz4).two
      have hBB := below_on HB4.out HB4.out.size hB
      have HT := Lib.hid hT0
      have HBB := Lib.hid hBB
      have Hfit := Lib.hid hfit
      have hll := HLEN.out
      have HLL2 := Lib.hid hll
      clear hX hT0 hBB hfit hB hinv hll
      go_wp2
      refine bodyPost_ret (v := .tuple #[.agg #[.int .i64 ((zmAt (lettersOf s) (lettersOf s).length).n : Int), .slice (some ⟨gt, 0, none⟩) (s.size + 1) ct], .int .i64 0, .int .i64 0]) ?_ rfl ⟨?_, .inr (.inr ⟨H.out, fun j hj => Hfit.out j (by rw [← HLL2.out]; exact hj), _, ?_, rfl⟩)⟩
      · rw [results_ctt rfl]
        rw [HLL2.out]
        go_simp
      · exact (HBB.out.setCell (p := ⟨w.heap.size, 0, none⟩) (Nat.le_refl _) _).setCell (p := ⟨w.heap.size, 1, none⟩) (Nat.le_refl _) _
      · rw [HLL2.out]
        exact Go.Joins.ownsRow_le (ownsRow_setCell_below (ownsRow_setCell_below HT.out hsz4 _) hsz4 _) (Nat.le_of_lt hsz4)
theorem zip_any (s : ByteArray) (hs : s.size ≤ 1000) (w : World) : Calls Try.prog 20 #[.string s] w (ZipPost w (lettersOf s)) := by
  cases h : ref24M (lettersOf s)
  · exact zip_wrong s hs h w
  · exact zip_right s hs h w
end Go.Proofs.Ytpnkhgjjlionnaa.Zp
namespace Go.Proofs.Ytpnkhgjjlionnaa.Zp
open Go.RowKit Go.Maps

/-! Three numbers in their order, written out. -/
def ord3 (a b c : Int) : Tr := (min a (min b c), a + b + c - min a (min b c) - max a (max b c), max a (max b c))
theorem sort3_ord (a b c : Int) : sort3 a b c = ord3 a b c := by
  have h := sort3_eq a b c
  have hp : (sortL [a, b, c]).Perm [a, b, c] := List.mergeSort_perm _ _
  have hs : (sortL [a, b, c]).Pairwise (fun x y => decide (x ≤ y) = true) := List.pairwise_mergeSort (by intro x y z; simp; omega) (by intro x y; simp; omega) _
  rw [h] at hp hs
  generalize sort3 a b c = t at *
  obtain ⟨x, y, z⟩ := t
  simp only at hp hs
  simp only [List.pairwise_cons, List.mem_cons, List.not_mem_nil, or_false, decide_eq_true_eq, forall_eq_or_imp, forall_eq] at hs
  have hsum : x + (y + (z + 0)) = a + (b + (c + 0)) := hp.foldr_eq' (f := fun (p q : Int) => p + q) (fun p _ q _ r => by omega) 0
  have m1 : x ∈ [a, b, c] := hp.mem_iff.1 (by simp)
  have m3 : z ∈ [a, b, c] := hp.mem_iff.1 (by simp)
  have ma : a ∈ [x, y, z] := hp.mem_iff.2 (by simp)
  have mb : b ∈ [x, y, z] := hp.mem_iff.2 (by simp)
  have mc : c ∈ [x, y, z] := hp.mem_iff.2 (by simp)
  simp at m1 m3 ma mb mc
  unfold ord3
  simp only [Prod.mk.injEq]
  omega
def fitsO (T : List Tr) (t : Tr) : Bool :=
  decide (ord3 t.1 t.2.1 t.2.2 ∉ T.map fun u => ord3 u.1 u.2.1 u.2.2) && decide ((t.1, t.2.1) ∉ edgesOf T) && decide ((t.2.1, t.2.2) ∉ (t.1, t.2.1) :: edgesOf T) && decide ((t.2.2, t.1) ∉ (t.2.1, t.2.2) :: (t.1, t.2.1) :: edgesOf T)
theorem sortedT_ord : sortedT = fun u => ord3 u.1 u.2.1 u.2.2 := by
  funext u
  exact sort3_ord _ _ _
theorem fitsM_ord (T : List Tr) (t : Tr) : fitsM T t = fitsO T t := by
  unfold fitsM fitsO
  rw [sortedT_ord]
theorem fitsAt_ord (zs : List Int) (k : Nat) : fitsAt zs k = fitsO (zmAt zs k).T (triAt zs k) := fitsM_ord _ _

/-- Whether a text can be zipped. -/
def zipsM (zs : List Int) : Bool := ref24M zs && (List.range zs.length).all (fitsAt zs)
theorem zipsM_all {zs : List Int} (h : ref24M zs = true) (h2 : ∀ j, j < zs.length → fitsAt zs j = true) : zipsM zs = true := by
  unfold zipsM
  rw [h, Bool.true_and, List.all_eq_true]
  intro x hx
  exact h2 x (List.mem_range.1 hx)
theorem zipsM_not {zs : List Int} {k : Nat} (hk : k < zs.length) (h2 : fitsAt zs k = false) : zipsM zs = false := by
  unfold zipsM
  have : (List.range zs.length).all (fitsAt zs) = false := by
    rw [List.all_eq_false]
    exact ⟨k, List.mem_range.2 hk, by simp [h2]⟩
  rw [this, Bool.and_false]

set_option maxRecDepth 100000 in
set_option maxHeartbeats 2000000 in
theorem is_any (s : ByteArray) (hs : s.size ≤ 1000) (w : World) : Calls Try.prog 21 #[.string s] w fun e w' => e = .returned (.bool (zipsM (lettersOf s))) ∧ Below w.heap.size w w' := by
  go_enter Try.func21, Try.ntmps21
  go_wp2_with fail
  refine (zip_any s hs _).mono ?_
  rintro e w1 ⟨hb, h⟩
  rcases h with ⟨h1, r, h2, rfl⟩ | ⟨h1, k, hk, h2, h3, rfl⟩ | ⟨h1, h2, v, h3, rfl⟩
  · have hz : zipsM (lettersOf s) = false := by unfold zipsM; rw [h1]; rfl
    have Hz := Lib.hid hz
    clear h1 h2 hz
    go_wp2
    go_ret
    exact ⟨by rw [Hz.out]; rfl, hb.alloc hb.size _⟩
  · have Hz := Lib.hid (zipsM_not hk h3)
    clear h1 h2 h3 hk
    go_wp2
    go_ret
    exact ⟨by rw [Hz.out]; rfl, hb.alloc hb.size _⟩
  · have Hz := Lib.hid (zipsM_all h1 h2)
    obtain ⟨g, c, rfl⟩ := ownsRow_succ h3
    clear h1 h2 h3
    go_wp2
    go_ret
    exact ⟨by rw [Hz.out]; rfl, hb.alloc hb.size _⟩

theorem cle_facts : ref24M [67, 76, 69] = true ∧ (∀ j, j < 3 → fitsAt [67, 76, 69] j = true) ∧ (zmAt [67, 76, 69] 3).n = 4 ∧ (zmAt [67, 76, 69] 3).T = [(0, 1, 2), (3, 1, 0), (2, 1, 3), (0, 2, 3)] := by
  refine ⟨by decide, ?_, by decide, by decide⟩
  intro j hj
  have : j = 0 ∨ j = 1 ∨ j = 2 := by omega
  rcases this with rfl | rfl | rfl <;> (rw [fitsAt_ord]; decide)
theorem e_facts : ref24M [69] = true ∧ fitsAt [69] 0 = false := ⟨by decide, by rw [fitsAt_ord]; decide⟩
theorem cre_facts : ref24M [67, 82, 69] = true ∧ fitsAt [67, 82, 69] 1 = false := ⟨by decide, by rw [fitsAt_ord]; decide⟩
theorem letters_cle : lettersOf ⟨#[67, 76, 69]⟩ = [67, 76, 69] := by decide
theorem letters_cre : lettersOf ⟨#[67, 82, 69]⟩ = [67, 82, 69] := by decide
theorem letters_e : lettersOf ⟨#[69]⟩ = [69] := by decide
theorem zip_cle (w : World) : Calls Try.prog 20 #[.string ⟨#[67, 76, 69]⟩] w fun e w' => ∃ g c, e = .returned (.tuple #[.agg #[.int .i64 4, .slice (some ⟨g, 0, none⟩) 4 c], .int .i64 0, .int .i64 0]) ∧
    w'.ownsRow w.heap.size 61 3 (.slice (some ⟨g, 0, none⟩) 4 c) 4 (triCells [(0, 1, 2), (3, 1, 0), (2, 1, 3), (0, 2, 3)]) ∧ Below w.heap.size w w' := by
  refine (zip_any ⟨#[67, 76, 69]⟩ (by decide) w).mono ?_
  rintro e w1 ⟨hb, h⟩
  rw [letters_cle] at h
  obtain ⟨f1, f2, f3, f4⟩ := cle_facts
  rcases h with ⟨h1, _⟩ | ⟨h1, k, hk, h2, h3, _⟩ | ⟨h1, h2, v, h3, rfl⟩
  · rw [f1] at h1; cases h1
  · rw [f2 k hk] at h3; cases h3
  · rw [show ([67, 76, 69] : List Int).length = 3 from rfl, f4] at h3
    rw [show ([67, 76, 69] : List Int).length = 3 from rfl, f3]
    obtain ⟨g, c, rfl⟩ := ownsRow_succ h3
    exact ⟨g, c, rfl, h3, hb⟩
theorem zip_e (w : World) : Calls Try.prog 20 #[.string ⟨#[69]⟩] w fun e w' => e = .returned (.tuple #[.agg #[.int .i64 0, .slice none 0 0], .int .i64 1, .int .i64 11]) ∧ Below w.heap.size w w' := by
  refine (zip_any ⟨#[69]⟩ (by decide) w).mono ?_
  rintro e w1 ⟨hb, h⟩
  rw [letters_e] at h
  obtain ⟨f1, f2⟩ := e_facts
  rcases h with ⟨h1, _⟩ | ⟨h1, k, hk, h2, h3, rfl⟩ | ⟨h1, h2, v, h3, rfl⟩
  · rw [f1] at h1; cases h1
  · have : k = 0 := by simp at hk; omega
    subst this
    exact ⟨rfl, hb⟩
  · rw [h2 0 (by simp)] at f2; cases f2
theorem is_cle (w : World) : Calls Try.prog 21 #[.string ⟨#[67, 76, 69]⟩] w fun e w' => e = .returned (.bool true) ∧ Below w.heap.size w w' := by
  have h := is_any ⟨#[67, 76, 69]⟩ (by decide) w
  rw [letters_cle, zipsM_all cle_facts.1 cle_facts.2.1] at h
  exact h
theorem is_cre (w : World) : Calls Try.prog 21 #[.string ⟨#[67, 82, 69]⟩] w fun e w' => e = .returned (.bool false) ∧ Below w.heap.size w w' := by
  have h := is_any ⟨#[67, 82, 69]⟩ (by decide) w
  rw [letters_cre, zipsM_not (by decide) cre_facts.2] at h
  exact h

/-- == of two triangles. -/
theorem eq3 (a b c a' b' c' : Int) (w : World) :
    (Op.equalIn 10000 61 (.agg #[.int .i64 a, .int .i64 b, .int .i64 c]) (.agg #[.int .i64 a', .int .i64 b', .int .i64 c'])).run Try.prog w = .ok (a == a' && (b == b' && c == c')) w := by
  show (Op.equalIn (9998 + 2) _ _ _).run _ _ = _
  rw [Op.equalIn]
  simp [run_underlying Try.underlying61, List.range'_succ, part, go_sem]
  repeat' split
  all_goals simp_all
set_option maxRecDepth 100000 in
set_option maxHeartbeats 2000000 in
theorem awake23_any (w : World) : Calls Try.prog 19 #[] w fun en w' => en = .returned (.bool true) ∧ Below w.heap.size w w' := by
  have q3 := @eq3
  go_enter Try.func19, Try.ntmps19
  go_wp2_with fail
  refine (zip_cle _).mono ?_
  rintro e w1 ⟨g, c, rfl, hr1, hb1⟩
  have hr1' := hr1.alloc (.cells #[.int .i64 4, .slice (some ⟨g, 0, none⟩) 4 c] 24)
  have hb := Blk.new w1 24 #[.int .i64 4, .slice (some ⟨g, 0, none⟩) 4 c]
  clear hr1
  go_wp2_with fail
  refine (zip_e _).mono ?_
  rintro e w2 ⟨rfl, hb2⟩
  have hB2 : Below w.heap.size w w2 := below_then hb1 hb1.size hb2
  have hr2 := hr1'.kept (grown_of_below hb2 none) (by cases h : (Value.slice (some ⟨g, 0, none⟩) 4 c).ownBlock <;> simp)
  obtain ⟨l0, q0, -, q1, -⟩ := (hb.below hb2 (by simp)).two
  have t3 := hr2.cellAt 3 (by omega)
  have t4 := hr2.cellAt 4 (by omega)
  have t5 := hr2.cellAt 5 (by omega)
  simp [triCells] at t3 t4 t5
  have hg2 : g < w2.heap.size := (hr2.lt g rfl).2
  clear hr1' hb hr2
  go_wp2_with fail
  refine (is_cle _).mono ?_
  rintro e w3 ⟨rfl, hb3⟩
  have hB3 : Below w.heap.size w w3 := below_then hB2 hB2.size hb3
  go_wp2_with fail
  refine (is_cre _).mono ?_
  rintro e w4 ⟨rfl, hb4⟩
  have hB4 := below_on hB3 hB3.size hb4
  go_wp2
  go_ret
  exact ⟨rfl, hB4⟩
end Go.Proofs.Ytpnkhgjjlionnaa.Zp
namespace Go.Proofs.Ytpnkhgjjlionnaa
open Go.RowKit Go.Maps Go.Shelf

def es2 (E : List (Int × Int)) : List Value := E.flatMap fun e => [.int .i64 e.1, .int .i64 e.2]
theorem es2_snoc (E : List (Int × Int)) (e : Int × Int) : es2 (E ++ [e]) = es2 E ++ [.int .i64 e.1, .int .i64 e.2] := by simp [es2]
theorem es2_at : ∀ (E : List (Int × Int)) (j : Nat) (e : Int × Int), E[j]? = some e → (es2 E)[j * 2]? = some (.int .i64 e.1) ∧ (es2 E)[j * 2 + 1]? = some (.int .i64 e.2)
  | [], j, e, h => by simp at h
  | a :: E, 0, e, h => by
    have h' : a = e := by simpa using h
    subst h'
    simp [es2]
  | a :: E, j + 1, e, h => by
    have ih := es2_at E j e (by simpa using h)
    have e1 : es2 (a :: E) = .int .i64 a.1 :: .int .i64 a.2 :: es2 E := by simp [es2]
    rw [e1, show (j + 1) * 2 = j * 2 + 1 + 1 from by omega]
    simpa using ih
theorem infoEdge : (Try.prog.info? 88).map (fun i => (i.zero, i.size, i.bytes)) = some (some (.agg #[.int .i64 0, .int .i64 0]), 2, 16) := by kernel_rfl
/-- The border's edges among the corners up to k. -/
def EdgesUp (T : List Tr) (k : Nat) (E : List (Int × Int)) : Prop := ∀ e, e ∈ E ↔ ∃ c, c < k ∧ oppI T (c : Int) = -1 ∧ edgeN T c = e
set_option maxRecDepth 100000 in
set_option maxHeartbeats 2000000 in
theorem edgesB_any (g : Nat) (N : Int) (T : List Tr) (w : World) (h : Tab w g N T) : Calls Try.prog 126 #[.pointer (some ⟨g, 0, none⟩)] w fun e w' => ∃ v' E, e = .returned v' ∧ w'.ownsRow w.heap.size 88 2 v' E.length (es2 E) ∧ EdgesUp T (3 * T.length) E ∧ E.length ≤ 3 * T.length ∧ Below w.heap.size w w' := by
  obtain ⟨i1, hi', hy0, hy1, hy2⟩ := info_parts infoEdge
  have H0 := Lib.hid (triangles_any g N T w h.toTabS)
  have HO := Lib.hid (fun (W : World) (c : Int) (hW : Below w.heap.size w W) => opp_any g N c T W (h.below hW))
  have HE := Lib.hid (fun (W : World) (c : Nat) (hc : c < 3 * T.length) (hW : Below w.heap.size w W) => (show Calls Try.prog 43 #[.pointer (some ⟨g, 0, none⟩), .int .i64 (c : Int)] W fun e w' => e = .returned (pairV (edgeN T c)) ∧ Below W.heap.size W w' from by
    have := edge_any g N (c : Int) T W (h.below hW).toTabS
    rwa [edgeI_nat hc] at this))
  have hl := h.len
  have HBd := Lib.hid (fun (c : Nat) => opp_cases T (c : Int))
  obtain ⟨F, hF⟩ : ∃ F, T.length = F := ⟨_, rfl⟩
  rw [hF] at hl H0 HE HBd ⊢
  clear hF h
  go_enter Try.func126, Try.ntmps126
  go_wp2_with fail
  refine H0.out.mono ?_
  rintro e w0 ⟨rfl, rfl⟩
  go_wp2
  go_loopw [3, 10] (fun v3 ix wr => ∃ (k : Nat) (E : List (Int × Int)) (v' : Value), v' = v3 ∧ k ≤ 3 * F ∧ ix = .int .i64 k ∧ wr.ownsRow w.heap.size 88 2 v' E.length (es2 E) ∧ E.length ≤ k ∧ EdgesUp T k E ∧ Below w.heap.size w wr) (fun _ ix _ => 3 * F - (intOf ix).toNat)
  case atStart => exact ⟨0, [], _, rfl, Nat.zero_le _, rfl, World.ownsRow_nil _ _ _ _, Nat.le_refl _, fun e => ⟨fun h => (List.not_mem_nil h).elim, fun ⟨c, h, _⟩ => absurd h (by omega)⟩, Below.refl _ _⟩
  case round =>
    obtain ⟨k, E, v3, rfl, hk, rfl, hrow, hEl, hE, hB⟩ := hrel
    rename World => wr
    have HB := Lib.hid hB
    have HEd := Lib.hid hE
    have Hrow := Lib.hid hrow
    clear hB hE hrow
    by_cases hlt : k < 3 * F
    · have k3 : (k : Int) < 3 * (F : Int) := by omega
      have c3 : E.length + 1 ≤ maxLen := by unfold maxLen; omega
      have c4 : (E.length + 1) * 16 ≤ 140737488355328 := by omega
      go_wp2_with fail
      refine (HO.out wr k HB.out).mono ?_
      rintro e w2 ⟨rfl, hb2⟩
      have HB2 := Lib.hid (HB.out.trans (hb2.mono HB.out.size))
      have Hr2 := Lib.hid (own_below Hrow.out hb2)
      clear hb2
      rcases HBd.out k with ho | ⟨o, ho, ho2⟩
      · have Ho := Lib.hid ho
        rw [ho]
        clear ho
        go_wp2_with fail
        refine (HE.out w2 k hlt HB2.out).mono ?_
        rintro e w3 ⟨rfl, hb3⟩
        have HB3 := Lib.hid (HB2.out.trans (hb3.mono HB2.out.size))
        have hr3 := own_below Hr2.out hb3
        have hsz3 := HB3.out.size
        clear hb3
        obtain ⟨ea, hea⟩ : ∃ ea, edgeN T k = ea := ⟨_, rfl⟩
        have Hea := Lib.hid hea
        rw [hea]
        clear hea
        unfold pairV
        go_wp2_with (at_builtin; refine wpList_append_lies _ rfl (.tmp 17) (.tmp 21) 132 rfl w.heap.size 88 i1 _ 2 16 Try.underlying132 hi' hy0 hy1 hy2 rfl (by decide) _ _ _ rfl (hr3.alloc _) ⟨w3.heap.size, 0, none⟩ 1 1 [.int .i64 ea.1, .int .i64 ea.2] rfl rfl (World.news_of_block (heap_alloc_new _ _)) (by simp [Value.oneCell']) (by decide) c3 c4 (by rw [size_alloc']; omega) (w3.heap.size + 1) (by simp) ?_; intro g4 cap4 W4 hr4 hg4 _ _)
        go_roundw
        case measure => simp [intOf]; omega
        case rel =>
          refine ⟨k + 1, E ++ [ea], _, rfl, by omega, by go_num, by rw [es2_snoc]; simpa using hr4, by simp; omega, fun e => ?_, HB3.out.grown (gGrown (World.grownBy_alloc _ _ _) hg4 (row := v3.ownBlock) (fun _ e => .inl e)) (by omega) (fun j e => (Hrow.out.lt j e).1)⟩
          rw [List.mem_append, List.mem_singleton, HEd.out e]
          constructor
          · rintro (⟨c, h1, h2, h3⟩ | rfl)
            · exact ⟨c, by omega, h2, h3⟩
            · exact ⟨k, by omega, Ho.out, Hea.out⟩
          · rintro ⟨c, h1, h2, h3⟩
            rcases Nat.lt_or_ge c k with e1 | e1
            · exact .inl ⟨c, e1, h2, h3⟩
            · obtain rfl : c = k := by omega
              exact .inr (by rw [← h3, Hea.out])
      · have Ho := Lib.hid ho
        rw [ho]
        clear ho
        have ho3 : ¬ ((o : Int) < 0) := by omega
        go_wp2
        go_roundw
        case measure => simp [intOf]; omega
        case rel =>
          refine ⟨k + 1, E, _, rfl, by omega, by go_num, Hr2.out, by omega, fun e => ?_, HB2.out⟩
          rw [HEd.out e]
          constructor
          · rintro ⟨c, h1, h2, h3⟩
            exact ⟨c, by omega, h2, h3⟩
          · rintro ⟨c, h1, h2, h3⟩
            rcases Nat.lt_or_ge c k with e1 | e1
            · exact ⟨c, e1, h2, h3⟩
            · obtain rfl : c = k := by omega
              have := Ho.out
              omega
    · obtain rfl : k = 3 * F := by omega
      go_wp2
      go_ret
      exact ⟨_, E, rfl, Hrow.out, HEd.out, hEl, HB.out⟩
theorem own_blk_none_map {w : World} {base : Nat} {e : TypeId} {size n : Nat} {v : Value} {xs : List Value} {k : TypeId} {b : Nat} {f : Value → Option Value} (h : w.ownsRow base e size v n xs) (hm : MapP Try.prog k w b f) : v.ownBlock = none ∨ v.ownBlock ≠ some b := by
  rcases h.2 with ⟨rfl, _⟩ | ⟨g', cap, cur, rfl, _, hh, _⟩
  · exact .inl rfl
  · refine .inr (fun he => ?_)
    have e1 : g' = b := by simpa [Value.ownBlock] using he
    subst e1
    obtain ⟨es, clock, hb⟩ := hm.obj
    rw [hb] at hh
    cases hh
/-- Who comes behind whom, as a map holds it. -/
def BhMap (T : List Tr) (f : Value → Option Value) : Prop := ∀ v : Int, (∀ y, f (.int .i64 v) = some y → ∃ u : Int, y = .int .i64 u ∧ Nxt T v u) ∧ (f (.int .i64 v) = none → ∀ u, ¬ Nxt T v u)
theorem nxt_edge {T : List Tr} {v u : Int} : Nxt T v u ↔ ∃ c, c < 3 * T.length ∧ oppI T (c : Int) = -1 ∧ edgeN T c = (u, v) := by
  constructor
  · rintro ⟨c, h1, rfl, rfl⟩
    exact ⟨Jor.nx c, Jor.nx_lt h1.1, h1.2, by rw [edge_nx]⟩
  · rintro ⟨c, h1, h2, h3⟩
    refine ⟨Jor.pv c, ⟨Jor.pv_lt h1, by rw [Jor.nx_pv]; exact h2⟩, ?_, ?_⟩
    · exact congrArg Prod.snd h3
    · rw [Jor.pv_pv]
      exact congrArg Prod.fst h3
set_option maxRecDepth 100000 in
set_option maxHeartbeats 2000000 in
theorem behindB_any (g : Nat) (N : Int) (T : List Tr) (w : World) (h : Tab w g N T) (hN : N ≤ 4096) (hS : Surf N T) : Calls Try.prog 108 #[.pointer (some ⟨g, 0, none⟩)] w fun e w' => ∃ b f, e = .returned (.map (some b)) ∧ w.heap.size ≤ b ∧ MapP Try.prog 3 w' b f ∧ BhMap T f ∧ Below w.heap.size w w' := by
  have hB : Below w.heap.size w (w.alloc (.map #[] 0)) := (Below.refl _ _).alloc (Nat.le_refl _) _
  have HB := Lib.hid hB
  have HM := Lib.hid (MapP.made w Try.prog 3)
  have HE := Lib.hid (edgesB_any g N T _ (h.below hB))
  have hl := h.len
  have HR := Lib.hid (fun (c : Nat) (hc : c < 3 * T.length) => And.intro (vert_rng hS (Jor.nx_lt hc)) (vert_rng hS (Jor.pv_lt hc)))
  clear hB h hS
  have hmm := @run_makeMap Try.prog
  go_enter Try.func108, Try.ntmps108
  go_wp2_with fail
  refine HE.out.mono ?_
  rintro e w1 ⟨v', E, rfl, hrow, hEd, hEl, hb1⟩
  obtain ⟨a, c, rfl⟩ := ownsRow_slice hrow
  have HEd := Lib.hid hEd
  have Hrow := Lib.hid hrow
  have HB1 := Lib.hid (HB.out.trans (hb1.mono HB.out.size))
  have HM1 := Lib.hid (HM.out.below hb1 (by simp))
  obtain ⟨m, hm⟩ : ∃ m, E.length = m := ⟨_, rfl⟩
  rw [hm] at hEl Hrow ⊢
  have Hm := Lib.hid hm
  clear hrow hEd hb1 hm HM HB HE hmm
  go_wp2
  go_loopw [10] (fun ix wr => ∃ (k : Nat) (f : Value → Option Value), k ≤ m ∧ ix = .int .i64 k ∧ MapP Try.prog 3 wr w.heap.size f ∧ (∀ v : Int, (∀ y, f (.int .i64 v) = some y → ∃ u : Int, y = .int .i64 u ∧ (u, v) ∈ E) ∧ (f (.int .i64 v) = none → ∀ u, (u, v) ∉ E.take k)) ∧ wr.ownsRow (w.heap.size + 1) 88 2 (.slice a m c) m (es2 E) ∧ Below w.heap.size w wr) (fun ix _ => m - (intOf ix).toNat)
  case atStart => exact ⟨0, _, Nat.zero_le _, rfl, HM1.out, fun v => ⟨fun y h => (by cases h), fun _ u h => (by simp at h)⟩, by have := Hrow.out; rwa [size_alloc'] at this, HB1.out⟩
  case round =>
    obtain ⟨k, f, hk, rfl, hmp, hf, hrow, hB⟩ := hrel
    rename World => wr
    have HMp := Lib.hid hmp
    have Hf := Lib.hid hf
    have Hr := Lib.hid hrow
    have HB := Lib.hid hB
    have hsz := hB.size
    clear hmp hf hB
    by_cases hlt : k < m
    · have k3 : (k : Int) < (m : Int) := by omega
      have k0 : (0 : Int) ≤ (k : Int) := by omega
      have hkE : k < E.length := by rw [Hm.out]; exact hlt
      obtain ⟨gE, cE, e0, -, -⟩ := hrow.form (by omega)
      cases e0
      obtain ⟨u, x, hux⟩ : ∃ u x, E[k] = (u, x) := ⟨_, _, rfl⟩
      have hx := List.getElem?_eq_getElem hkE
      rw [hux] at hx
      obtain ⟨z0, z1⟩ := es2_at E k (u, x) hx
      have c0 : wr.cell? ⟨gE, k * 2, none⟩ = some (.int .i64 u) := by rw [hrow.cellAt _ (by omega)]; exact z0
      have c1 : wr.cell? ⟨gE, k * 2 + 1, none⟩ = some (.int .i64 x) := by rw [hrow.cellAt _ (by omega)]; exact z1
      have hmem : (u, x) ∈ E := List.mem_of_getElem? hx
      obtain ⟨cc, h1, h2, h3⟩ := (HEd.out (u, x)).1 hmem
      have hrg := HR.out cc h1
      have e1 : vertN T (Jor.nx cc) = u := congrArg Prod.fst h3
      have e2 : vertN T (Jor.pv cc) = x := congrArg Prod.snd h3
      rw [e1, e2] at hrg
      have Hmem := Lib.hid hmem
      have htk : E.take (k + 1) = E.take k ++ [(u, x)] := by rw [List.take_succ_eq_append_getElem hkE, hux]
      have Htk := Lib.hid htk
      have hkeyv := keyOf_int_mk (P := Try.prog) (k := 3) (q := .i64) Try.underlying3 (wfV (x := x) ⟨by omega, by omega⟩)
      clear hx z0 z1 hmem h1 h2 h3 e1 e2 hrg hux htk hrow
      obtain ⟨le, d0, df0, d1, df1⟩ := (Blk.new wr 88 #[.int .i64 u, .int .i64 x]).two
      go_wp2_with (at_mapUpdate; refine wpList_storeP (HMp.out.alloc (.cells #[.int .i64 u, .int .i64 x] 88)) rfl _ _ _ 73 3 (.inl rfl) (int_keyed Try.underlying3) Try.underlying73 rfl (.int .i64 x) (.int .i64 u) rfl rfl hkeyv ?_; intro w6 hm6 hg6 hs6)
      go_roundw
      case measure => simp [intOf]; omega
      case rel =>
        refine ⟨k + 1, _, by omega, by go_num, hm6, fun v => ⟨fun y hy => ?_, fun hno u' hu' => ?_⟩, (Hr.out.alloc _).kept hg6 (own_blk_none_map Hr.out HMp.out), ?_⟩
        · by_cases e : v = x
          · subst e
            rw [updP_same] at hy
            cases hy
            exact ⟨u, rfl, Hmem.out⟩
          · rw [updP_other (by intro h; cases h; exact e rfl)] at hy
            exact (Hf.out v).1 y hy
        · by_cases e : v = x
          · subst e
            rw [updP_same] at hno
            cases hno
          · rw [updP_other (by intro h; cases h; exact e rfl)] at hno
            rw [Htk.out, List.mem_append, List.mem_singleton] at hu'
            rcases hu' with h | h
            · exact (Hf.out v).2 hno u' h
            · cases h; exact e rfl
        · exact HB.out.grown (gGrown (World.grownBy_alloc _ _ _) hg6 (row := some w.heap.size) (fun _ e => .inl e)) hsz (fun j e => by cases e; exact Nat.le_refl _)
    · obtain rfl : k = m := by omega
      have HF : Hid (BhMap T f) := Lib.hid (fun v => ⟨fun y hy => by
        obtain ⟨u, rfl, hu⟩ := (Hf.out v).1 y hy
        exact ⟨u, rfl, nxt_edge.2 ((HEd.out _).1 hu)⟩, fun hno u hu => by
        have := (Hf.out v).2 hno u
        rw [List.take_of_length_le (by rw [Hm.out]; exact Nat.le_refl _)] at this
        exact this ((HEd.out _).2 (nxt_edge.1 hu))⟩)
      clear hrow
      go_wp2
      go_ret
      exact ⟨_, f, rfl, Nat.le_refl _, HMp.out, HF.out, HB.out⟩
end Go.Proofs.Ytpnkhgjjlionnaa
namespace Go.Proofs.Ytpnkhgjjlionnaa
open Go.RowKit Go.Maps Go.Shelf
attribute [local go_sem] Oper.semAt_some

/-- The iterator's contract. -/
def SeqSepO {α : Type} (F : Fence) (n : Nat) (P : Program) (g : Nat) (lb : Array Value) (encs : α → Array Value) (Ok : List α → α → Prop) (Fin Sp : List α → Prop) (N : Nat) (w0 : World) (R : Nat → Prop) (Pre : World → Prop) : Prop :=
  ∀ (l : Nat) (J Jx : List α → (Nat → Prop) → World → Prop) (W : World) (C : Nat → Prop), Below w0.heap.size w0 W → Pre W → (∀ k, R k → k < W.heap.size) → Stable w0.heap.size J → Stable w0.heap.size Jx →
    (∀ pre x C1 W1, J pre C1 W1 → pre.length < N → Ok pre x → YieldAt F (n - 1) P l (encs x) W1 fun e W' =>
      Kept C1 W1 W' ∧ ∃ C', Anew C1 C' W1 W' ∧ ((e = .returned (.bool true) ∧ J (pre ++ [x]) C' W') ∨ (e = .returned (.bool false) ∧ Jx (pre ++ [x]) C' W'))) →
    J [] C W → (∀ k, C k → w0.heap.size ≤ k ∧ k < W.heap.size ∧ ¬ R k) →
    CallsIn F n P g (#[.func (.yield l) #[] #[]] ++ lb) W fun e W' => (∃ v, e = .returned v) ∧ ((∃ xs C', Fin xs ∧ J xs C' W') ∨ (∃ pre C', Sp pre ∧ Jx pre C' W'))
section
variable {F : Fence} {n : Nat} {P : Program} {w : World}
set_option maxHeartbeats 1000000 in
theorem wpIn_rangeFunc_sepO {α : Type} {g : Operand} {ps : Array Tmp} {assign body : Code} {Q : Exit → Act → World → Prop} {a : Act} {w : World}
    (hro : F.round = none) (h1 : 1 ≤ n) {gf : Nat} {lb : Array Value} (hg : a.eval g = .func (.func gf) #[] lb) (hFg : F.fn gf) (eg : ∀ args w, (callFunc gf args).run P w = .ok (.enter gf args) w)
    {encs : α → Array Value} {Ok : List α → α → Prop} {Fin Sp : List α → Prop} {N : Nat} {w0 : World} {R : Nat → Prop} {Pre : World → Prop} (hseq : SeqSepO F (n - 1) P gf lb encs Ok Fin Sp N w0 R Pre) (hpre : ∀ W, Below w.heap.size w W → Pre W) (hR : ∀ k, R k → k < w.heap.size) (hb0 : Below w0.heap.size w0 w) (hps : ∀ x, (encs x).size = ps.size)
    (I : List α → (Nat → Prop) → World → Prop) (Ix : Code → List α → (Nat → Prop) → World → Prop) (hI : Stable w0.heap.size I) (hIx : ∀ c, Stable w0.heap.size (Ix c)) (C0 : Nat → Prop) (hC0 : ∀ k, C0 k → w0.heap.size ≤ k ∧ k < w.heap.size ∧ ¬ R k) (h0 : I [] C0 w)
    (hround : ∀ (l : Nat) (pre : List α) (x : α) (C : Nat → Prop) (W : World), w.heap.size ≤ l → l < W.heap.size → I pre C W → (∀ k, C k → w0.heap.size ≤ k ∧ k < W.heap.size) → pre.length < N → Ok pre x →
      assign.wpIn (F.inRound l) (n - 1 - 1) P (Exit.then (fun a' W1 => Kept C W W1 ∧ I pre C W1 ∧ ∀ W2, Kept (fun k => k = l) W1 W2 → I pre C W2 → (∀ k, C k → w0.heap.size ≤ k ∧ k < W2.heap.size) → W2.heap.size = W1.heap.size → body.wpIn (F.inRound l) (n - 1 - 1) P (sepPost I Ix C (pre ++ [x]) W2) a' W2) (fun _ _ _ => False))
        { tmps := (ps.zip (encs x)).foldl (fun t (p, v) => t.setIfInBounds p v) a.tmps, defers := [] } W)
    (hdone : ∀ (D : Nat) (xs : List α) (C : Nat → Prop) (W : World), w.heap.size ≤ D → ¬ C D → Fin xs → I xs C W → W.heap[D]? = some (.deferred (some [])) → Q .normal { a with defers := { target := .collected D, args := #[] } :: a.defers } W)
    (hstop : ∀ (D : Nat) (c : Code) (pre : List α) (C : Nat → Prop) (W : World), w.heap.size ≤ D → ¬ C D → Sp pre → Ix c pre C W → W.heap[D]? = some (.deferred (some [])) → c.wpIn F n P Q { a with defers := { target := .collected D, args := #[] } :: a.defers } W) :
    (Code.rangeFunc g ps assign body).wpIn F n P Q a w := by
  refine wpIn_rangeFunc ?_
  intro fn hfn
  rw [hro]
  obtain ⟨rec, hrec⟩ : ∃ rec : LoopState → Option Code → Loop, rec = fun st pe => { state := st, pending := pe, fn, tmps := a.tmps, params := ps, assign, body, defers := w.heap.size } := ⟨_, rfl⟩
  obtain ⟨W1, hW1⟩ : ∃ W1, (w.alloc (.deferred (some []))).alloc (.loop (rec .ready none)) = W1 := ⟨_, rfl⟩
  have hL1 : W1.heap[w.heap.size + 1]? = some (.loop (rec .ready none)) := by
    rw [← hW1]; have := World.alloc_heap_new (w.alloc (.deferred (some []))) (.loop (rec .ready none)); rwa [World.size_alloc] at this
  have hK1 : W1.heap[w.heap.size]? = some (.deferred (some [])) := by
    rw [← hW1]; exact (Below.heap_alloc _ _ _ (by simp)).trans (World.alloc_heap_new w _)
  have hz1 : W1.heap.size = w.heap.size + 2 := by rw [← hW1]; simp
  have hbw : Below w.heap.size w W1 := by rw [← hW1]; exact ((Below.refl _ w).alloc (Nat.le_refl _) _).alloc (by simp) _
  have hz0 := hb0.size
  have hI1 : I [] C0 W1 := hI _ _ _ _ h0 (hbw.mono hz0) (fun k hk => hbw.block k (hC0 k hk).2.1)
  have hb1 : Below w0.heap.size w0 W1 := hb0.trans (hbw.mono hz0)
  -- the law's own set
  let J : (List α → (Nat → Prop) → World → Prop) → (World → Prop) → List α → (Nat → Prop) → World → Prop := fun I R pre C W => ∃ Cu, (∀ k, C k ↔ Cu k ∨ k = w.heap.size ∨ k = w.heap.size + 1) ∧ I pre Cu W ∧ (∀ k, Cu k → w0.heap.size ≤ k ∧ k < W.heap.size ∧ k ≠ w.heap.size ∧ k ≠ w.heap.size + 1) ∧ R W ∧ W.heap[w.heap.size]? = some (.deferred (some []))
  have hJ : ∀ (I : List α → (Nat → Prop) → World → Prop) (R : World → Prop), Stable w0.heap.size I → (∀ A B : World, R A → B.heap[w.heap.size + 1]? = A.heap[w.heap.size + 1]? → R B) → Stable w0.heap.size (J I R) := by
    rintro I R hI hR xs C A B ⟨Cu, hC, hi, hbd, hl, hd⟩ hbel hsame
    exact ⟨Cu, hC, hI _ _ _ _ hi hbel (fun k hk => hsame k ((hC k).2 (.inl hk))), fun k hk => by have := hbd k hk; have := hbel.size; omega, hR _ _ hl (hsame _ ((hC _).2 (.inr (.inr rfl)))), (hsame _ ((hC _).2 (.inr (.inl rfl)))).trans hd⟩
  refine ⟨w.heap.size + 1, [{ target := .collected w.heap.size, args := #[] }], W1, { target := .fn (.func gf) lb, args := #[.func (.yield (w.heap.size + 1)) #[] #[]] }, W1, gf,
    #[.func (.yield (w.heap.size + 1)) #[] #[]] ++ lb, W1, ?_, ?_, ?_, ?_, fun _ => h1, ?_⟩
  · rw [← hW1, hrec]; exact run_enterLoop_outer _ _ _ _ _
  · simp only [resolve, hg]
    simp [go_sem]
  · intro f' hf'; simp [Target.leads] at hf'; subst hf'; exact hFg
  · simp [invoke, go_sem, eg]
  · refine (hseq (w.heap.size + 1) (J I (fun W => W.heap[w.heap.size + 1]? = some (.loop (rec .ready none)))) (J (fun xs C W => ∃ c, Ix c xs C W ∧ W.heap[w.heap.size + 1]? = some (.loop (rec .done (some c)))) (fun _ => True)) W1
      (fun k => C0 k ∨ k = w.heap.size ∨ k = w.heap.size + 1) hb1 (hpre W1 hbw) (fun k hk => by have := hR k hk; omega) (hJ _ _ hI (fun A B h e => e.trans h)) ?_ ?_ ⟨C0, fun k => Iff.rfl, hI1, fun k hk => by have := hC0 k hk; omega, hL1, hK1⟩ (fun k hk => by
        have hR' := hR k
        rcases hk with hk | hk | hk
        · have := hC0 k hk; exact ⟨this.1, by omega, this.2.2⟩
        · exact ⟨by omega, by omega, fun h => by have := hR' h; omega⟩
        · exact ⟨by omega, by omega, fun h => by have := hR' h; omega⟩)).mono ?_
    · rintro xs C A B ⟨Cu, hC, ⟨c, hc, hl⟩, hbd, -, hd⟩ hbel hsame
      exact ⟨Cu, hC, ⟨c, hIx c _ _ _ _ hc hbel (fun k hk => hsame k ((hC k).2 (.inl hk))), (hsame _ ((hC _).2 (.inr (.inr rfl)))).trans hl⟩, fun k hk => by have := hbd k hk; have := hbel.size; omega, trivial, (hsame _ ((hC _).2 (.inr (.inl rfl)))).trans hd⟩
    · -- one round
      rintro pre x C W ⟨Cu, hC, hi, hbd, hl, hk⟩ hlen hok
      have hlt : w.heap.size + 1 < W.heap.size := (Array.getElem?_eq_some_iff.1 hl).1
      have hy := run_yield (P := P) (args := encs x) hl (by rw [hrec]; exact hps x)
      rw [hrec] at hy
      refine ⟨fn, _, assign, body, hy, roundIn_of_wpIn hfn (wpIn_mono (hround (w.heap.size + 1) pre x Cu W (by omega) hlt hi (fun k hk => ⟨(hbd k hk).1, (hbd k hk).2.1⟩) hlen hok) ?_)⟩
      clear hy
      intro e a' Wa hp
      cases e with
      | normal =>
        obtain ⟨hka, hia, hb⟩ := hp
        have hla := (hka.block _ hlt (fun h => (hbd _ h).2.2.2 rfl)).trans hl
        have hda := (hka.block _ (by omega) (fun h => (hbd _ h).2.2.1 rfl)).trans hk
        have hza := hka.size
        refine ⟨_, run_beginRound hla (by rw [hrec]), ?_⟩
        obtain ⟨W2, hW2⟩ : ∃ W2, Wa.putObj (w.heap.size + 1) (.loop { rec .ready none with state := .busy }) = W2 := ⟨_, rfl⟩
        have hl2 : W2.heap[w.heap.size + 1]? = some (.loop { rec .ready none with state := .busy }) := by rw [← hW2]; exact World.putObj_heap_same (by omega)
        have hd2 : W2.heap[w.heap.size]? = some (.deferred (some [])) := by rw [← hW2]; exact (World.putObj_heap_other (by omega)).trans hda
        have hz2 : W2.heap.size = Wa.heap.size := by rw [← hW2]; simp
        have hk2 : Kept (fun k => k = w.heap.size + 1) Wa W2 := by rw [← hW2]; exact putObj_kept rfl
        have hi2 : I pre Cu W2 := by
          refine hI _ _ _ _ hia ?_ (fun k hk => ?_)
          · rw [← hW2]; exact putObj_below (by omega)
          · rw [← hW2]; exact World.putObj_heap_other (hbd k hk).2.2.2
        rw [hW2]
        refine wpIn_mono (hb W2 hk2 hi2 (fun k hk => by have := hbd k hk; omega) hz2) ?_
        have fin : ∀ (jump : Option Code) (W3 : World) (C' : Nat → Prop), Kept Cu W2 W3 → Anew Cu C' W2 W3 →
            (Instr.endRound (w.heap.size + 1) jump).run P W3 = .ok (.bool jump.isNone) (W3.putObj (w.heap.size + 1) (.loop (rec (if jump.isNone then .ready else .done) jump))) ∧
            (W3.putObj (w.heap.size + 1) (.loop (rec (if jump.isNone then .ready else .done) jump))).heap[w.heap.size + 1]? = some (.loop (rec (if jump.isNone then .ready else .done) jump)) ∧
            (W3.putObj (w.heap.size + 1) (.loop (rec (if jump.isNone then .ready else .done) jump))).heap[w.heap.size]? = some (.deferred (some [])) ∧
            Kept C W (W3.putObj (w.heap.size + 1) (.loop (rec (if jump.isNone then .ready else .done) jump))) ∧
            Anew C (fun k => C' k ∨ k = w.heap.size ∨ k = w.heap.size + 1) W (W3.putObj (w.heap.size + 1) (.loop (rec (if jump.isNone then .ready else .done) jump))) ∧
            (∀ k, C' k → w0.heap.size ≤ k ∧ k < (W3.putObj (w.heap.size + 1) (.loop (rec (if jump.isNone then .ready else .done) jump))).heap.size ∧ k ≠ w.heap.size ∧ k ≠ w.heap.size + 1) := fun jump W3 C' hk3 hn3 => by
          have hl3 := (hk3.block _ (by omega) (fun h => (hbd _ h).2.2.2 rfl)).trans hl2
          have hd3 := (hk3.block _ (by omega) (fun h => (hbd _ h).2.2.1 rfl)).trans hd2
          have hz3 := hk3.size
          have := run_endRound (P := P) jump hl3
          rw [hrec] at this ⊢
          refine ⟨this, World.putObj_heap_same (by omega), (World.putObj_heap_other (by omega)).trans hd3, ?_, ?_, ?_⟩
          · have c1 : Kept C W Wa := hka.mono (fun k hk => (hC k).2 (.inl hk))
            have c2 : Kept C Wa W2 := hk2.mono (fun k hk => (hC k).2 (.inr (.inr hk)))
            have c3 : Kept C W2 W3 := hk3.mono (fun k hk => (hC k).2 (.inl hk))
            exact ((c1.trans c2).trans c3).trans (putObj_kept ((hC _).2 (.inr (.inr rfl))))
          · intro k hk
            rw [World.putObj_size]
            rcases hk with hk | hk | hk
            · rcases hn3 k hk with h | h
              · exact .inl ((hC k).2 (.inl h))
              · exact .inr (by omega)
            · exact .inl ((hC k).2 (.inr (.inl hk)))
            · exact .inl ((hC k).2 (.inr (.inr hk)))
          · intro k hk
            rw [World.putObj_size]
            rcases hn3 k hk with h | h
            · have := hbd k h
              omega
            · omega
        have put : ∀ {J : List α → (Nat → Prop) → World → Prop} (xs : List α) (C' : Nat → Prop) (W3 : World) (o : Obj), Stable w0.heap.size J → J xs C' W3 → (∀ k, C' k → k ≠ w.heap.size + 1) → J xs C' (W3.putObj (w.heap.size + 1) o) := fun xs C' W3 o hJ h hk => hJ _ _ _ _ h (putObj_below (by omega)) (fun k h' => World.putObj_heap_other (hk k h'))
        rintro e a3 W3 hp
        cases e with
        | normal =>
          obtain ⟨hk3, C', hn3, hi3⟩ := hp
          obtain ⟨hr, hl4, hd4, c4, n4, b4⟩ := fin none W3 C' hk3 hn3
          exact ⟨_, _, hr, c4, _, n4, .inl ⟨rfl, C', fun k => Iff.rfl, put _ _ _ _ hI hi3 (fun k h => (b4 k h).2.2.2), b4, hl4, hd4⟩⟩
        | ret =>
          obtain ⟨hk3, C', hn3, hi3⟩ := hp
          obtain ⟨hr, hl4, hd4, c4, n4, b4⟩ := fin (some .ret) W3 C' hk3 hn3
          exact ⟨_, _, hr, c4, _, n4, .inr ⟨rfl, C', fun k => Iff.rfl, ⟨.ret, put _ _ _ _ (hIx _) hi3 (fun k h => (b4 k h).2.2.2), hl4⟩, b4, trivial, hd4⟩⟩
        | exit id =>
          obtain ⟨hk3, C', hn3, hi3⟩ := hp
          obtain ⟨hr, hl4, hd4, c4, n4, b4⟩ := fin (some (.exit id)) W3 C' hk3 hn3
          exact ⟨_, _, hr, c4, _, n4, .inr ⟨rfl, C', fun k => Iff.rfl, ⟨.exit id, put _ _ _ _ (hIx _) hi3 (fun k h => (b4 k h).2.2.2), hl4⟩, b4, trivial, hd4⟩⟩
        | goto t =>
          obtain ⟨hk3, C', hn3, hi3⟩ := hp
          obtain ⟨hr, hl4, hd4, c4, n4, b4⟩ := fin (some (.goto t)) W3 C' hk3 hn3
          exact ⟨_, _, hr, c4, _, n4, .inr ⟨rfl, C', fun k => Iff.rfl, ⟨.goto t, put _ _ _ _ (hIx _) hi3 (fun k h => (b4 k h).2.2.2), hl4⟩, b4, trivial, hd4⟩⟩
        | panic ch => exact hp.elim
        | outgrown => exact hp.elim
      | ret => exact hp.elim
      | exit id => exact hp.elim
      | goto t => exact hp.elim
      | panic ch => exact hp.elim
      | outgrown => exact hp.elim
    · -- behind the iterator
      rintro e W2 ⟨⟨v, rfl⟩, (⟨xs, C', hS, Cu, hC, hi, hbd, hl, hd⟩ | ⟨pre, C', hSp, Cu, hC, ⟨c, hi, hl⟩, hbd, -, hd⟩)⟩
      · exact ⟨none, _, by have := run_endLoop (P := P) hl (by rw [hrec]; simp); rw [hrec] at this; exact this, hdone _ xs Cu _ (Nat.le_refl _) (fun h => (hbd _ h).2.2.1 rfl) hS (hI _ _ _ _ hi (putObj_below (by omega)) (fun k hk => World.putObj_heap_other (hbd k hk).2.2.2)) ((World.putObj_heap_other (by omega)).trans hd)⟩
      · exact ⟨some c, _, by have := run_endLoop (P := P) hl (by rw [hrec]; simp); rw [hrec] at this; exact this, hstop _ c pre Cu _ (Nat.le_refl _) (fun h => (hbd _ h).2.2.1 rfl) hSp (hIx c _ _ _ _ hi (putObj_below (by omega)) (fun k hk => World.putObj_heap_other (hbd k hk).2.2.2)) ((World.putObj_heap_other (by omega)).trans hd)⟩
end
end Go.Proofs.Ytpnkhgjjlionnaa
namespace Go.Proofs.Ytpnkhgjjlionnaa
open Go.RowKit Go.Maps Go.Shelf
attribute [local go_sem] Oper.semAt_some

/-- The next vertex, out of the map; and so on. -/
def nxB (f : Value → Option Value) (x : Int) : Int := match f (.int .i64 x) with
  | some (.int .i64 u) => u
  | _ => 0
def itB (f : Value → Option Value) (v : Int) : Nat → Int
  | 0 => v
  | j + 1 => nxB f (itB f v j)
section
variable {n : Nat} {T : List Tr} {f : Value → Option Value}
theorem bh_some (hf : BhMap T f) {x : Int} (h : f (.int .i64 x) ≠ none) : f (.int .i64 x) = some (.int .i64 (nxB f x)) ∧ Nxt T x (nxB f x) := by
  cases hx : f (.int .i64 x) with
  | none => exact absurd hx h
  | some y =>
    obtain ⟨u, rfl, hu⟩ := (hf x).1 y hx
    have : nxB f x = u := by unfold nxB; rw [hx]
    rw [this]
    exact ⟨rfl, hu⟩
theorem bh_on (hS : Surf n T) (hf : BhMap T f) {x : Int} (h : f (.int .i64 x) ≠ none) : f (.int .i64 (nxB f x)) ≠ none := fun e => by
  obtain ⟨z, hz⟩ := (bh_some hf h).2.on hS
  exact (hf _).2 e z hz
theorem it_dom (hS : Surf n T) (hf : BhMap T f) {v : Int} (h : f (.int .i64 v) ≠ none) : ∀ j, f (.int .i64 (itB f v j)) ≠ none
  | 0 => h
  | j + 1 => bh_on hS hf (it_dom hS hf h j)
theorem it_rng (hS : Surf n T) (hf : BhMap T f) {v : Int} (h : f (.int .i64 v) ≠ none) (j : Nat) : 0 ≤ itB f v j ∧ itB f v j < n := ((bh_some hf (it_dom hS hf h j)).2.rng hS).1
theorem it_back (hS : Surf n T) (hf : BhMap T f) {v : Int} (h : f (.int .i64 v) ≠ none) : ∀ (i k : Nat), itB f v i = itB f v (i + k) → v = itB f v k
  | 0, k, e => by simpa [itB] using e
  | i + 1, k, e => it_back hS hf h i k (by
    have e2 : itB f v (i + 1 + k) = nxB f (itB f v (i + k)) := by rw [show i + 1 + k = (i + k) + 1 from by omega]; rfl
    have h1 := (bh_some hf (it_dom hS hf h i)).2
    have h2 := (bh_some hf (it_dom hS hf h (i + k))).2
    have e3 : nxB f (itB f v i) = nxB f (itB f v (i + k)) := by rw [← e2, ← e]; rfl
    rw [← e3] at h2
    exact h1.inj hS h2)
/-- One cannot go on for ever without coming back. -/
theorem it_bound (hS : Surf n T) (hf : BhMap T f) {v : Int} (h : f (.int .i64 v) ≠ none) {j : Nat} (hj : ∀ i, 1 ≤ i → i ≤ j → itB f v i ≠ v) : j + 1 ≤ n := by
  have hnd : ((List.range (j + 1)).map fun i => (itB f v i).toNat).Nodup := by
    refine List.pairwise_map.2 (List.Pairwise.imp_of_mem (fun {a b} ha hb hab => ?_) (List.pairwise_lt_range (n := j + 1)))
    intro e
    have ra := it_rng hS hf h a
    have rb := it_rng hS hf h b
    have e1 : itB f v a = itB f v (a + (b - a)) := by rw [show a + (b - a) = b from by omega]; omega
    have := it_back hS hf h a (b - a) e1
    exact hj (b - a) (by omega) (by have := List.mem_range.1 hb; omega) this.symm
  have := Jor.nodup_le (m := List.range n) hnd (fun x hx => by
    obtain ⟨i, -, rfl⟩ := List.mem_map.1 hx
    have := it_rng hS hf h i
    exact List.mem_range.2 (by omega))
  simpa using this
end
/-- What is yielded: nothing where there is no border; else the vertex first. -/
def FinB (n : Nat) (T : List Tr) (v : Nat) (xs : List Int) : Prop := (xs = [] → ∀ u, ¬ Nxt T v u) ∧ (xs ≠ [] → (∃ r, xs = (v : Int) :: r) ∧ ∃ u, Nxt T v u) ∧ xs.length ≤ n ∧ ∀ x ∈ xs, 0 ≤ x ∧ x < n
theorem MapP.same9 {P : Program} {k : TypeId} {b : Nat} {w w' : World} {f : Value → Option Value} (h : MapP P k w b f) (hg : w'.heap[b]? = w.heap[b]?) : MapP P k w' b f := by
  obtain ⟨es, clock, hb, h1⟩ := h
  exact ⟨es, clock, hg.trans hb, h1⟩
theorem Below.cell_same9 {w w' : World} {q : Nat} (hg : w'.heap[q]? = w.heap[q]?) : w'.cell? ⟨q, 0, none⟩ = w.cell? ⟨q, 0, none⟩ := by
  unfold World.cell?
  simp only [hg]
/-- The iterator's state between two rounds. -/
structure BwI (w : World) (n : Nat) (f : Value → Option Value) (v b Bv : Nat) (J : List Int → (Nat → Prop) → World → Prop) (k : Nat) (u5 : Value) (W : World) : Prop where
  st : ∃ j C, u5 = .int .i64 (itB f v (j + 1)) ∧ J ((List.range (j + 1)).map (itB f v)) C W ∧ (∀ i, 1 ≤ i → i ≤ j → itB f v i ≠ v) ∧ (∀ q, C q → w.heap.size ≤ q ∧ q < W.heap.size ∧ q ≠ b ∧ q ≠ Bv) ∧ k + j + 1 = n
  map : MapP Try.prog 3 W b f
  box : W.cell? ⟨Bv, 0, none⟩ = some (.int .i64 v)
  lt : Bv < W.heap.size
  below : Below w.heap.size w W
set_option maxRecDepth 100000 in
set_option maxHeartbeats 4000000 in
theorem bwalkB_sepO {w : World} {m Bt Bv g n v : Nat} {T : List Tr} (hS : Surf n T) (hT : Tab w g n T) (hv : v < n) :
    SeqSepO Fence.wide m Try.prog 107 #[.pointer (some ⟨Bt, 0, none⟩), .pointer (some ⟨Bv, 0, none⟩)] (fun x : Int => #[.int .i64 x]) (fun _ x => 0 ≤ x ∧ x < (n : Int)) (FinB n T v) (fun _ => True) n w (fun k => k = Bv) (fun W => W.cell? ⟨Bt, 0, none⟩ = some (.pointer (some ⟨g, 0, none⟩)) ∧ W.cell? ⟨Bv, 0, none⟩ = some (.int .i64 v) ∧ Bt < W.heap.size ∧ Bv < W.heap.size) := by
  rintro l J Jx W C hW ⟨t0, c0, lt, lc⟩ - hJ hJx hY h0 hC
  have hn : n ≤ 4096 := by have := hS.n1; omega
  have hz := hW.size
  have HE := Lib.hid (behindB_any g n T W (hT.below hW) (by omega) hS)
  have HS := Lib.hid hS
  have HJ := Lib.hid hJ
  have HY := Lib.hid hY
  have HJ0 := Lib.hid h0
  have HC := Lib.hid hC
  have HW := Lib.hid hW
  clear hS hT hJ hJx hY h0 hC hW
  refine callsIn_of_wp Try.func107 rfl trivial ?_ rfl
  simp only [Try.ntmps107, List.size_toArray, List.length_cons, List.length_nil, Nat.reduceAdd, Nat.reduceSub, Array.replicate_succ, Array.replicate_zero, List.push_toArray, List.append_toArray, List.nil_append, List.cons_append]
  gi_wp2_with fail
  refine ⟨trivial, fun h => (by simp [Fence.wide] at h), (callsIn_wide.2 HE.out).mono ?_⟩
  rintro e w1 ⟨b, f, rfl, hb, hm, hf, hb1⟩
  have HB1 := Lib.hid hb1
  have HM := Lib.hid hm
  have HF := Lib.hid hf
  have Hb := Lib.hid hb
  have hkeyv := keyOf_int_mk (P := Try.prog) (k := 3) (q := .i64) Try.underlying3 (wfV (x := (v : Int)) ⟨by omega, by omega⟩)
  have hlk := hm.lookOk (t := 73) (int_keyed Try.underlying3) Try.underlying73 (zero_int _) hkeyv
  have t1 := (hb1.cell (p := ⟨Bt, 0, none⟩) lt).trans t0
  have v1 := (hb1.cell (p := ⟨Bv, 0, none⟩) lc).trans c0
  have HJ1 := Lib.hid (HJ.out _ _ _ _ HJ0.out (hb1.mono hz) (fun j hj => hb1.block j (HC.out j hj).2.1))
  have HBw := Lib.hid (HW.out.trans (hb1.mono hz))
  have hz1 := hb1.size
  cases hfv : f (.int .i64 (v : Int)) with
  | none =>
    have HN := Lib.hid ((hf _).2 hfv)
    rw [hfv] at hlk
    clear hb1 hm hf hfv HE t0 c0 hb
    gi_wp2
    refine ⟨fun f h => (by cases h), ?_⟩
    gi_wp2
    refine bodyPost_ret (results_none rfl _ _ _) rfl ?_
    exact ⟨⟨_, rfl⟩, .inl ⟨[], C, ⟨fun _ => HN.out, fun h => absurd rfl h, Nat.zero_le _, fun x hx => by simp at hx⟩, HJ1.out⟩⟩
  | some y =>
    have hne : f (.int .i64 (v : Int)) ≠ none := by rw [hfv]; simp
    have hs := (bh_some hf hne).1
    rw [hs] at hlk
    have HNe := Lib.hid hne
    obtain ⟨fn, tmps, assign, body, hy, hR⟩ := HY.out [] (v : Int) C w1 HJ1.out (by simp; omega) (by omega)
    clear hb1 hm hf hfv HE t0 c0 hb hs hne
    gi_wp2
    refine ⟨fun h => (by simp [Fence.wide] at h), hR.mono ?_⟩
    rintro e w5 ⟨hK5, C', hC', ⟨rfl, hJ5⟩ | ⟨rfl, hJ5⟩⟩
    rotate_left
    · have HJ5 := Lib.hid hJ5
      clear hJ5 hK5 hC' hR
      gi_wp2
      refine bodyPost_ret (results_none rfl _ _ _) rfl ?_
      exact ⟨⟨_, rfl⟩, .inr ⟨_, C', trivial, HJ5.out⟩⟩
    have hCw : ∀ q, C q → w.heap.size ≤ q ∧ q < W.heap.size ∧ q ≠ Bv := fun q hq => HC.out q hq
    have HI := Lib.hid (show BwI w n f v b Bv J (n - 1) (.int .i64 (itB f v 1)) w5 from ⟨⟨0, C', rfl, hJ5, fun i h1 h2 => absurd h1 (by omega), fun q hq => by
      rcases hC' q hq with h | h
      · have h1 := hCw q h
        have h2 := hK5.size
        have h3 := Hb.out
        exact ⟨h1.1, by omega, by omega, h1.2.2⟩
      · exact ⟨by have := HBw.out.size; omega, h.2, by have := HM.out.lt; omega, by omega⟩, by omega⟩,
      HM.out.same9 (hK5.block b HM.out.lt (fun h => by have := hCw b h; have := Hb.out; omega)),
      (Below.cell_same9 (hK5.block Bv (by omega) (fun h => (hCw Bv h).2.2 rfl))).trans v1, by have := hK5.size; omega, HBw.out.trans (hK5.below (fun q hq => (hCw q hq).1) HBw.out.size)⟩)
    have HC0 := Lib.hid hCw
    have hn1 : (itB f v 1) = nxB f v := rfl
    rw [← hn1]
    clear hK5 hC' hJ5 hR hCw hlk t1 v1 HJ0 HJ1 hn1
    gi_wp2
    gi_loopg [5] (n - 1) (fun k v5 wr => BwI w n f v b Bv J k v5 wr)
    case atStart => exact HI.out
    case round =>
      clear HI HM HC HC0
      rename World => wr
      obtain ⟨⟨j, C1, rfl, hJL, hne, hC1, hk⟩, hm, hbx, hlt, hB⟩ := hrel
      by_cases hu : itB f v (j + 1) = v
      · have hq : (itB f v (j + 1) != (v : Int)) = false := by simpa using hu
        have HFin := Lib.hid (show FinB n T v ((List.range (j + 1)).map (itB f v)) from by
          have hd : (List.range (j + 1)).map (itB f v) = (v : Int) :: (List.range' 1 j).map (itB f v) := by
            rw [List.range_eq_range', List.range'_succ, List.map_cons]
            rfl
          refine ⟨fun h => (by rw [hd] at h; cases h), fun _ => ⟨⟨_, hd⟩, _, (bh_some HF.out HNe.out).2⟩, ?_, fun x hx => ?_⟩
          · have := it_bound HS.out HF.out HNe.out hne
            simpa using this
          · obtain ⟨i, -, rfl⟩ := List.mem_map.1 hx
            exact it_rng HS.out HF.out HNe.out i)
        have HJL := Lib.hid hJL
        clear hJL hne hC1 hm hB hu
        gi_wp2
        refine bodyPost_end (results_none rfl _ _ _) rfl ?_
        exact ⟨⟨_, rfl⟩, .inl ⟨_, C1, HFin.out, HJL.out⟩⟩
      · have hq : (itB f v (j + 1) != (v : Int)) = true := by simpa using hu
        have hne2 : ∀ i, 1 ≤ i → i ≤ j + 1 → itB f v i ≠ v := fun i h1 h2 => by
          rcases Nat.lt_or_ge i (j + 1) with e | e
          · exact hne i h1 (by omega)
          · obtain rfl : i = j + 1 := by omega
            exact hu
        have hbd := it_bound HS.out HF.out HNe.out hne2
        obtain ⟨fn, tmps, assign, body, hy, hR⟩ := HY.out _ (itB f v (j + 1)) C1 wr hJL (by simp; omega) (it_rng HS.out HF.out HNe.out (j + 1))
        have hrg := it_rng HS.out HF.out HNe.out (j + 1)
        have Hne2 := Lib.hid hne2
        have HC1 := Lib.hid hC1
        have HM := Lib.hid hm
        have HBr := Lib.hid hB
        have Hbx := Lib.hid hbx
        obtain ⟨u, hU⟩ : ∃ u, itB f v (j + 1) = u := ⟨_, rfl⟩
        rw [hU] at hy hR hq hrg ⊢
        have HU := Lib.hid hU
        clear hJL hne hC1 hm hB hu hne2 hU
        gi_wp2
        refine ⟨fun h => (by simp [Fence.wide] at h), hR.mono ?_⟩
        rintro e w5 ⟨hK5, C', hC', ⟨rfl, hJ5⟩ | ⟨rfl, hJ5⟩⟩
        rotate_left
        · have HJ5 := Lib.hid hJ5
          clear hJ5 hK5 hC' hR
          gi_wp2
          refine bodyPost_ret (results_none rfl _ _ _) rfl ?_
          exact ⟨⟨_, rfl⟩, .inr ⟨_, C', trivial, HJ5.out⟩⟩
        have hM5 := HM.out.same9 (hK5.block b HM.out.lt (fun h => (HC1.out b h).2.2.1 rfl))
        have hkeyu := keyOf_int_mk (P := Try.prog) (k := 3) (q := .i64) Try.underlying3 (wfV (x := u) ⟨by omega, by omega⟩)
        have hlk := hM5.look (t := 73) (int_keyed Try.underlying3) Try.underlying73 (zero_int _) hkeyu
        have hs := (bh_some HF.out (it_dom HS.out HF.out HNe.out (j + 1))).1
        rw [HU.out] at hs
        rw [hs, Option.getD_some] at hlk
        have HI5 := Lib.hid (show BwI w n f v b Bv J (n - (j + 2)) (.int .i64 (nxB f u)) w5 from ⟨⟨j + 1, C', by rw [← HU.out]; rfl, by
            have e : (List.range (j + 1 + 1)).map (itB f v) = (List.range (j + 1)).map (itB f v) ++ [u] := by rw [List.range_succ, List.map_append, List.map_singleton, HU.out]
            rw [e]
            exact hJ5, Hne2.out, fun q hq => by
            rcases hC' q hq with h | h
            · have h1 := HC1.out q h
              have h2 := hK5.size
              exact ⟨h1.1, by omega, h1.2.2.1, h1.2.2.2⟩
            · exact ⟨by have := HBr.out.size; omega, h.2, by have := HM.out.lt; omega, by omega⟩, by omega⟩,
          hM5, (Below.cell_same9 (hK5.block Bv hlt (fun h => (HC1.out Bv h).2.2.2 rfl))).trans Hbx.out, by have := hK5.size; omega, HBr.out.trans (hK5.below (fun q hq => (HC1.out q hq).1) HBr.out.size)⟩)
        clear hK5 hC' hJ5 hR hM5 hs hbx hy
        gi_wp2
        gi_roundg (n - (j + 2))
        case measure => omega
        case rel => exact HI5.out
theorem bwalkB_sep {w : World} {m Bt Bv g n v : Nat} {T : List Tr} (hS : Surf n T) (hT : Tab w g n T) (hv : v < n) :
    SeqSep Fence.wide m Try.prog 107 #[.pointer (some ⟨Bt, 0, none⟩), .pointer (some ⟨Bv, 0, none⟩)] (fun x : Int => #[.int .i64 x]) (FinB n T v) (fun _ => True) n w (fun k => k = Bv) (fun W => W.cell? ⟨Bt, 0, none⟩ = some (.pointer (some ⟨g, 0, none⟩)) ∧ W.cell? ⟨Bv, 0, none⟩ = some (.int .i64 v) ∧ Bt < W.heap.size ∧ Bv < W.heap.size) :=
  fun l J Jx W C hW hP hR hJ hJx hY h0 hC => bwalkB_sepO hS hT hv l J Jx W C hW hP hR hJ hJx (fun pre x C1 W1 h1 h2 _ => hY pre x C1 W1 h1 h2) h0 hC
end Go.Proofs.Ytpnkhgjjlionnaa
namespace Go.Proofs.Ytpnkhgjjlionnaa
open Go.RowKit Go.Maps Go.Shelf
attribute [local go_sem] Oper.semAt_some

/-- What is collected so far. -/
structure CoS (w : World) (pre : List Int) (v : Value) (W : World) : Prop where
  bx : Blk W w.heap.size 35 #[v]
  row : W.ownsRow w.heap.size 3 1 v (intsV pre).length (intsV pre)
  below : Below w.heap.size w W
def CoI (w : World) (pre : List Int) (C : Nat → Prop) (W : World) : Prop := ∃ v, (∀ k, C k ↔ k = w.heap.size ∨ v.ownBlock = some k) ∧ CoS w pre v W
section
variable {w W W' : World} {pre : List Int} {v : Value}
theorem CoS.same (h : CoS w pre v W) (hb : Below w.heap.size W W') (hs : ∀ k, k = w.heap.size ∨ v.ownBlock = some k → W'.heap[k]? = W.heap[k]?) : CoS w pre v W' :=
  ⟨blk_same h.bx (hs _ (.inl rfl)), own_same h.row (fun k e => hs k (.inr e)), h.below.trans hb⟩
theorem CoS.alloc (h : CoS w pre v W) (o : Obj) : CoS w pre v (W.alloc o) :=
  h.same ((Below.refl _ _).alloc h.below.size _) (fun k hk => Below.heap_alloc _ _ _ (by
    rcases hk with rfl | e
    · exact h.bx.lt
    · exact (h.row.lt k e).2))
theorem CoS.app (h : CoS w pre v W) {x : Int} {g' cap : Nat} {k : Nat} (hg : W.grownBy W' v.ownBlock) (hr : W'.ownsRow w.heap.size 3 1 (.slice (some ⟨g', 0, none⟩) k cap) k (intsV pre ++ [.int .i64 x])) (hk : k = (intsV pre).length + 1) (hat : v.ownBlock = some g' ∨ g' = W.heap.size) :
    CoS w (pre ++ [x]) (.slice (some ⟨g', 0, none⟩) k cap) (W'.setCell ⟨w.heap.size, 0, none⟩ (.slice (some ⟨g', 0, none⟩) k cap)) ∧ Kept (fun k => k = w.heap.size ∨ v.ownBlock = some k) W (W'.setCell ⟨w.heap.size, 0, none⟩ (.slice (some ⟨g', 0, none⟩) k cap)) ∧
      Anew (fun k => k = w.heap.size ∨ v.ownBlock = some k) (fun j => j = w.heap.size ∨ Value.ownBlock (.slice (some ⟨g', 0, none⟩) k cap) = some j) W (W'.setCell ⟨w.heap.size, 0, none⟩ (.slice (some ⟨g', 0, none⟩) k cap)) := by
  subst hk
  have hx := h.bx.grown hg (fun e => own_blk_ne h.row h.bx (by decide) e.symm)
  have hr' := own_blk_far (j := 0) (u := .slice (some ⟨g', 0, none⟩) ((intsV pre).length + 1) cap) hr hx (by decide)
  have e1 : intsV (pre ++ [x]) = intsV pre ++ [.int .i64 x] := by simp [intsV]
  refine ⟨⟨hx.set1 _, by rw [e1, List.length_append]; exact hr', ?_⟩, ?_, ?_⟩
  · exact (h.below.grown hg h.below.size (fun j e => by have := h.row.lt j e; omega)).setCell (p := ⟨w.heap.size, 0, none⟩) (Nat.le_refl _) _
  · exact ((Kept.refl _ _).grown hg (fun j e => .inl (.inr e))).setCell (p := ⟨w.heap.size, 0, none⟩) (.inl (.inl rfl)) _
  · intro k hk
    rcases hk with e | e
    · exact .inl (.inl e)
    · have e' : g' = k := Option.some.inj e
      rcases hat with hat | hat
      · exact .inl (.inr (by rw [hat, e']))
      · have := hr'.lt g' rfl
        exact .inr (by omega)
end
set_option maxRecDepth 100000 in
set_option maxHeartbeats 2000000 in
theorem appendSeqB {w : World} {gf N : Nat} {lb : Array Value} {Fin : List Int → Prop} {R : Nat → Prop} {Pre : World → Prop} (eg : ∀ args w, (callFunc gf args).run Try.prog w = .ok (.enter gf args) w) (hN : N ≤ 5000) (hseq : SeqSep Fence.wide 8 Try.prog gf lb (fun x : Int => #[.int .i64 x]) Fin (fun _ => True) N w R Pre) (hpre : ∀ W, Below w.heap.size w W → Pre W) (hR : ∀ k, R k → k < w.heap.size) :
    Calls Try.prog 106 #[.slice none 0 0, .func (.func gf) #[] lb] w fun e w' => ∃ v xs, e = .returned v ∧ Fin xs ∧ w'.ownsRow w.heap.size 3 1 v xs.length (intsV xs) ∧ Below w.heap.size w w' := by
  refine (callsIn_wide (n := 9)).1 ?_
  refine callsIn_of_wp_marks Try.func106 rfl trivial ?_ rfl
  simp only [Try.ntmps106, List.size_toArray, List.length_cons, List.length_nil, Nat.reduceAdd, Nat.reduceSub, Array.replicate_succ, Array.replicate_zero, List.push_toArray, List.append_toArray, List.nil_append, List.cons_append]
  gi_wp2
  have hB : Below w.heap.size w (w.alloc (.cells #[.slice none 0 0] 35)) := (Below.refl _ _).alloc (Nat.le_refl _) _
  have bx := Blk.new w 35 #[.slice none 0 0]
  refine wpIn_rangeFunc_sep rfl (by omega) (gf := gf) (lb := lb) rfl trivial eg hseq (fun W h => hpre W (hB.trans (h.mono hB.size))) (fun k h => by have := hR k h; have := hB.size; omega) hB (fun _ => rfl)
    (CoI w) (fun _ _ _ _ => False) ?_ ?_ (fun k => k = w.heap.size) (fun k hk => by subst hk; refine ⟨Nat.le_refl _, by simp, fun h => ?_⟩; have := hR _ h; omega) ⟨_, fun k => by simp [Value.ownBlock], bx, World.ownsRow_nil _ _ _ _, hB⟩ ?_ ?_ ?_
  · rintro xs C A B ⟨v, hC, h⟩ hb hs
    exact ⟨v, hC, h.same hb (fun k hk => hs k ((hC k).2 hk))⟩
  · rintro c xs C A B h
    exact h.elim
  · intro l pre x C W hl hl2 hI hCb hlen
    obtain ⟨i3, hi3, a30, a31, a32⟩ := info_parts infoInt
    gi_wp2
    refine ⟨Kept.refl _ _, hI, ?_⟩
    intro W2 hk2 hI2 hCb2 hz2
    obtain ⟨v, hC, hS⟩ := hI2
    have HS := Lib.hid hS
    have HC := Lib.hid hC
    obtain ⟨q0, q1, q2⟩ := hS.bx.one
    have hbs := hS.below.size
    clear hS hC hk2 hCb2 hI hz2
    gi_wp2_with (first
        | (gi_at_builtin; refine wpListIn_append_lies rfl (.tmp 8) (.tmp 10) 35 rfl w.heap.size 3 i3 _ 1 8 Try.underlying35 hi3 a30 a31 a32 rfl (by decide) v _ _ rfl (HS.out.alloc (.cells #[.int .i64 x] 3)).row ⟨W2.heap.size, 0, none⟩ 1 1 [.int .i64 x] rfl rfl (World.news_of_block (heap_alloc_new _ _)) (by simp [Value.oneCell']) (by decide) (by unfold maxLen; simp [intsV]; omega) (by simp [intsV]; omega) (by simp; omega) ?_; intro g8 cap8 W5 hr8 hg8 hat8 hlt8; obtain ⟨y0, y1, y2⟩ := ((HS.out.alloc (.cells #[.int .i64 x] 3)).bx.grown hg8 (fun e => own_blk_ne (HS.out.alloc (.cells #[.int .i64 x] 3)).row (HS.out.alloc (.cells #[.int .i64 x] 3)).bx (by decide) e.symm)).one; have HR8 := Lib.hid hr8; have HG8 := Lib.hid hg8; have HA8 := Lib.hid hat8; clear hr8 hg8 hat8))
    obtain ⟨s9, k9, n9⟩ := (HS.out.alloc (.cells #[.int .i64 x] 3)).app HG8.out HR8.out rfl HA8.out
    have K9 := ((Kept.refl (fun k => k = w.heap.size ∨ v.ownBlock = some k) W2).alloc (.cells #[.int .i64 x] 3)).trans k9
    have N9 := n9.of_alloc
    refine ⟨K9.mono (fun k hk => (HC.out k).2 hk), _, fun k hk => ?_, _, fun k => Iff.rfl, s9⟩
    rcases N9 k hk with h | h
    · exact .inl ((HC.out k).2 h)
    · exact .inr h
  · rintro D xs C W hD hCD hF ⟨v, hC, h⟩ hK
    obtain ⟨q0, q1, q2⟩ := h.bx.one
    have hz := h.below.size
    have hDw : D ≠ w.heap.size := fun e => hCD ((hC D).2 (.inl e))
    have hDv : v.ownBlock ≠ some D := fun e => hCD ((hC D).2 (.inr e))
    gi_wp2
    refine ⟨by simp, .inl ⟨_, _, rfl, run_takeDeferred hK, ?_⟩⟩
    have g1 := put_calm2 (W := W) (D := D) (.deferred none)
    refine ⟨_, ?_, v, xs, rfl, hF, by simpa [intsV] using h.row.kept g1 (.inr hDv), h.below.grown g1 h.below.size (fun k e => by cases e; simp at hD; omega)⟩
    simp [results, Try.results106, go_sem]
  · intro D c pre C W _ _ _ h _
    exact h.elim
set_option maxHeartbeats 1000000 in
theorem collectB {w : World} {gf N : Nat} {lb : Array Value} {Fin : List Int → Prop} {R : Nat → Prop} {Pre : World → Prop} (eg : ∀ args w, (callFunc gf args).run Try.prog w = .ok (.enter gf args) w) (hN : N ≤ 5000) (hseq : SeqSep Fence.wide 8 Try.prog gf lb (fun x : Int => #[.int .i64 x]) Fin (fun _ => True) N w R Pre) (hpre : ∀ W, Below w.heap.size w W → Pre W) (hR : ∀ k, R k → k < w.heap.size) :
    Calls Try.prog 82 #[.func (.func gf) #[] lb] w fun e w' => ∃ v xs, e = .returned v ∧ Fin xs ∧ w'.ownsRow w.heap.size 3 1 v xs.length (intsV xs) ∧ Below w.heap.size w w' := by
  have H := Lib.hid (appendSeqB eg hN hseq hpre hR)
  clear hseq hpre hR
  go_enter Try.func82, Try.ntmps82
  go_wp2_with fail
  refine H.out.mono ?_
  rintro e w1 ⟨v, xs, rfl, hF, hr, hb⟩
  go_wp2
  go_ret
  exact ⟨v, xs, rfl, hF, hr, hb⟩
end Go.Proofs.Ytpnkhgjjlionnaa
namespace Go.Proofs.Ytpnkhgjjlionnaa
open Go.RowKit Go.Maps Go.Shelf
attribute [local go_sem] Oper.semAt_some

theorem wpListIn_storeP {F : Fence} {n : Nat} {P : Program} {k : TypeId} {b : Nat} {w : World} {f : Value → Option Value} {ops : Array Oper} {rest : List Oper} {o : Oper} {a : Act} {Q : Exit → Act → World → Prop} (h : MapP P k w b f)
    (hg : o.guard = none) (m x v : Operand) (t E : TypeId) (hop : o.op = Op.mapUpdate t m x v) (K : Keyed P k) (ht : P.underlying t = some (.map k E))
    (hm : a.eval m = .map (some b)) (key vv : Value) (hx : a.eval x = key) (hv : a.eval v = vv) {kl : Lit} (hkey : keyOf P k key = some kl)
    (hK : ∀ w', MapP P k w' b (updP f key vv) → w.grownBy w' (some b) → w'.heap.size = w.heap.size → wpListIn F n P ops Q rest (a.put o.dst undef) w') : wpListIn F n P ops Q (o :: rest) a w := by
  refine wpListIn_plain hg fun K' hK' => ?_
  obtain ⟨w', hrun, r1, r2, r3⟩ := h.store K ht hkey vv
  unfold Oper.wpIn
  refine ⟨?_, ?_⟩
  · simp [Oper.about, hop]
  · rw [Oper.semAt_plain F _ _ (by rw [hop]; intro c hc'; cases hc')]
    simp [execOp, hop, hm, hx, hv, hrun, Result.andThen]
    exact hK' _ _ (hK w' r1 r2 r3)
/-- What border.Loops holds between two rounds. -/
structure LoI (q : Prop) (w : World) (n : Nat) (T : List Tr) (k : Nat) (vO : Value) (L : List (List Int)) (us : List Value) (f : Value → Option Value) (W : World) : Prop where
  bx : Blk W (w.heap.size + 1) 109 #[.map (some w.heap.size)]
  map : MapP Try.prog 3 W w.heap.size f
  row : W.ownsRow w.heap.size 35 1 vO us.length us
  len : us.length = L.length
  lk : L.length ≤ k
  els : ∀ (i : Nat) (u : Value) (r : List Int), us[i]? = some u → L[i]? = some r → W.ownsRow w.heap.size 3 1 u r.length (intsV r) ∧ ∃ a r', r = a :: r' ∧ 0 ≤ a ∧ a < n
  tru : ∀ y v, f y = some v → v = .bool true
  emp : q → L = [] → (∀ y, f y = none) ∧ ∀ j : Nat, j < k → ∀ u, ¬ Nxt T j u
  ne : L ≠ [] → ¬ ClosedT T
  below : Below w.heap.size w W
section
variable {w W W' : World} {n k : Nat} {T : List Tr} {vO : Value} {L : List (List Int)} {us : List Value} {f : Value → Option Value}
theorem LoI.same (h : LoI True w n T k vO L us f W) (hb : Below w.heap.size W W') (hs : ∀ j, j < W.heap.size → j ≠ w.heap.size → W'.heap[j]? = W.heap[j]?) {f' : Value → Option Value} (hm : MapP Try.prog 3 W' w.heap.size f') (ht : ∀ y v, f' y = some v → v = .bool true) {q : Prop} (he : q → L = [] → ∀ y, f' y = none) : LoI q w n T k vO L us f' W' := by
  have go : ∀ {e : TypeId} {s m : Nat} {v : Value} {xs : List Value}, W.ownsRow w.heap.size e s v m xs → W'.ownsRow w.heap.size e s v m xs := fun hr => own_same hr (fun j e => hs j (hr.lt j e).2 (fun e2 => by
    subst e2
    rcases own_blk_none_map hr h.map with h1 | h1
    · rw [e] at h1; cases h1
    · exact h1 e))
  exact ⟨blk_same h.bx (hs _ h.bx.lt (by omega)), hm, go h.row, h.len, h.lk, fun i u r h1 h2 => ⟨go (h.els i u r h1 h2).1, (h.els i u r h1 h2).2⟩, ht, fun hq e => ⟨he hq e, (h.emp trivial e).2⟩, h.ne, h.below.trans hb⟩
theorem LoI.below' (h : LoI True w n T k vO L us f W) (hb : Below W.heap.size W W') : LoI True w n T k vO L us f W' :=
  h.same (hb.mono h.below.size) (fun j hj _ => hb.block j hj) (h.map.below hb h.map.lt) h.tru (fun _ e => (h.emp trivial e).1)
theorem LoI.alloc {q : Prop} (h : LoI q w n T k vO L us f W) (o : Obj) : LoI q w n T k vO L us f (W.alloc o) := by
  have go : ∀ {e : TypeId} {s m : Nat} {v : Value} {xs : List Value}, W.ownsRow w.heap.size e s v m xs → (W.alloc o).ownsRow w.heap.size e s v m xs := fun hr => hr.alloc o
  exact ⟨h.bx.alloc o, h.map.alloc o, go h.row, h.len, h.lk, fun i u r h1 h2 => ⟨go (h.els i u r h1 h2).1, (h.els i u r h1 h2).2⟩, h.tru, h.emp, h.ne, h.below.alloc h.below.size o⟩
theorem LoI.next (h : LoI True w n T k vO L us f W) (hk : L = [] → ∀ u, ¬ Nxt T k u) : LoI True w n T (k + 1) vO L us f W :=
  ⟨h.bx, h.map, h.row, h.len, by have := h.lk; omega, h.els, h.tru, fun _ e => ⟨(h.emp trivial e).1, fun j hj u hu => by
    rcases Nat.lt_or_ge j k with h1 | h1
    · exact (h.emp trivial e).2 j h1 u hu
    · obtain rfl : j = k := by omega
      exact hk e u hu⟩, h.ne, h.below⟩
end
theorem own_no_mark {W : World} {base m s j : Nat} {e : TypeId} {v : Value} {xs : List Value} (h : W.ownsRow base e s v m xs) (hj : v.ownBlock = some j) {r : Option (List Deferred)} (hm : W.heap[j]? = some (.deferred r)) : False := by
  rcases h.2 with ⟨rfl, _⟩ | ⟨g', cap, cur, rfl, _, hh, _⟩
  · cases hj
  · have e1 : g' = j := by simpa [Value.ownBlock] using hj
    subst e1
    rw [hm] at hh
    cases hh
theorem LoI.marks {w W W' : World} {n k : Nat} {T : List Tr} {vO : Value} {L : List (List Int)} {us : List Value} {f : Value → Option Value} {S : Nat → Prop} (h : LoI True w n T k vO L us f W) (hk : Kept S W W') (hs : ∀ j, S j → w.heap.size ≤ j ∧ ∃ r, W.heap[j]? = some (.deferred r)) : LoI True w n T k vO L us f W' := by
  have go : ∀ {e : TypeId} {s m : Nat} {v : Value} {xs : List Value}, W.ownsRow w.heap.size e s v m xs → W'.ownsRow w.heap.size e s v m xs := fun hr => own_same hr (fun j e => hk.block j (hr.lt j e).2 (fun hS => by
    obtain ⟨-, r, h2⟩ := hs j hS
    exact own_no_mark hr e h2))
  refine ⟨blk_same h.bx (hk.block _ h.bx.lt (fun hS => ?_)), h.map.same9 (hk.block _ h.map.lt (fun hS => ?_)), go h.row, h.len, h.lk, fun i u r h1 h2 => ⟨go (h.els i u r h1 h2).1, (h.els i u r h1 h2).2⟩, h.tru, h.emp, h.ne, h.below.trans (hk.below (fun j hj => (hs j hj).1) h.below.size)⟩
  · obtain ⟨-, r, h2⟩ := hs _ hS
    have := h.bx.symm.trans h2
    exact absurd this (by simp)
  · obtain ⟨-, r, h2⟩ := hs _ hS
    obtain ⟨es, clock, hm⟩ := h.map.obj
    rw [hm] at h2
    exact absurd h2 (by simp)
theorem Mks.alloc9 {base : Nat} {W : World} {ds : List Deferred} (h : Mks base W ds) (o : Obj) : Mks base (W.alloc o) ds := h.below ((Below.refl _ _).alloc (Nat.le_refl _) _)
theorem Mks.grown9 {base base' m s : Nat} {e : TypeId} {v : Value} {xs : List Value} {W W' : World} {ds : List Deferred} (h : Mks base W ds) (hg : W.grownBy W' v.ownBlock) (hr : W.ownsRow base' e s v m xs) : Mks base W' ds :=
  ⟨fun d hd => by
    obtain ⟨r, h1, h2, h3⟩ := h.1 d hd
    exact ⟨r, h1, h2, (hg.block r (Array.getElem?_eq_some_iff.1 h3).1 (fun e => own_no_mark hr e.symm h3)).trans h3⟩, h.2⟩
theorem nxt_open {T : List Tr} {v u : Int} (h : Nxt T v u) : ¬ ClosedT T := fun hc => by
  obtain ⟨c, h1, -⟩ := h
  have := hc _ (Jor.nx_lt h1.1)
  rw [h1.2] at this
  omega
theorem open_nxt {n : Nat} {T : List Tr} (hS : Surf n T) (h : ¬ ClosedT T) : ∃ j : Nat, j < n ∧ ∃ u, Nxt T j u := by
  refine Classical.byContradiction fun hno => h fun c hc => ?_
  rcases opp_cases T (c : Int) with ho | ⟨o, ho, -⟩
  · exfalso
    have he : EndC T (Jor.pv c) := ⟨Jor.pv_lt hc, by rw [Jor.nx_pv]; exact ho⟩
    have hr := vert_rng hS he.1
    exact hno ⟨(vertN T (Jor.pv c)).toNat, by omega, _, _, he, by omega, rfl⟩
  · omega
theorem LoI.post {w W : World} {n : Nat} {T : List Tr} {vO : Value} {L : List (List Int)} {us : List Value} {f : Value → Option Value} (hS : Surf n T) (h : LoI True w n T n vO L us f W) : LoopsPost n T w (.returned vO) W :=
  ⟨vO, us, L, rfl, by rw [← h.len]; exact h.row, h.lk, h.els, ⟨fun e => Classical.byContradiction fun hc => by
    obtain ⟨j, h1, u, h2⟩ := open_nxt hS hc
    exact (h.emp trivial e).2 j h1 u h2, fun hc => Classical.byContradiction fun hne => h.ne hne hc⟩, h.below⟩
theorem LoI.app {w W W' : World} {n k : Nat} {T : List Tr} {vO v : Value} {L : List (List Int)} {us : List Value} {f : Value → Option Value} {xs : List Int} {g' cap m : Nat} (h : LoI False w n T k vO L us f W) (hr : W.ownsRow w.heap.size 3 1 v xs.length (intsV xs)) (hx : ∃ a r', xs = a :: r' ∧ 0 ≤ a ∧ a < n) (hc : ¬ ClosedT T)
    (hg : W.grownBy W' vO.ownBlock) (hn : W'.ownsRow w.heap.size 35 1 (.slice (some ⟨g', 0, none⟩) m cap) m (us ++ [v])) (hm : m = us.length + 1) : LoI True w n T (k + 1) (.slice (some ⟨g', 0, none⟩) m cap) (L ++ [xs]) (us ++ [v]) f W' := by
  subst hm
  have kp : ∀ {v' : Value} {m : Nat} {xs : List Value}, W.ownsRow w.heap.size 3 1 v' m xs → W'.ownsRow w.heap.size 3 1 v' m xs := fun hr => hr.kept hg (own_own_ne hr h.row (by decide))
  refine ⟨h.bx.grown hg (fun e => own_blk_ne h.row h.bx (by decide) e.symm), h.map.kept hg (fun e => ?_), by rw [List.length_append]; exact hn, by simp [h.len], by have := h.lk; simp; omega, ?_, h.tru, fun _ e => by simp at e, fun _ => hc, h.below.grown hg h.below.size (fun j e => by have := h.row.lt j e; omega)⟩
  · rcases own_blk_none_map h.row h.map with h1 | h1
    · rw [← e] at h1; cases h1
    · exact h1 e.symm
  · intro i u r h1 h2
    rcases Nat.lt_or_ge i us.length with hi | hi
    · rw [List.getElem?_append_left hi] at h1
      rw [List.getElem?_append_left (by rw [← h.len]; exact hi)] at h2
      have := h.els i u r h1 h2
      exact ⟨kp this.1, this.2⟩
    · rw [List.getElem?_append_right hi] at h1
      rw [List.getElem?_append_right (by rw [← h.len]; exact hi)] at h2
      rw [h.len] at h1
      cases hj : i - L.length with
      | zero =>
        rw [hj] at h1 h2
        simp at h1 h2
        subst h1; subst h2
        exact ⟨kp hr, hx⟩
      | succ j => rw [hj] at h1; simp at h1
theorem Mks.same {base : Nat} {W W' : World} {ds : List Deferred} (h : Mks base W ds) {q : Nat} (hq : ∃ es clock, W.heap[q]? = some (.map es clock)) (hs : ∀ j, j < W.heap.size → j ≠ q → W'.heap[j]? = W.heap[j]?) : Mks base W' ds :=
  ⟨fun d hd => by
    obtain ⟨r, h1, h2, h3⟩ := h.1 d hd
    refine ⟨r, h1, h2, (hs r (Array.getElem?_eq_some_iff.1 h3).1 (fun e => ?_)).trans h3⟩
    obtain ⟨es, clock, hm⟩ := hq
    rw [e, hm] at h3
    exact absurd h3 (by simp), h.2⟩
/-- While the vertices are marked. -/
def MkI (w W4 : World) (Bv : Nat) (f : Value → Option Value) (pre : List Int) (C : Nat → Prop) (W : World) : Prop :=
  (∀ k, C k ↔ w.heap.size ≤ k ∧ k < W4.heap.size ∧ k ≠ Bv) ∧ (∀ k, C k → k ≠ w.heap.size → W.heap[k]? = W4.heap[k]?) ∧ Below w.heap.size W4 W ∧ ∃ f', MapP Try.prog 3 W w.heap.size f' ∧ (∀ y v, f' y = some v → v = .bool true) ∧ (pre = [] → f' = f)

set_option maxRecDepth 100000 in
set_option maxHeartbeats 4000000 in
theorem loopsB_any (g n : Nat) (T : List Tr) (w : World) (h : Tab w g n T) (hS : Surf n T) (hn : n ≤ 4096) :
    Calls Try.prog 51 #[.pointer (some ⟨g, 0, none⟩)] w (LoopsPost n T w) := by
  have H0 := Lib.hid (fun (W : World) (hW : Below w.heap.size w W) => vertices_any g n T W (h.below hW).toTabS)
  have HT := Lib.hid (fun (W : World) (hW : Below w.heap.size w W) => h.below hW)
  have HT0 := Lib.hid h
  have HS := Lib.hid hS
  clear h hS
  have hmm := @run_makeMap Try.prog
  refine (callsIn_wide (n := 9)).1 ?_
  refine callsIn_of_wp_marks Try.func51 rfl trivial ?_ rfl
  simp only [Try.ntmps51, List.size_toArray, List.length_cons, List.length_nil, Nat.reduceAdd, Nat.reduceSub, Array.replicate_succ, Array.replicate_zero, List.push_toArray, List.append_toArray, List.nil_append, List.cons_append]
  have hB0 : Below w.heap.size w ((w.alloc (.map #[] 0)).alloc (.cells #[.map (some w.heap.size)] 109)) := ((Below.refl _ _).alloc (Nat.le_refl _) _).alloc (by simp) _
  have hm0 : MapP Try.prog 3 ((w.alloc (.map #[] 0)).alloc (.cells #[.map (some w.heap.size)] 109)) w.heap.size (fun _ => none) := (MapP.made w Try.prog 3).alloc _
  have b0 : Blk ((w.alloc (.map #[] 0)).alloc (.cells #[.map (some w.heap.size)] 109)) (w.heap.size + 1) 109 #[.map (some w.heap.size)] := by
    have := Blk.new (w.alloc (.map #[] 0)) 109 #[.map (some w.heap.size)]
    rwa [World.size_alloc] at this
  have HI0 := Lib.hid (show LoI True w n T 0 (.slice none 0 0) [] [] (fun _ => none) _ from ⟨b0, hm0, World.ownsRow_nil _ _ _ _, rfl, Nat.le_refl _, fun i u r h1 => by simp at h1, fun y v h => by simp at h, fun _ _ => ⟨fun _ => rfl, fun j hj => absurd hj (by omega)⟩, fun h => absurd rfl h, hB0⟩)
  have HB0 := Lib.hid hB0
  clear hB0 hm0 b0
  gi_wp2_with fail
  refine ⟨trivial, (callsIn_wide.2 (H0.out _ HB0.out)).mono ?_⟩
  rintro e w1 ⟨rfl, rfl⟩
  gi_wp2
  refine wpIn_loop (fun a' W => ∃ (k : Nat) (vO u5 u6 u7 u14 u15 u16 u17 u18 u19 u20 u21 u22 u23 u24 u25 u29 u30 u31 u32 u33 u34 u35 u36 : Value) (ds : List Deferred) (L : List (List Int)) (us : List Value) (f : Value → Option Value), a' = { tmps := List.toArray (.pointer (some ⟨g, 0, none⟩) :: undef :: .slice none 0 0 :: vO :: .pointer (some ⟨w.heap.size + 1, 0, none⟩) :: u5 :: u6 :: u7 :: .pointer (some ⟨g, 0, none⟩) :: .bool false :: .map (some w.heap.size) :: .pointer (some ⟨g, 0, none⟩) :: .int .i64 (n : Int) :: .int .i64 (k : Int) :: u14 :: u15 :: u16 :: u17 :: u18 :: u19 :: u20 :: u21 :: u22 :: u23 :: u24 :: u25 :: undef :: undef :: undef :: u29 :: u30 :: u31 :: u32 :: u33 :: u34 :: u35 :: u36 :: undef :: []), defers := ds } ∧
    k ≤ n ∧ Mks w.heap.size W ds ∧ LoI True w n T k vO L us f W)
    (fun a' _ => n - (intOf (a'.tmps.getD 13 undef)).toNat) ?_ ?_
  · exact ⟨0, _, _, _, _, _, _, _, _, _, _, _, _, _, _, _, _, _, _, _, _, _, _, _, _, _, _, _, _, rfl, Nat.zero_le _, Mks.nil _ _, HI0.out⟩
  · rintro a' W ⟨k, vO, u5, u6, u7, u14, u15, u16, u17, u18, u19, u20, u21, u22, u23, u24, u25, u29, u30, u31, u32, u33, u34, u35, u36, ds, L, us, f, rfl, hk, hM, hI⟩
    clear HI0 HB0
    obtain ⟨q0, q1, q2⟩ := hI.bx.one
    have hsz := hI.below.size
    have hlk := hI.lk
    have hul := hI.len
    by_cases hlt : k < n
    · have k3 : (k : Int) < (n : Int) := by omega
      have hkeyv := keyOf_int_mk (P := Try.prog) (k := 3) (q := .i64) Try.underlying3 (wfV (x := (k : Int)) ⟨by omega, by omega⟩)
      have hlook := hI.map.look (t := 109) (int_keyed Try.underlying3) Try.underlying109 (zero_bool _) hkeyv
      have HM := Lib.hid hM
      have HI := Lib.hid hI
      cases hfk : f (.int .i64 (k : Int)) with
      | some y =>
        have hy := hI.tru _ _ hfk
        subst hy
        rw [hfk, Option.getD_some] at hlook
        have HN := Lib.hid (hI.next (fun e => by rw [(hI.emp trivial e).1] at hfk; cases hfk))
        clear hM hI HI hfk
        gi_wp2
        refine ⟨⟨k + 1, _, _, _, _, _, _, _, _, _, _, _, _, _, _, _, _, _, _, _, _, _, _, _, _, _, _, _, _, by go_num, by omega, HM.out, HN.out⟩, ?_⟩
        simp [intOf]
        omega
      | none =>
      rw [hfk, Option.getD_none] at hlook
      clear hM hI hfk
      gi_wp2_with fail
      refine ⟨trivial, (callsIn_wide.2 (callsIn_wide.1 (bwalk_any Fence.wide 8 trivial rfl g (k : Int) W))).mono ?_⟩
      rintro e w2 ⟨rfl, rfl⟩
      have hB2 : Below W.heap.size W ((W.alloc (.cells #[.pointer (some ⟨g, 0, none⟩)] 26)).alloc (.cells #[.int .i64 (k : Int)] 3)) := ((Below.refl _ _).alloc (Nat.le_refl _) _).alloc (by simp) _
      have bt : Blk ((W.alloc (.cells #[.pointer (some ⟨g, 0, none⟩)] 26)).alloc (.cells #[.int .i64 (k : Int)] 3)) W.heap.size 26 #[.pointer (some ⟨g, 0, none⟩)] := (Blk.new _ _ _).alloc _
      have bv : Blk ((W.alloc (.cells #[.pointer (some ⟨g, 0, none⟩)] 26)).alloc (.cells #[.int .i64 (k : Int)] 3)) (W.heap.size + 1) 3 #[.int .i64 (k : Int)] := by
        have := Blk.new (W.alloc (.cells #[.pointer (some ⟨g, 0, none⟩)] 26)) 3 #[.int .i64 (k : Int)]
        rwa [World.size_alloc] at this
      generalize (W.alloc (.cells #[.pointer (some ⟨g, 0, none⟩)] 26)).alloc (.cells #[.int .i64 (k : Int)] 3) = W2 at *
      have hBw2 := HI.out.below.trans (hB2.mono hsz)
      have Hbt := Lib.hid bt
      have Hbv := Lib.hid bv
      have hz2 := hB2.size
      gi_wp2_with fail
      refine ⟨trivial, (callsIn_wide.2 (collectB (N := n) (enters_of Try.func107 (by kernel_rfl) rfl) (by omega) (bwalkB_sep (v := k) HS.out (HT.out W2 hBw2) hlt) (fun X hX => ⟨(hX.cell (p := ⟨W.heap.size, 0, none⟩) bt.lt).trans (bt.cell 0), (hX.cell (p := ⟨W.heap.size + 1, 0, none⟩) bv.lt).trans (bv.cell 0), Nat.lt_of_lt_of_le bt.lt hX.size, Nat.lt_of_lt_of_le bv.lt hX.size⟩) (fun j e => by rw [e]; exact bv.lt))).mono ?_⟩
      rintro e w3 ⟨v, xs, rfl, hF, hvr, hb3⟩
      have hB3 := hB2.trans (hb3.mono hz2)
      have HI3 := Lib.hid (HI.out.below' hB3)
      have HM3 := Lib.hid (HM.out.below hB3)
      have HV3 := Lib.hid (own_base hvr (Nat.le_trans hsz hz2))
      have HF := Lib.hid hF
      have h3s : W.heap.size ≤ w3.heap.size := hB3.size
      clear bt bv hb3 hB2 hBw2 Hbt Hbv hz2 hB3 hvr hF HI HM
      gi_wp2_with fail
      refine ⟨trivial, (callsIn_wide.2 (callsIn_wide.1 (bwalk_any Fence.wide 8 trivial rfl g (k : Int) w3))).mono ?_⟩
      rintro e w4 ⟨rfl, rfl⟩
      have hB4 : Below w3.heap.size w3 ((w3.alloc (.cells #[.pointer (some ⟨g, 0, none⟩)] 26)).alloc (.cells #[.int .i64 (k : Int)] 3)) := ((Below.refl _ _).alloc (Nat.le_refl _) _).alloc (by simp) _
      have bt : Blk ((w3.alloc (.cells #[.pointer (some ⟨g, 0, none⟩)] 26)).alloc (.cells #[.int .i64 (k : Int)] 3)) w3.heap.size 26 #[.pointer (some ⟨g, 0, none⟩)] := (Blk.new _ _ _).alloc _
      have bv : Blk ((w3.alloc (.cells #[.pointer (some ⟨g, 0, none⟩)] 26)).alloc (.cells #[.int .i64 (k : Int)] 3)) (w3.heap.size + 1) 3 #[.int .i64 (k : Int)] := by
        have := Blk.new (w3.alloc (.cells #[.pointer (some ⟨g, 0, none⟩)] 26)) 3 #[.int .i64 (k : Int)]
        rwa [World.size_alloc] at this
      generalize (w3.alloc (.cells #[.pointer (some ⟨g, 0, none⟩)] 26)).alloc (.cells #[.int .i64 (k : Int)] 3) = W4 at *
      have HI4 := Lib.hid (HI3.out.below' hB4)
      have Hbt := Lib.hid bt
      have Hbv := Lib.hid bv
      have HB4 := Lib.hid hB4
      have h4s : w3.heap.size ≤ W4.heap.size := hB4.size
      have h4t := bt.lt
      have h4v := bv.lt
      clear bt bv hB4
      gi_wp2
      refine wpIn_rangeFunc_sepO rfl (by omega) (gf := 107) (lb := #[.pointer (some ⟨w3.heap.size, 0, none⟩), .pointer (some ⟨w3.heap.size + 1, 0, none⟩)]) rfl trivial (enters_of Try.func107 (by kernel_rfl) rfl)
        (bwalkB_sepO (m := 8) (Bt := w3.heap.size) (Bv := w3.heap.size + 1) (v := k) HS.out HT0.out hlt) (fun X hX => ⟨(hX.cell (p := ⟨w3.heap.size, 0, none⟩) Hbt.out.lt).trans (Hbt.out.cell 0), (hX.cell (p := ⟨w3.heap.size + 1, 0, none⟩) Hbv.out.lt).trans (Hbv.out.cell 0), Nat.lt_of_lt_of_le Hbt.out.lt hX.size, Nat.lt_of_lt_of_le Hbv.out.lt hX.size⟩) (fun j e => by rw [e]; exact Hbv.out.lt) HI4.out.below (fun _ => rfl)
        (MkI w W4 (w3.heap.size + 1) f) (fun _ _ _ _ => False) ?_ (fun _ _ _ _ _ h => h.elim) (fun j => w.heap.size ≤ j ∧ j < W4.heap.size ∧ j ≠ w3.heap.size + 1) (fun j hj => hj) ⟨fun _ => Iff.rfl, fun _ _ _ => rfl, Below.refl _ _, f, HI4.out.map, HI4.out.tru, fun _ => rfl⟩ ?_ ?_ ?_
      · rintro xs C A B ⟨h1, h2, h3, f', h4, h5, h6⟩ hb hs
        exact ⟨h1, fun j hj hne => (hs j hj).trans (h2 j hj hne), h3.trans hb, f', h4.same9 (hs _ ((h1 _).2 ⟨Nat.le_refl _, by omega, by omega⟩)), h5, h6⟩
      · intro l pre x C X hl hl2 hX hCb hlen hxb
        gi_wp2
        refine ⟨Kept.refl _ _, hX, ?_⟩
        intro W2 hk2 hX2 hCb2 hz2
        obtain ⟨h1, h2, h3, f', h4, h5, h6⟩ := hX2
        have bx2 : Blk W2 (w.heap.size + 1) 109 #[.map (some w.heap.size)] := blk_same HI4.out.bx (h2 _ ((h1 _).2 ⟨by omega, HI4.out.bx.lt, by omega⟩) (by omega))
        obtain ⟨r0, r1, r2⟩ := bx2.one
        have hkeyx := keyOf_int_mk (P := Try.prog) (k := 3) (q := .i64) Try.underlying3 (wfV (x := x) ⟨by omega, by omega⟩)
        have H1 := Lib.hid h1
        have H2 := Lib.hid h2
        have H3 := Lib.hid h3
        have H4 := Lib.hid h4
        have H5 := Lib.hid h5
        clear h1 h2 h3 h4 h5 h6 hX hCb hCb2 hk2 bx2
        gi_wp2_with (first
          | (gi_at_mapUpdate; go_loud (refine wpListIn_storeP H4.out rfl _ _ _ 109 4 rfl (int_keyed Try.underlying3) Try.underlying109 rfl (.int .i64 x) (.bool true) rfl rfl hkeyx ?_); intro W5 hm5 hg5 hz5))
        have hcm : C w.heap.size := (H1.out _).2 ⟨Nat.le_refl _, by omega, by omega⟩
        refine ⟨(Kept.refl _ _).grown hg5 (fun j e => by cases e; exact .inl hcm), C, fun j hj => .inl hj, H1.out, fun j hj hne => (hg5.block j ?_ (fun e => hne (by cases e; rfl))).trans (H2.out j hj hne), H3.out.grown hg5 (Nat.le_trans HI4.out.below.size H3.out.size) (fun j e => by cases e; omega), _, hm5, fun y u hu => ?_, fun e => by simp at e⟩
        · have := ((H1.out j).1 hj).2.1
          have := H3.out.size
          omega
        · by_cases e : y = .int .i64 x
          · subst e
            rw [updP_same] at hu
            cases hu; rfl
          · rw [updP_other e] at hu
            exact H5.out y u hu
      · rintro D xs' C W5 hD hCD hF' ⟨h1, h2, h3, f', h4, h5, h6⟩ hK
        have hz5 := h3.size
        have hsm : ∀ j, j < w3.heap.size → j ≠ w.heap.size → W5.heap[j]? = w3.heap[j]? := fun j hj hne => by
          rcases Nat.lt_or_ge j w.heap.size with hj2 | hj2
          · exact (h3.block j hj2).trans (HB4.out.block j hj)
          · exact (h2 j ((h1 j).2 ⟨hj2, by omega, by omega⟩) hne).trans (HB4.out.block j hj)
        have hb35 : Below w.heap.size w3 W5 := (HB4.out.mono HI3.out.below.size).trans h3
        have hxx : xs = [] → xs' = [] := fun e => Classical.byContradiction fun hne => by
          obtain ⟨-, u, hu⟩ := hF'.2.1 hne
          exact HF.out.1 e u hu
        have hMd : Mks w.heap.size W5 ({ target := .collected D, args := #[] } :: ds) := (HM3.out.same HI3.out.map.obj hsm).cons hK (by omega) (fun d hd e => by
          obtain ⟨r, e1, e2, e3⟩ := HM3.out.1 d hd
          rw [e] at e1
          have := (Array.getElem?_eq_some_iff.1 e3).1
          injection e1 with e1
          omega)
        have HMd := Lib.hid hMd
        have HV5 := Lib.hid (own_same HV3.out (fun j e => hsm j (HV3.out.lt j e).2 (fun e2 => by
          subst e2
          rcases own_blk_none_map HV3.out HI3.out.map with h1 | h1
          · rw [e] at h1; cases h1
          · exact h1 e)))
        by_cases hxe : xs = []
        · have hf : f' = f := h6 (hxx hxe)
          subst hf
          have HI5 := Lib.hid ((HI3.out.same hb35 hsm h4 h5 (q := True) (fun _ e => (HI3.out.emp trivial e).1)).next (fun _ => HF.out.1 hxe))
          subst hxe
          obtain ⟨av, cv, rfl⟩ := ownsRow_slice HV3.out
          clear h1 h2 h3 h4 h5 h6 hsm hb35 hxx hMd hF' hCD
          gi_wp2
          refine ⟨⟨k + 1, _, _, _, _, _, _, _, _, _, _, _, _, _, _, _, _, _, _, _, _, _, _, _, _, _, _, _, _, by go_num, by omega, HMd.out, HI5.out⟩, ?_⟩
          simp [intOf]
          omega
        · have hxp : (0 : Int) < (xs.length : Int) := by have := List.length_pos_iff.2 hxe; omega
          obtain ⟨⟨r, hr⟩, u, hu⟩ := HF.out.2.1 hxe
          have hcl := nxt_open hu
          have hfst : ∃ a r', xs = a :: r' ∧ 0 ≤ a ∧ a < (n : Int) := ⟨_, r, hr, by omega, by omega⟩
          have HI5 := Lib.hid (HI3.out.same hb35 hsm h4 h5 (q := False) (fun e => e.elim))
          obtain ⟨i1, hi', hy0, hy1, hy2⟩ := info_parts infoInts
          obtain ⟨av, cv, rfl⟩ := ownsRow_slice HV3.out
          have hz3 := HI5.out.below.size
          have HFst := Lib.hid hfst
          have HU := Lib.hid hul
          have hul2 : us.length ≤ k := by omega
          clear h1 h2 h3 h4 h5 h6 hsm hb35 hxx hMd hF' hCD hr hu hfst hxe hul
          gi_wp2_with (first
            | (gi_at_builtin; go_loud (refine wpListIn_append_lies rfl (.tmp 32) (.tmp 34) 78 rfl w.heap.size 35 i1 _ 1 24 Try.underlying78 hi' hy0 hy1 hy2 rfl (by decide) vO _ _ rfl (HI5.out.alloc (.cells #[.slice av xs.length cv] 35)).row ⟨W5.heap.size, 0, none⟩ 1 1 [.slice av xs.length cv] rfl rfl (World.news_of_block (heap_alloc_new _ _)) (by simp [Value.oneCell']) (by decide) (by unfold maxLen; omega) (by omega) (by simp; omega) ?_); intro g8 cap8 W8 hr8 hg8 hat8 hlt8; have HR8 := Lib.hid hr8; have HG8 := Lib.hid hg8; clear hr8 hg8 hat8))
          have HI8 := Lib.hid ((HI5.out.alloc (.cells #[.slice av xs.length cv] 35)).app (HV5.out.alloc _) HFst.out hcl HG8.out HR8.out rfl)
          refine ⟨⟨k + 1, _, _, _, _, _, _, _, _, _, _, _, _, _, _, _, _, _, _, _, _, _, _, _, _, _, _, _, _, by go_num, by omega, (HMd.out.alloc9 (.cells #[.slice av xs.length cv] 35)).grown9 HG8.out (HI5.out.alloc (.cells #[.slice av xs.length cv] 35)).row, HI8.out⟩, ?_⟩
          simp [intOf]
          omega
      · intro D c pre C W' _ _ _ h _
        exact h.elim
    · obtain rfl : k = n := by omega
      have HI := Lib.hid hI
      clear hI
      gi_wp2
      refine leaves_marks (base := w.heap.size) ds _ hM fun W' hk => ?_
      refine ⟨vO, ?_, LoI.post HS.out (HI.out.marks hk (fun j hj => by
          obtain ⟨h1, d, h2, h3⟩ := hj
          obtain ⟨r, k1, k2, k3⟩ := hM.1 d h2
          rw [h3] at k1
          injection k1 with k1
          exact ⟨h1, _, by rw [k1]; exact k3⟩))⟩
      simp [results, Try.results51, go_sem]
end Go.Proofs.Ytpnkhgjjlionnaa
namespace Go.Proofs.Ytpnkhgjjlionnaa
open Go.RowKit Go.Maps Go.Shelf

/-- What genus.Of tells of a surface is enough. -/
theorem genus_simp {n m : Nat} {T : List Tr} {out cs : List Int} (hS : Surf n T) (hSh : Shl T out) (hm : cntL out = m) (h6 : m = 1 → ∃ E b : Int, cs = [(n : Int), E, T.length, b, n - E + T.length, (2 - b - (n - E + T.length)).tdiv 2] ∧ 0 ≤ b ∧ (b = 0 ↔ ClosedT T) ∧ (ClosedT T → E = 3 * (T.length : Int) / 2)) :
    Simp n T ↔ m = 1 ∧ at_ cs 3 = 0 ∧ at_ cs 5 = 0 := by
  rw [← chk_simp hS]
  constructor
  · rintro ⟨out', h1, h2, h3, h4⟩
    have := hSh.one h1
    subst this
    have hm1 : m = 1 := by omega
    obtain ⟨E, b, rfl, hb0, hb1, hE⟩ := h6 hm1
    have hb := hb1.2 h3
    refine ⟨hm1, hb, ?_⟩
    show (2 - b - ((n : Int) - E + T.length)).tdiv 2 = 0
    rw [hb, hE h3]
    exact h4
  · rintro ⟨hm1, h3, h5⟩
    obtain ⟨E, b, rfl, hb0, hb1, hE⟩ := h6 hm1
    have hb : b = 0 := h3
    have hc := hb1.1 hb
    refine ⟨out, hSh, by rw [hm, hm1]; rfl, hc, ?_⟩
    have h5' : (2 - b - ((n : Int) - E + T.length)).tdiv 2 = 0 := h5
    rw [hb, hE hc] at h5'
    exact h5'
end Go.Proofs.Ytpnkhgjjlionnaa
namespace Go.Proofs.Ytpnkhgjjlionnaa
open Go.RowKit Go.Maps Go.Shelf

/-- What corner.New tells, as a pointer: a surface's table, or nothing. -/
def TabOr (w : World) (a : Option Addr) (N : Int) (T : List Tr) : Prop := (∃ g n : Nat, N = n ∧ a = some ⟨g, 0, none⟩ ∧ Tab w g n T ∧ Surf n T) ∨ (a = none ∧ ¬ Surf N T)
/-- corner.New, in one form. -/
theorem new_or (N : Int) (v : Value) (T : List Tr) (w : World) (h : TrisRd w v T) (hl : T.length ≤ 8192) : Calls Try.prog 22 #[.agg #[.int .i64 N, v]] w fun e w' =>
    ∃ a x y z, e = .returned (.tuple #[.pointer a, .agg #[.int .i64 x, .int .i64 y, .int .i64 z]]) ∧ TabOr w' a N T ∧ Below w.heap.size w w' := by
  refine (new_any N v T w h hl).mono ?_
  rintro e w' ⟨⟨hS, g, rfl, hT, -⟩ | ⟨hS, x, y, z, -, rfl⟩, hb⟩
  · obtain ⟨n, rfl⟩ : ∃ n : Nat, N = n := ⟨N.toNat, by have := hS.n0; omega⟩
    exact ⟨_, 0, 0, 0, rfl, .inl ⟨g, n, rfl, rfl, hT, hS⟩, hb⟩
  · exact ⟨_, x, y, z, rfl, .inr ⟨rfl, hS⟩, hb⟩
end Go.Proofs.Ytpnkhgjjlionnaa
namespace Go.Proofs.Ytpnkhgjjlionnaa.Zp
open Go.RowKit Go.Maps

theorem triCells_ws3 (T : List Tr) : triCells T = ws3 T := by
  induction T with
  | nil => rfl
  | cons t r ih => simp only [triCells, ws3, flatT, List.flatMap_cons, List.map_append, List.map_cons, List.map_nil] at ih ⊢; rw [ih]
/-- What zip answers: nothing, or a simple surface. -/
theorem zip_two (s : ByteArray) (hs : s.size ≤ 1000) (w : World) : Calls Try.prog 20 #[.string s] w fun e w' => Below w.heap.size w w' ∧
    ((zipsM (lettersOf s) = false ∧ ∃ k er : Int, er ≠ 0 ∧ (er == 0) = false ∧ e = .returned (.tuple #[.agg #[.int .i64 0, .slice none 0 0], .int .i64 k, .int .i64 er])) ∨
     (zipsM (lettersOf s) = true ∧ ref24M (lettersOf s) = true ∧ (∀ j, j < (lettersOf s).length → fitsAt (lettersOf s) j = true) ∧ ∃ (n : Nat) (T : List Tr) (v : Value), n = (zmAt (lettersOf s) (lettersOf s).length).n ∧ T = (zmAt (lettersOf s) (lettersOf s).length).T ∧ Simp n T ∧ T.length = s.size + 1 ∧ w'.ownsRow w.heap.size 61 3 v T.length (ws3 T) ∧
       e = .returned (.tuple #[.agg #[.int .i64 (n : Int), v], .int .i64 0, .int .i64 0]))) := by
  refine (zip_any s hs w).mono ?_
  rintro e w2 ⟨hb2, h⟩
  refine ⟨hb2, ?_⟩
  rcases h with ⟨h1, r, h2, rfl⟩ | ⟨h1, k, hk, h2, h3, rfl⟩ | ⟨h1, h2, v, h3, rfl⟩
  · exact .inl ⟨by unfold zipsM; rw [h1]; rfl, _, 3, by decide, by decide, rfl⟩
  · exact .inl ⟨zipsM_not hk h3, _, 11, by decide, by decide, rfl⟩
  · have hl := lettersOf_length s
    have hT := zmAt_T_len (lettersOf s) (lettersOf s).length
    refine .inr ⟨?_, h1, h2, _, _, v, rfl, rfl, zip_simp h1 h2 (by omega), by omega, ?_, rfl⟩
    · unfold zipsM
      rw [h1, Bool.true_and]
      simp only [List.all_eq_true, List.mem_range]
      exact h2
    · rw [hT, ← triCells_ws3]
      exact h3
end Go.Proofs.Ytpnkhgjjlionnaa.Zp
namespace Go.Proofs.Ytpnkhgjjlionnaa.Zp
open Go.RowKit Go.Maps

set_option maxRecDepth 100000 in
set_option maxHeartbeats 4000000 in
theorem zipShape_walk (s : ByteArray) (w : World) : Calls Try.prog 6 #[.string s] w fun en w' => en = .returned (.bool true) ∧ Below w.heap.size w w' := by
  by_cases hbig : 40 < s.size
  · go_enter Try.func6, Try.ntmps6
    go_wp2_with fail
    refine (awake23_any _).mono ?_
    rintro en w1 ⟨rfl, hb1⟩
    go_wp2
    go_ret
    exact ⟨rfl, hb1⟩
  · have hs : s.size ≤ 40 := by omega
    have hbb : decide ((40 : Int) < (s.size : Int)) = false := by simp; omega
    clear hbig
    have HIs := Lib.hid (fun W => is_any s (by omega) W)
    go_enter Try.func6, Try.ntmps6
    go_wp2_with fail
    refine (awake23_any _).mono ?_
    rintro en w1 ⟨rfl, hb1⟩
    go_wp2_with fail
    refine (zip_two s (by omega) _).mono ?_
    rintro e w2 ⟨hb2, h⟩
    have hB2 := below_on hb1 hb1.size hb2
    rcases h with ⟨hz, k, er, -, he, rfl⟩ | ⟨hz, -, -, n, T, v, -, -, hS, hT, hr, rfl⟩
    · have HB := Lib.hid (hB2.alloc hB2.size (.cells #[.int .i64 0, .slice none 0 0] 24))
      rw [hz] at HIs
      clear hz hB2 hb1 hb2
      go_wp2_with fail
      refine (HIs.out _).mono ?_
      rintro e w3 ⟨rfl, hb3⟩
      go_wp2
      go_ret
      exact ⟨rfl, below_on HB.out HB.out.size hb3⟩
    · rw [hz] at HIs
      have HR := Lib.hid (TrisRd.of_row hr)
      obtain ⟨aT, cT, rfl⟩ := ownsRow_slice hr
      have kb := Blk.new w2 24 #[.int .i64 (n : Int), .slice aT T.length cT]
      have hA := (Below.refl w2.heap.size w2).alloc (Nat.le_refl _) (.cells #[.int .i64 (n : Int), .slice aT T.length cT] 24)
      have hB3 := hB2.alloc hB2.size (.cells #[.int .i64 (n : Int), .slice aT T.length cT] 24)
      have HRb := Lib.hid (fun (W : World) (hW : Below w2.heap.size w2 W) => HR.out.below hW)
      have HSi := Lib.hid hS
      have HNew := Lib.hid (fun (W : World) (hW : Below w2.heap.size w2 W) => new_or (n : Int) (.slice aT T.length cT) T W (HRb.out W hW) (by omega))
      have HCI := Lib.hid (fun (W : World) (hW : Below w2.heap.size w2 W) => Proofs.Ytpnkhgjjlionnaa.is_any (n : Int) (.slice aT T.length cT) T W (HRb.out W hW) (by omega))
      have hn9 : n ≤ 4096 := by have := hS.surf.n1; omega
      obtain ⟨F, hF⟩ : ∃ F, T.length = F := ⟨_, rfl⟩
      have HFl := Lib.hid hF
      rw [hF] at HNew HCI kb hA hB3 hT ⊢
      have HT9 := Lib.hid hT
      have hF41 : F ≤ 41 := by omega
      have hF0 : 0 < F := by omega
      have KB := Lib.hid kb
      have HA := Lib.hid hA
      have HB3 := Lib.hid hB3
      clear hT hz hB2 hb1 hb2 hr HR kb hA hB3 hS hF HRb
      obtain ⟨l0, x0, -, x1, -⟩ := KB.out.two
      generalize hWa : w2.alloc (.cells #[.int .i64 (n : Int), .slice aT F cT] 24) = wa at *
      go_wp2_with fail
      refine (HNew.out _ HA.out).mono ?_
      rintro e w3 ⟨p, q1, q2, q3, rfl, hTab, hb3⟩
      rcases hTab with ⟨g, n', hnn, rfl, hTab, -⟩ | ⟨-, hno⟩
      · obtain rfl : n = n' := by omega
        have HB4 := Lib.hid (below_on HB3.out HB3.out.size hb3)
        have HA4 := Lib.hid (below_on HA.out HA.out.size hb3)
        have KB4 := Lib.hid (KB.out.below hb3 l0)
        have HTab := Lib.hid hTab
        clear hTab hnn hb3 x0 x1 l0 hWa
        have HG := Lib.hid (fun (W : World) (hW : Below w3.heap.size w3 W) => genus_any g n T W (HTab.out.below hW) HSi.out.surf (fun W' hW' => loopsB_any g n T W' ((HTab.out.below hW).below hW') HSi.out.surf (by omega)))
        have hAw := (Below.refl w3.heap.size w3).alloc (Nat.le_refl _) (.cells #[.int .i64 q1, .int .i64 q2, .int .i64 q3] 44)
        have HAw := Lib.hid hAw
        have HB5 := Lib.hid (below_on HB4.out HB4.out.size hAw)
        have HA5 := Lib.hid (below_on HA4.out HA4.out.size hAw)
        have KB5 := Lib.hid (KB4.out.below hAw KB4.out.lt)
        clear hAw
        go_wp2_with fail
        refine (HG.out _ HAw.out).mono ?_
        rintro e w5 ⟨vg, out, m, cs, rfl, hSh, hm, hr5, h6, hb5⟩
        obtain ⟨rfl, e3, e5⟩ := (genus_simp HSi.out.surf hSh hm h6).1 HSi.out
        have KB6 := Lib.hid (KB5.out.below hb5 KB5.out.lt)
        have HB6 := Lib.hid (below_on HB5.out HB5.out.size hb5)
        have HA6 := Lib.hid (below_on HA5.out HA5.out.size hb5)
        obtain ⟨avg, cvg, rfl⟩ := ownsRow_slice hr5
        have HR5 := Lib.hid hr5
        have HE := Lib.hid (And.intro e3 e5)
        obtain ⟨l6, x0, -, x1, -⟩ := KB6.out.two
        clear hr5 hb5 h6 hSh hm e3 e5 HG
        go_wp2_with fail
        refine (HCI.out _ HA6.out).mono ?_
        rintro e w6 ⟨b, rfl, hbs, hb6⟩
        obtain rfl : b = true := hbs.2 HSi.out.surf
        have HB7 := Lib.hid (below_on HB6.out HB6.out.size hb6)
        have hr6 := own_below HR5.out hb6
        obtain ⟨gO, cap, e0, hg1, hg2⟩ := hr6.form (by omega)
        cases e0
        have c3 : w6.cell? ⟨gO, 3, none⟩ = some (.int .i64 0) := by rw [hr6.cellAt 3 (by omega), ← HE.out.1]; exact intsV_at (by have := hr6.1; simp [intsV] at this; omega)
        have c5 : w6.cell? ⟨gO, 5, none⟩ = some (.int .i64 0) := by rw [hr6.cellAt 5 (by omega), ← HE.out.2]; exact intsV_at (by have := hr6.1; simp [intsV] at this; omega)
        have gl := (hr6.lt gO rfl).2
        clear hbs hb6 hr6 x0 x1 l6 hg1 hg2
        go_wp2_with (go_at_call 21; refine (HIs.out _).mono ?_; rintro e w7 ⟨rfl, hb7⟩)
        go_ret
        exact ⟨rfl, below_on HB7.out HB7.out.size hb7⟩
      · exact absurd HSi.out.surf hno
end Go.Proofs.Ytpnkhgjjlionnaa.Zp
