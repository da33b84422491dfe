/-
  gypsumref23.Zip, by walking its text.
-/
import Derived.Test.YtgjcigokjfhfkaaTris
import Derived.Test.YtgjcigokjfhfkaaFallsW
namespace Go.Proofs.Ytgjcigokjfhfkaa
open Go.RowKit Go.Maps

theorem tri_at {zs : List Int} {j : Nat} (hj : j < zs.length) : (zmAt zs zs.length).T[j + 1]? = some (triAt zs j) := by
  have h1 := zmAt_T_take zs (k := j + 1) (n := zs.length) (by omega)
  have h2 : (zmAt zs (j + 1)).T[j + 1]? = some (triAt zs j) := by
    rw [zmAt_T, List.getElem?_append_right (by rw [zmAt_T_len]; omega), zmAt_T_len]
    simp
  rw [← h1, List.getElem?_take, if_pos (by omega)] at h2
  exact h2
theorem falls_at {zs : List Int} (h : ref24M zs = true) {j : Nat} (hj : j < zs.length) : fallsL ((zmAt zs zs.length).T.take (j + 1)) (triAt zs j) = !fitsAt zs j := by
  rw [zmAt_T_take zs (by omega)]
  unfold fitsAt
  rw [falls_fits (all_dist h j (by omega)) (tri_dist h hj), Bool.not_not]

/-- What the document's Zip answers. -/
def RefPost (w : World) (zs : List Int) (e : Ending) (w' : World) : Prop :=
  Below w.heap.size w w' ∧
  ((∃ k, k < zs.length ∧ (∀ j, j < k → fitsAt zs j = true) ∧ fitsAt zs k = false ∧ e = .returned (.tuple #[.agg #[.int .i64 0, .slice none 0 0], .int .i64 ((k : Int) + 1), .int .i64 11])) ∨
   ((∀ j, j < zs.length → fitsAt zs j = true) ∧ ∃ v, TrisAt w' v (zmAt zs zs.length).T ∧ e = .returned (.tuple #[.agg #[.int .i64 ((zmAt zs zs.length).n : Int), v], .int .i64 0, .int .i64 0])))

set_option maxRecDepth 100000 in
set_option maxHeartbeats 2000000 in
theorem ref_wrong (s : ByteArray) (hs : s.size ≤ 1000) (h : ref24M (lettersOf s) = false) (r : Nat) (hr : LeastAt (lettersOf s) r) (w : World) :
    Calls Try.prog 25 #[.string s] w fun e w' => e = .returned (.tuple #[.agg #[.int .i64 0, .slice none 0 0], .int .i64 (r : Int), .int .i64 3]) ∧ Below w.heap.size w w' := by
  have H := Lib.hid h
  have HR := Lib.hid hr
  have hb0 : Blk (w.alloc (.cells #[.int .i64 0, .slice none 0 0] 42)) w.heap.size 42 #[.int .i64 0, .slice none 0 0] := Blk.new _ _ _
  have hB0 : Below w.heap.size w (w.alloc (.cells #[.int .i64 0, .slice none 0 0] 42)) := (Below.refl _ _).alloc (Nat.le_refl _) _
  clear h hr
  go_enter Try.func25, Try.ntmps25
  go_wp2_with fail
  refine (right22_any s (by omega) _).mono ?_
  rw [H.out]
  rintro e w1 ⟨rfl, hb1⟩
  have hB1 := below_on hB0 hB0.size hb1
  have hS1 := hb0.below hb1 (by simp)
  go_wp2_with fail
  refine (least22_any s hs H.out r HR.out _).mono ?_
  rintro e w2 ⟨rfl, hb2⟩
  have hB2 := below_on hB1 hB1.size hb2
  obtain ⟨s0, s1, s2, s3, s4⟩ := (hS1.below hb2 hS1.lt).two
  go_wp2
  refine bodyPost_ret (v := .tuple #[.agg #[.int .i64 0, .slice none 0 0], .int .i64 (r : Int), .int .i64 3]) ?_ rfl ⟨rfl, ?_⟩
  · rw [results_ctt rfl]
    go_simp
  · exact (hB2.setCell (p := ⟨w.heap.size, 0, none⟩) (Nat.le_refl _) _).setCell (p := ⟨w.heap.size, 1, none⟩) (Nat.le_refl _) _

set_option maxRecDepth 100000 in
set_option maxHeartbeats 4000000 in
theorem ref_right (s : ByteArray) (hs : s.size ≤ 1000) (h : ref24M (lettersOf s) = true) (w : World) :
    Calls Try.prog 25 #[.string s] w (RefPost w (lettersOf s)) := by
  have H := Lib.hid h
  have HL := Lib.hid (lettersOf_length s)
  have hN := (zinv_at h (lettersOf s).length (Nat.le_refl _)).n
  have hcl := cnt_le ((lettersOf s).take (lettersOf s).length) 67
  rw [List.length_take, Nat.min_self] at hcl
  have hTl := zmAt_T_len (lettersOf s) s.size
  have hTA : ∀ j, j < s.size → (zmAt (lettersOf s) s.size).T[j + 1]? = some (triAt (lettersOf s) j) := fun j hj => by
    have := tri_at (zs := lettersOf s) (j := j) (by rw [lettersOf_length]; exact hj)
    rwa [lettersOf_length] at this
  have hFA : ∀ j, j < s.size → fallsL ((zmAt (lettersOf s) s.size).T.take (j + 1)) (triAt (lettersOf s) j) = !fitsAt (lettersOf s) j := fun j hj => by
    have := falls_at h (j := j) (by rw [lettersOf_length]; exact hj)
    rwa [lettersOf_length] at this
  have hTri := fun W => triangles_any s hs h W
  unfold RefPost
  rw [lettersOf_length] at hN hcl ⊢
  generalize (zmAt (lettersOf s) s.size).n = N at *
  generalize (zmAt (lettersOf s) s.size).T = T at *
  have HTA := Lib.hid hTA
  have HFA := Lib.hid hFA
  have HTL := Lib.hid hTl
  have hN1 : (N : Int) ≤ 1003 := by omega
  have hb0 : Blk (w.alloc (.cells #[.int .i64 0, .slice none 0 0] 42)) w.heap.size 42 #[.int .i64 0, .slice none 0 0] := Blk.new _ _ _
  have hB0 : Below w.heap.size w (w.alloc (.cells #[.int .i64 0, .slice none 0 0] 42)) := (Below.refl _ _).alloc (Nat.le_refl _) _
  clear h hN hcl hTA hFA hTl
  go_enter Try.func25, Try.ntmps25
  go_wp2_with fail
  refine (right22_any s (by omega) _).mono ?_
  rw [H.out]
  rintro e w1 ⟨rfl, hb1⟩
  have hB1 := below_on hB0 hB0.size hb1
  have hS1 := hb0.below hb1 (by simp)
  go_wp2_with fail
  refine (hTri _).mono ?_
  rintro e w2 ⟨v, rfl, hT2, hb2⟩
  have hB2 := below_on hB1 hB1.size hb2
  have hS2 := hS1.below hb2 hS1.lt
  obtain ⟨base, hrow⟩ := id hT2
  rw [HTL.out] at hrow
  obtain ⟨g, c, rfl⟩ := ownsRow_succ hrow
  obtain ⟨_, _, eq, hcp, hcp'⟩ := row_form hrow
  cases eq
  have hg2 : g < w2.heap.size := (hrow.lt g rfl).2
  have HT2 := Lib.hid hT2
  have HB2 := Lib.hid hB2
  have HS2 := Lib.hid hS2
  clear hTri hB0 hb0 hb1 hB1 hS1 hb2 hB2 hS2 hT2 hrow
  go_wp2
  go_loopw [7] (fun i wr => ∃ k : Nat, k ≤ s.size + 1 ∧ i = .int .i64 k ∧ (∀ j, j + 1 < k → fitsAt (lettersOf s) j = true) ∧ Below w2.heap.size w2 wr) (fun i _ => s.size + 1 - (intOf i).toNat)
  case atStart => exact ⟨0, Nat.zero_le _, rfl, fun j hj => by omega, Below.refl _ _⟩
  case round =>
    obtain ⟨k, hk, rfl, hfit, hB⟩ := hrel
    by_cases hlt : k < s.size + 1
    · obtain ⟨g', x, y, z, eg, -, hTk, s0, s1, s2⟩ := (HT2.out.below hB).cell HTL.out hlt
      cases eg
      have hgr : g < wr.heap.size := Nat.lt_of_lt_of_le hg2 hB.size
      have hcells : ∀ k', k' < k → ∃ x y z, T[k']? = some (x, y, z) ∧ wr.drew.cell? ⟨g, k' * 3, none⟩ = some (.int .i64 x) ∧ wr.drew.cell? ⟨g, k' * 3 + 1, none⟩ = some (.int .i64 y) ∧ wr.drew.cell? ⟨g, k' * 3 + 2, none⟩ = some (.int .i64 z) := by
        intro k' hk'
        obtain ⟨g'', x', y', z', eg, -, hTk', s0', s1', s2'⟩ := (HT2.out.below hB).cell HTL.out (show k' < s.size + 1 by omega)
        cases eg
        exact ⟨x', y', z', hTk', s0', s1', s2'⟩
      have hfa := falls_any g k c T x y z wr.drew (by omega) hgr hcells
      have hk0 : (0 : Int) ≤ (k : Int) := by omega
      have hk1 : (k : Int) < (s.size : Int) + 1 := by omega
      have hk2 : (k : Int) ≤ (c : Int) := by omega
      have HB := Lib.hid hB
      have Hfit := Lib.hid hfit
      have HTk := Lib.hid hTk
      obtain ⟨q0, q1, q2, q3, q4⟩ := (HS2.out.below hB HS2.out.lt).two
      clear hcells hB hfit hTk
      cases hf : fallsL (T.take k) (x, y, z)
      · rw [hf] at hfa
        have hall : ∀ j, j + 1 < k + 1 → fitsAt (lettersOf s) j = true := by
          intro j hj
          rcases Nat.lt_or_ge (j + 1) k with h1 | h1
          · exact Hfit.out j h1
          · obtain rfl : k = j + 1 := by omega
            have h2 := HTA.out j (by omega)
            rw [HTk.out] at h2
            have h3 : (x, y, z) = triAt (lettersOf s) j := by simpa using h2
            have h4 := HFA.out j (by omega)
            rw [← h3, hf] at h4
            simpa using h4.symm
        have Hall := Lib.hid hall
        have HFa := Lib.hid hfa
        clear hall hf hfa
        go_wp2
        go_region_with (go_at_call 39; refine HFa.out.mono ?_; rintro e w3 ⟨rfl, hb3⟩)
        all_goals
          go_wp2
          go_roundw
          case measure => simp [intOf]; omega
          case rel => exact ⟨k + 1, by omega, by go_num, Hall.out, below_on HB.out.drew HB.out.drew.size hb3⟩
      · rw [hf] at hfa
        obtain ⟨j, rfl, hj⟩ : ∃ j, k = j + 1 ∧ fitsAt (lettersOf s) j = false := by
          cases k with
          | zero => simp [fallsL] at hf
          | succ j =>
            refine ⟨j, rfl, ?_⟩
            have h2 := HTA.out j (by omega)
            rw [HTk.out] at h2
            have h3 : (x, y, z) = triAt (lettersOf s) j := by simpa using h2
            have h4 := HFA.out j (by omega)
            rw [← h3, hf] at h4
            simpa using h4.symm
        have Hj := Lib.hid hj
        have HFa := Lib.hid hfa
        clear hf hfa hj
        go_wp2
        go_region_with (go_at_call 39; refine HFa.out.mono ?_; rintro e w3 ⟨rfl, hb3⟩; obtain ⟨q0', q1', q2', q3', q4'⟩ := ((HS2.out.below HB.out HS2.out.lt).drew.below hb3 q0).two)
        all_goals
          go_wp2
          refine bodyPost_ret (v := .tuple #[.agg #[.int .i64 0, .slice none 0 0], .int .i64 ((j : Int) + 1), .int .i64 11]) ?_ rfl ⟨?_, .inl ⟨j, by omega, fun i hi => Hfit.out i (by omega), Hj.out, rfl⟩⟩
          · rw [results_ctt rfl]
            go_simp
          · exact ((below_on HB2.out HB2.out.size (below_on HB.out.drew HB.out.drew.size hb3)).setCell (p := ⟨w.heap.size, 0, none⟩) (Nat.le_refl _) _).setCell (p := ⟨w.heap.size, 1, none⟩) (Nat.le_refl _) _
    · obtain rfl : k = s.size + 1 := by omega
      obtain ⟨q0, q1, q2, q3, q4⟩ := (HS2.out.below hB HS2.out.lt).two
      have HB := Lib.hid hB
      have Hfit := Lib.hid hfit
      have HTT := Lib.hid (HT2.out.below hB)
      have hTB : TrisAt ((wr.setCell ⟨w.heap.size, 0, none⟩ (.int .i64 (N : Int))).setCell ⟨w.heap.size, 1, none⟩ (.slice (some ⟨g, 0, none⟩) (s.size + 1) c)) (.slice (some ⟨g, 0, none⟩) (s.size + 1) c) T := by
        obtain ⟨base, hrow⟩ := HTT.out
        have hbk := HS2.out.below hB HS2.out.lt
        have r1 := hrow.kept (row := some w.heap.size) (gSet (World.grownBy.refl _ _) ⟨w.heap.size, 0, none⟩ (.int .i64 (N : Int)) (.inl rfl)) (.inr (own_blk_ne hrow hbk (by decide)))
        have hbk2 := hbk.set_ 0 (.int .i64 (N : Int))
        exact ⟨base, r1.kept (row := some w.heap.size) (gSet (World.grownBy.refl _ _) ⟨w.heap.size, 1, none⟩ _ (.inl rfl)) (.inr (own_blk_ne r1 hbk2 (by decide)))⟩
      have HTB := Lib.hid hTB
      clear hB hfit hTB
      go_wp2
      refine bodyPost_ret (v := .tuple #[.agg #[.int .i64 (N : Int), .slice (some ⟨g, 0, none⟩) (s.size + 1) c], .int .i64 0, .int .i64 0]) ?_ rfl ⟨?_, .inr ⟨fun j hj => Hfit.out j (by omega), _, HTB.out, rfl⟩⟩
      · rw [results_ctt rfl]
        go_simp
      · exact ((below_on HB2.out HB2.out.size HB.out).setCell (p := ⟨w.heap.size, 0, none⟩) (Nat.le_refl _) _).setCell (p := ⟨w.heap.size, 1, none⟩) (Nat.le_refl _) _
end Go.Proofs.Ytgjcigokjfhfkaa
