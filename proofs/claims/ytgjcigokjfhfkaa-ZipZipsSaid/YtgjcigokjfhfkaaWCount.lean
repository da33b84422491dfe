/-
  word.Count, by walking its text: a map from letters to numbers.
-/
import Derived.Test.YtgjcigokjfhfkaaCost
import Derived.Test.YtgjcigokjfhfkaaMaps
namespace Go.Proofs.Ytgjcigokjfhfkaa
open Go.RowKit Go.Maps

theorem zero_int (w : World) : (zeroValue 3).run Try.prog w = .ok (.int .i64 0) w := by kernel_rfl
/-- How often each letter stands in a text; what is no letter is not counted. -/
def wcountF (zs : List Int) (c : Int) : Int := if codeN c = 0 then 0 else cnt zs c
theorem wcountF_snoc (zs : List Int) (z : Int) : wcountF (zs ++ [z]) = if codeN z = 0 then wcountF zs else fun y => if y = z then wcountF zs z + 1 else wcountF zs y := by
  by_cases hz : codeN z = 0
  · rw [if_pos hz]
    funext y
    unfold wcountF
    by_cases hy : codeN y = 0
    · rw [if_pos hy, if_pos hy]
    · rw [if_neg hy, if_neg hy, cnt_snoc, if_neg (by rintro rfl; exact hy hz)]
  · rw [if_neg hz]
    funext y
    unfold wcountF
    by_cases hy : codeN y = 0
    · rw [if_pos hy, if_pos hy, if_neg (by rintro rfl; exact hz hy)]
    · rw [if_neg hy, if_neg hy, cnt_snoc, if_neg hz]
      by_cases h : z = y
      · subst h; simp
      · rw [if_neg h, if_neg (fun e => h e.symm)]
theorem wcountF_le (zs : List Int) (c : Int) : 0 ≤ wcountF zs c ∧ wcountF zs c ≤ zs.length := by
  have := cnt_le zs c
  unfold wcountF
  split <;> omega
theorem lettersOf_byte (s : ByteArray) (j : Nat) (hj : j < (lettersOf s).length) : (Lit.int .u8 ((lettersOf s)[j])).wf = true := by
  have hj' : j < s.data.size := by simpa [lettersOf] using hj
  have : (lettersOf s)[j] = ((s.data[j]).toNat : Int) := by simp [lettersOf]
  rw [this]
  have h2 := (s.data[j]).toNat_lt
  have h3 : IntKind.u8.min = 0 := by decide
  have h4 : IntKind.u8.max = 255 := by decide
  simp [Lit.wf, h3, h4]
  omega
/-- The map of these numbers. -/
def WCount (w : World) (b : Nat) (zs : List Int) : Prop := MapI Try.prog 5 3 .u8 .i64 w b zs.length (wcountF zs)
set_option maxRecDepth 100000 in
set_option maxHeartbeats 1000000 in
theorem wcount_any (s : ByteArray) (hs : s.size ≤ 1000000) (w : World) :
    Calls Try.prog 29 #[.string s] w fun e w' => e = .returned (.map (some w.heap.size)) ∧ WCount w' w.heap.size (lettersOf s) ∧ Below w.heap.size w w' := by
  have hmm := @run_makeMap Try.prog
  have hcv : ∀ W, (convert 9 48 (.string s)).run Try.prog W = .ok (.slice (some ⟨W.heap.size, 0, none⟩) s.size (grownCap W s.size 0 5)) (Lib.bytesWorld W 5 s) :=
    fun W => Lib.run_convert_string_bytes W _ _ _ s Try.underlying9 Try.underlying48 Try.underlying5
  have hf := bytes_facts (w.alloc (.map #[] 0)) 5 s
  have hm0 := MapI.made w Try.prog 5 3 .u8 .i64
  have hB0 : Below w.heap.size w (w.alloc (.map #[] 0)) := (Below.refl _ _).alloc (Nat.le_refl _) _
  go_enter Try.func29, Try.ntmps29
  go_wp2
  generalize grownCap _ _ _ _ = cap
  generalize hW1 : Lib.bytesWorld _ _ _ = W1 at hf ⊢
  obtain ⟨hz, hg, hcell, -⟩ := hf
  clear hW1 hcv hmm
  have hB1 : Below w.heap.size w W1 := hB0.trans (below_of_grown hg (by simp) (by simp))
  have hm1 := hm0.kept hg (by simp)
  have hl := lettersOf_length s
  rw [← hl]
  have hlen : (lettersOf s).length ≤ 1000000 := by omega
  have hby := lettersOf_byte s
  generalize hzs : lettersOf s = zs at *
  have Hby : ∀ j (hj : j < zs.length), (Lit.int .u8 zs[j]).wf = true := hby
  clear hby
  have Hl := Lib.hid hl
  have Hzs := Lib.hid hzs
  rw [size_alloc'] at hz hcell
  clear hl hg hzs hm0 hB0
  go_loopw [12] (fun i wr => ∃ k : Nat, k ≤ zs.length ∧ i = .int .i64 k ∧ MapI Try.prog 5 3 .u8 .i64 wr w.heap.size k (wcountF (zs.take k)) ∧ Below w.heap.size w wr ∧ ∀ j, j < zs.length → wr.cell? ⟨w.heap.size + 1, j, none⟩ = some (.int .u8 (zs[j]?.getD 0))) (fun i _ => zs.length - (intOf i).toNat)
  case atStart =>
    refine ⟨0, Nat.zero_le _, rfl, ?_, hB1, hcell⟩
    have : wcountF (zs.take 0) = fun _ => 0 := by funext y; simp [wcountF, cnt]
    rw [this]
    exact hm1
  case round =>
    obtain ⟨k, hk, rfl, hm, hB, hc⟩ := hrel
    by_cases hlt : k < zs.length
    · have hc1 := hc k hlt
      have hts := take_snoc_int zs k hlt
      have hsn := wcountF_snoc (zs.take k) zs[k]
      rw [← hts] at hsn
      have hle := wcountF_le (zs.take k) zs[k]
      have hl3 : (zs.take k).length ≤ 1000000 := by rw [List.length_take]; omega
      have hwf := Hby k hlt
      have Hsn := Lib.hid hsn
      have Hc := Lib.hid hc
      have Hwf := Lib.hid hwf
      rw [List.getElem?_eq_getElem hlt, Option.getD_some] at hc1
      clear hts hsn hc hcell hwf
      by_cases h0 : codeN zs[k] = 0
      · have hcn : codeN zs[k] = 0 := h0
        have H0 := Lib.hid h0
        have hb : decide (0 < codeN zs[k]) = false := by simp [h0]
        clear h0
        go_wp2_with (go_at_call 30; refine (code_any _ _).mono ?_; rintro e w' ⟨rfl, rfl⟩)
        go_roundw
        case measure => simp [intOf]; omega
        case rel => exact ⟨k + 1, by omega, by go_num, by rw [Hsn.out, if_pos H0.out]; exact hm.mono (Nat.le_succ _), hB, Hc.out⟩
      · have hb : decide (0 < codeN zs[k]) = true := by have := codeN_le zs[k]; simp; omega
        have H0 := Lib.hid h0
        clear h0
        go_wp2_with (first
          | (go_at_call 30; refine (code_any _ _).mono ?_; rintro e w' ⟨rfl, rfl⟩)
          | (at_lookup; refine wpList_lookupI hm rfl _ _ 50 rfl Try.underlying5 Try.underlying50 Try.underlying3 (zero_int _) rfl _ rfl Hwf.out ?_)
          | (at_mapUpdate; refine wpList_storeI hm rfl _ _ _ 50 rfl Try.underlying5 Try.underlying50 Try.underlying3 (by unfold maxLen; omega) rfl _ _ rfl rfl Hwf.out (WalkArith.wf_i64 (by omega)) ?_; intro w1 hm1' hg1))
        go_roundw
        case measure => simp [intOf]; omega
        case rel => exact ⟨k + 1, by omega, by go_num, by rw [Hsn.out, if_neg H0.out]; exact hm1', hB.grown hg1 hB.size (fun j e => by cases e; omega), fun j hj => hg1.cell (Hc.out j hj) (by simp)⟩
    · obtain rfl : k = zs.length := by omega
      rw [List.take_length] at hm
      go_wp2
      go_ret
      refine ⟨rfl, ?_, hB⟩
      unfold WCount
      rw [Hzs.out]
      exact hm
end Go.Proofs.Ytgjcigokjfhfkaa
