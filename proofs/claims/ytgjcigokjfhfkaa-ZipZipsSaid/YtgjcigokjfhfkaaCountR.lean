/-
  The document's Count (layer 24), by walking its text.
-/
import Derived.Test.YtgjcigokjfhfkaaCount
namespace Go.Proofs.Ytgjcigokjfhfkaa
open Go.RowKit

set_option maxHeartbeats 1000000 in
theorem count24_any (s : ByteArray) (hs : s.size ≤ 1000000) (w : World) :
    Calls Try.prog 16 #[.string s] w fun e w' => e = .returned (.agg (fiveOf (lettersOf s))) ∧ Below w.heap.size w w' := by
  have Hl := Lib.hid (lettersOf_length s)
  go_enter Try.func16, Try.ntmps16
  go_wp2
  go_loopw [4] (fun i wr => ∃ k : Nat, k ≤ s.size ∧ i = .int .i64 k ∧ Blk wr (w.heap.size + 1) 28 (fiveOf ((lettersOf s).take k)) ∧ Blk wr w.heap.size 28 #[.int .i64 0, .int .i64 0, .int .i64 0, .int .i64 0, .int .i64 0] ∧ Below w.heap.size w wr) (fun i _ => s.size - (intOf i).toNat)
  case atStart =>
    refine ⟨0, Nat.zero_le _, rfl, ?_, (Blk.new _ _ _).alloc _, ((Below.refl _ _).alloc (Nat.le_refl _) _).alloc (by simp) _⟩
    have := Blk.new (w.alloc (.cells #[.int .i64 0, .int .i64 0, .int .i64 0, .int .i64 0, .int .i64 0] 28)) 28 #[.int .i64 0, .int .i64 0, .int .i64 0, .int .i64 0, .int .i64 0]
    rw [size_alloc'] at this
    simpa [fiveOf, cnt] using this
  case round =>
    obtain ⟨k, hk, rfl, hb1, hb0, hB⟩ := hrel
    by_cases hlt : k < s.size
    · have hst := five_step ((lettersOf s).take k) (s[k].toNat : Int)
      have hts := take_snoc_int (lettersOf s) k (by rw [Hl.out]; exact hlt)
      rw [letter_at s k hlt] at hts
      rw [← hts] at hst
      have hle : ((lettersOf s).take k).length ≤ 1000000 := by rw [List.length_take]; omega
      have n1 := cnt_le ((lettersOf s).take k) 67
      have n2 := cnt_le ((lettersOf s).take k) 76
      have n3 := cnt_le ((lettersOf s).take k) 82
      have n4 := cnt_le ((lettersOf s).take k) 69
      have n5 := cnt_le ((lettersOf s).take k) 83
      have Hst := Lib.hid hst
      clear hst hts
      have hb1' : Blk wr (w.heap.size + 1) 28 #[.int .i64 (cnt ((lettersOf s).take k) 67), .int .i64 (cnt ((lettersOf s).take k) 76), .int .i64 (cnt ((lettersOf s).take k) 82), .int .i64 (cnt ((lettersOf s).take k) 69), .int .i64 (cnt ((lettersOf s).take k) 83)] := hb1
      obtain ⟨a0, a1, a2, a3, a4, a5, a6, a7, a8, a9, a10⟩ := hb1'.five
      clear hb1'
      have fin : ∀ (j : Nat) (u : Value), fiveOf ((lettersOf s).take (k + 1)) = (fiveOf ((lettersOf s).take k)).setIfInBounds j u → Blk (wr.setCell ⟨w.heap.size + 1, j, none⟩ u) (w.heap.size + 1) 28 (fiveOf ((lettersOf s).take (k + 1))) ∧ Blk (wr.setCell ⟨w.heap.size + 1, j, none⟩ u) w.heap.size 28 #[.int .i64 0, .int .i64 0, .int .i64 0, .int .i64 0, .int .i64 0] ∧ Below w.heap.size w (wr.setCell ⟨w.heap.size + 1, j, none⟩ u) :=
        fun j u h => ⟨by rw [h]; exact hb1.set_ j u, hb0.far (by simp) _, hB.setCell (p := ⟨w.heap.size + 1, j, none⟩) (by simp) _⟩
      have Fin := Lib.hid fin
      clear fin
      go_wp2
      all_goals
        go_roundw
        case measure => simp [intOf]; omega
        case rel =>
          clear a0 a1 a2 a3 a4 a5 a6 a7 a8 a9 a10
          refine ⟨k + 1, by omega, by go_num, ?_⟩
          first
            | exact Fin.out _ _ (by rw [Hst.out]; simp_all)
            | (have e : fiveOf ((lettersOf s).take (k + 1)) = fiveOf ((lettersOf s).take k) := by rw [Hst.out]; simp_all
               rw [e]; exact ⟨hb1, hb0, hB⟩)
    · obtain rfl : k = s.size := by omega
      have e : (lettersOf s).take s.size = lettersOf s := by rw [← Hl.out]; exact List.take_length
      rw [e] at hb1
      have hb1' : Blk wr (w.heap.size + 1) 28 #[.int .i64 (cnt (lettersOf s) 67), .int .i64 (cnt (lettersOf s) 76), .int .i64 (cnt (lettersOf s) 82), .int .i64 (cnt (lettersOf s) 69), .int .i64 (cnt (lettersOf s) 83)] := hb1
      clear e
      obtain ⟨a0, a1, a2, a3, a4, a5, a6, a7, a8, a9, a10⟩ := hb1'.five
      obtain ⟨b0, b1, b2, b3, b4, b5, b6, b7, b8, b9, b10⟩ := hb0.five
      go_wp2
      have hbf : Blk (((((wr.setCell ⟨w.heap.size, 0, none⟩ (.int .i64 (cnt (lettersOf s) 67))).setCell ⟨w.heap.size, 1, none⟩ (.int .i64 (cnt (lettersOf s) 76))).setCell ⟨w.heap.size, 2, none⟩ (.int .i64 (cnt (lettersOf s) 82))).setCell ⟨w.heap.size, 3, none⟩ (.int .i64 (cnt (lettersOf s) 69))).setCell ⟨w.heap.size, 4, none⟩ (.int .i64 (cnt (lettersOf s) 83))) w.heap.size 28 (fiveOf (lettersOf s)) := by
        have := ((((hb0.set_ 0 (.int .i64 (cnt (lettersOf s) 67))).set_ 1 (.int .i64 (cnt (lettersOf s) 76))).set_ 2 (.int .i64 (cnt (lettersOf s) 82))).set_ 3 (.int .i64 (cnt (lettersOf s) 69))).set_ 4 (.int .i64 (cnt (lettersOf s) 83))
        simpa [fiveOf] using this
      have hBf : Below w.heap.size w (((((wr.setCell ⟨w.heap.size, 0, none⟩ (.int .i64 (cnt (lettersOf s) 67))).setCell ⟨w.heap.size, 1, none⟩ (.int .i64 (cnt (lettersOf s) 76))).setCell ⟨w.heap.size, 2, none⟩ (.int .i64 (cnt (lettersOf s) 82))).setCell ⟨w.heap.size, 3, none⟩ (.int .i64 (cnt (lettersOf s) 69))).setCell ⟨w.heap.size, 4, none⟩ (.int .i64 (cnt (lettersOf s) 83))) :=
        ((((hB.setCell (p := ⟨w.heap.size, 0, none⟩) (Nat.le_refl _) _).setCell (p := ⟨w.heap.size, 1, none⟩) (Nat.le_refl _) _).setCell (p := ⟨w.heap.size, 2, none⟩) (Nat.le_refl _) _).setCell (p := ⟨w.heap.size, 3, none⟩) (Nat.le_refl _) _).setCell (p := ⟨w.heap.size, 4, none⟩) (Nat.le_refl _) _
      generalize (((((wr.setCell ⟨w.heap.size, 0, none⟩ (.int .i64 (cnt (lettersOf s) 67))).setCell ⟨w.heap.size, 1, none⟩ (.int .i64 (cnt (lettersOf s) 76))).setCell ⟨w.heap.size, 2, none⟩ (.int .i64 (cnt (lettersOf s) 82))).setCell ⟨w.heap.size, 3, none⟩ (.int .i64 (cnt (lettersOf s) 69))).setCell ⟨w.heap.size, 4, none⟩ (.int .i64 (cnt (lettersOf s) 83))) = W5 at hbf hBf ⊢
      obtain ⟨-, c1, c2, c3, c4, c5, -⟩ := hbf.five
      exact bodyPost_ret (v := .agg (fiveOf (lettersOf s))) (by simp [results, Try.results16, go_sem, c1, c2, c3, c4, c5, fiveOf]) rfl ⟨rfl, hBf⟩

/-- The bits of a text's letters, by the document. -/
def bitsM (zs : List Int) : Int := cnt zs 67 + 3 * (cnt zs 76 + cnt zs 82 + cnt zs 69 + cnt zs 83)

theorem bits24_any (s : ByteArray) (hs : s.size ≤ 1000000) (w : World) :
    Calls Try.prog 18 #[.string s] w fun e w' => e = .returned (.int .i64 (bitsM (lettersOf s))) ∧ Below w.heap.size w w' := by
  have n1 := cnt_le (lettersOf s) 67
  have n2 := cnt_le (lettersOf s) 76
  have n3 := cnt_le (lettersOf s) 82
  have n4 := cnt_le (lettersOf s) 69
  have n5 := cnt_le (lettersOf s) 83
  rw [lettersOf_length] at n1 n2 n3 n4 n5
  go_enter Try.func18, Try.ntmps18
  go_wp2_with (go_at_call 16; refine (count24_any s hs _).mono ?_; unfold fiveOf; rintro e w' ⟨rfl, hb⟩)
  go_ret
  exact ⟨rfl, hb.alloc hb.size _⟩
end Go.Proofs.Ytgjcigokjfhfkaa
