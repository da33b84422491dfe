/-
  The law ZipCuts, by walking its text.
-/
import Derived.Test.YtgjcigokjfhfkaaZipIs
import Derived.Test.YtgjcigokjfhfkaaBegP
import Derived.Test.YtgjcigokjfhfkaaParts
import Derived.Laws.BytesArg
namespace Go.Proofs.Ytgjcigokjfhfkaa
open Go.RowKit Go.Maps

theorem u8_has {n : Int} (h : (Lit.int .u8 n).wf = true) : 0 ≤ n ∧ n ≤ 255 := by
  have h3 : IntKind.u8.min = 0 := by decide
  have h4 : IntKind.u8.max = 255 := by decide
  simp [Lit.wf, h3, h4] at h
  omega
theorem letters_one {t : ByteArray} (h : t.size = 1) : ∃ c, lettersOf t = [c] := by
  have := lettersOf_length t
  rw [h] at this
  match hl : lettersOf t, this with
  | [c], _ => exact ⟨c, rfl⟩
theorem convert_one (m : Int) (W : World) : (convert 48 9 (.slice (some ⟨W.heap.size, 0, none⟩) 1 1)).run Try.prog (W.alloc (.cells #[.int .u8 m] 5)) = .ok (.string (strOfNums [m])) (W.alloc (.cells #[.int .u8 m] 5)) := by
  refine run_convert_bytes_arg (W.alloc (.cells #[.int .u8 m] 5)) 48 5 Try.underlying48 Try.underlying5 W.heap.size 0 1 1 [m] rfl (fun i hi => ?_) 9 Try.underlying9
  have : i = 0 := by omega
  subst this
  exact (Blk.new W 5 #[.int .u8 m]).cell 0
/-- A cut of a right word, a right word with a letter more: none, and where. -/
theorem zip_cut (s : ByteArray) (hs : s.size ≤ 1000) (h : ref24M (lettersOf s) = true) (k : Nat) (hk : k < s.size) (w : World) :
    Calls Try.prog 24 #[.string (s.extract 0 k)] w fun e w' => e = .returned (.tuple #[.agg #[.int .i64 0, .slice none 0 0], .int .i64 (k : Int), .int .i64 3]) ∧ Below w.heap.size w w' := by
  have hl := lettersOf_length s
  refine (zip_any (s.extract 0 k) (by simp; omega) w).mono ?_
  rintro e w1 ⟨hb, h1⟩
  rw [lettersOf_extract] at h1
  have hn := cut_not h (k := k) (by omega)
  rcases h1 with ⟨_, r, h2, rfl⟩ | ⟨h2, _⟩ | ⟨h2, _⟩
  · rw [least_cut h (by omega) h2]
    exact ⟨rfl, hb⟩
  · rw [hn] at h2; cases h2
  · rw [hn] at h2; cases h2
theorem zip_more (s t : ByteArray) (hs : s.size ≤ 900) (ht : t.size = 1) (h : ref24M (lettersOf s) = true) (w : World) :
    Calls Try.prog 24 #[.string (s ++ t)] w fun e w' => e = .returned (.tuple #[.agg #[.int .i64 0, .slice none 0 0], .int .i64 (s.size : Int), .int .i64 3]) ∧ Below w.heap.size w w' := by
  have hl := lettersOf_length s
  obtain ⟨c, hc⟩ := letters_one ht
  refine (zip_any (s ++ t) (by simp; omega) w).mono ?_
  rintro e w1 ⟨hb, h1⟩
  rw [lettersOf_append, hc] at h1
  have hn := more_not h c
  rcases h1 with ⟨_, r, h2, rfl⟩ | ⟨h2, _⟩ | ⟨h2, _⟩
  · rw [least_more h h2, hl]
    exact ⟨rfl, hb⟩
  · rw [hn] at h2; cases h2
  · rw [hn] at h2; cases h2
theorem is_cut (s : ByteArray) (hs : s.size ≤ 1000) (h : ref24M (lettersOf s) = true) (k : Nat) (hk : k < s.size) (w : World) :
    Calls Try.prog 27 #[.string (s.extract 0 k)] w fun e w' => e = .returned (.bool false) ∧ Below w.heap.size w w' := by
  have hl := lettersOf_length s
  have := is_any (s.extract 0 k) (by simp; omega) w
  rw [lettersOf_extract] at this
  have hz : zipsM ((lettersOf s).take k) = false := by unfold zipsM; rw [cut_not h (by omega)]; rfl
  rw [hz] at this
  exact this

set_option maxRecDepth 100000 in
set_option maxHeartbeats 2000000 in
theorem zipCuts_walk (s : ByteArray) (cut more : Int) (h1 : 0 ≤ cut ∧ cut ≤ 255) (_ : 0 ≤ more ∧ more ≤ 255) (w : World) : Calls Try.prog 9 #[.string s, .int .u8 cut, .int .u8 more] w fun en w' => en = .returned (.bool true) ∧ Below w.heap.size w w' := by
  by_cases hbig : 40 < s.size
  · go_enter Try.func9, Try.ntmps9
    go_wp2_with fail
    refine (awake23_any _).mono ?_
    rintro en w1 ⟨rfl, hb1⟩
    go_wp2
    go_ret
    exact ⟨rfl, hb1⟩
  · have hs : s.size ≤ 40 := by omega
    have hbb : decide ((40 : Int) < (s.size : Int)) = false := by simp; omega
    cases hr : rightM (lettersOf s)
    · go_enter Try.func9, Try.ntmps9
      go_wp2_with fail
      refine (awake23_any _).mono ?_
      rintro en w1 ⟨rfl, hb1⟩
      go_wp2_with fail
      refine (right_any s (by omega) _).mono ?_
      rw [hr]
      rintro en w2 ⟨rfl, hb2⟩
      go_wp2
      go_ret
      exact ⟨rfl, below_on hb1 hb1.size hb2⟩
    · have h24 : ref24M (lettersOf s) = true := by rw [← right_eq]; exact hr
      have hpos : 0 < s.size := by rw [← lettersOf_length]; exact right_pos h24
      have Hr := Lib.hid hr
      have H24 := Lib.hid h24
      clear hr h24
      obtain ⟨k, hk⟩ : ∃ k : Nat, cut % (s.size : Int) = k := ⟨(cut % (s.size : Int)).toNat, by have := Int.emod_nonneg cut (b := (s.size : Int)) (by omega); omega⟩
      have hkl : k < s.size := by have := Int.emod_lt_of_pos cut (b := (s.size : Int)) (by omega); omega
      have hcv := convert_one more
      have ht : (strOfNums [more]).size = 1 := rfl
      generalize strOfNums [more] = t at *
      go_enter Try.func9, Try.ntmps9
      go_wp2_with fail
      refine (awake23_any _).mono ?_
      rintro en w1 ⟨rfl, hb1⟩
      go_wp2_with fail
      refine (right_any s (by omega) _).mono ?_
      rw [Hr.out]
      rintro en w2 ⟨rfl, hb2⟩
      have hB2 := below_on hb1 hb1.size hb2
      go_wp2_with fail
      refine (zip_cut s (by omega) H24.out k hkl _).mono ?_
      rintro e w3 ⟨rfl, hb3⟩
      have hB3 := below_on hB2 hB2.size hb3
      have k3 := ((Blk.new w3 42 #[.int .i64 0, .slice none 0 0]).alloc (.cells #[.int .u8 more] 5))
      have hB4 := (hB3.alloc hB3.size (.cells #[.int .i64 0, .slice none 0 0] 42)).alloc (by have := hB3.size; simp; omega) (.cells #[.int .u8 more] 5)
      have hcv1 := hcv (w3.alloc (.cells #[.int .i64 0, .slice none 0 0] 42))
      rw [size_alloc'] at hcv1
      clear hb1 hB2 hb2 hb3 hB3 hcv
      have K3 := Lib.hid k3
      have HB4 := Lib.hid hB4
      clear k3 hB4
      go_wp2_with fail
      refine (zip_more s t (by omega) ht H24.out _).mono ?_
      rintro e w4 ⟨rfl, hb4⟩
      have hB5 := below_on HB4.out HB4.out.size hb4
      obtain ⟨l4, q0, -, q1, -⟩ := (K3.out.below hb4 (by simp; omega)).two
      clear hb4
      go_wp2_with fail
      refine (is_cut s (by omega) H24.out k hkl _).mono ?_
      rintro e w5 ⟨rfl, hb5⟩
      have hB6 := below_then hB5 hB5.size hb5
      go_wp2
      go_ret
      exact ⟨rfl, hB6⟩
end Go.Proofs.Ytgjcigokjfhfkaa
