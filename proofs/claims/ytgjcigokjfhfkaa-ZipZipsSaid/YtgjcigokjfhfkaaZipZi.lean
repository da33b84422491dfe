/-
  The law ZipZips, by walking its text.
-/
import Derived.Test.YtgjcigokjfhfkaaR23
import Derived.Test.YtgjcigokjfhfkaaZipOt
namespace Go.Proofs.Ytgjcigokjfhfkaa
open Go.RowKit Go.Maps

set_option maxRecDepth 100000 in
set_option maxHeartbeats 4000000 in
theorem zipZips_walk (s : ByteArray) (w : World) : Calls Try.prog 8 #[.string s] w fun en w' => en = .returned (.bool true) ∧ Below w.heap.size w w' := by
  by_cases hbig : 60 < s.size
  · go_enter Try.func8, Try.ntmps8
    go_wp2_with fail
    refine (awake23_any _).mono ?_
    rintro en w1 ⟨rfl, hb1⟩
    go_wp2
    go_ret
    exact ⟨rfl, hb1⟩
  · have hs : s.size ≤ 60 := by omega
    have hbb : decide ((60 : Int) < (s.size : Int)) = false := by simp; omega
    clear hbig
    go_enter Try.func8, Try.ntmps8
    go_wp2_with fail
    refine (awake23_any _).mono ?_
    rintro en w1 ⟨rfl, hb1⟩
    go_wp2_with fail
    refine (zip_any s (by omega) _).mono ?_
    rintro e w2 ⟨hb2, h⟩
    have hB2 := below_on hb1 hb1.size hb2
    rcases h with ⟨h1, r, h2, rfl⟩ | ⟨h1, k, hk, h2, h3, rfl⟩ | ⟨h1, h2, v, h3, rfl⟩
    · have hz : zipsM (lettersOf s) = false := by unfold zipsM; rw [h1]; rfl
      have h5 := fun W => ref_wrong s (by omega) h1 r h2 W
      have H5 := Lib.hid h5
      have hisv := fun W => is_any s (by omega) W
      rw [hz] at hisv
      have k2 := Blk.new w2 42 #[.int .i64 0, .slice none 0 0]
      clear h1 h2 hz h5
      go_wp2_with fail
      refine (H5.out _).mono ?_
      rintro e w3 ⟨rfl, hb3⟩
      have hB3 := below_then hB2 hB2.size hb3
      obtain ⟨l3, x0, -, x1, -⟩ := ((k2.below hb3 (by simp)).alloc (.cells #[.int .i64 0, .slice none 0 0] 42)).two
      have hB4 := hB3.alloc hB3.size (.cells #[.int .i64 0, .slice none 0 0] 42)
      clear hb1 hb2 hB2 hb3 hB3 k2
      go_wp2_with fail
      refine (same_any 0 0 _ _ [] [] _ (TrisAt.nil _) (TrisAt.nil _) (by simp) (by simp) true (by simp)).mono ?_
      rintro e w4 ⟨rfl, hb4⟩
      have hB5 := below_on hB4 hB4.size hb4
      go_wp2_with fail
      refine (hisv _).mono ?_
      rintro e w5 ⟨rfl, hb5⟩
      have hB6 := below_on hB5 hB5.size hb5
      go_wp2
      go_ret
      exact ⟨by simp, hB6⟩
    · have hz := zipsM_not hk h3
      have h5 := fun W => ref_right s (by omega) h1 W
      have H5 := Lib.hid h5
      have hisv := fun W => is_any s (by omega) W
      rw [hz] at hisv
      have k2 := Blk.new w2 42 #[.int .i64 0, .slice none 0 0]
      have H2 := Lib.hid h2
      have H3 := Lib.hid h3
      clear h1 hz h5 h2 h3
      go_wp2_with fail
      refine (H5.out _).mono ?_
      rintro e w3 ⟨hb3, h⟩
      rcases h with ⟨k', hk', h2', h3', rfl⟩ | ⟨h2', _⟩
      · have hkk : k' = k := by
          rcases Nat.lt_trichotomy k' k with h | h | h
          · have := H2.out k' h; rw [h3'] at this; cases this
          · exact h
          · have := h2' k h; rw [H3.out] at this; cases this
        subst hkk
        have hB3 := below_then hB2 hB2.size hb3
        obtain ⟨l3, x0, -, x1, -⟩ := ((k2.below hb3 (by simp)).alloc (.cells #[.int .i64 0, .slice none 0 0] 42)).two
        have hB4 := hB3.alloc hB3.size (.cells #[.int .i64 0, .slice none 0 0] 42)
        clear hb1 hb2 hB2 hb3 hB3 k2 h2' h3' hk hk'
        go_wp2_with fail
        refine (same_any 0 0 _ _ [] [] _ (TrisAt.nil _) (TrisAt.nil _) (by simp) (by simp) true (by simp)).mono ?_
        rintro e w4 ⟨rfl, hb4⟩
        have hB5 := below_on hB4 hB4.size hb4
        go_wp2_with fail
        refine (hisv _).mono ?_
        rintro e w5 ⟨rfl, hb5⟩
        have hB6 := below_on hB5 hB5.size hb5
        go_wp2
        go_ret
        exact ⟨by simp, hB6⟩
      · exact absurd (h2' k hk) (by rw [H3.out]; simp)
    · have hz := zipsM_all h1 h2
      have h5 := fun W => ref_right s (by omega) h1 W
      have H5 := Lib.hid h5
      have hisv := fun W => is_any s (by omega) W
      rw [hz] at hisv
      have htl : (zmAt (lettersOf s) (lettersOf s).length).T.length ≤ 100 := by rw [zmAt_T_len, lettersOf_length]; omega
      have ht2 : TrisAt w2 v (zmAt (lettersOf s) (lettersOf s).length).T := ⟨_, by rw [zmAt_T_len]; exact h3⟩
      obtain ⟨a2, c2, rfl, -, -⟩ := ht2.form
      have H2 := Lib.hid h2
      clear h1 hz h5 h2 h3
      obtain ⟨N, hN⟩ : ∃ N : Int, ((zmAt (lettersOf s) (lettersOf s).length).n : Int) = N := ⟨_, rfl⟩
      obtain ⟨T, hT⟩ : ∃ T, (zmAt (lettersOf s) (lettersOf s).length).T = T := ⟨_, rfl⟩
      rw [hN]
      rw [hT] at ht2 htl ⊢
      have HN := Lib.hid hN
      have HT := Lib.hid hT
      clear hN hT
      have k2 := Blk.new w2 42 #[.int .i64 N, .slice a2 T.length c2]
      have t2 := ht2.alloc (.cells #[.int .i64 N, .slice a2 T.length c2] 42)
      go_wp2_with fail
      refine (H5.out _).mono ?_
      rintro e w3 ⟨hb3, h⟩
      rw [HN.out, HT.out] at h
      rcases h with ⟨k', hk', h2', h3', rfl⟩ | ⟨h2', v3, ht3, rfl⟩
      · exact absurd (H2.out k' hk') (by rw [h3']; simp)
      · obtain ⟨a3, c3, rfl, -, -⟩ := ht3.form
        have hB3 := below_then hB2 hB2.size hb3
        obtain ⟨l3, x0, -, x1, -⟩ := ((k2.below hb3 (by simp)).alloc (.cells #[.int .i64 N, .slice a3 T.length c3] 42)).two
        have hB4 := hB3.alloc hB3.size (.cells #[.int .i64 N, .slice a3 T.length c3] 42)
        have t2' := (t2.below hb3).alloc (.cells #[.int .i64 N, .slice a3 T.length c3] 42)
        have t3' := ht3.alloc (.cells #[.int .i64 N, .slice a3 T.length c3] 42)
        have HT2 := Lib.hid t2'
        have HT3 := Lib.hid t3'
        clear hb1 hb2 hB2 hb3 hB3 k2 h2' t2 t2' t3' ht2 ht3
        go_wp2_with fail
        refine (same_any N N _ _ T T _ HT2.out HT3.out (by omega) (by omega) true (by simp)).mono ?_
        rintro e w4 ⟨rfl, hb4⟩
        have hB5 := below_on hB4 hB4.size hb4
        go_wp2_with fail
        refine (hisv _).mono ?_
        rintro e w5 ⟨rfl, hb5⟩
        have hB6 := below_on hB5 hB5.size hb5
        go_wp2
        go_ret
        exact ⟨by simp, hB6⟩
end Go.Proofs.Ytgjcigokjfhfkaa
