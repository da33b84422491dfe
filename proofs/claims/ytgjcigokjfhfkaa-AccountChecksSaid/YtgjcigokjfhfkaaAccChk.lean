/-
  The law AccountChecks, by walking its text.
-/
import Derived.Test.YtgjcigokjfhfkaaRightEq
import Derived.Test.YtgjcigokjfhfkaaAwake24
import Derived.Lib.QuietBelow
namespace Go.Proofs.Ytgjcigokjfhfkaa
open Go.RowKit

set_option maxRecDepth 100000 in
set_option maxHeartbeats 1000000 in
theorem accountChecks_walk (s : ByteArray) (a b c d e f : Int) (w : World) : Calls Try.prog 6 #[.string s, .agg #[.int .i64 a, .int .i64 b, .int .i64 c, .int .i64 d, .int .i64 e, .int .i64 f]] w fun en w' => en = .returned (.bool true) ∧ Below w.heap.size w w' := by
  have hB0 : Below w.heap.size w (w.alloc (.cells #[.int .i64 a, .int .i64 b, .int .i64 c, .int .i64 d, .int .i64 e, .int .i64 f] 24)) := (Below.refl _ _).alloc (Nat.le_refl _) _
  by_cases hbig : 200 < s.size
  · go_enter Try.func6, Try.ntmps6
    go_wp2_with (go_at_call 13; refine (awake24_any _).mono ?_; rintro e w1 ⟨rfl, hb1⟩)
    go_ret
    exact ⟨rfl, below_then (Below.refl _ _) (Nat.le_refl _) hb1⟩
  · have hs : s.size ≤ 1000000 := by omega
    have hR := right_eq (lettersOf s)
    have k0 := Blk.new w 24 #[.int .i64 a, .int .i64 b, .int .i64 c, .int .i64 d, .int .i64 e, .int .i64 f]
    cases hr : ref24M (lettersOf s)
    · rw [hr] at hR
      have ck := check_wrong s hs hR a b c d e f
      have CK := Lib.hid ck
      have Hr := Lib.hid hr
      clear hR hr ck
      go_enter Try.func6, Try.ntmps6
      go_wp2_with fail
      refine (awake24_any _).mono ?_
      rintro en w1 ⟨rfl, hb1⟩
      have hB1 := below_then (Below.refl _ _) (Nat.le_refl _) hb1
      have k1 := k0.below hb1 (by simp)
      go_wp2
      obtain ⟨-, c1, c2, c3, c4, c5, c6, -⟩ := k1.six
      have d1 := cell_regrown c1
      have d2 := cell_regrown c2
      have d3 := cell_regrown c3
      have d4 := cell_regrown c4
      have d5 := cell_regrown c5
      have d6 := cell_regrown c6
      refine wp_region_quiet_below (by kernel_rfl) (by kernel_rfl) ?_
      repeat (go_big_quiet_step ((go_at_call 17; exact Calls.regrown_of (Hr.out ▸ ref24_any s hs _))))
      refine wpQuiet_nil ?_
      intro _ hw'
      obtain ⟨⟨dq, osq⟩, hw''⟩ := hw'
      subst hw''
      have hB2 := below_on hB1 hB1.size (below_regrown w1 dq osq)
      have k2 := k1.below (below_regrown w1 dq osq) k1.lt
      clear c1 c2 c3 c4 c5 c6 d1 d2 d3 d4 d5 d6
      generalize Sort.grow (redrawn w1 dq) osq = w2 at hB2 k2 ⊢
      go_wp2
      obtain ⟨-, c1, c2, c3, c4, c5, c6, -⟩ := k2.six
      have d1 := cell_regrown c1
      have d2 := cell_regrown c2
      have d3 := cell_regrown c3
      have d4 := cell_regrown c4
      have d5 := cell_regrown c5
      have d6 := cell_regrown c6
      refine wp_region_quiet_below (by kernel_rfl) (by kernel_rfl) ?_
      repeat (go_big_quiet_step ((first | (go_at_call 21; exact Calls.regrown_of (CK.out _)) | (go_at_call 20; exact Calls.regrown_of (total_any a b c d e f _)))))
      refine wpQuiet_nil ?_
      intro _ hw'
      obtain ⟨⟨dq', osq'⟩, hw''⟩ := hw'
      subst hw''
      have hB3 := below_on hB2 hB2.size (below_regrown w2 dq' osq')
      go_wp2
      go_ret
      exact ⟨rfl, hB3⟩
    · rw [hr] at hR
      have ck := check_right s hs hR a b c d e f
      have CK := Lib.hid ck
      have Hr := Lib.hid hr
      clear hR hr ck
      have hcase : (a = (s.size : Int) + 1 ∧ b = s.size ∧ c = bitsM (lettersOf s) ∧ 0 ≤ d ∧ 0 ≤ e ∧ 0 ≤ f) ∨ ¬ a = (s.size : Int) + 1 ∨ (a = (s.size : Int) + 1 ∧ ¬ b = s.size) ∨ (a = (s.size : Int) + 1 ∧ b = s.size ∧ ¬ c = bitsM (lettersOf s)) ∨ (a = (s.size : Int) + 1 ∧ b = s.size ∧ c = bitsM (lettersOf s) ∧ d < 0) ∨ (a = (s.size : Int) + 1 ∧ b = s.size ∧ c = bitsM (lettersOf s) ∧ 0 ≤ d ∧ e < 0) ∨ (a = (s.size : Int) + 1 ∧ b = s.size ∧ c = bitsM (lettersOf s) ∧ 0 ≤ d ∧ 0 ≤ e ∧ f < 0) := by omega
      go_enter Try.func6, Try.ntmps6
      go_wp2_with fail
      refine (awake24_any _).mono ?_
      rintro en w1 ⟨rfl, hb1⟩
      have hB1 := below_then (Below.refl _ _) (Nat.le_refl _) hb1
      have k1 := k0.below hb1 (by simp)
      go_wp2
      obtain ⟨-, c1, c2, c3, c4, c5, c6, -⟩ := k1.six
      have d1 := cell_regrown c1
      have d2 := cell_regrown c2
      have d3 := cell_regrown c3
      have d4 := cell_regrown c4
      have d5 := cell_regrown c5
      have d6 := cell_regrown c6
      rcases hcase with ⟨h1, h2, h3, h4, h5, h6⟩ | h1 | ⟨h1, h2⟩ | ⟨h1, h2, h3⟩ | ⟨h1, h2, h3, h4⟩ | ⟨h1, h2, h3, h4, h5⟩ | ⟨h1, h2, h3, h4, h5, h6⟩
      · have ht : checkB s.size (bitsM (lettersOf s)) a b c d e f = true := by
          unfold checkB
          simp only [decide_eq_true_eq]
          omega
        refine wp_region_quiet_below (by kernel_rfl) (by kernel_rfl) ?_
        repeat (go_big_quiet_step ((first | (go_at_call 17; exact Calls.regrown_of (Hr.out ▸ ref24_any s hs _)) | (go_at_call 18; exact Calls.regrown_of (bits24_any s hs _)))))
        refine wpQuiet_nil ?_
        intro _ hw'
        obtain ⟨⟨dq, osq⟩, hw''⟩ := hw'
        subst hw''
        have hB2 := below_on hB1 hB1.size (below_regrown w1 dq osq)
        have k2 := k1.below (below_regrown w1 dq osq) k1.lt
        clear c1 c2 c3 c4 c5 c6 d1 d2 d3 d4 d5 d6 h1 h2 h3 h4 h5 h6
        generalize Sort.grow (redrawn w1 dq) osq = w2 at hB2 k2 ⊢
        go_wp2
        obtain ⟨-, c1, c2, c3, c4, c5, c6, -⟩ := k2.six
        have d1 := cell_regrown c1
        have d2 := cell_regrown c2
        have d3 := cell_regrown c3
        have d4 := cell_regrown c4
        have d5 := cell_regrown c5
        have d6 := cell_regrown c6
        refine wp_region_quiet_below (by kernel_rfl) (by kernel_rfl) ?_
        repeat (go_big_quiet_step ((first | (go_at_call 21; exact Calls.regrown_of (ht ▸ CK.out _)) | (go_at_call 20; exact Calls.regrown_of (total_any a b c d e f _)))))
        refine wpQuiet_nil ?_
        intro _ hw'
        obtain ⟨⟨dq', osq'⟩, hw''⟩ := hw'
        subst hw''
        have hB3 := below_on hB2 hB2.size (below_regrown w2 dq' osq')
        go_wp2
        go_ret
        exact ⟨rfl, hB3⟩
      · have ht : checkB s.size (bitsM (lettersOf s)) a b c d e f = false := by
          unfold checkB
          simp only [decide_eq_false_iff_not]
          omega
        have g1 : (a == (s.size : Int) + 1) = false := beq_eq_false_iff_ne.mpr h1
        refine wp_region_quiet_below (by kernel_rfl) (by kernel_rfl) ?_
        repeat (go_big_quiet_step ((first | (go_at_call 17; exact Calls.regrown_of (Hr.out ▸ ref24_any s hs _)) | (go_at_call 18; exact Calls.regrown_of (bits24_any s hs _)))))
        refine wpQuiet_nil ?_
        intro _ hw'
        obtain ⟨⟨dq, osq⟩, hw''⟩ := hw'
        subst hw''
        have hB2 := below_on hB1 hB1.size (below_regrown w1 dq osq)
        have k2 := k1.below (below_regrown w1 dq osq) k1.lt
        clear c1 c2 c3 c4 c5 c6 d1 d2 d3 d4 d5 d6 g1 h1
        generalize Sort.grow (redrawn w1 dq) osq = w2 at hB2 k2 ⊢
        go_wp2
        obtain ⟨-, c1, c2, c3, c4, c5, c6, -⟩ := k2.six
        have d1 := cell_regrown c1
        have d2 := cell_regrown c2
        have d3 := cell_regrown c3
        have d4 := cell_regrown c4
        have d5 := cell_regrown c5
        have d6 := cell_regrown c6
        refine wp_region_quiet_below (by kernel_rfl) (by kernel_rfl) ?_
        repeat (go_big_quiet_step ((first | (go_at_call 21; exact Calls.regrown_of (ht ▸ CK.out _)) | (go_at_call 20; exact Calls.regrown_of (total_any a b c d e f _)))))
        refine wpQuiet_nil ?_
        intro _ hw'
        obtain ⟨⟨dq', osq'⟩, hw''⟩ := hw'
        subst hw''
        have hB3 := below_on hB2 hB2.size (below_regrown w2 dq' osq')
        go_wp2
        go_ret
        exact ⟨rfl, hB3⟩
      · have ht : checkB s.size (bitsM (lettersOf s)) a b c d e f = false := by
          unfold checkB
          simp only [decide_eq_false_iff_not]
          omega
        have g1 : (b == (s.size : Int)) = false := beq_eq_false_iff_ne.mpr h2
        refine wp_region_quiet_below (by kernel_rfl) (by kernel_rfl) ?_
        repeat (go_big_quiet_step ((first | (go_at_call 17; exact Calls.regrown_of (Hr.out ▸ ref24_any s hs _)) | (go_at_call 18; exact Calls.regrown_of (bits24_any s hs _)))))
        refine wpQuiet_nil ?_
        intro _ hw'
        obtain ⟨⟨dq, osq⟩, hw''⟩ := hw'
        subst hw''
        have hB2 := below_on hB1 hB1.size (below_regrown w1 dq osq)
        have k2 := k1.below (below_regrown w1 dq osq) k1.lt
        clear c1 c2 c3 c4 c5 c6 d1 d2 d3 d4 d5 d6 g1 h1 h2
        generalize Sort.grow (redrawn w1 dq) osq = w2 at hB2 k2 ⊢
        go_wp2
        obtain ⟨-, c1, c2, c3, c4, c5, c6, -⟩ := k2.six
        have d1 := cell_regrown c1
        have d2 := cell_regrown c2
        have d3 := cell_regrown c3
        have d4 := cell_regrown c4
        have d5 := cell_regrown c5
        have d6 := cell_regrown c6
        refine wp_region_quiet_below (by kernel_rfl) (by kernel_rfl) ?_
        repeat (go_big_quiet_step ((first | (go_at_call 21; exact Calls.regrown_of (ht ▸ CK.out _)) | (go_at_call 20; exact Calls.regrown_of (total_any a b c d e f _)))))
        refine wpQuiet_nil ?_
        intro _ hw'
        obtain ⟨⟨dq', osq'⟩, hw''⟩ := hw'
        subst hw''
        have hB3 := below_on hB2 hB2.size (below_regrown w2 dq' osq')
        go_wp2
        go_ret
        exact ⟨rfl, hB3⟩
      · have ht : checkB s.size (bitsM (lettersOf s)) a b c d e f = false := by
          unfold checkB
          simp only [decide_eq_false_iff_not]
          omega
        have g1 : (c == bitsM (lettersOf s)) = false := beq_eq_false_iff_ne.mpr h3
        refine wp_region_quiet_below (by kernel_rfl) (by kernel_rfl) ?_
        repeat (go_big_quiet_step ((first | (go_at_call 17; exact Calls.regrown_of (Hr.out ▸ ref24_any s hs _)) | (go_at_call 18; exact Calls.regrown_of (bits24_any s hs _)))))
        refine wpQuiet_nil ?_
        intro _ hw'
        obtain ⟨⟨dq, osq⟩, hw''⟩ := hw'
        subst hw''
        have hB2 := below_on hB1 hB1.size (below_regrown w1 dq osq)
        have k2 := k1.below (below_regrown w1 dq osq) k1.lt
        clear c1 c2 c3 c4 c5 c6 d1 d2 d3 d4 d5 d6 g1 h1 h2 h3
        generalize Sort.grow (redrawn w1 dq) osq = w2 at hB2 k2 ⊢
        go_wp2
        obtain ⟨-, c1, c2, c3, c4, c5, c6, -⟩ := k2.six
        have d1 := cell_regrown c1
        have d2 := cell_regrown c2
        have d3 := cell_regrown c3
        have d4 := cell_regrown c4
        have d5 := cell_regrown c5
        have d6 := cell_regrown c6
        refine wp_region_quiet_below (by kernel_rfl) (by kernel_rfl) ?_
        repeat (go_big_quiet_step ((first | (go_at_call 21; exact Calls.regrown_of (ht ▸ CK.out _)) | (go_at_call 20; exact Calls.regrown_of (total_any a b c d e f _)))))
        refine wpQuiet_nil ?_
        intro _ hw'
        obtain ⟨⟨dq', osq'⟩, hw''⟩ := hw'
        subst hw''
        have hB3 := below_on hB2 hB2.size (below_regrown w2 dq' osq')
        go_wp2
        go_ret
        exact ⟨rfl, hB3⟩
      · have ht : checkB s.size (bitsM (lettersOf s)) a b c d e f = false := by
          unfold checkB
          simp only [decide_eq_false_iff_not]
          omega
        have g1 : decide (0 ≤ d) = false := decide_eq_false (by omega)
        refine wp_region_quiet_below (by kernel_rfl) (by kernel_rfl) ?_
        repeat (go_big_quiet_step ((first | (go_at_call 17; exact Calls.regrown_of (Hr.out ▸ ref24_any s hs _)) | (go_at_call 18; exact Calls.regrown_of (bits24_any s hs _)))))
        refine wpQuiet_nil ?_
        intro _ hw'
        obtain ⟨⟨dq, osq⟩, hw''⟩ := hw'
        subst hw''
        have hB2 := below_on hB1 hB1.size (below_regrown w1 dq osq)
        have k2 := k1.below (below_regrown w1 dq osq) k1.lt
        clear c1 c2 c3 c4 c5 c6 d1 d2 d3 d4 d5 d6 g1 h1 h2 h3 h4
        generalize Sort.grow (redrawn w1 dq) osq = w2 at hB2 k2 ⊢
        go_wp2
        obtain ⟨-, c1, c2, c3, c4, c5, c6, -⟩ := k2.six
        have d1 := cell_regrown c1
        have d2 := cell_regrown c2
        have d3 := cell_regrown c3
        have d4 := cell_regrown c4
        have d5 := cell_regrown c5
        have d6 := cell_regrown c6
        refine wp_region_quiet_below (by kernel_rfl) (by kernel_rfl) ?_
        repeat (go_big_quiet_step ((first | (go_at_call 21; exact Calls.regrown_of (ht ▸ CK.out _)) | (go_at_call 20; exact Calls.regrown_of (total_any a b c d e f _)))))
        refine wpQuiet_nil ?_
        intro _ hw'
        obtain ⟨⟨dq', osq'⟩, hw''⟩ := hw'
        subst hw''
        have hB3 := below_on hB2 hB2.size (below_regrown w2 dq' osq')
        go_wp2
        go_ret
        exact ⟨rfl, hB3⟩
      · have ht : checkB s.size (bitsM (lettersOf s)) a b c d e f = false := by
          unfold checkB
          simp only [decide_eq_false_iff_not]
          omega
        have g1 : decide (0 ≤ e) = false := decide_eq_false (by omega)
        refine wp_region_quiet_below (by kernel_rfl) (by kernel_rfl) ?_
        repeat (go_big_quiet_step ((first | (go_at_call 17; exact Calls.regrown_of (Hr.out ▸ ref24_any s hs _)) | (go_at_call 18; exact Calls.regrown_of (bits24_any s hs _)))))
        refine wpQuiet_nil ?_
        intro _ hw'
        obtain ⟨⟨dq, osq⟩, hw''⟩ := hw'
        subst hw''
        have hB2 := below_on hB1 hB1.size (below_regrown w1 dq osq)
        have k2 := k1.below (below_regrown w1 dq osq) k1.lt
        clear c1 c2 c3 c4 c5 c6 d1 d2 d3 d4 d5 d6 g1 h1 h2 h3 h4 h5
        generalize Sort.grow (redrawn w1 dq) osq = w2 at hB2 k2 ⊢
        go_wp2
        obtain ⟨-, c1, c2, c3, c4, c5, c6, -⟩ := k2.six
        have d1 := cell_regrown c1
        have d2 := cell_regrown c2
        have d3 := cell_regrown c3
        have d4 := cell_regrown c4
        have d5 := cell_regrown c5
        have d6 := cell_regrown c6
        refine wp_region_quiet_below (by kernel_rfl) (by kernel_rfl) ?_
        repeat (go_big_quiet_step ((first | (go_at_call 21; exact Calls.regrown_of (ht ▸ CK.out _)) | (go_at_call 20; exact Calls.regrown_of (total_any a b c d e f _)))))
        refine wpQuiet_nil ?_
        intro _ hw'
        obtain ⟨⟨dq', osq'⟩, hw''⟩ := hw'
        subst hw''
        have hB3 := below_on hB2 hB2.size (below_regrown w2 dq' osq')
        go_wp2
        go_ret
        exact ⟨rfl, hB3⟩
      · have ht : checkB s.size (bitsM (lettersOf s)) a b c d e f = false := by
          unfold checkB
          simp only [decide_eq_false_iff_not]
          omega
        have g1 : decide (0 ≤ f) = false := decide_eq_false (by omega)
        refine wp_region_quiet_below (by kernel_rfl) (by kernel_rfl) ?_
        repeat (go_big_quiet_step ((first | (go_at_call 17; exact Calls.regrown_of (Hr.out ▸ ref24_any s hs _)) | (go_at_call 18; exact Calls.regrown_of (bits24_any s hs _)))))
        refine wpQuiet_nil ?_
        intro _ hw'
        obtain ⟨⟨dq, osq⟩, hw''⟩ := hw'
        subst hw''
        have hB2 := below_on hB1 hB1.size (below_regrown w1 dq osq)
        have k2 := k1.below (below_regrown w1 dq osq) k1.lt
        clear c1 c2 c3 c4 c5 c6 d1 d2 d3 d4 d5 d6 g1 h1 h2 h3 h4 h5 h6
        generalize Sort.grow (redrawn w1 dq) osq = w2 at hB2 k2 ⊢
        go_wp2
        obtain ⟨-, c1, c2, c3, c4, c5, c6, -⟩ := k2.six
        have d1 := cell_regrown c1
        have d2 := cell_regrown c2
        have d3 := cell_regrown c3
        have d4 := cell_regrown c4
        have d5 := cell_regrown c5
        have d6 := cell_regrown c6
        refine wp_region_quiet_below (by kernel_rfl) (by kernel_rfl) ?_
        repeat (go_big_quiet_step ((first | (go_at_call 21; exact Calls.regrown_of (ht ▸ CK.out _)) | (go_at_call 20; exact Calls.regrown_of (total_any a b c d e f _)))))
        refine wpQuiet_nil ?_
        intro _ hw'
        obtain ⟨⟨dq', osq'⟩, hw''⟩ := hw'
        subst hw''
        have hB3 := below_on hB2 hB2.size (below_regrown w2 dq' osq')
        go_wp2
        go_ret
        exact ⟨rfl, hB3⟩
end Go.Proofs.Ytgjcigokjfhfkaa
