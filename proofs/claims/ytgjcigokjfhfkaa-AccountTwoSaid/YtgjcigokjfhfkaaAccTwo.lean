/-
  The law AccountTwo, by walking its text.
-/
import Derived.Test.YtgjcigokjfhfkaaCounts
import Derived.Test.YtgjcigokjfhfkaaAwake24
import Derived.Lib.QuietBelow
namespace Go.Proofs.Ytgjcigokjfhfkaa
open Go.RowKit

set_option maxRecDepth 100000 in
set_option maxHeartbeats 1000000 in
theorem accountTwo_walk (s : ByteArray) (w : World) : Calls Try.prog 7 #[.string s] w fun en w' => en = .returned (.bool true) ∧ Below w.heap.size w w' := by
  by_cases hbig : 200 < s.size
  · go_enter Try.func7, Try.ntmps7
    go_wp2_with (go_at_call 13; refine (awake24_any _).mono ?_; rintro e w1 ⟨rfl, hb1⟩)
    go_ret
    exact ⟨rfl, hb1⟩
  · have hs : s.size ≤ 1000000 := by omega
    have hR := right_eq (lettersOf s)
    cases hr : ref24M (lettersOf s)
    · have Hr := Lib.hid hr
      clear hr hR
      go_enter Try.func7, Try.ntmps7
      go_wp2_with fail
      refine (awake24_any _).mono ?_
      rintro e w1 ⟨rfl, hb1⟩
      go_wp2_with fail
      refine (ref24_any s hs _).mono ?_
      rw [Hr.out]
      rintro e w2 ⟨rfl, hb2⟩
      have hB2 := below_on hb1 hb1.size hb2
      go_wp2
      go_ret
      exact ⟨rfl, hB2⟩
    · rw [hr] at hR
      obtain ⟨q1, q2, q3, q4, q5⟩ := right_counts hr
      rw [lettersOf_length] at q3 q4
      have n1 := cnt_le (lettersOf s) 67
      have n2 := cnt_le (lettersOf s) 76
      have n3 := cnt_le (lettersOf s) 82
      have n4 := cnt_le (lettersOf s) 69
      have n5 := cnt_le (lettersOf s) 83
      rw [lettersOf_length] at n1 n2 n3 n4 n5
      have ck := check_right s hs hR ((s.size : Int) + 1) s.size (bitsM (lettersOf s)) 0 0 0
      have ck2 : checkB s.size (bitsM (lettersOf s)) ((s.size : Int) + 1) s.size (bitsM (lettersOf s)) 0 0 0 = true := by simp [checkB]
      rw [ck2] at ck
      have tt := total_small ((s.size : Int) + 1) s.size (bitsM (lettersOf s)) 0 0 0
      have hbits : -1000000000 ≤ bitsM (lettersOf s) ∧ bitsM (lettersOf s) ≤ 1000000000 := by omega
      have e4 : bitsM (lettersOf s) + 0 + 0 + 0 = bitsM (lettersOf s) := by omega
      rw [e4] at tt
      have cc := cost_any s hs
      rw [q5] at cc
      have t1 : (cnt (lettersOf s) 69 == cnt (lettersOf s) 83 + 1) = true := by rw [q1]; simp
      have t2 : (cnt (lettersOf s) 67 == cnt (lettersOf s) 76 + cnt (lettersOf s) 82 + 2 * cnt (lettersOf s) 83) = true := by rw [q2]; simp
      have t3 : (bitsM (lettersOf s) == 2 * ((s.size : Int) + 1) - 1) = true := by rw [q4]; simp; omega
      have HR := Lib.hid hR
      have Hr := Lib.hid hr
      have CK := Lib.hid ck
      have TT := Lib.hid tt
      have CC := Lib.hid cc
      clear ck ck2 tt cc e4 hR hr q1 q2 q3 q4 q5
      go_enter Try.func7, Try.ntmps7
      go_wp2_with fail
      refine (awake24_any _).mono ?_
      rintro e w1 ⟨rfl, hb1⟩
      go_wp2_with fail
      refine (ref24_any s hs _).mono ?_
      rw [Hr.out]
      rintro e w2 ⟨rfl, hb2⟩
      have hB2 := below_on hb1 hb1.size hb2
      go_wp2_with fail
      refine (of_right s hs HR.out _).mono ?_
      rintro e w3 ⟨rfl, hb3⟩
      have hB3 := below_on hB2 hB2.size hb3
      go_wp2_with fail
      refine (count_any s hs _).mono ?_
      unfold fiveOf
      rintro e w4 ⟨rfl, hb4⟩
      have k4 := (Blk.new w3 24 #[.int .i64 ((s.size : Int) + 1), .int .i64 s.size, .int .i64 (bitsM (lettersOf s)), .int .i64 0, .int .i64 0, .int .i64 0]).below hb4 (by simp)
      have hB4 := below_then hB3 hB3.size hb4
      have k5 := k4.alloc (.cells #[.int .i64 (cnt (lettersOf s) 67), .int .i64 (cnt (lettersOf s) 76), .int .i64 (cnt (lettersOf s) 82), .int .i64 (cnt (lettersOf s) 69), .int .i64 (cnt (lettersOf s) 83)] 28)
      have f5 := Blk.new w4 28 #[.int .i64 (cnt (lettersOf s) 67), .int .i64 (cnt (lettersOf s) 76), .int .i64 (cnt (lettersOf s) 82), .int .i64 (cnt (lettersOf s) 69), .int .i64 (cnt (lettersOf s) 83)]
      have hB5 := hB4.alloc hB4.size (.cells #[.int .i64 (cnt (lettersOf s) 67), .int .i64 (cnt (lettersOf s) 76), .int .i64 (cnt (lettersOf s) 82), .int .i64 (cnt (lettersOf s) 69), .int .i64 (cnt (lettersOf s) 83)] 28)
      go_wp2
      generalize (w4.alloc (.cells #[.int .i64 (cnt (lettersOf s) 67), .int .i64 (cnt (lettersOf s) 76), .int .i64 (cnt (lettersOf s) 82), .int .i64 (cnt (lettersOf s) 69), .int .i64 (cnt (lettersOf s) 83)] 28)) = w5 at k5 f5 hB5 ⊢
      obtain ⟨-, c1, c2, c3, c4, c5, c6, -⟩ := k5.six
      obtain ⟨-, b1, b2, b3, b4, b5, -⟩ := f5.five
      have d1 := cell_regrown c1
      have d2 := cell_regrown c2
      have d3 := cell_regrown c3
      have d4 := cell_regrown c4
      have d5 := cell_regrown c5
      have d6 := cell_regrown c6
      have g1 := cell_regrown b1
      have g2 := cell_regrown b2
      have g3 := cell_regrown b3
      have g4 := cell_regrown b4
      have g5 := cell_regrown b5
      refine wp_region_quiet_below (by kernel_rfl) (by kernel_rfl) ?_
      repeat (go_big_quiet_step ((first | (go_at_call 22; exact Calls.regrown_of (CC.out _)) | (go_at_call 20; exact Calls.regrown_of (TT.out _ hbits (by omega) (by omega) (by omega))) | (go_at_call 21; exact Calls.regrown_of (CK.out _)))))
      refine wpQuiet_nil ?_
      intro _ hw'
      obtain ⟨⟨dq, osq⟩, hw''⟩ := hw'
      subst hw''
      have hB6 := below_on hB5 hB5.size (below_regrown w5 dq osq)
      go_wp2
      go_ret
      exact ⟨rfl, hB6⟩
end Go.Proofs.Ytgjcigokjfhfkaa
