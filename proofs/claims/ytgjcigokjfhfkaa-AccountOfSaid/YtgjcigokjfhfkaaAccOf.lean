/-
  The law AccountOf, by walking its text.
-/
import Derived.Test.YtgjcigokjfhfkaaRightEq
import Derived.Test.YtgjcigokjfhfkaaAwake24
import Derived.Lib.QuietBelow
namespace Go.Proofs.Ytgjcigokjfhfkaa
open Go.RowKit

theorem accountOf_walk (s : ByteArray) (w : World) : Calls Try.prog 3 #[.string s] w fun en w' => en = .returned (.bool true) ∧ Below w.heap.size w w' := by
  by_cases hbig : 200 < s.size
  · go_enter Try.func3, Try.ntmps3
    go_wp2_with (go_at_call 13; refine (awake24_any _).mono ?_; rintro e w1 ⟨rfl, hb1⟩)
    go_ret
    exact ⟨rfl, hb1⟩
  · have hs : s.size ≤ 1000000 := by omega
    have hR := right_eq (lettersOf s)
    have q5 := @eq5
    cases hr : rightM (lettersOf s)
    · rw [hr] at hR
      have hR' := hR.symm
      have HR := Lib.hid hR'
      have Hr := Lib.hid hr
      clear hR hR' hr
      go_enter Try.func3, Try.ntmps3
      go_wp2_with fail
      refine (awake24_any _).mono ?_
      rintro e w1 ⟨rfl, hb1⟩
      go_wp2_with fail
      refine (of_wrong s hs Hr.out _).mono ?_
      rintro e w2 ⟨rfl, hb2⟩
      have hB2 := below_on hb1 hb1.size hb2
      go_wp2_with fail
      refine (count_any s hs _).mono ?_
      unfold fiveOf
      rintro e w3 ⟨rfl, hb3⟩
      have k3 := (Blk.new w2 24 #[.int .i64 0, .int .i64 0, .int .i64 0, .int .i64 0, .int .i64 0, .int .i64 0]).below hb3 (by simp)
      have hB3 := below_then hB2 hB2.size hb3
      go_wp2_with fail
      refine (count24_any s hs _).mono ?_
      unfold fiveOf
      rintro e w4 ⟨rfl, hb4⟩
      have k4 := k3.below hb4 k3.lt
      have hB4 := below_on hB3 hB3.size hb4
      go_wp2_with fail
      refine (ref24_any s hs _).mono ?_
      rw [HR.out]
      rintro e w5 ⟨rfl, hb5⟩
      have k5 := k4.below hb5 k4.lt
      have hB5 := below_on hB4 hB4.size hb5
      obtain ⟨c0, c1, c2, c3, c4, c5, c6, -⟩ := k5.six
      go_wp2
      go_ret
      exact ⟨rfl, hB5⟩
    · rw [hr] at hR
      have hR' := hR.symm
      have HR := Lib.hid hR'
      have Hr := Lib.hid hr
      clear hR hR' hr
      go_enter Try.func3, Try.ntmps3
      go_wp2_with fail
      refine (awake24_any _).mono ?_
      rintro e w1 ⟨rfl, hb1⟩
      go_wp2_with fail
      refine (of_right s hs Hr.out _).mono ?_
      rintro e w2 ⟨rfl, hb2⟩
      have hB2 := below_on hb1 hb1.size hb2
      go_wp2_with fail
      refine (count_any s hs _).mono ?_
      unfold fiveOf
      rintro e w3 ⟨rfl, hb3⟩
      have k3 := (Blk.new w2 24 #[.int .i64 ((s.size : Int) + 1), .int .i64 s.size, .int .i64 (bitsM (lettersOf s)), .int .i64 0, .int .i64 0, .int .i64 0]).below hb3 (by simp)
      have hB3 := below_then hB2 hB2.size hb3
      go_wp2_with fail
      refine (count24_any s hs _).mono ?_
      unfold fiveOf
      rintro e w4 ⟨rfl, hb4⟩
      have k4 := k3.below hb4 k3.lt
      have hB4 := below_on hB3 hB3.size hb4
      go_wp2_with fail
      refine (ref24_any s hs _).mono ?_
      rw [HR.out]
      rintro e w5 ⟨rfl, hb5⟩
      have k5 := k4.below hb5 k4.lt
      have hB5 := below_on hB4 hB4.size hb5
      obtain ⟨c0, c1, c2, c3, c4, c5, c6, -⟩ := k5.six
      go_wp2
      have d1 := cell_regrown c1
      have d2 := cell_regrown c2
      have d3 := cell_regrown c3
      have d4 := cell_regrown c4
      have d5 := cell_regrown c5
      have d6 := cell_regrown c6
      refine wp_region_quiet_below (by kernel_rfl) (by kernel_rfl) ?_
      repeat (go_big_quiet_step ((go_at_call 18; exact Calls.regrown_of (bits24_any s hs _))))
      refine wpQuiet_nil ?_
      intro _ hw'
      obtain ⟨⟨dq, osq⟩, hw''⟩ := hw'
      subst hw''
      have hB6 := below_on hB5 hB5.size (below_regrown w5 dq osq)
      go_wp2
      go_ret
      exact ⟨rfl, hB6⟩
end Go.Proofs.Ytgjcigokjfhfkaa
