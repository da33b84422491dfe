/-
  The law AccountZip, by walking its text.
-/
import Derived.Test.YtgjcigokjfhfkaaZipIs
import Derived.Test.YtgjcigokjfhfkaaCounts
import Derived.Lib.QuietBelow
namespace Go.Proofs.Ytgjcigokjfhfkaa
open Go.RowKit Go.Maps

theorem zm_n {zs : List Int} (h : ref24M zs = true) : ((zmAt zs zs.length).n : Int) = 3 + cnt zs 67 := by
  have := (zinv_at h zs.length (Nat.le_refl _)).n
  rwa [List.take_length] at this
theorem index5 (a b c d e : Value) (w : World) : (Instr.index 28 (.agg #[a, b, c, d, e]) (.int .i64 0)).run Try.prog w = .ok a w := by
  simp [Instr.index, run_underlying Try.underlying28, part, go_sem]
set_option maxRecDepth 100000 in
set_option maxHeartbeats 2000000 in
theorem accountZip_walk (s : ByteArray) (w : World) : Calls Try.prog 12 #[.string s] w fun en w' => en = .returned (.bool true) ∧ Below w.heap.size w w' := by
  by_cases hbig : 60 < s.size
  · go_enter Try.func12, Try.ntmps12
    go_wp2_with fail
    refine (awake24_any _).mono ?_
    rintro en w1 ⟨rfl, hb1⟩
    go_wp2
    go_ret
    exact ⟨rfl, hb1⟩
  · have hs : s.size ≤ 60 := by omega
    go_enter Try.func12, Try.ntmps12
    go_wp2_with fail
    refine (awake24_any _).mono ?_
    rintro en w1 ⟨rfl, hb1⟩
    go_wp2_with fail
    refine (zip_any s (by omega) _).mono ?_
    rintro e w2 ⟨hb2, h⟩
    have hB2 := below_on hb1 hb1.size hb2
    rcases h with ⟨h1, r, h2, rfl⟩ | ⟨h1, k, hk, h2, h3, rfl⟩ | ⟨h1, h2, v, h3, rfl⟩
    · have hr : rightM (lettersOf s) = false := by rw [right_eq]; exact h1
      clear h1 h2
      go_wp2_with fail
      refine (of_wrong s (by omega) hr _).mono ?_
      rintro e w3 ⟨rfl, hb3⟩
      have hB3 := below_then hB2 hB2.size hb3
      go_wp2
      go_ret
      exact ⟨rfl, hB3.alloc hB3.size _⟩
    · have hr : rightM (lettersOf s) = true := by rw [right_eq]; exact h1
      clear h1 h2 h3 hk
      go_wp2_with fail
      refine (of_right s (by omega) hr _).mono ?_
      rintro e w3 ⟨rfl, hb3⟩
      have hB3 := below_then hB2 hB2.size hb3
      go_wp2
      go_ret
      exact ⟨rfl, hB3.alloc hB3.size _⟩
    · have hr : rightM (lettersOf s) = true := by rw [right_eq]; exact h1
      have hl := lettersOf_length s
      have hN := zm_n h1
      have hcl := cnt_le (lettersOf s) 67
      rw [hl] at h3 hcl
      obtain ⟨g, c, rfl⟩ := ownsRow_succ h3
      rw [hl] at hN ⊢
      generalize (zmAt (lettersOf s) s.size).n = N at *
      have kb := Blk.new w2 42 #[.int .i64 (N : Int), .slice (some ⟨g, 0, none⟩) (s.size + 1) c]
      have HN := Lib.hid hN
      clear h1 h2 h3 hl hN
      go_wp2_with fail
      refine (of_right s (by omega) hr _).mono ?_
      rintro e w3 ⟨rfl, hb3⟩
      have hB3 := below_then hB2 hB2.size hb3
      have k3 := (kb.below hb3 (by simp)).alloc (.cells #[.int .i64 ((s.size : Int) + 1), .int .i64 s.size, .int .i64 (bitsM (lettersOf s)), .int .i64 0, .int .i64 0, .int .i64 0] 24)
      have b3 := Blk.new w3 24 #[.int .i64 ((s.size : Int) + 1), .int .i64 s.size, .int .i64 (bitsM (lettersOf s)), .int .i64 0, .int .i64 0, .int .i64 0]
      have hB4 := hB3.alloc hB3.size (.cells #[.int .i64 ((s.size : Int) + 1), .int .i64 s.size, .int .i64 (bitsM (lettersOf s)), .int .i64 0, .int .i64 0, .int .i64 0] 24)
      have HB4 := Lib.hid hB4
      clear hb1 hB2 hb3 hB3 hB4 hb2 kb hr
      go_wp2
      obtain ⟨l3, a0, -, a1, -⟩ := k3.two
      have x0 := b3.cell 0
      have c0 := cell_regrown a0
      have c1 := cell_regrown a1
      have c2 := cell_regrown (v := .int .i64 ((s.size : Int) + 1)) x0
      have hcn : ((N : Int) == cnt (lettersOf s) 67 + 3) = true := by have := HN.out; simp; omega
      have hwr : IntKind.i64.wrap (cnt (lettersOf s) 67 + 3) = cnt (lettersOf s) 67 + 3 := IntWalk.i64_in _ (by omega)
      clear k3 b3 a0 a1 x0
      have hix := @index5
      have hcnt := count_any s (by omega)
      unfold fiveOf at hcnt
      refine wp_region_quiet_below (by kernel_rfl) (by kernel_rfl) ?_
      repeat (first | go_big_quiet_step ((go_at_call 15; exact Calls.regrown_of (hcnt _))) | (refine wpQuiet_step (fun K hK => ?_); go_simp; refine hK _ ?_; clear hK K))
      refine wpQuiet_nil ?_
      intro _ hw'
      obtain ⟨⟨dq, osq⟩, hw''⟩ := hw'
      subst hw''
      have hB6 := below_on HB4.out HB4.out.size (below_regrown _ dq osq)
      go_wp2
      go_ret
      exact ⟨rfl, hB6⟩
end Go.Proofs.Ytgjcigokjfhfkaa
