/-
  The law ZipCosts, by walking its text.
-/
import Derived.Test.YtgjcigokjfhfkaaZipIs
import Derived.Test.YtgjcigokjfhfkaaCounts
import Derived.Deep.RegionHeld3
namespace Go.Proofs.Ytgjcigokjfhfkaa
open Go.RowKit Go.Maps

theorem zm_n {zs : List Int} (h : ref24M zs = true) : ((zmAt zs zs.length).n : Int) = 3 + cnt zs 67 := by
  have := (zinv_at h zs.length (Nat.le_refl _)).n
  rwa [List.take_length] at this
theorem wcount_c (zs : List Int) : wcountF zs 67 = cnt zs 67 := by
  unfold wcountF
  rw [if_neg (by decide)]
set_option maxRecDepth 100000 in
set_option maxHeartbeats 2000000 in
theorem zipCosts_walk (s : ByteArray) (w : World) : Calls Try.prog 11 #[.string s] w fun en w' => en = .returned (.bool true) ∧ Below w.heap.size w w' := by
  by_cases hbig : 40 < s.size
  · go_enter Try.func11, Try.ntmps11
    go_wp2_with fail
    refine (awake23_any _).mono ?_
    rintro en w1 ⟨rfl, hb1⟩
    go_wp2
    go_ret
    exact ⟨rfl, hb1⟩
  · have hs : s.size ≤ 40 := by omega
    go_enter Try.func11, Try.ntmps11
    go_wp2_with fail
    refine (awake23_any _).mono ?_
    rintro en w1 ⟨rfl, hb1⟩
    go_wp2_with fail
    refine (zip_any s (by omega) _).mono ?_
    rintro e w2 ⟨hb2, h⟩
    have hB2 := below_on hb1 hb1.size hb2
    rcases h with ⟨h1, r, h2, rfl⟩ | ⟨h1, k, hk, h2, h3, rfl⟩ | ⟨h1, h2, v, h3, rfl⟩
    · go_wp2
      go_ret
      exact ⟨rfl, hB2.alloc hB2.size _⟩
    · go_wp2
      go_ret
      exact ⟨rfl, hB2.alloc hB2.size _⟩
    · have hl := lettersOf_length s
      have hN := zm_n h1
      obtain ⟨r1, r2, r3, r4, r5⟩ := right_counts h1
      have hc := wcount_c (lettersOf s)
      rw [hl] at h3 r3 r4
      obtain ⟨g, c, rfl⟩ := ownsRow_succ h3
      rw [hl] at hN ⊢
      generalize (zmAt (lettersOf s) s.size).n = N at *
      have kb := Blk.new w2 42 #[.int .i64 (N : Int), .slice (some ⟨g, 0, none⟩) (s.size + 1) c]
      have hB3 := hB2.alloc hB2.size (.cells #[.int .i64 (N : Int), .slice (some ⟨g, 0, none⟩) (s.size + 1) c] 42)
      have KB := Lib.hid kb
      have HB3 := Lib.hid hB3
      have d1 : IntKind.i64.wrap ((s.size : Int) + 1) = (s.size : Int) + 1 := IntWalk.i64_in _ (by omega)
      have d2 : IntKind.i64.wrap (2 * ((s.size : Int) + 1)) = 2 * ((s.size : Int) + 1) := IntWalk.i64_in _ (by omega)
      have d3 : IntKind.i64.wrap (2 * ((s.size : Int) + 1) - 1) = 2 * ((s.size : Int) + 1) - 1 := IntWalk.i64_in _ (by omega)
      have d4 : IntKind.i64.wrap (2 * (N : Int)) = 2 * (N : Int) := IntWalk.i64_in _ (by omega)
      have d5 : IntKind.i64.wrap ((s.size : Int) + 1 + 4) = (s.size : Int) + 1 + 4 := IntWalk.i64_in _ (by omega)
      have d6 : IntKind.i64.wrap ((N : Int) - 3) = (N : Int) - 3 := IntWalk.i64_in _ (by omega)
      have q1 : (costM (lettersOf s) == 2 * ((s.size : Int) + 1) - 1) = true := by rw [r5, r4]; simp; omega
      have q2 : (2 * (N : Int) == (s.size : Int) + 1 + 4) = true := by simp; omega
      have q3 : (wcountF (lettersOf s) 67 == (N : Int) - 3) = true := by rw [hc]; simp; omega
      clear h1 h2 h3 hN r1 r2 r3 r4 r5 hc kb hB3 hb1 hb2 hB2 hl
      obtain ⟨l0, k0, -, k1, -⟩ := KB.out.two
      go_wp2
      go_region_held3 (fun w' => w'.cell? ⟨w2.heap.size, 0, none⟩ = some (.int .i64 (N : Int)) ∧ w'.cell? ⟨w2.heap.size, 1, none⟩ = some (.slice (some ⟨g, 0, none⟩) (s.size + 1) c)) (go_keep)
        (first
        | (go_at_call 22; refine (cost_any s (by omega) _).mono ?_; rintro e w3 ⟨rfl, hb3⟩; obtain ⟨l3, a0, -, a1, -⟩ := (KB.out.drew.below hb3 KB.out.drew.lt).two)
        | (go_at_call 29; refine (wcount_any s (by omega) _).mono ?_; rintro e w4 ⟨rfl, hW4, hb4⟩; have hlk := MapI.look (t := 50) hW4 Try.underlying5 Try.underlying50 Try.underlying3 (zero_int _) (z := 67) (by decide); obtain ⟨l4, b0, -, b1, -⟩ := ((KB.out.drew.below hb3 KB.out.drew.lt).below hb4 l3).two))
      all_goals
        go_wp2
        go_ret
        exact ⟨rfl, below_on (below_on HB3.out.drew HB3.out.drew.size hb3) (below_on HB3.out.drew HB3.out.drew.size hb3).size hb4⟩
end Go.Proofs.Ytgjcigokjfhfkaa
