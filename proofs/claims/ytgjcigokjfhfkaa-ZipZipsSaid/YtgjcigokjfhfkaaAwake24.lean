/-
  The law's own 'awake' (layer 24): it is true.
-/
import Derived.Test.YtgjcigokjfhfkaaAcc
namespace Go.Proofs.Ytgjcigokjfhfkaa
open Go.RowKit

theorem total_small (a b c d e f : Int) (w : World) (h1 : -1000000000 ≤ c ∧ c ≤ 1000000000) (h2 : -1000000000 ≤ d ∧ d ≤ 1000000000) (h3 : -1000000000 ≤ e ∧ e ≤ 1000000000) (h4 : -1000000000 ≤ f ∧ f ≤ 1000000000) :
    Calls Try.prog 20 #[.agg #[.int .i64 a, .int .i64 b, .int .i64 c, .int .i64 d, .int .i64 e, .int .i64 f]] w fun en w' => en = .returned (.int .i64 (c + d + e + f)) ∧ Below w.heap.size w w' := by
  refine (total_any a b c d e f w).mono ?_
  rintro en w' ⟨rfl, hb⟩
  rw [IntWalk.wrap64_in (c + d) (by omega), IntWalk.wrap64_in (c + d + e) (by omega), IntWalk.wrap64_in (c + d + e + f) (by omega)]
  exact ⟨rfl, hb⟩
/-- A callee that kept what lay, behind a block of our own. -/
theorem below_then {B : Nat} {w w1 w2 : World} {o : Obj} (h : Below B w w1) (hB : B ≤ w1.heap.size) (h2 : Below (w1.alloc o).heap.size (w1.alloc o) w2) : Below B w w2 :=
  (h.alloc hB o).trans (h2.mono (by simp; omega))
theorem below_on {B : Nat} {w w1 w2 : World} (h : Below B w w1) (hB : B ≤ w1.heap.size) (h2 : Below w1.heap.size w1 w2) : Below B w w2 := h.trans (h2.mono hB)

set_option maxHeartbeats 1000000 in
set_option maxRecDepth 100000 in
theorem awake24_any (w : World) : Calls Try.prog 13 #[] w fun en w' => en = .returned (.bool true) ∧ Below w.heap.size w w' := by
  have r1 : rightM (lettersOf ⟨#[67, 76, 69]⟩) = true := by decide
  have r2 : rightM (lettersOf ⟨#[67, 69]⟩) = false := by decide
  have r3 : bitsM (lettersOf ⟨#[67, 76, 69]⟩) = 7 := by decide
  have r4 : fiveOf (lettersOf ⟨#[67, 76, 69]⟩) = #[.int .i64 1, .int .i64 1, .int .i64 0, .int .i64 1, .int .i64 0] := by
    have : cnt (lettersOf ⟨#[67, 76, 69]⟩) 67 = 1 ∧ cnt (lettersOf ⟨#[67, 76, 69]⟩) 76 = 1 ∧ cnt (lettersOf ⟨#[67, 76, 69]⟩) 82 = 0 ∧ cnt (lettersOf ⟨#[67, 76, 69]⟩) 69 = 1 ∧ cnt (lettersOf ⟨#[67, 76, 69]⟩) 83 = 0 := by decide
    unfold fiveOf
    rw [this.1, this.2.1, this.2.2.1, this.2.2.2.1, this.2.2.2.2]
  have o1 := of_right ⟨#[67, 76, 69]⟩ (by decide) r1
  have o2 := of_wrong ⟨#[67, 69]⟩ (by decide) r2
  have o3 := count_any ⟨#[67, 76, 69]⟩ (by decide)
  rw [r3] at o1
  rw [r4] at o3
  have O1 := Lib.hid o1
  have O2 := Lib.hid o2
  have O3 := Lib.hid o3
  clear o1 o2 o3 r1 r2 r3 r4
  have q5 := @eq5
  go_enter Try.func13, Try.ntmps13
  go_wp2_with fail
  refine (O1.out _).mono ?_
  rintro e w1 ⟨rfl, hb1⟩
  go_wp2_with fail
  refine (O2.out _).mono ?_
  rintro e w2 ⟨rfl, hb2⟩
  have k1 := (Blk.new w1 24 #[.int .i64 4, .int .i64 3, .int .i64 7, .int .i64 0, .int .i64 0, .int .i64 0]).below hb2 (by simp)
  obtain ⟨c0, c1, c2, c3, c4, c5, c6, -⟩ := k1.six
  clear k1
  have hB2 : Below w.heap.size w w2 := below_then hb1 hb1.size hb2
  have o4 := fun w => total_small 0 0 7 2 3 4 w (by omega) (by omega) (by omega) (by omega)
  have O4 := Lib.hid o4
  clear o4
  go_wp2_with fail
  refine (O4.out _).mono ?_
  rintro e w3 ⟨rfl, hb3⟩
  have hB3 : Below w.heap.size w w3 := below_then hB2 hB2.size hb3
  go_wp2_with fail
  refine (O3.out _).mono ?_
  rintro e w4 ⟨rfl, hb4⟩
  have hB4 : Below w.heap.size w w4 := below_on hB3 hB3.size hb4
  go_wp2
  go_ret
  exact ⟨rfl, hB4⟩
end Go.Proofs.Ytgjcigokjfhfkaa
