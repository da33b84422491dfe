/-
  The law AccountParts, by walking its text.
-/
import Derived.Test.YtgjcigokjfhfkaaParts
import Derived.Test.YtgjcigokjfhfkaaAwake24
namespace Go.Proofs.Ytgjcigokjfhfkaa
open Go.RowKit

set_option maxRecDepth 100000 in
set_option maxHeartbeats 1000000 in
theorem accountParts_walk (x y : ByteArray) (w : World) : Calls Try.prog 4 #[.string x, .string y] w fun en w' => en = .returned (.bool true) ∧ Below w.heap.size w w' := by
  by_cases hbx : 200 < x.size
  · go_enter Try.func4, Try.ntmps4
    go_wp2_with (go_at_call 13; refine (awake24_any _).mono ?_; rintro e w1 ⟨rfl, hb1⟩)
    go_ret
    exact ⟨rfl, hb1⟩
  have hsx : x.size ≤ 1000000 := by omega
  by_cases hby : 200 < y.size
  · go_enter Try.func4, Try.ntmps4
    go_wp2_with (go_at_call 13; refine (awake24_any _).mono ?_; rintro e w1 ⟨rfl, hb1⟩)
    go_ret
    exact ⟨rfl, hb1⟩
  have hsy : y.size ≤ 1000000 := by omega
  cases hx : ref24M (lettersOf x)
  · have Hx := Lib.hid hx
    clear hx
    go_enter Try.func4, Try.ntmps4
    go_wp2_with fail
    refine (awake24_any _).mono ?_
    rintro e w1 ⟨rfl, hb1⟩
    go_wp2_with fail
    refine (ref24_any x hsx _).mono ?_
    rw [Hx.out]
    rintro e w2 ⟨rfl, hb2⟩
    have hB2 := below_on hb1 hb1.size hb2
    go_wp2
    go_ret
    exact ⟨rfl, hB2⟩
  cases hy : ref24M (lettersOf y)
  · have Hx := Lib.hid hx
    have Hy := Lib.hid hy
    clear hx hy
    go_enter Try.func4, Try.ntmps4
    go_wp2_with fail
    refine (awake24_any _).mono ?_
    rintro e w1 ⟨rfl, hb1⟩
    go_wp2_with fail
    refine (ref24_any x hsx _).mono ?_
    rw [Hx.out]
    rintro e w2 ⟨rfl, hb2⟩
    have hB2 := below_on hb1 hb1.size hb2
    go_wp2_with fail
    refine (ref24_any y hsy _).mono ?_
    rw [Hy.out]
    rintro e w3 ⟨rfl, hb3⟩
    have hB3 := below_on hB2 hB2.size hb3
    go_wp2
    go_ret
    exact ⟨rfl, hB3⟩
  have hz := right_parts hx hy
  have el : lettersOf (⟨#[67, 67, 83]⟩ ++ x ++ y) = 67 :: 67 :: 83 :: (lettersOf x ++ lettersOf y) := by
    rw [lettersOf_append, lettersOf_append]
    rfl
  have ez : (⟨#[67, 67, 83]⟩ ++ x ++ y : ByteArray).size = 3 + x.size + y.size := by
    rw [ByteArray.size_append, ByteArray.size_append]
    rfl
  have bx := (right_counts hx).bits
  have by_ := (right_counts hy).bits
  have bz := (right_counts hz).bits
  have rx := right_eq (lettersOf x)
  have ry := right_eq (lettersOf y)
  have rz := right_eq (67 :: 67 :: 83 :: (lettersOf x ++ lettersOf y))
  rw [hx] at rx
  rw [hy] at ry
  rw [hz] at rz
  rw [← el] at rz bz
  rw [lettersOf_length] at bx by_ bz
  have oz := of_right _ (by rw [ez]; omega) rz
  have ez' : ((⟨#[67, 67, 83]⟩ ++ x ++ y : ByteArray).size : Int) = 3 + (x.size : Int) + (y.size : Int) := by rw [ez]; omega
  rw [bz, ez'] at oz
  have ox := of_right x hsx rx
  rw [bx] at ox
  have oy := of_right y hsy ry
  rw [by_] at oy
  have OX := Lib.hid ox
  have OY := Lib.hid oy
  have OZ := Lib.hid oz
  have Hx := Lib.hid hx
  have Hy := Lib.hid hy
  clear ox oy oz rx ry rz bx by_ bz hx hy hz el ez ez'
  have t1 : (2 * (3 + (x.size : Int) + (y.size : Int)) + 1 == 2 * (x.size : Int) + 1 + (2 * (y.size : Int) + 1) + 5) = true := by rw [beq_iff_eq]; omega
  have t2 : (3 + (x.size : Int) + (y.size : Int) + 1 == (x.size : Int) + 1 + ((y.size : Int) + 1) + 2) = true := by rw [beq_iff_eq]; omega
  go_enter Try.func4, Try.ntmps4
  go_wp2_with fail
  refine (awake24_any _).mono ?_
  rintro e w1 ⟨rfl, hb1⟩
  go_wp2_with fail
  refine (ref24_any x hsx _).mono ?_
  rw [Hx.out]
  rintro e w2 ⟨rfl, hb2⟩
  have hB2 := below_on hb1 hb1.size hb2
  go_wp2_with fail
  refine (ref24_any y hsy _).mono ?_
  rw [Hy.out]
  rintro e w3 ⟨rfl, hb3⟩
  have hB3 := below_on hB2 hB2.size hb3
  go_wp2_with fail
  refine (OX.out _).mono ?_
  rintro e w4 ⟨rfl, hb4⟩
  have hB4 := below_on hB3 hB3.size hb4
  go_wp2_with fail
  refine (OY.out _).mono ?_
  rintro e w5 ⟨rfl, hb5⟩
  have k5 := (Blk.new w4 24 #[.int .i64 ((x.size : Int) + 1), .int .i64 x.size, .int .i64 (2 * (x.size : Int) + 1), .int .i64 0, .int .i64 0, .int .i64 0]).below hb5 (by simp)
  have hB5 := below_then hB4 hB4.size hb5
  go_wp2_with fail
  refine (OZ.out _).mono ?_
  rintro e w6 ⟨rfl, hb6⟩
  have hB6 := below_then hB5 hB5.size hb6
  have k6 := (k5.alloc (.cells #[.int .i64 ((y.size : Int) + 1), .int .i64 y.size, .int .i64 (2 * (y.size : Int) + 1), .int .i64 0, .int .i64 0, .int .i64 0] 24)).below hb6 (by have := k5.lt; simp; omega)
  have j6 := (Blk.new w5 24 #[.int .i64 ((y.size : Int) + 1), .int .i64 y.size, .int .i64 (2 * (y.size : Int) + 1), .int .i64 0, .int .i64 0, .int .i64 0]).below hb6 (by simp)
  have n1 : ¬ w4.heap.size = w6.heap.size := by have := k6.lt; omega
  have n2 : ¬ w5.heap.size = w6.heap.size := by have := j6.lt; omega
  have n3 : w4.heap.size < w6.heap.size := k6.lt
  have n4 : w5.heap.size < w6.heap.size := j6.lt
  obtain ⟨-, c1, c2, c3, c4, c5, c6, -⟩ := k6.six
  obtain ⟨-, d1, d2, d3, d4, d5, d6, -⟩ := j6.six
  go_wp2
  go_ret
  exact ⟨rfl, hB6.alloc hB6.size _⟩
end Go.Proofs.Ytgjcigokjfhfkaa
