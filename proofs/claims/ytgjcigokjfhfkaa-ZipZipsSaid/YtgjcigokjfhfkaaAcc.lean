/-
  Package account: Of, Total, Most, by walking their text.
-/
import Derived.Test.YtgjcigokjfhfkaaRight
import Derived.Test.YtgjcigokjfhfkaaCountR
namespace Go.Proofs.Ytgjcigokjfhfkaa
open Go.RowKit

theorem Blk.six {w : World} {g : Nat} {t : TypeId} {a b c d e f : Value} (h : Blk w g t #[a, b, c, d, e, f]) : g < w.heap.size ∧ w.cell? ⟨g, 0, none⟩ = some a ∧ w.cell? ⟨g, 1, none⟩ = some b ∧ w.cell? ⟨g, 2, none⟩ = some c ∧ w.cell? ⟨g, 3, none⟩ = some d ∧ w.cell? ⟨g, 4, none⟩ = some e ∧ w.cell? ⟨g, 5, none⟩ = some f ∧
    w.frozen? ⟨g, 0, none⟩ = false ∧ w.frozen? ⟨g, 1, none⟩ = false ∧ w.frozen? ⟨g, 2, none⟩ = false ∧ w.frozen? ⟨g, 3, none⟩ = false ∧ w.frozen? ⟨g, 4, none⟩ = false ∧ w.frozen? ⟨g, 5, none⟩ = false :=
  ⟨h.lt, h.cell 0, h.cell 1, h.cell 2, h.cell 3, h.cell 4, h.cell 5, h.frozen 0, h.frozen 1, h.frozen 2, h.frozen 3, h.frozen 4, h.frozen 5⟩
/-- Six stores, one after the other: the block holds the six. -/
def six (w : World) (g : Nat) (a b c d e f : Value) : World := (((((w.setCell ⟨g, 0, none⟩ a).setCell ⟨g, 1, none⟩ b).setCell ⟨g, 2, none⟩ c).setCell ⟨g, 3, none⟩ d).setCell ⟨g, 4, none⟩ e).setCell ⟨g, 5, none⟩ f
theorem six_blk {w : World} {g : Nat} {t : TypeId} {a b c d e f a' b' c' d' e' f' : Value} (h : Blk w g t #[a, b, c, d, e, f]) : Blk (six w g a' b' c' d' e' f') g t #[a', b', c', d', e', f'] := by
  have := (((((h.set_ 0 a').set_ 1 b').set_ 2 c').set_ 3 d').set_ 4 e').set_ 5 f'
  simpa [six] using this
theorem six_below {B : Nat} {w0 w : World} {g : Nat} {a b c d e f : Value} (h : Below B w0 w) (hg : B ≤ g) : Below B w0 (six w g a b c d e f) :=
  (((((h.setCell (p := ⟨g, 0, none⟩) hg _).setCell (p := ⟨g, 1, none⟩) hg _).setCell (p := ⟨g, 2, none⟩) hg _).setCell (p := ⟨g, 3, none⟩) hg _).setCell (p := ⟨g, 4, none⟩) hg _).setCell (p := ⟨g, 5, none⟩) hg _

theorem of_right (s : ByteArray) (hs : s.size ≤ 1000000) (h : rightM (lettersOf s) = true) (w : World) :
    Calls Try.prog 14 #[.string s] w fun e w' => e = .returned (.tuple #[.agg #[.int .i64 ((s.size : Int) + 1), .int .i64 s.size, .int .i64 (bitsM (lettersOf s)), .int .i64 0, .int .i64 0, .int .i64 0], .int .i64 0]) ∧ Below w.heap.size w w' := by
  have n1 := cnt_le (lettersOf s) 67
  have n2 := cnt_le (lettersOf s) 76
  have n3 := cnt_le (lettersOf s) 82
  have n4 := cnt_le (lettersOf s) 69
  have n5 := cnt_le (lettersOf s) 83
  rw [lettersOf_length] at n1 n2 n3 n4 n5
  have hB0 : Below w.heap.size w (w.alloc (.cells #[.int .i64 0, .int .i64 0, .int .i64 0, .int .i64 0, .int .i64 0, .int .i64 0] 24)) := (Below.refl _ _).alloc (Nat.le_refl _) _
  have b0 := Blk.new w 24 #[.int .i64 0, .int .i64 0, .int .i64 0, .int .i64 0, .int .i64 0, .int .i64 0]
  go_enter Try.func14, Try.ntmps14
  go_wp2_with fail
  refine (right_any s hs _).mono ?_
  rw [h]
  rintro e w1 ⟨rfl, hb1⟩
  rw [size_alloc'] at hb1
  have b1 := b0.below hb1 (by omega)
  have hB1 := hB0.trans (hb1.mono (Nat.le_succ _))
  go_wp2_with fail
  refine (count_any s hs _).mono ?_
  unfold fiveOf
  rintro e w2 ⟨rfl, hb2⟩
  have b2 := b1.below hb2 b1.lt
  have hB2 := hB1.trans (hb2.mono hB1.size)
  obtain ⟨c0, c1, c2, c3, c4, c5, c6, f1, f2, f3, f4, f5, f6⟩ := b2.six
  go_wp2
  have b4 := six_blk (a' := .int .i64 ((s.size : Int) + 1)) (b' := .int .i64 s.size) (c' := .int .i64 (bitsM (lettersOf s))) (d' := .int .i64 0) (e' := .int .i64 0) (f' := .int .i64 0) b2
  have hB4 := six_below (a := .int .i64 ((s.size : Int) + 1)) (b := .int .i64 s.size) (c := .int .i64 (bitsM (lettersOf s))) (d := .int .i64 0) (e := .int .i64 0) (f := .int .i64 0) hB2 (Nat.le_refl _)
  have hw : six w2 w.heap.size (.int .i64 ((s.size : Int) + 1)) (.int .i64 s.size) (.int .i64 (bitsM (lettersOf s))) (.int .i64 0) (.int .i64 0) (.int .i64 0) = (((((w2.setCell ⟨w.heap.size, 0, none⟩ (.int .i64 ((s.size : Int) + 1))).setCell ⟨w.heap.size, 1, none⟩ (.int .i64 s.size)).setCell ⟨w.heap.size, 2, none⟩ (.int .i64 (cnt (lettersOf s) 67 + 3 * (cnt (lettersOf s) 76 + cnt (lettersOf s) 82 + cnt (lettersOf s) 69 + cnt (lettersOf s) 83)))).setCell ⟨w.heap.size, 3, none⟩ (.int .i64 0)).setCell ⟨w.heap.size, 4, none⟩ (.int .i64 0)).setCell ⟨w.heap.size, 5, none⟩ (.int .i64 0) := rfl
  rw [← hw]
  generalize six w2 w.heap.size (.int .i64 ((s.size : Int) + 1)) (.int .i64 s.size) (.int .i64 (bitsM (lettersOf s))) (.int .i64 0) (.int .i64 0) (.int .i64 0) = W5 at b4 hB4 ⊢
  clear c0 c1 c2 c3 c4 c5 c6 f1 f2 f3 f4 f5 f6 hw
  obtain ⟨c0, c1, c2, c3, c4, c5, c6, -⟩ := b4.six
  exact bodyPost_ret (v := .tuple #[.agg #[.int .i64 ((s.size : Int) + 1), .int .i64 s.size, .int .i64 (bitsM (lettersOf s)), .int .i64 0, .int .i64 0, .int .i64 0], .int .i64 0]) (by simp [results, Try.results14, go_sem, c0, c1, c2, c3, c4, c5, c6]) rfl ⟨rfl, hB4.alloc hB4.size _⟩

theorem of_wrong (s : ByteArray) (hs : s.size ≤ 1000000) (h : rightM (lettersOf s) = false) (w : World) :
    Calls Try.prog 14 #[.string s] w fun e w' => e = .returned (.tuple #[.agg #[.int .i64 0, .int .i64 0, .int .i64 0, .int .i64 0, .int .i64 0, .int .i64 0], .int .i64 3]) ∧ Below w.heap.size w w' := by
  have hB0 : Below w.heap.size w (w.alloc (.cells #[.int .i64 0, .int .i64 0, .int .i64 0, .int .i64 0, .int .i64 0, .int .i64 0] 24)) := (Below.refl _ _).alloc (Nat.le_refl _) _
  have b0 := Blk.new w 24 #[.int .i64 0, .int .i64 0, .int .i64 0, .int .i64 0, .int .i64 0, .int .i64 0]
  go_enter Try.func14, Try.ntmps14
  go_wp2_with fail
  refine (right_any s hs _).mono ?_
  rw [h]
  rintro e w1 ⟨rfl, hb1⟩
  rw [size_alloc'] at hb1
  have b1 := b0.below hb1 (by omega)
  have hB1 := hB0.trans (hb1.mono (Nat.le_succ _))
  obtain ⟨c0, c1, c2, c3, c4, c5, c6, f1, f2, f3, f4, f5, f6⟩ := b1.six
  go_wp2
  have b4 := six_blk (a' := .int .i64 0) (b' := .int .i64 0) (c' := .int .i64 0) (d' := .int .i64 0) (e' := .int .i64 0) (f' := .int .i64 0) b1
  have hB4 := six_below (a := .int .i64 0) (b := .int .i64 0) (c := .int .i64 0) (d := .int .i64 0) (e := .int .i64 0) (f := .int .i64 0) hB1 (Nat.le_refl _)
  have hw : six w1 w.heap.size (.int .i64 0) (.int .i64 0) (.int .i64 0) (.int .i64 0) (.int .i64 0) (.int .i64 0) = (((((w1.setCell ⟨w.heap.size, 0, none⟩ (.int .i64 0)).setCell ⟨w.heap.size, 1, none⟩ (.int .i64 0)).setCell ⟨w.heap.size, 2, none⟩ (.int .i64 0)).setCell ⟨w.heap.size, 3, none⟩ (.int .i64 0)).setCell ⟨w.heap.size, 4, none⟩ (.int .i64 0)).setCell ⟨w.heap.size, 5, none⟩ (.int .i64 0) := rfl
  rw [← hw]
  generalize six w1 w.heap.size (.int .i64 0) (.int .i64 0) (.int .i64 0) (.int .i64 0) (.int .i64 0) (.int .i64 0) = W5 at b4 hB4 ⊢
  clear c0 c1 c2 c3 c4 c5 c6 f1 f2 f3 f4 f5 f6 hw
  obtain ⟨c0, c1, c2, c3, c4, c5, c6, -⟩ := b4.six
  exact bodyPost_ret (v := .tuple #[.agg #[.int .i64 0, .int .i64 0, .int .i64 0, .int .i64 0, .int .i64 0, .int .i64 0], .int .i64 3]) (by simp [results, Try.results14, go_sem, c1, c2, c3, c4, c5, c6]) rfl ⟨rfl, hB4⟩

/-- Total, whatever the bill. -/
theorem total_any (a b c d e f : Int) (w : World) :
    Calls Try.prog 20 #[.agg #[.int .i64 a, .int .i64 b, .int .i64 c, .int .i64 d, .int .i64 e, .int .i64 f]] w fun en w' => en = .returned (.int .i64 (wrap64 (wrap64 (wrap64 (c + d) + e) + f))) ∧ Below w.heap.size w w' := by
  go_enter Try.func20, Try.ntmps20
  go_wp2
  go_ret
  exact ⟨rfl, (Below.refl _ _).alloc (Nat.le_refl _) _⟩

/-- Most, of numbers that are not too great. -/
theorem most_any (t b g h n m : Int) (w : World) (h1 : 0 ≤ t ∧ t ≤ 1000000) (h2 : 0 ≤ b ∧ b ≤ 1000000) (h3 : 0 ≤ g ∧ g ≤ 1000000) (h4 : 0 ≤ h ∧ h ≤ 1000000) (h5 : 0 ≤ n ∧ n ≤ 1000000) (h6 : 0 ≤ m ∧ m ≤ 1000000) :
    Calls Try.prog 19 #[.int .i64 t, .int .i64 b, .int .i64 g, .int .i64 h, .int .i64 n, .int .i64 m] w fun en w' => en = .returned (.int .i64 (2 * (t + b + 2 * g) + 64 * h + 384 * n + 64 * (m + 1))) ∧ w = w' := by
  go_enter Try.func19, Try.ntmps19
  go_wp2
  go_ret
  exact ⟨rfl, rfl⟩

/-- Check of a text that is not right. -/
theorem check_wrong (s : ByteArray) (hs : s.size ≤ 1000000) (h : rightM (lettersOf s) = false) (a b c d e f : Int) (w : World) :
    Calls Try.prog 21 #[.string s, .agg #[.int .i64 a, .int .i64 b, .int .i64 c, .int .i64 d, .int .i64 e, .int .i64 f]] w fun en w' => en = .returned (.bool false) ∧ Below w.heap.size w w' := by
  have b0 := Blk.new w 24 #[.int .i64 a, .int .i64 b, .int .i64 c, .int .i64 d, .int .i64 e, .int .i64 f]
  have hB0 : Below w.heap.size w (w.alloc (.cells #[.int .i64 a, .int .i64 b, .int .i64 c, .int .i64 d, .int .i64 e, .int .i64 f] 24)) := (Below.refl _ _).alloc (Nat.le_refl _) _
  go_enter Try.func21, Try.ntmps21
  go_wp2_with fail
  refine (of_wrong s hs h _).mono ?_
  rintro en w1 ⟨rfl, hb1⟩
  rw [size_alloc'] at hb1
  have b1 := b0.below hb1 (by omega)
  have hB1 := hB0.trans (hb1.mono (Nat.le_succ _))
  obtain ⟨c0, c1, c2, c3, c4, c5, c6, f1, f2, f3, f4, f5, f6⟩ := b1.six
  go_wp2
  go_region
  go_wp2
  go_ret
  exact ⟨rfl, by repeat (first | with_reducible exact hB1 | with_reducible refine Below.drew ?_ | ((with_reducible refine Below.alloc ?_ ?_ _); rotate_left; omega) | ((with_reducible refine Below.setCell (p := ⟨_, _, none⟩) ?_ ?_ _); rotate_left; (first | omega | (simp; omega))))⟩

def checkB (n bits a b c d e f : Int) : Bool := decide (a = n + 1 ∧ b = n ∧ c = bits ∧ 0 ≤ d ∧ 0 ≤ e ∧ 0 ≤ f)
theorem check_right (s : ByteArray) (hs : s.size ≤ 1000000) (h : rightM (lettersOf s) = true) (a b c d e f : Int) (w : World) :
    Calls Try.prog 21 #[.string s, .agg #[.int .i64 a, .int .i64 b, .int .i64 c, .int .i64 d, .int .i64 e, .int .i64 f]] w fun en w' => en = .returned (.bool (checkB s.size (bitsM (lettersOf s)) a b c d e f)) ∧ Below w.heap.size w w' := by
  have b0 := Blk.new w 24 #[.int .i64 a, .int .i64 b, .int .i64 c, .int .i64 d, .int .i64 e, .int .i64 f]
  have hB0 : Below w.heap.size w (w.alloc (.cells #[.int .i64 a, .int .i64 b, .int .i64 c, .int .i64 d, .int .i64 e, .int .i64 f] 24)) := (Below.refl _ _).alloc (Nat.le_refl _) _
  go_enter Try.func21, Try.ntmps21
  go_wp2_with fail
  refine (of_right s hs h _).mono ?_
  rintro en w1 ⟨rfl, hb1⟩
  rw [size_alloc'] at hb1
  have b1 := b0.below hb1 (by omega)
  have hB1 := hB0.trans (hb1.mono (Nat.le_succ _))
  obtain ⟨c0, c1, c2, c3, c4, c5, c6, f1, f2, f3, f4, f5, f6⟩ := b1.six
  go_wp2
  go_region
  go_wp2
  all_goals
    go_ret
    refine ⟨congrArg (fun b => Ending.returned (.bool b)) ?_, ?_⟩
    · unfold checkB
      first
        | (rw [Bool.eq_iff_iff, decide_eq_true_eq, decide_eq_true_eq]; omega)
        | (symm; rw [decide_eq_false_iff_not]; omega)
    · repeat (first | with_reducible exact hB1 | with_reducible refine Below.drew ?_ | ((with_reducible refine Below.alloc ?_ ?_ _); rotate_left; omega) | ((with_reducible refine Below.setCell (p := ⟨_, _, none⟩) ?_ ?_ _); rotate_left; (first | omega | (simp; omega))))

/-- == of two [5]int. -/
theorem eq5 (a b c d e a' b' c' d' e' : Int) (w : World) :
    (Op.equalIn 10000 28 (.agg #[.int .i64 a, .int .i64 b, .int .i64 c, .int .i64 d, .int .i64 e]) (.agg #[.int .i64 a', .int .i64 b', .int .i64 c', .int .i64 d', .int .i64 e'])).run Try.prog w = .ok (a == a' && (b == b' && (c == c' && (d == d' && e == e')))) w := by
  show (Op.equalIn (9998 + 2) _ _ _).run _ _ = _
  rw [Op.equalIn]
  simp [run_underlying Try.underlying28, List.range'_succ, part, go_sem]
  repeat' split
  all_goals simp_all
end Go.Proofs.Ytgjcigokjfhfkaa
