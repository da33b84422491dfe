/-
  Package word: (*stack).word, by walking its text.
-/
import Derived.Test.YtgjcigokjfhfkaaWordA
import Derived.Lib.Hide
namespace Go.Proofs.Ytgjcigokjfhfkaa
open Go.RowKit

theorem word_no (base H b : Nat) (st : List Span) (c : Int) (w : World) (h : StackIn w base H b st) (hc : codeN c = 0) :
    Calls Try.prog 45 #[.pointer (some ⟨b, 0, none⟩), .int .u8 c] w fun e w' => e = .returned (.tuple #[.agg #[.int .i64 0, .bool false], .bool false]) ∧ StackIn w' base H b st ∧ w.grownBy w' (some b) := by
  have hc' : codeN c = 0 := hc
  go_enter Try.func45, Try.ntmps45
  go_wp2_with (go_at_call 30; refine (code_any _ _).mono ?_; rintro e w' ⟨rfl, rfl⟩)
  refine bodyPost_ret (v := .tuple #[.agg #[.int .i64 0, .bool false], .bool false]) (by simp [results, Try.results45, go_sem]) rfl ⟨rfl, ?_, ?_⟩
  · exact h.kept (gAlloc (World.grownBy.refl _ _) _)
  · exact gAlloc (World.grownBy.refl _ _) _

theorem word_E (base H b : Nat) (st : List Span) (w : World) (h : StackIn w base H b st) :
    Calls Try.prog 45 #[.pointer (some ⟨b, 0, none⟩), .int .u8 69] w fun e w' => e = .returned (.tuple #[.agg #[.int .i64 3, .bool false], .bool true]) ∧ StackIn w' base H b st ∧ w.grownBy w' (some b) := by
  have hc' : codeN 69 = 3 := rfl
  go_enter Try.func45, Try.ntmps45
  go_wp2_with (go_at_call 30; refine (code_any _ _).mono ?_; rintro e w' ⟨rfl, rfl⟩)
  refine bodyPost_ret (v := .tuple #[.agg #[.int .i64 3, .bool false], .bool true]) (by simp [results, Try.results45, go_sem]) rfl ⟨rfl, ?_, ?_⟩
  · exact h.kept (gAlloc (World.grownBy.refl _ _) _)
  · exact gAlloc (World.grownBy.refl _ _) _

set_option maxHeartbeats 400000 in
theorem word_C (base H b : Nat) (st : List Span) (w : World) (h : StackIn w base H b st) (hH : H ≤ w.heap.size) (hs : sumAbs st ≤ 1000000000000) :
    Calls Try.prog 45 #[.pointer (some ⟨b, 0, none⟩), .int .u8 67] w fun e w' => e = .returned (.tuple #[.agg #[.int .i64 (wordM st 67).1.1, .bool (wordM st 67).1.2], .bool true]) ∧ StackIn w' base H b (popR st) ∧ w.grownBy w' (some b) := by
  have hc' : codeN 67 = 1 := rfl
  have hp := sumAbs_pop st
  have hn := sumAbs_nonneg (popR st)
  have h1 : (popX st).1 ≤ 1000000000003 := by omega
  have h2 : -1000000000003 ≤ (popX st).1 := by omega
  have hbl := h.lt
  go_enter Try.func45, Try.ntmps45
  go_wp2_with (first | (go_at_call 30; refine (code_any _ _).mono ?_; rintro e w' ⟨rfl, rfl⟩) | (go_at_call 52; refine (pop_any base H b st _ (h.kept (gAlloc (World.grownBy.refl _ _) _))).mono ?_; rintro e w1 ⟨rfl, hst, hg⟩; obtain ⟨hlt, k0, f0, k1, f1⟩ := ((Blk.new w 82 #[.int .i64 0, .bool false]).grown hg (by simpa using fun e => Nat.ne_of_lt h.lt e.symm)).two; have hg2 : w.grownBy w1 (some b) := gGrown (gAlloc (World.grownBy.refl _ _) _) hg (fun j e => .inl e)))
  all_goals
    refine bodyPost_ret (v := .tuple #[.agg #[.int .i64 (wordM st 67).1.1, .bool (wordM st 67).1.2], .bool true]) (by simp [results, Try.results45, go_sem, wordM, codeN, *]; try omega) rfl ⟨rfl, ?_, ?_⟩
    · repeat (first | with_reducible exact hst | with_reducible refine StackIn.alloc ?_ _ | ((with_reducible refine StackIn.st_ ?_ ?_ ?_); rotate_left; omega; omega))
    · repeat (first | with_reducible exact hg2 | with_reducible refine gAlloc ?_ _ | ((with_reducible refine gStN ?_ ?_); rotate_left; omega))

set_option maxHeartbeats 400000 in
theorem word_LR (base H b : Nat) (st : List Span) (c : Int) (w : World) (h : StackIn w base H b st) (hH : H ≤ w.heap.size) (hs : sumAbs st ≤ 1000000000000) (hc : c = 76 ∨ c = 82) :
    Calls Try.prog 45 #[.pointer (some ⟨b, 0, none⟩), .int .u8 c] w fun e w' => e = .returned (.tuple #[.agg #[.int .i64 (wordM st c).1.1, .bool (wordM st c).1.2], .bool true]) ∧ StackIn w' base H b (popR st) ∧ w.grownBy w' (some b) := by
  have hc' : codeN c = 3 := by rcases hc with rfl | rfl <;> rfl
  have hc1 : (c == 67) = false := by rcases hc with rfl | rfl <;> rfl
  have hc2 : (c == 69) = false := by rcases hc with rfl | rfl <;> rfl
  have hc3 : (c == 83) = false := by rcases hc with rfl | rfl <;> rfl
  have hm : wordM st c = (((popX st).1 + 1, (popX st).2), true, popR st) := by rcases hc with rfl | rfl <;> simp [wordM, codeN]
  have Hm := Lib.hid hm
  clear hm hc
  have hp := sumAbs_pop st
  have hn := sumAbs_nonneg (popR st)
  have h1 : (popX st).1 ≤ 1000000000003 := by omega
  have h2 : -1000000000003 ≤ (popX st).1 := by omega
  have hbl := h.lt
  go_enter Try.func45, Try.ntmps45
  go_wp2_with (first | (go_at_call 30; refine (code_any _ _).mono ?_; rintro e w' ⟨rfl, rfl⟩) | (go_at_call 52; refine (pop_any base H b st _ (h.kept (gAlloc (World.grownBy.refl _ _) _))).mono ?_; rintro e w1 ⟨rfl, hst, hg⟩; obtain ⟨hlt, k0, f0, k1, f1⟩ := ((Blk.new w 82 #[.int .i64 0, .bool false]).grown hg (by simpa using fun e => Nat.ne_of_lt h.lt e.symm)).two; have hg2 : w.grownBy w1 (some b) := gGrown (gAlloc (World.grownBy.refl _ _) _) hg (fun j e => .inl e)))
  rw [Hm.out]
  refine bodyPost_ret (v := .tuple #[.agg #[.int .i64 ((popX st).1 + 1), .bool (popX st).2], .bool true]) (by simp [results, Try.results45, go_sem, k0, k1, hlt]) rfl ⟨rfl, ?_, ?_⟩
  · repeat (first | with_reducible exact hst | with_reducible refine StackIn.alloc ?_ _ | ((with_reducible refine StackIn.st_ ?_ ?_ ?_); rotate_left; omega; omega))
  · repeat (first | with_reducible exact hg2 | with_reducible refine gAlloc ?_ _ | ((with_reducible refine gStN ?_ ?_); rotate_left; omega))

set_option maxHeartbeats 400000 in
theorem word_S (base H b : Nat) (st : List Span) (w : World) (h : StackIn w base H b st) (hH : H ≤ w.heap.size) (hs : sumAbs st ≤ 1000000000000) :
    Calls Try.prog 45 #[.pointer (some ⟨b, 0, none⟩), .int .u8 83] w fun e w' => e = .returned (.tuple #[.agg #[.int .i64 (wordM st 83).1.1, .bool (wordM st 83).1.2], .bool true]) ∧ StackIn w' base H b (popR (popR st)) ∧ w.grownBy w' (some b) := by
  have hc' : codeN 83 = 3 := rfl
  have hp := sumAbs_pop st
  have hp2 := sumAbs_pop (popR st)
  have hn := sumAbs_nonneg (popR st)
  have hn2 := sumAbs_nonneg (popR (popR st))
  have h1 : (popX st).1 ≤ 1000000000003 := by omega
  have h2 : -1000000000003 ≤ (popX st).1 := by omega
  have h3 : (popX (popR st)).1 ≤ 1000000000006 := by omega
  have h4 : -1000000000006 ≤ (popX (popR st)).1 := by omega
  have hbl := h.lt
  go_enter Try.func45, Try.ntmps45
  go_wp2_with (first | (go_at_call 30; refine (code_any _ _).mono ?_; rintro e w' ⟨rfl, rfl⟩) | fail)
  refine (pop_any base H b st _ (h.kept (gAlloc (World.grownBy.refl _ _) _))).mono ?_
  rintro e w1 ⟨rfl, hst, hg⟩
  have hB := ((Blk.new w 82 #[.int .i64 0, .bool false]).grown hg (by simpa using fun e => Nat.ne_of_lt hbl e.symm))
  obtain ⟨hlt, k0, f0, k1, f1⟩ := hB.two
  go_wp2_with fail
  refine (pop_any base H b (popR st) _ (hst.alloc _)).mono ?_
  rintro e w2 ⟨rfl, hst2, hg2⟩
  clear k0 k1 f0 f1
  obtain ⟨hlt, k0, f0, k1, f1⟩ := ((hB.alloc _).grown hg2 (by simpa using fun e => Nat.ne_of_lt hbl e.symm)).two
  obtain ⟨hlt', m0, g0, m1, g1⟩ := ((Blk.new w1 82 #[.int .i64 (popX st).1, .bool (popX st).2]).grown hg2 (by have := hst.lt; simp; omega)).two
  have hg3 : w.grownBy w2 (some b) := gGrown (gAlloc (gGrown (gAlloc (World.grownBy.refl _ _) _) hg (fun j e => .inl e)) _) hg2 (fun j e => .inl e)
  have hw1 : w.heap.size < w1.heap.size := hB.lt
  have hm : wordM st 83 = (((popX st).1 + (popX (popR st)).1 - 1, (popX st).2 || (popX (popR st)).2), true, popR (popR st)) := by simp [wordM, codeN]
  have Hm := Lib.hid hm
  clear hm hp hp2 hn hn2 hs
  cases hx : (popX st).2 <;> rw [hx] at m1
  all_goals go_wp2
  all_goals
    rw [Hm.out, hx]
    refine bodyPost_ret (v := .tuple #[.agg #[.int .i64 ((popX st).1 + (popX (popR st)).1 - 1), .bool _], .bool true]) (by simp [results, Try.results45, go_sem, k0, k1, hlt]) rfl ⟨rfl, ?_, ?_⟩
    · repeat (first | with_reducible exact hst2 | with_reducible refine StackIn.alloc ?_ _ | ((with_reducible refine StackIn.st_ ?_ ?_ ?_); rotate_left; omega; omega))
    · repeat (first | with_reducible exact hg3 | with_reducible refine gAlloc ?_ _ | ((with_reducible refine gStN ?_ ?_); rotate_left; omega))

/-- word, whatever the letter and the stack. -/
theorem word_any (base H b : Nat) (st : List Span) (c : Int) (w : World) (h : StackIn w base H b st) (hH : H ≤ w.heap.size) (hs : sumAbs st ≤ 1000000000000) :
    Calls Try.prog 45 #[.pointer (some ⟨b, 0, none⟩), .int .u8 c] w fun e w' =>
      e = .returned (.tuple #[.agg #[.int .i64 (wordM st c).1.1, .bool (wordM st c).1.2], .bool (wordM st c).2.1]) ∧ StackIn w' base H b (wordM st c).2.2 ∧ w.grownBy w' (some b) := by
  by_cases h0 : codeN c = 0
  · have e : wordM st c = ((0, false), false, st) := by simp [wordM, h0]
    rw [e]
    exact word_no base H b st c w h h0
  by_cases h1 : c = 69
  · subst h1
    have e : wordM st 69 = ((3, false), true, st) := by simp [wordM, codeN]
    rw [e]
    exact word_E base H b st w h
  by_cases h2 : c = 67
  · subst h2
    have e1 : (wordM st 67).2 = (true, popR st) := by simp [wordM, codeN]
    rw [e1]
    exact word_C base H b st w h hH hs
  by_cases h3 : c = 83
  · subst h3
    have e1 : (wordM st 83).2 = (true, popR (popR st)) := by simp [wordM, codeN]
    rw [e1]
    exact word_S base H b st w h hH hs
  have h4 : c = 76 ∨ c = 82 := by
    unfold codeN at h0
    simp [h1, h2, h3] at h0
    omega
  have e1 : (wordM st c).2 = (true, popR st) := by rcases h4 with rfl | rfl <;> simp [wordM, codeN]
  rw [e1]
  exact word_LR base H b st c w h hH hs h4
end Go.Proofs.Ytgjcigokjfhfkaa
