/-
  (*zipper).step at the letter S, by walking its text.
-/
import Derived.Test.YtgjcigokjfhfkaaStepLR
import Derived.Deep.AppendLies
namespace Go.Proofs.Ytgjcigokjfhfkaa
open Go.RowKit Go.Maps

/-- What stands when a loop more waits. -/
theorem wait_done {w W w1 W4 : World} {base z be bt : Nat} {vT vL vW : Value} {vs : List Value} {m : ZM} {nE nS g1 cap1 N g4 cap4 : Nat} {es : List (Int × Int)} {ss : List Tr} {ys ys' : List Int} {tmp : Obj} (hA : ZSX W base z be bt vT vL vW vs m nE es nS ss)
    (hBl : Below base w W) (hb1 : Below W.heap.size W w1) (hr1 : w1.ownsRow 0 3 1 (.slice (some ⟨g1, 0, none⟩) N cap1) N (ys.map (Value.int .i64))) (hN : ys.length = N) (hy : ys = ys')
    (hg4 : (w1.alloc tmp).grownBy W4 vW.ownBlock) (hr4 : W4.ownsRow base 52 1 (.slice (some ⟨g4, 0, none⟩) (m.waits.length + 1) cap4) (m.waits.length + 1) (vs.reverse ++ [.slice (some ⟨g1, 0, none⟩) N cap1])) :
    ZSX (W4.setCell ⟨z, 3, none⟩ (.slice (some ⟨g4, 0, none⟩) (m.waits.length + 1) cap4)) base z be bt vT vL (.slice (some ⟨g4, 0, none⟩) (m.waits.length + 1) cap4) (.slice (some ⟨g1, 0, none⟩) N cap1 :: vs) { m with waits := ys' :: m.waits } nE es nS ss ∧ Below base w (W4.setCell ⟨z, 3, none⟩ (.slice (some ⟨g4, 0, none⟩) (m.waits.length + 1) cap4)) := by
  subst hy
  subst hN
  have h1 := hA.below hb1
  refine ⟨h1.putW hr1 hg4 hr4, ?_⟩
  have hsz : base ≤ W.heap.size := Nat.le_trans hA.hz (Nat.le_of_lt hA.blk.lt)
  have b1 : Below base w w1 := ⟨hb1.os.trans hBl.os, hb1.tape.trans hBl.tape, hb1.output.trans hBl.output, Nat.le_trans hBl.size hb1.size, fun b hb => (hb1.block b (Nat.lt_of_lt_of_le hb hsz)).trans (hBl.block b hb)⟩
  exact (b1.grown (gGrown (World.grownBy_alloc w1 _ _) hg4 (row := vW.ownBlock) (fun j e => .inl e)) (Nat.le_trans hsz hb1.size) (fun j e => (h1.W.lt j e).1)).setCell (p := ⟨z, 3, none⟩) hA.hz _

set_option maxRecDepth 100000 in
set_option maxHeartbeats 4000000 in
theorem stepS_any {w : World} {base z be bt : Nat} {vT vL vW : Value} {vs : List Value} {m : ZM} (h : ZS w base z be bt vT vL vW vs m) (j : Nat) (hn : 3 ≤ m.loop.length) (hn' : m.loop.length ≤ 900000) (hj : 1 ≤ j) (hj2 : j < m.loop.length) (hw : m.waits.length ≤ 900000) :
    Calls Try.prog 35 #[.pointer (some ⟨z, 0, none⟩), .int .u8 83, .int .i64 (j : Int)] w fun en w' => en = .returned (.int .i64 (m.loop.getD j 0)) ∧ (∃ vL' vW' vs', ZS w' base z be bt vT vL' vW' vs' { m with loop := m.loop.take 1 ++ m.loop.drop j, waits := ((m.loop.drop j).take 1 ++ (m.loop.take j).drop 1) :: m.waits }) ∧ Below base w w' := by
  obtain ⟨nE, nS, hnE, hnS, h⟩ := h
  obtain ⟨i1, hi', hy0, hy1, hy2⟩ := info_parts info_sl
  have hbase : base ≤ w.heap.size := Nat.le_trans h.hz (Nat.le_of_lt h.blk.lt)
  have H := Lib.hid h
  have hzl := h.blk.lt
  obtain ⟨-, c0, c1, c2, c3, c4, c5, fz⟩ := h.blk.six'
  have hL := h.L
  obtain ⟨g, cap, rfl, hcap, hcap'⟩ := loop_form hL (by omega)
  have hgz : g ≠ z := by simpa [Value.ownBlock] using own_blk_ne hL h.blk (by decide)
  have hzW := own_blk_ne h.W h.blk (by decide)
  clear h
  obtain ⟨k, en⟩ : ∃ k, m.loop.length = k + 1 := ⟨m.loop.length - 1, by omega⟩
  rw [en] at hn hn' hcap H hL c2 hj2
  have hA := (H.out.alloc (.cells #[.slice (some ⟨g, j, none⟩) 1 (cap - j), .slice (some ⟨g, 1, none⟩) (j - 1) (cap - 1)] 52)).drew.drew
  have hB : Blk ((w.alloc (.cells #[.slice (some ⟨g, j, none⟩) 1 (cap - j), .slice (some ⟨g, 1, none⟩) (j - 1) (cap - 1)] 52)).drew.drew) w.heap.size 52 #[.slice (some ⟨g, j, none⟩) 1 (cap - j), .slice (some ⟨g, 1, none⟩) (j - 1) (cap - 1)] := Blk.new _ _ _
  have hBl : Below base w ((w.alloc (.cells #[.slice (some ⟨g, j, none⟩) 1 (cap - j), .slice (some ⟨g, 1, none⟩) (j - 1) (cap - 1)] 52)).drew.drew) := (((Below.refl base w).alloc hbase _).drew).drew
  have hA5 := hA.L
  rw [en] at hA5
  have j1 := ints_part hA5 j 1 (cap - j) rfl (by omega) en
  have j2 := ints_part hA5 1 (j - 1) (cap - 1) rfl (by omega) en
  have HA := Lib.hid hA
  have HB := Lib.hid hB
  have HBl := Lib.hid hBl
  have J1 := Lib.hid j1
  have J2 := Lib.hid j2
  have eN : ((m.loop.drop j).take 1 ++ (m.loop.drop 1).take (j - 1)).length = j := by simp; omega
  have e2 : (m.loop.drop j).take 1 ++ (m.loop.drop 1).take (j - 1) = (m.loop.drop j).take 1 ++ (m.loop.take j).drop 1 := by
    rw [List.drop_take]
  have EN := Lib.hid eN
  have E2 := Lib.hid e2
  have En := Lib.hid en
  have HW := Lib.hid hw
  clear hA hB hBl hA5 j1 j2 hL eN e2 en hw
  have d1 : IntKind.i64.wrap ((j : Int) + 1) = (j : Int) + 1 := IntWalk.i64_in _ (by omega)
  have d2 : (0 : Int) ≤ (j : Int) := by omega
  have d3 : (j : Int) ≤ (cap : Int) := by omega
  have d4 : (1 : Int) ≤ (j : Int) := by omega
  have d5 : (j : Int) ≤ (j : Int) + 1 := by omega
  have d6 : (j : Int) + 1 ≤ (cap : Int) := by omega
  have d7 : (j : Int) ≤ (k : Int) + 1 := by omega
  have d8 : (j : Int) < (k : Int) + 1 := by omega
  have f3 : m.waits.length + 1 ≤ maxLen := by have := HW.out; unfold maxLen; omega
  have f4 : (m.waits.length + 1) * 24 ≤ 140737488355328 := by have := HW.out; omega
  have F3 := Lib.hid f3
  have F4 := Lib.hid f4
  clear f3 f4
  generalize hx : m.loop.getD j 0 = x
  have Hx := Lib.hid hx
  clear hx
  go_enter Try.func35, Try.ntmps35
  go_wp2
  go_region
  go_wp2
  go_region_law (first
    | (refine step_append_lies _ (by rfl) (.tmp 89) (.tmp 100) 65 (by rfl) base 52 i1 _ 1 24 Try.underlying65 hi' hy0 hy1 hy2 (by rfl) (by decide) vW m.waits.length vs.reverse (by rfl) ((HA.out.below hb1).W.alloc _) ⟨w1.heap.size, 0, none⟩ 1 1 [.slice (some ⟨g1, 0, none⟩) j cap1] (by rfl) (by rfl) (World.news_of_block (heap_alloc_new _ _)) (by simp [Value.oneCell']) (by decide) F3.out F4.out (by simp; have := hb1.size; simp at this; omega) (w1.heap.size + 1) (by simp) ?_; intro g4 cap4 W4 hr4 hg4 hat4 hlt4; obtain ⟨-, b0, b1, b2, b3, b4, b5, dz⟩ := (((HA.out.below hb1).blk.alloc _).grown hg4 (fun e => hzW e.symm)).six')
    | (go_simp; go_wp2_with (go_at_call 48; refine (concat_two HB.out J1.out J2.out EN.out (by omega) (by omega)).mono ?_; rintro e w1 ⟨g1, cap1, rfl, hr1, hb1⟩; obtain ⟨-, a0, a1, a2, a3, a4, a5, az⟩ := (HA.out.below hb1).blk.six'; have zl1 := (HA.out.below hb1).blk.lt)))
  all_goals
    have hX := wait_done HA.out HBl.out hb1 hr1 EN.out E2.out hg4 hr4
    have hA2 := (hX.1.alloc (.cells #[.slice (some ⟨g, 0, none⟩) 1 cap, .slice (some ⟨g, j, none⟩) (k + 1 - j) (cap - j)] 52)).drew
    have hB2 : Blk ((W4.setCell ⟨z, 3, none⟩ (.slice (some ⟨g4, 0, none⟩) (m.waits.length + 1) cap4)).alloc (.cells #[.slice (some ⟨g, 0, none⟩) 1 cap, .slice (some ⟨g, j, none⟩) (k + 1 - j) (cap - j)] 52)).drew W4.heap.size 52 #[.slice (some ⟨g, 0, none⟩) 1 cap, .slice (some ⟨g, j, none⟩) (k + 1 - j) (cap - j)] := by
      have := Blk.new (W4.setCell ⟨z, 3, none⟩ (.slice (some ⟨g4, 0, none⟩) (m.waits.length + 1) cap4)) 52 #[.slice (some ⟨g, 0, none⟩) 1 cap, .slice (some ⟨g, j, none⟩) (k + 1 - j) (cap - j)]
      rw [size_setCell'] at this
      exact this
    have hBl2 := (hX.2.alloc (Nat.le_trans hX.1.hz (Nat.le_of_lt hX.1.blk.lt)) (.cells #[.slice (some ⟨g, 0, none⟩) 1 cap, .slice (some ⟨g, j, none⟩) (k + 1 - j) (cap - j)] 52)).drew
    have hA5 := hA2.L
    simp only at hA5
    rw [En.out] at hA5
    have j1 := ints_part hA5 0 1 cap rfl (by have := En.out; omega) En.out
    have j2 := ints_part hA5 j (k + 1 - j) (cap - j) rfl (by have := En.out; omega) En.out
    have eN : ((m.loop.drop 0).take 1 ++ (m.loop.drop j).take (k + 1 - j)).length = k + 1 - j + 1 := by have := En.out; simp; omega
    have e2 : (m.loop.drop 0).take 1 ++ (m.loop.drop j).take (k + 1 - j) = m.loop.take 1 ++ m.loop.drop j := by
      rw [List.drop_zero, List.take_of_length_le (l := m.loop.drop j) (by have := En.out; simp; omega)]
    have HA2 := Lib.hid hA2
    have HB2 := Lib.hid hB2
    have HBl2 := Lib.hid hBl2
    have J3 := Lib.hid j1
    have J4 := Lib.hid j2
    have EN2 := Lib.hid eN
    have E22 := Lib.hid e2
    clear hX hA2 hB2 hBl2 hA5 j1 j2 eN e2
    go_wp2
    go_region_with (go_at_call 48; refine (concat_two HB2.out J3.out J4.out EN2.out (by omega) (by omega)).mono ?_; rintro e w2 ⟨g2, cap2, rfl, hr2, hb2⟩; obtain ⟨-, x0, x1, x2, x3, x4, x5, xz⟩ := (HA2.out.below hb2).blk.six'; have r0 := loop_cell (k := j) (by have := (HA2.out.below hb2).L; simp only at this; rw [En.out] at this; exact this) (by omega) En.out; rw [Hx.out] at r0)
    all_goals
      go_wp2
      go_ret
      have := step_done HA2.out hnE hnS HBl2.out hb2 hr2 EN2.out E22.out
      obtain ⟨⟨vL', h5⟩, h6⟩ := this
      exact ⟨rfl, ⟨_, _, _, h5⟩, h6⟩
end Go.Proofs.Ytgjcigokjfhfkaa
