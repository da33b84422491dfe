/-
  (*zipper).step at the letters L and R, by walking its text.
-/
import Derived.Test.YtgjcigokjfhfkaaStep
namespace Go.Proofs.Ytgjcigokjfhfkaa
open Go.RowKit Go.Maps

theorem loop_cell {w : World} {g n cap k : Nat} {xs : List Int} (h : w.ownsRow 0 3 1 (.slice (some ⟨g, 0, none⟩) n cap) n (xs.map (Value.int .i64))) (hk : k < n) (hn : xs.length = n) : w.cell? ⟨g, k, none⟩ = some (.int .i64 (xs.getD k 0)) := by
  rw [h.cellAt k (by omega), List.getElem?_map, List.getElem?_eq_getElem (by omega)]
  simp [List.getD, List.getElem?_eq_getElem (show k < xs.length by omega)]

set_option maxRecDepth 100000 in
set_option maxHeartbeats 2000000 in
theorem stepL_any {w : World} {base z be bt : Nat} {vT vL vW : Value} {vs : List Value} {m : ZM} (h : ZS w base z be bt vT vL vW vs m) (i : Int) (hn : 3 ≤ m.loop.length) (hn' : m.loop.length ≤ 900000) :
    Calls Try.prog 35 #[.pointer (some ⟨z, 0, none⟩), .int .u8 76, .int .i64 i] w fun en w' => en = .returned (.int .i64 (m.loop.getD (m.loop.length - 1) 0)) ∧ (∃ vL', ZS w' base z be bt vT vL' vW vs { m with loop := m.loop.drop (m.loop.length - 1) ++ (m.loop.take (m.loop.length - 1)).drop 1 }) ∧ Below base w w' := by
  obtain ⟨nE, nS, hnE, hnS, h⟩ := h
  have hbase : base ≤ w.heap.size := Nat.le_trans h.hz (Nat.le_of_lt h.blk.lt)
  have H := Lib.hid h
  have hzl := h.blk.lt
  obtain ⟨-, c0, c1, c2, c3, c4, c5, fz⟩ := h.blk.six'
  have hL := h.L
  obtain ⟨g, cap, rfl, hcap, hcap'⟩ := loop_form hL (by omega)
  have hgz : g ≠ z := by simpa [Value.ownBlock] using own_blk_ne hL h.blk (by decide)
  clear h
  obtain ⟨k, en⟩ : ∃ k, m.loop.length = k + 1 := ⟨m.loop.length - 1, by omega⟩
  rw [en] at hn hn' hcap H hL c2 ⊢
  have hA := (H.out.alloc (.cells #[.slice (some ⟨g, k, none⟩) 1 (cap - k), .slice (some ⟨g, 1, none⟩) (k - 1) (cap - 1)] 52)).drew.drew
  have hB : Blk ((w.alloc (.cells #[.slice (some ⟨g, k, none⟩) 1 (cap - k), .slice (some ⟨g, 1, none⟩) (k - 1) (cap - 1)] 52)).drew.drew) w.heap.size 52 #[.slice (some ⟨g, k, none⟩) 1 (cap - k), .slice (some ⟨g, 1, none⟩) (k - 1) (cap - 1)] := Blk.new _ _ _
  have hBl : Below base w ((w.alloc (.cells #[.slice (some ⟨g, k, none⟩) 1 (cap - k), .slice (some ⟨g, 1, none⟩) (k - 1) (cap - 1)] 52)).drew.drew) := (((Below.refl base w).alloc hbase _).drew).drew
  have hA5 := hA.L
  rw [en] at hA5
  have j1 := ints_part hA5 k 1 (cap - k) rfl (by omega) en
  have j2 := ints_part hA5 1 (k - 1) (cap - 1) rfl (by omega) en
  have HA := Lib.hid hA
  have HB := Lib.hid hB
  have HBl := Lib.hid hBl
  have J1 := Lib.hid j1
  have J2 := Lib.hid j2
  have eN : ((m.loop.drop k).take 1 ++ (m.loop.drop 1).take (k - 1)).length = k := by simp; omega
  have e2 : (m.loop.drop k).take 1 ++ (m.loop.drop 1).take (k - 1) = m.loop.drop k ++ (m.loop.take k).drop 1 := by
    rw [List.drop_take, List.take_of_length_le (l := m.loop.drop k) (by simp; omega)]
  have EN := Lib.hid eN
  have E2 := Lib.hid e2
  have En := Lib.hid en
  clear hA hB hBl hA5 j1 j2 hL eN e2 en
  have d1 : IntKind.i64.wrap ((k : Int) + 1 - 1) = (k : Int) := by rw [IntWalk.i64_in _ (by omega)]; omega
  have d1b : IntKind.i64.wrap (k : Int) = (k : Int) := IntWalk.i64_in _ (by omega)
  have d1c : (k : Int) < (k : Int) + 1 := by omega
  have d2 : (0 : Int) ≤ (k : Int) := by omega
  have d3 : (k : Int) ≤ (cap : Int) := by omega
  have d4 : (1 : Int) ≤ (k : Int) := by omega
  have d5 : (k : Int) ≤ (k : Int) + 1 := by omega
  have d6 : k + 1 - 1 = k := by omega
  rw [d6]
  clear d6
  generalize hx : m.loop.getD k 0 = x
  have Hx := Lib.hid hx
  clear hx
  go_enter Try.func35, Try.ntmps35
  go_wp2
  go_region
  go_wp2
  go_region_with (go_at_call 48; refine (concat_two HB.out J1.out J2.out EN.out (by omega) (by omega)).mono ?_; rintro e w1 ⟨g1, cap1, rfl, hr1, hb1⟩; obtain ⟨-, b0, b1, b2, b3, b4, b5, dz⟩ := (HA.out.below hb1).blk.six'; have r0 := loop_cell (k := k) (by have := (HA.out.below hb1).L; rw [En.out] at this; exact this) (by omega) En.out; rw [Hx.out] at r0)
  all_goals
    go_wp2
    go_ret
    have := step_done HA.out hnE hnS HBl.out hb1 hr1 EN.out E2.out
    exact ⟨rfl, this.1, this.2⟩

set_option maxRecDepth 100000 in
set_option maxHeartbeats 2000000 in
theorem stepR_any {w : World} {base z be bt : Nat} {vT vL vW : Value} {vs : List Value} {m : ZM} (h : ZS w base z be bt vT vL vW vs m) (i : Int) (hn : 3 ≤ m.loop.length) (hn' : m.loop.length ≤ 900000) :
    Calls Try.prog 35 #[.pointer (some ⟨z, 0, none⟩), .int .u8 82, .int .i64 i] w fun en w' => en = .returned (.int .i64 (m.loop.getD 2 0)) ∧ (∃ vL', ZS w' base z be bt vT vL' vW vs { m with loop := m.loop.take 1 ++ m.loop.drop 2 }) ∧ Below base w w' := by
  obtain ⟨nE, nS, hnE, hnS, h⟩ := h
  have hbase : base ≤ w.heap.size := Nat.le_trans h.hz (Nat.le_of_lt h.blk.lt)
  have H := Lib.hid h
  have hzl := h.blk.lt
  obtain ⟨-, c0, c1, c2, c3, c4, c5, fz⟩ := h.blk.six'
  have hL := h.L
  obtain ⟨g, cap, rfl, hcap, hcap'⟩ := loop_form hL (by omega)
  have hgz : g ≠ z := by simpa [Value.ownBlock] using own_blk_ne hL h.blk (by decide)
  clear h
  obtain ⟨n, en⟩ : ∃ n, m.loop.length = n := ⟨_, rfl⟩
  rw [en] at hn hn' hcap H hL c2
  have hA := (H.out.alloc (.cells #[.slice (some ⟨g, 0, none⟩) 1 cap, .slice (some ⟨g, 2, none⟩) (n - 2) (cap - 2)] 52)).drew.drew
  have hB : Blk ((w.alloc (.cells #[.slice (some ⟨g, 0, none⟩) 1 cap, .slice (some ⟨g, 2, none⟩) (n - 2) (cap - 2)] 52)).drew.drew) w.heap.size 52 #[.slice (some ⟨g, 0, none⟩) 1 cap, .slice (some ⟨g, 2, none⟩) (n - 2) (cap - 2)] := Blk.new _ _ _
  have hBl : Below base w ((w.alloc (.cells #[.slice (some ⟨g, 0, none⟩) 1 cap, .slice (some ⟨g, 2, none⟩) (n - 2) (cap - 2)] 52)).drew.drew) := (((Below.refl base w).alloc hbase _).drew).drew
  have hA5 := hA.L
  rw [en] at hA5
  have j1 := ints_part hA5 0 1 cap rfl (by omega) en
  have j2 := ints_part hA5 2 (n - 2) (cap - 2) rfl (by omega) en
  have HA := Lib.hid hA
  have HB := Lib.hid hB
  have HBl := Lib.hid hBl
  have J1 := Lib.hid j1
  have J2 := Lib.hid j2
  have eN : ((m.loop.drop 0).take 1 ++ (m.loop.drop 2).take (n - 2)).length = n - 1 := by simp; omega
  have e2 : (m.loop.drop 0).take 1 ++ (m.loop.drop 2).take (n - 2) = m.loop.take 1 ++ m.loop.drop 2 := by
    rw [List.drop_zero, List.take_of_length_le (l := m.loop.drop 2) (by simp; omega)]
  have EN := Lib.hid eN
  have E2 := Lib.hid e2
  have En := Lib.hid en
  clear hA hB hBl hA5 j1 j2 hL eN e2 en
  generalize hx : m.loop.getD 2 0 = x
  have Hx := Lib.hid hx
  clear hx
  go_enter Try.func35, Try.ntmps35
  go_wp2
  go_region
  go_wp2
  go_region_with (go_at_call 48; refine (concat_two HB.out J1.out J2.out EN.out (by omega) (by omega)).mono ?_; rintro e w1 ⟨g1, cap1, rfl, hr1, hb1⟩; obtain ⟨-, b0, b1, b2, b3, b4, b5, dz⟩ := (HA.out.below hb1).blk.six'; have r0 := loop_cell (k := 2) (by have := (HA.out.below hb1).L; rw [En.out] at this; exact this) (by omega) En.out; rw [Hx.out] at r0)
  all_goals
    go_wp2
    go_ret
    have := step_done HA.out hnE hnS HBl.out hb1 hr1 EN.out E2.out
    exact ⟨rfl, this.1, this.2⟩
end Go.Proofs.Ytgjcigokjfhfkaa
