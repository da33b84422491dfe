/-
  (*zipper).step at the letter E, by walking its text; at any letter.
-/
import Derived.Test.YtgjcigokjfhfkaaStepS
namespace Go.Proofs.Ytgjcigokjfhfkaa
open Go.RowKit Go.Maps

theorem row_form {w : World} {base : Nat} {e : TypeId} {size n : Nat} {v : Value} {xs : List Value} (h : w.ownsRow base e size v n xs) : ∃ a c, v = .slice a n c ∧ n ≤ c ∧ c ≤ 9223372036854775807 := by
  rcases h.2 with ⟨rfl, h0⟩ | ⟨g, cap, cur, rfl, _, _, hn, hm, _⟩
  · exact ⟨none, 0, by rw [h0], by omega, by omega⟩
  · exact ⟨_, _, rfl, hn, by unfold maxLen at hm; omega⟩

theorem ZS.drew {w : World} {base z be bt : Nat} {vT vL vW : Value} {vs : List Value} {m : ZM} (h : ZS w base z be bt vT vL vW vs m) : ZS w.drew base z be bt vT vL vW vs m := by
  obtain ⟨nE, nS, h1, h2, h⟩ := h
  exact ⟨nE, nS, h1, h2, h.drew⟩
set_option maxRecDepth 100000 in
set_option maxHeartbeats 4000000 in
theorem stepE0_any {w : World} {base z be bt : Nat} {vT vL vW : Value} {vs : List Value} {m : ZM} (h : ZS w base z be bt vT vL vW vs m) (i : Int) (hn : 3 ≤ m.loop.length) (hn' : m.loop.length ≤ 900000) (hw : m.waits = []) :
    Calls Try.prog 35 #[.pointer (some ⟨z, 0, none⟩), .int .u8 69, .int .i64 i] w fun en w' => en = .returned (.int .i64 (m.loop.getD 2 0)) ∧ ZS w' base z be bt vT vL vW vs m ∧ Below base w w' := by
  have hZ := Lib.hid h
  obtain ⟨nE, nS, hnE, hnS, h⟩ := h
  have hzl := h.blk.lt
  obtain ⟨-, c0, c1, c2, c3, c4, c5, fz⟩ := h.blk.six'
  have hL := h.L
  obtain ⟨g, cap, rfl, hcap, hcap'⟩ := loop_form hL (by omega)
  have hgz : g ≠ z := by simpa [Value.ownBlock] using own_blk_ne hL h.blk (by decide)
  have r0 := loop_cell (k := 2) hL (by omega) rfl
  obtain ⟨aw, cw, rfl, hw1, hw2⟩ := row_form h.W
  rw [hw] at c3 
  generalize m.loop.getD 2 0 = x at *
  generalize m.loop.length = n at *
  clear h hL
  simp only [List.length_nil] at c3
  go_enter Try.func35, Try.ntmps35
  go_wp2
  go_region
  go_wp2
  go_ret
  exact ⟨rfl, hZ.out.drew, (Below.refl _ _).drew⟩

set_option maxRecDepth 100000 in
set_option maxHeartbeats 4000000 in
theorem stepE1_any {w : World} {base z be bt : Nat} {vT vL vW v : Value} {vs : List Value} {m : ZM} {l : List Int} {r : List (List Int)} (h : ZS w base z be bt vT vL vW (v :: vs) m) (i : Int) (hn : 3 ≤ m.loop.length) (hn' : m.loop.length ≤ 900000) (hw : m.waits = l :: r) (hr : r.length ≤ 900000) :
    Calls Try.prog 35 #[.pointer (some ⟨z, 0, none⟩), .int .u8 69, .int .i64 i] w fun en w' => en = .returned (.int .i64 (m.loop.getD 2 0)) ∧ (∃ vL' vW', ZS w' base z be bt vT vL' vW' vs { m with loop := l, waits := r }) ∧ Below base w w' := by
  obtain ⟨nE, nS, hnE, hnS, h⟩ := h
  have hzl := h.blk.lt
  have hR := h.R
  rw [hw] at hR
  obtain ⟨hR1, hR2⟩ := hR.tail
  obtain ⟨av, cv, rfl, -, -⟩ := row_form hR2
  have hA := h.drew.drew.put (vL' := .slice av l.length cv) (vW' := vW) (vs' := .slice av l.length cv :: vs) (m' := { m with loop := l }) 2 (.slice av l.length cv) rfl rfl hR2 h.W h.R
  have hW := hA.W
  have hRR := hA.R
  simp only at hRR
  rw [hw] at hRR
  simp only at hW
  rw [hw, List.length_cons, List.reverse_cons] at hW
  have hW0 := h.W
  rw [hw, List.length_cons, List.reverse_cons] at hW0
  obtain ⟨gw, cw, rfl⟩ := ownsRow_succ hW
  have hwl : vs.reverse.length = r.length := by have := hR1.1; simpa using this
  have hA2 := hA.put (vL' := .slice av l.length cv) (vW' := .slice (some ⟨gw, 0, none⟩) r.length cw) (vs' := vs) (m' := { m with loop := l, waits := r }) 3 (.slice (some ⟨gw, 0, none⟩) r.length cw) rfl rfl hA.L
    (cut_own hW (by simpa using hwl) (by omega)) hRR.tail.1
  have hBl : Below base w (((w.drew.drew).setCell ⟨z, 2, none⟩ (.slice av l.length cv)).setCell ⟨z, 3, none⟩ (.slice (some ⟨gw, 0, none⟩) r.length cw)) := (((Below.refl base w).drew.drew).setCell (p := ⟨z, 2, none⟩) h.hz _).setCell (p := ⟨z, 3, none⟩) h.hz _
  have q0 : w.cell? ⟨gw, r.length, none⟩ = some (.slice av l.length cv) := by
    rw [hW0.cellAt r.length (by omega), List.getElem?_append_right (by omega), hwl]
    simp
  obtain ⟨_, _, eq, hcw, hcw'⟩ := row_form hW0
  cases eq
  have hgwz : gw ≠ z := by simpa [Value.ownBlock] using own_blk_ne hW0 (by have := h.blk; exact this) (by decide)
  obtain ⟨-, c0, c1, c2, c3, c4, c5, fz⟩ := h.blk.six'
  have hL := h.L
  obtain ⟨g, cap, rfl, hcap, hcap'⟩ := loop_form hL (by omega)
  have hgz : g ≠ z := by simpa [Value.ownBlock] using own_blk_ne hL h.blk (by decide)
  have r0 := loop_cell (k := 2) hL (by omega) rfl
  have HA := Lib.hid hA2
  have HBl := Lib.hid hBl
  clear h hA hA2 hBl hW hRR hW0 hL hR hR1 hR2
  generalize m.loop.getD 2 0 = x at *
  generalize m.loop.length = n at *
  have d1 : IntKind.i64.wrap ((r.length : Int) + 1 - 1) = (r.length : Int) := by rw [IntWalk.i64_in _ (by omega)]; omega
  have d2 : IntKind.i64.wrap (r.length : Int) = (r.length : Int) := IntWalk.i64_in _ (by omega)
  have d3 : (0 : Int) ≤ (r.length : Int) := by omega
  have d4 : (r.length : Int) < (r.length : Int) + 1 := by omega
  have d5 : (r.length : Int) ≤ (cw : Int) := by omega
  have d6 : (0 : Int) < (r.length : Int) + 1 := by omega
  go_enter Try.func35, Try.ntmps35
  go_wp2
  go_region
  go_wp2
  go_region
  go_wp2
  go_ret
  exact ⟨rfl, ⟨_, _, nE, nS, hnE, hnS, HA.out⟩, HBl.out⟩

/-- A step, at any letter of a right word. -/
theorem step_any {w : World} {base z be bt : Nat} {vT vL vW : Value} {vs : List Value} {m : ZM} (h : ZS w base z be bt vT vL vW vs m) (c : Int) (i : Nat) (hc : c = 67 ∨ c = 69 ∨ c = 76 ∨ c = 82 ∨ c = 83) (hn : 3 ≤ m.loop.length) (hn' : m.loop.length ≤ 900000) (hN : m.n ≤ 900000) (hw : m.waits.length ≤ 900000)
    (hi : c = 83 → 1 ≤ i ∧ i < m.loop.length) :
    Calls Try.prog 35 #[.pointer (some ⟨z, 0, none⟩), .int .u8 c, .int .i64 (i : Int)] w fun en w' => en = .returned (.int .i64 (stepM c i m).1) ∧ (∃ vL' vW' vs', ZS w' base z be bt vT vL' vW' vs' (stepM c i m).2) ∧ Below base w w' := by
  rcases hc with rfl | rfl | rfl | rfl | rfl
  · refine (stepC_any h i hn hn' hN).mono ?_
    rintro en w' ⟨rfl, ⟨vL', h1⟩, h2⟩
    exact ⟨rfl, ⟨_, _, _, h1⟩, h2⟩
  · cases hws : m.waits with
    | nil =>
      refine (stepE0_any h i hn hn' hws).mono ?_
      rintro en w' ⟨rfl, h1, h2⟩
      have e : stepM 69 i m = (m.loop.getD 2 0, m) := by simp [stepM, hws]
      rw [e]
      exact ⟨rfl, ⟨_, _, _, h1⟩, h2⟩
    | cons l r =>
      obtain ⟨v, vr, rfl⟩ : ∃ v vr, vs = v :: vr := by
        obtain ⟨nE, nS, -, -, h3⟩ := h
        have h4 := h3.R.1
        rw [hws] at h4
        cases vs with
        | nil => simp at h4
        | cons v vr => exact ⟨v, vr, rfl⟩
      refine (stepE1_any h i hn hn' hws (by rw [hws] at hw; simp at hw; omega)).mono ?_
      rintro en w' ⟨rfl, ⟨vL', vW', h1⟩, h2⟩
      have e : stepM 69 i m = (m.loop.getD 2 0, { m with loop := l, waits := r }) := by simp [stepM, hws]
      rw [e]
      exact ⟨rfl, ⟨_, _, _, h1⟩, h2⟩
  · refine (stepL_any h i hn hn').mono ?_
    rintro en w' ⟨rfl, ⟨vL', h1⟩, h2⟩
    exact ⟨rfl, ⟨_, _, _, h1⟩, h2⟩
  · refine (stepR_any h i hn hn').mono ?_
    rintro en w' ⟨rfl, ⟨vL', h1⟩, h2⟩
    exact ⟨rfl, ⟨_, _, _, h1⟩, h2⟩
  · refine (stepS_any h i hn hn' (hi rfl).1 (hi rfl).2 hw).mono ?_
    rintro en w' ⟨rfl, h1, h2⟩
    exact ⟨rfl, h1, h2⟩
end Go.Proofs.Ytgjcigokjfhfkaa
