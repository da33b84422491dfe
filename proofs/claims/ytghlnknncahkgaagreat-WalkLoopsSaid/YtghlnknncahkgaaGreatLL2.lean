/-
  What a walk's loops do, step by step, in plain words.
-/
import Derived.Test.YtghlnknncahkgaaGreatK14
namespace Go.Proofs.YtghlnknncahkgaaGreat
open Go.RowKit Go.Maps

variable {n c : Nat} {T : List Tr}
theorem ran_inv {s0 s' : WSt} {pre : List WStep} {x : WStep} (R : Ran T s0 (pre ++ [x]) s') : ∃ s, Ran T s0 pre s ∧ stepM T s = some (x, s') := by
  generalize hL : pre ++ [x] = L at R
  cases R with
  | nil => simp at hL
  | @snoc L0 s s' y h1 h2 =>
    obtain ⟨rfl, e⟩ := List.append_inj' hL rfl
    cases e
    exact ⟨s, h1, h2⟩
theorem gone_shape (_h : Simp n T) {L : List WStep} {s : WSt} {Xs : List (List Nat)} (G : Gone n T c L s Xs) : (Xs = [] → s.loop = []) ∧ (Xs ≠ [] → s.loop ≠ [] ∧ s.wait.length + 1 = Xs.length) := by
  cases Xs with
  | nil => exact ⟨fun _ => by simpa using G.rel.loop, fun h => absurd rfl h⟩
  | cons X W =>
    refine ⟨fun h => (by cases h), fun _ => ⟨fun e => ?_, ?_⟩⟩
    · have h1 := G.rel.loop
      rw [e] at h1
      have h3 := G.inv.len X (List.mem_cons_self ..)
      simp at h1
      rw [h1] at h3
      simp at h3
    · rw [G.rel.wait]; simp
theorem loop_next (h : Simp n T) (hc : c < 3 * T.length) {pre : List WStep} {x : WStep} {s' : WSt} (R' : Ran T (beginS T c) (pre ++ [x]) s') :
    ∃ s, Ran T (beginS T c) pre s ∧ s.loop ≠ [] ∧ x.length = s.loop.length ∧ 3 ≤ x.length ∧ x.length ≤ 3 * T.length ∧ x.loops = s.wait.length ∧ x.loops ≤ 3 * T.length ∧ pre.length + 1 ≤ T.length ∧
      ((x.letter = 67 ∧ s'.loop.length = x.length + 1 ∧ s'.wait.length = x.loops ∧ s'.loop ≠ []) ∨ ((x.letter = 76 ∨ x.letter = 82) ∧ s'.loop.length + 1 = x.length ∧ s'.wait.length = x.loops ∧ s'.loop ≠ []) ∨
       (x.letter = 69 ∧ x.length = 3 ∧ (x.loops = 0 → s'.loop = []) ∧ (x.loops ≠ 0 → s'.loop ≠ [] ∧ s'.wait.length + 1 = x.loops)) ∨ (x.letter = 83 ∧ s'.loop ≠ [] ∧ s'.wait.length = x.loops + 1)) := by
  obtain ⟨s, R, hst⟩ := ran_inv R'
  obtain ⟨Xs, G⟩ := R.gone h hc
  have hl : s.loop ≠ [] := by
    intro e
    unfold stepM at hst
    rw [e] at hst
    cases hst
  obtain ⟨y, s2, Xs', h1, G', h2, h3, h4⟩ := G.next h hl
  rw [hst] at h1
  cases h1
  obtain ⟨d, -, -, e1, e2, e3, -⟩ := G'.each x (by simp)
  have g0 := gone_shape h G
  have g1 := gone_shape h G'
  have hX : Xs ≠ [] := fun e => hl (g0.1 e)
  have hX1 := (g0.2 hX).2
  have hlt := (G.lt h).1
  have nonempty : Xs'.length ≠ 0 → Xs' ≠ [] := fun h e => h (by rw [e]; rfl)
  refine ⟨s, R, hl, h3, e1, e2, h2, e3, hlt, ?_⟩
  rcases h4 with ⟨a, b, d⟩ | ⟨a, b, d⟩ | ⟨a, b, d⟩ | ⟨a, b⟩
  · have := g1.2 (nonempty (by omega))
    exact .inl ⟨a, by omega, by omega, this.1⟩
  · refine .inr (.inr (.inl ⟨a, by omega, fun e => ?_, fun e => ?_⟩))
    · exact g1.1 (List.eq_nil_of_length_eq_zero (by omega))
    · have := g1.2 (nonempty (by omega))
      exact ⟨this.1, by omega⟩
  · have := g1.2 (nonempty (by omega))
    exact .inr (.inl ⟨a, by omega, by omega, this.1⟩)
  · have := g1.2 (nonempty (by omega))
    exact .inr (.inr (.inr ⟨a, this.1, by omega⟩))
/-- The law's own tallies fit the walk. -/
def LpSt (T : List Tr) (c : Nat) (pre : List WStep) (len loops : Int) (over : Bool) : Prop :=
  ∀ s, Ran T (beginS T c) pre s → (over = true ↔ s.loop = []) ∧ (over = false → loops = s.wait.length) ∧ (len = 0 ∨ len = s.loop.length)
theorem LpSt.begin_ (T : List Tr) (c : Nat) : LpSt T c [] 3 0 false := by
  intro s R
  obtain ⟨-, rfl⟩ := R.one Ran.nil rfl
  exact ⟨⟨fun h => (by cases h), fun h => (by cases h)⟩, fun _ => rfl, .inr rfl⟩
theorem LpSt.of {pre : List WStep} {len loops : Int} {over : Bool} {s : WSt} (R : Ran T (beginS T c) pre s) (h : (over = true ↔ s.loop = []) ∧ (over = false → loops = s.wait.length) ∧ (len = 0 ∨ len = s.loop.length)) : LpSt T c pre len loops over := by
  intro s2 R2
  obtain ⟨-, rfl⟩ := R2.one R rfl
  exact h
end Go.Proofs.YtghlnknncahkgaaGreat
