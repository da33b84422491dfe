/-
  A struct or an array by value, of whole numbers: its cells.
-/
import Derived.Test.YtgjcigokjfhfkaaProg
import Derived.ProofKit
import Derived.WideShapes
namespace Go.Proofs.Ytgjcigokjfhfkaa
open Go.RowKit

theorem six_ints {P : Program} {w : World} {r : Reach} {b : Nat} {t u : TypeId} {k : IntKind} {v : Value} (hu : P.underlying u = some (.int k)) (hts : P.cellTypes P.depth t = some (List.replicate 6 u)) (hc : P.cellsOf t = 6)
    (ht : (∃ fs, P.underlying t = some (.struct fs)) ∨ ∃ n e, P.underlying t = some (.array n e)) (h : Value.okWide P w r b t v) :
    ∃ a1 a2 a3 a4 a5 a6 : Int, v = .agg #[.int k a1, .int k a2, .int k a3, .int k a4, .int k a5, .int k a6] ∧ k.has a1 ∧ k.has a2 ∧ k.has a3 ∧ k.has a4 ∧ k.has a5 ∧ k.has a6 := by
  have h' : ∃ cs, v = .agg cs ∧ cs.size = P.cellsOf t ∧ Row.okWide P w r b t cs := by
    obtain ⟨fs, hf⟩ | ⟨n, e, hf⟩ := ht <;> · simp only [Value.okWide, hf] at h; exact h
  obtain ⟨cs, rfl, hn, ts, hts', -, hcs⟩ := h'
  rw [hts] at hts'
  obtain rfl := Option.some.inj hts'
  have key : ∀ i, i < 6 → ∃ x, cs[i]? = some (.int k x) ∧ k.has x := by
    intro i hi
    obtain ⟨u', hu', hk⟩ := hcs i cs[i] (Array.getElem?_eq_getElem (by omega))
    rw [List.length_replicate, Nat.mod_eq_of_lt hi, List.getElem?_replicate, if_pos hi] at hu'
    obtain rfl := Option.some.inj hu'
    simp only [Cell.okWide, hu, Cell.ok] at hk
    cases hv : cs[i] <;> simp only [hv] at hk <;> try exact hk.elim
    exact ⟨_, by rw [Array.getElem?_eq_getElem (by omega), hv, hk.1], hk.2⟩
  obtain ⟨a1, e1, b1⟩ := key 0 (by omega)
  obtain ⟨a2, e2, b2⟩ := key 1 (by omega)
  obtain ⟨a3, e3, b3⟩ := key 2 (by omega)
  obtain ⟨a4, e4, b4⟩ := key 3 (by omega)
  obtain ⟨a5, e5, b5⟩ := key 4 (by omega)
  obtain ⟨a6, e6, b6⟩ := key 5 (by omega)
  refine ⟨a1, a2, a3, a4, a5, a6, congrArg Value.agg ?_, b1, b2, b3, b4, b5, b6⟩
  apply Array.ext_getElem?
  intro i
  match i with
  | 0 => exact e1
  | 1 => exact e2
  | 2 => exact e3
  | 3 => exact e4
  | 4 => exact e5
  | 5 => exact e6
  | j + 6 => rw [Array.getElem?_eq_none (by omega), Array.getElem?_eq_none (by simp)]
end Go.Proofs.Ytgjcigokjfhfkaa
