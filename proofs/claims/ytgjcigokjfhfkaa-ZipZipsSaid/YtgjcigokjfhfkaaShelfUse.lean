/-
  The library's slices.Reverse, slices.Min, slices.Sort, at rows of the call's own: out of the shelf's contracts.
-/
import Derived.Test.YtgjcigokjfhfkaaShelf
import Derived.Test.YtgjcigokjfhfkaaKitA
import Derived.Sort.OwnSortedInts
namespace Go.Proofs.Ytgjcigokjfhfkaa
open Go.RowKit Go.Sort

theorem grow_none (w : World) : grow w #[] = w := by simp [grow]

theorem reverse_own (base : Nat) (v : Value) (xs : List Int) (w : World) (h : w.ownsRow base 3 1 v xs.length (xs.map (Value.int .i64))) (hl : xs.length ≤ 1000000000) :
    Calls Try.prog 46 #[v] w fun e w' => e = .returned (.tuple #[]) ∧ w'.ownsRow base 3 1 v xs.length (xs.reverse.map (Value.int .i64)) ∧ w.grownBy w' v.ownBlock := by
  rcases h.2 with ⟨rfl, h0⟩ | ⟨g, cap, cur, rfl, hb, hg, hn, hm, hc, ht⟩
  · have hx : xs = [] := List.eq_nil_of_length_eq_zero h0
    subst hx
    refine (Try.slices_Reverse_int_empty none 0 w).mono ?_
    rintro e w' ⟨rfl, rfl⟩
    exact ⟨rfl, h, World.grownBy.refl _ _⟩
  · have hH := holds_of_blockI hg (by simpa using ht)
    refine (Try.slices_Reverse_int g 0 cap xs w hH (by omega)).mono ?_
    rintro e w' ⟨rfl, n, rfl⟩
    have h1 := ownsRow_sortedI (w := w) (n := n) (os := #[]) (ts := xs.reverse) (by simp) hb hg hn hm hc
    have h2 := grownBy_sortedI (w := w) (g := g) (n := n) (os := #[]) xs.reverse.toArray
    rw [grow_none] at h1 h2
    exact ⟨rfl, h1, h2⟩

theorem min_own (base : Nat) (v : Value) (xs : List Int) (w : World) (h : w.ownsRow base 3 1 v xs.length (xs.map (Value.int .i64))) (h0 : 0 < xs.length) (hl : xs.length ≤ 1000000000) :
    Calls Try.prog 40 #[v] w fun e w' => e = .returned (.int .i64 (Lib.minOf xs)) ∧ w = w' := by
  rcases h.2 with ⟨rfl, h1⟩ | ⟨g, cap, cur, rfl, hb, hg, hn, hm, hc, ht⟩
  · omega
  · have hH := h.cells (g := g) rfl
    refine (Try.slices_Min_int g 0 xs.length cap xs w h0 (Nat.le_refl _) (by omega) (fun j hj => ?_)).mono ?_
    · have := hH j (.int .i64 (xs.getD j 0)) (by simp [List.getD, List.getElem?_eq_getElem hj])
      simpa [Addr.add_lit] using this
    · rintro e w' ⟨rfl, rfl⟩
      exact ⟨by rw [List.take_length], rfl⟩
end Go.Proofs.Ytgjcigokjfhfkaa
