/-
  slices.Sort of three numbers in an array, by the shelf's contract.
-/
import Derived.Test.YtgjcigokjfhfkaaShelfUse
namespace Go.Proofs.Ytgjcigokjfhfkaa
open Go.RowKit

def sortL (l : List Int) : List Int := l.mergeSort fun x y => decide (x ≤ y)
theorem sortL_length (l : List Int) : (sortL l).length = l.length := by simp [sortL]
/-- Three numbers in their order. -/
def sort3 (a b c : Int) : Int × Int × Int := match sortL [a, b, c] with | [x, y, z] => (x, y, z) | _ => (0, 0, 0)
theorem sort3_eq (a b c : Int) : sortL [a, b, c] = [(sort3 a b c).1, (sort3 a b c).2.1, (sort3 a b c).2.2] := by
  have h := sortL_length [a, b, c]
  unfold sort3
  match hs : sortL [a, b, c], h with
  | [x, y, z], _ => rfl
theorem sort3_any (a b c : Int) (g : Nat) (t : TypeId) (w : World) (hb : Blk w g t #[.int .i64 a, .int .i64 b, .int .i64 c]) :
    Calls Try.prog 47 #[.slice (some ⟨g, 0, none⟩) 3 3] w fun e w' => e = .returned (.tuple #[]) ∧ Blk w' g t #[.int .i64 (sort3 a b c).1, .int .i64 (sort3 a b c).2.1, .int .i64 (sort3 a b c).2.2] ∧ w.grownBy w' (some g) := by
  have hH : Go.Sort.Holds (Value.int .i64) w g 0 [a, b, c].toArray := holds_of_blockI (ss := [a, b, c]) hb (by simp)
  refine (Try.slices_Sort_int g 0 3 [a, b, c] w hH hb.lt (by simp)).mono ?_
  rintro e w' ⟨rfl, n, os, rfl⟩
  have h3 := sort3_eq a b c
  unfold sortL at h3
  rw [h3]
  refine ⟨rfl, ?_, grownBy_sortedI _⟩
  have h4 := heap_sortedI (n := n) (os := os) [(sort3 a b c).1, (sort3 a b c).2.1, (sort3 a b c).2.2].toArray hb
  have h5 : Go.Sort.putCells (Value.int .i64) 0 [(sort3 a b c).1, (sort3 a b c).2.1, (sort3 a b c).2.2].toArray #[.int .i64 a, .int .i64 b, .int .i64 c] = #[.int .i64 (sort3 a b c).1, .int .i64 (sort3 a b c).2.1, .int .i64 (sort3 a b c).2.2] := by
    generalize sort3 a b c = p
    rfl
  rw [h5] at h4
  exact h4
end Go.Proofs.Ytgjcigokjfhfkaa
