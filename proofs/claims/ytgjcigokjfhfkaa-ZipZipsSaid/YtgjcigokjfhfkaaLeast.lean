/-
  word.Least: sort.Search over begins.
-/
import Derived.Test.YtgjcigokjfhfkaaBegins
import Derived.Test.YtgjcigokjfhfkaaAwake24
namespace Go.Proofs.Ytgjcigokjfhfkaa
open Go.RowKit

theorem lettersOf_extract (s : ByteArray) (k : Nat) : lettersOf (s.extract 0 k) = (lettersOf s).take k := by
  simp [lettersOf, List.map_take]

theorem least1_any (s : ByteArray) (hs : s.size ≤ 1000000) (k : Nat) (hk : k < s.size) (g : Nat) (w : World) (hc : w.cell? ⟨g, 0, none⟩ = some (.string s)) :
    Calls Try.prog 42 #[.int .i64 k, .pointer (some ⟨g, 0, none⟩)] w fun e w' => e = .returned (.bool (!beginsM ((lettersOf s).take (k + 1)))) ∧ Below w.heap.size w w' := by
  have hsz : (s.extract 0 (k + 1)).size ≤ 1000000 := by rw [ByteArray.size_extract]; omega
  have hb := begins_any _ hsz w
  rw [lettersOf_extract] at hb
  go_enter Try.func42, Try.ntmps42
  go_wp2_with fail
  refine hb.mono ?_
  rintro e w1 ⟨rfl, hb1⟩
  go_wp2
  go_ret
  exact ⟨rfl, hb1⟩
set_option maxRecDepth 100000 in
theorem search_any (s : ByteArray) (hs : s.size ≤ 1000000) (g : Nat) (w : World) (hc : w.cell? ⟨g, 0, none⟩ = some (.string s)) :
    Calls Try.prog 41 #[.int .i64 s.size, .func (.func 42) #[] #[.pointer (some ⟨g, 0, none⟩)]] w fun e w' => ∃ r : Nat, e = .returned (.int .i64 r) ∧ r ≤ s.size ∧ (r < s.size → beginsM ((lettersOf s).take (r + 1)) = false) ∧ (0 < r → beginsM ((lettersOf s).take r) = true) ∧ Below w.heap.size w w' := by
  go_enter Try.func41, Try.ntmps41
  go_wp2
  go_loopw [5, 6] (fun i j wr => ∃ a b : Nat, i = .int .i64 a ∧ j = .int .i64 b ∧ a ≤ b ∧ b ≤ s.size ∧ (b < s.size → beginsM ((lettersOf s).take (b + 1)) = false) ∧ (0 < a → beginsM ((lettersOf s).take a) = true) ∧ Below w.heap.size w wr) (fun i j _ => (intOf j).toNat - (intOf i).toNat)
  case atStart => exact ⟨0, s.size, rfl, rfl, Nat.zero_le _, Nat.le_refl _, fun h => absurd h (Nat.lt_irrefl _), fun h => absurd h (Nat.lt_irrefl _), Below.refl _ _⟩
  case round =>
    obtain ⟨a, b, rfl, rfl, hab, hbs, h1, h2, hB⟩ := hrel
    by_cases hlt : a < b
    · have hm : ∃ m : Nat, m = (a + b) / 2 := ⟨_, rfl⟩
      obtain ⟨m, hm⟩ := hm
      have hm2 : ((a : Int) + (b : Int)) / 2 = (m : Int) := by omega
      have hma : a ≤ m ∧ m < b := by omega
      have H1 := Lib.hid h1
      have H2 := Lib.hid h2
      clear h1 h2
      clear hm
      go_wp2_with fail
      clear hm2
      refine (least1_any s hs m (by omega) g _ (by rw [hB.cell (block_lt_of_cell hc)]; exact hc)).mono ?_
      rintro e w2 ⟨rfl, hb2⟩
      have hB2 := below_on hB hB.size hb2
      cases hp : beginsM ((lettersOf s).take (m + 1))
      · have Hp := Lib.hid hp
        clear hp
        go_wp2
        go_roundw
        case measure => simp [intOf]; omega
        case rel => exact ⟨a, m, rfl, rfl, by omega, by omega, fun _ => Hp.out, H2.out, hB2⟩
      · have Hp := Lib.hid hp
        clear hp
        go_wp2
        go_roundw
        case measure => simp [intOf]; omega
        case rel => exact ⟨m + 1, b, by go_num, rfl, by omega, by omega, H1.out, fun _ => Hp.out, hB2⟩
    · obtain rfl : a = b := by omega
      go_wp2
      go_ret
      exact ⟨a, rfl, hbs, h1, h2, hB⟩

/-- The place that Least tells of a text that is not right: from there on no right word begins so, up to there one does. -/
def LeastAt (zs : List Int) (r : Nat) : Prop := r ≤ zs.length ∧ (r < zs.length → beginsM (zs.take (r + 1)) = false) ∧ (0 < r → beginsM (zs.take r) = true)
theorem least_any (s : ByteArray) (hs : s.size ≤ 1000000) (h : rightM (lettersOf s) = false) (w : World) :
    Calls Try.prog 31 #[.string s] w fun e w' => ∃ r : Nat, e = .returned (.int .i64 r) ∧ LeastAt (lettersOf s) r ∧ Below w.heap.size w w' := by
  have b0 := Blk.new w 9 #[.string s]
  have hB0 : Below w.heap.size w (w.alloc (.cells #[.string s] 9)) := (Below.refl _ _).alloc (Nat.le_refl _) _
  go_enter Try.func31, Try.ntmps31
  go_wp2_with fail
  refine (right_any s hs _).mono ?_
  rw [h]
  rintro e w1 ⟨rfl, hb1⟩
  have b1 := b0.below hb1 (by simp)
  have hB1 := below_on hB0 hB0.size hb1
  obtain ⟨c0, c1, -⟩ := b1.one
  go_wp2_with fail
  refine (search_any s hs w.heap.size _ c1).mono ?_
  rintro e w2 ⟨r, rfl, h1, h2, h3, hb2⟩
  have hB2 := below_on hB1 hB1.size hb2
  go_wp2
  go_ret
  exact ⟨r, rfl, by unfold LeastAt; rw [lettersOf_length]; exact ⟨h1, h2, h3⟩, hB2⟩
theorem least_right (s : ByteArray) (hs : s.size ≤ 1000000) (h : rightM (lettersOf s) = true) (w : World) :
    Calls Try.prog 31 #[.string s] w fun e w' => e = .returned (.int .i64 (-1)) ∧ Below w.heap.size w w' := by
  have hB0 : Below w.heap.size w (w.alloc (.cells #[.string s] 9)) := (Below.refl _ _).alloc (Nat.le_refl _) _
  go_enter Try.func31, Try.ntmps31
  go_wp2_with fail
  refine (right_any s hs _).mono ?_
  rw [h]
  rintro e w1 ⟨rfl, hb1⟩
  have hB1 := below_on hB0 hB0.size hb1
  go_wp2
  go_ret
  exact ⟨rfl, hB1⟩
end Go.Proofs.Ytgjcigokjfhfkaa
