/-
  word.Right, by walking its text.
-/
import Derived.Test.YtgjcigokjfhfkaaLen
namespace Go.Proofs.Ytgjcigokjfhfkaa
open Go.RowKit Go.Shelf

/-- What word.Right answers. -/
def rightM (zs : List Int) : Bool :=
  match lengthsM zs with
  | none => false
  | some l => (l.headD 0 == 3) && decide (3 ≤ Lib.minOf l)

theorem lengths_some (s : ByteArray) (hs : s.size ≤ 1000000) (l : List Int) (h : lengthsM (lettersOf s) = some l) (w : World) :
    Calls Try.prog 32 #[.string s] w fun e w' => ∃ g c, e = .returned (.tuple #[.slice (some ⟨g, 0, none⟩) l.length c, .int .i64 0]) ∧ w'.ownsRow w.heap.size 3 1 (.slice (some ⟨g, 0, none⟩) l.length c) l.length (l.map (Value.int .i64)) ∧ Below w.heap.size w w' := by
  refine (lengths_any s hs w).mono ?_
  intro e w' hp
  unfold LenPost at hp
  rw [h] at hp
  obtain ⟨⟨v, rfl, ho⟩, hb⟩ := hp
  have hl := lengthsM_pos h
  obtain ⟨n, hn⟩ : ∃ n, l.length = n + 1 := ⟨l.length - 1, by omega⟩
  rw [hn] at ho
  obtain ⟨g, c, rfl⟩ := ownsRow_succ ho
  rw [hn]
  exact ⟨g, c, rfl, ho, hb⟩
theorem lengths_none (s : ByteArray) (hs : s.size ≤ 1000000) (h : lengthsM (lettersOf s) = none) (w : World) :
    Calls Try.prog 32 #[.string s] w fun e w' => e = .returned (.tuple #[.slice none 0 0, .int .i64 3]) ∧ Below w.heap.size w w' := by
  refine (lengths_any s hs w).mono ?_
  intro e w' hp
  unfold LenPost at hp
  rw [h] at hp
  exact hp

set_option maxHeartbeats 400000 in
theorem right_any (s : ByteArray) (hs : s.size ≤ 1000000) (w : World) :
    Calls Try.prog 28 #[.string s] w fun e w' => e = .returned (.bool (rightM (lettersOf s))) ∧ Below w.heap.size w w' := by
  cases hM : lengthsM (lettersOf s) with
  | none =>
    have hr : rightM (lettersOf s) = false := by unfold rightM; rw [hM]
    have Hr := Lib.hid hr
    have HM := Lib.hid hM
    clear hr hM
    go_enter Try.func28, Try.ntmps28
    go_wp2_with (go_at_call 32; refine (lengths_none s hs HM.out _).mono ?_; rintro e w' ⟨rfl, hb⟩)
    go_ret
    rw [Hr.out]
    exact ⟨rfl, hb⟩
  | some l =>
    have hl := lengthsM_pos hM
    have hlen := lengthsM_length hM
    obtain ⟨z, r, rfl⟩ : ∃ z r, l = z :: r := by
      cases l with
      | nil => simp at hl
      | cons z r => exact ⟨z, r, rfl⟩
    have hr : rightM (lettersOf s) = ((z == 3) && decide (3 ≤ Lib.minOf (z :: r))) := by unfold rightM; rw [hM]; rfl
    rw [lettersOf_length] at hlen
    have hl2 : r.length + 1 ≤ 1000000 := by simp at hlen; omega
    have Hr := Lib.hid hr
    have HM := Lib.hid hM
    have Hl := Lib.hid hl
    clear hr hM hlen hl
    cases h0 : (z == 3)
    · go_enter Try.func28, Try.ntmps28
      go_wp2_with (go_at_call 32; refine (lengths_some s hs _ HM.out _).mono ?_; rintro e w' ⟨g, c, rfl, ho, hb⟩; have hc0 := ho.cellAt 0 (by simp); have hi0 : (0 : Int) < (r.length : Int) + 1 := by omega)
      go_ret
      rw [Hr.out, h0]
      exact ⟨rfl, hb⟩
    · go_enter Try.func28, Try.ntmps28
      go_wp2_with (go_at_call 32; refine (lengths_some s hs _ HM.out _).mono ?_; rintro e w' ⟨g, c, rfl, ho, hb⟩; have hc0 := ho.cellAt 0 (by simp); have hi0 : (0 : Int) < (r.length : Int) + 1 := by omega)
      refine (min_own w.heap.size _ (z :: r) _ (by simpa using ho) Hl.out (by simp; omega)).mono ?_
      rintro e w2 ⟨rfl, rfl⟩
      go_wp2
      go_ret
      rw [Hr.out, h0]
      exact ⟨by simp, hb⟩
end Go.Proofs.Ytgjcigokjfhfkaa
