/-
  Two right words behind C, C, S are a right word (the plain law).
-/
import Derived.Test.YtgjcigokjfhfkaaCounts
namespace Go.Proofs.Ytgjcigokjfhfkaa
open Go.RowKit

theorem ref24Step_frame {l l' : List Int} {c : Int} (h : ref24Step l c = some l') (b : List Int) : ref24Step (l ++ b) c = some (l' ++ b) := by
  unfold ref24Step at h ⊢
  split at h
  · rename_i hc
    rw [if_pos hc]
    cases h
    simp
  · rename_i hc
    rw [if_neg hc]
    split at h
    · rename_i hd
      rw [if_pos hd]
      cases l with
      | nil => cases h
      | cons x r =>
        simp only [List.cons_append] at h ⊢
        split at h
        · cases h
        · rename_i hx
          rw [if_neg hx]
          cases h
          rfl
    · rename_i hd
      rw [if_neg hd]
      split at h
      · rename_i he
        rw [if_pos he]
        cases l with
        | nil => cases h
        | cons x r => cases h; rfl
      · rename_i he
        rw [if_neg he]
        split at h
        · rename_i hf
          rw [if_pos hf]
          match l, h with
          | x :: y :: r, h => cases h; rfl
        · cases h
theorem ref24Fold_frame (cs : List Int) : ∀ (l l' b : List Int), cs.foldlM ref24Step l = some l' → cs.foldlM ref24Step (l ++ b) = some (l' ++ b) := by
  induction cs with
  | nil => intro l l' b h; simp at h; subst h; simp
  | cons c r ih =>
    intro l l' b h
    rw [List.foldlM_cons] at h ⊢
    cases hs : ref24Step l c with
    | none => rw [hs] at h; cases h
    | some p =>
      rw [hs] at h
      rw [ref24Step_frame hs b]
      exact ih p l' b h
theorem ref24M_run {zs : List Int} (h : ref24M zs = true) : zs.reverse.foldlM ref24Step [] = some [3] := by
  unfold ref24M at h
  cases hr : ref24Run zs.reverse with
  | none => rw [hr] at h; cases h
  | some l =>
    rw [hr] at h
    match l, h, hr with
    | [x], h, hr =>
      simp [isThree] at h
      subst h
      exact hr
theorem right_parts {xs ys : List Int} (hx : ref24M xs = true) (hy : ref24M ys = true) : ref24M (67 :: 67 :: 83 :: (xs ++ ys)) = true := by
  have h1 := ref24M_run hx
  have h2 := ref24M_run hy
  have h3 := ref24Fold_frame _ _ _ [3] h1
  have : ref24Run (67 :: 67 :: 83 :: (xs ++ ys)).reverse = some [3] := by
    unfold ref24Run
    simp only [List.reverse_cons, List.reverse_append, List.append_assoc, List.cons_append, List.nil_append]
    rw [List.foldlM_append, h2]
    show List.foldlM ref24Step [3] _ = _
    rw [List.foldlM_append]
    have h3' : List.foldlM ref24Step [3] xs.reverse = some [3, 3] := h3
    rw [h3']
    rfl
  unfold ref24M
  rw [this]
  rfl
theorem lettersOf_append (a b : ByteArray) : lettersOf (a ++ b) = lettersOf a ++ lettersOf b := by
  simp [lettersOf]
end Go.Proofs.Ytgjcigokjfhfkaa
