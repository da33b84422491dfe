/-
  What package word computes, in plain Lean: letters are numbers, a stack of spans has its top first.
-/
namespace Go.Proofs.Ytgjcigokjfhfkaa

abbrev Span := Int × Bool
def codeV (c : Int) : Int := if c = 67 then 0 else if c = 83 then 4 else if c = 82 then 5 else if c = 76 then 6 else if c = 69 then 7 else 0
def codeN (c : Int) : Int := if c = 67 then 1 else if c = 83 then 3 else if c = 82 then 3 else if c = 76 then 3 else if c = 69 then 3 else 0
def popX (st : List Span) : Span := match st with | [] => (3, true) | x :: _ => x
def popR (st : List Span) : List Span := match st with | [] => [] | _ :: r => r
/-- The span, whether it is a letter, the stack left. -/
def wordM (st : List Span) (c : Int) : Span × Bool × List Span :=
  if codeN c = 0 then ((0, false), false, st)
  else if c = 69 then ((3, false), true, st)
  else if c = 67 then ((if (popX st).2 then max ((popX st).1 - 1) 3 else (popX st).1 - 1, (popX st).2), true, popR st)
  else if c = 83 then (((popX st).1 + (popX (popR st)).1 - 1, (popX st).2 || (popX (popR st)).2), true, popR (popR st))
  else (((popX st).1 + 1, (popX st).2), true, popR st)
def sumAbs : List Span → Int
  | [] => 0
  | x :: r => (x.1.natAbs : Int) + sumAbs r
theorem sumAbs_nonneg : ∀ st, 0 ≤ sumAbs st
  | [] => Int.le_refl _
  | x :: r => by have := sumAbs_nonneg r; simp only [sumAbs]; omega
theorem sumAbs_pop (st : List Span) : ((popX st).1.natAbs : Int) + sumAbs (popR st) ≤ sumAbs st + 3 := by
  cases st <;> simp [popX, popR, sumAbs] <;> omega
theorem sumAbs_word (st : List Span) (c : Int) : ((wordM st c).1.1.natAbs : Int) + sumAbs (wordM st c).2.2 ≤ sumAbs st + 8 := by
  have h1 := sumAbs_pop st
  have h2 := sumAbs_pop (popR st)
  unfold wordM
  split
  · simp only; omega
  · split
    · simp only; omega
    · split
      · simp only; split <;> omega
      · split
        · simp only; omega
        · simp only; omega
theorem len_popR (st : List Span) : (popR st).length ≤ st.length := by cases st <;> simp [popR]
theorem len_word (st : List Span) (c : Int) : (wordM st c).2.2.length ≤ st.length := by
  have h1 := len_popR st
  have h2 := len_popR (popR st)
  unfold wordM
  split
  · exact Nat.le_refl _
  · split
    · exact Nat.le_refl _
    · split
      · exact h1
      · split
        · exact Nat.le_trans h2 h1
        · exact h1

/-- One letter more, from behind: none where it is no letter, or a word is missing. -/
def lenStep (p : List Span × List Int) (c : Int) : Option (List Span × List Int) :=
  if (wordM p.1 c).2.1 = false ∨ (wordM p.1 c).1.2 = true then none else some ((wordM p.1 c).1 :: (wordM p.1 c).2.2, p.2 ++ [(wordM p.1 c).1.1])
def lenRun (cs : List Int) : Option (List Span × List Int) := cs.foldlM lenStep ([], [])
theorem lenRun_snoc (cs : List Int) (c : Int) : lenRun (cs ++ [c]) = (lenRun cs).bind (fun p => lenStep p c) := by
  simp [lenRun, List.foldlM_append]
theorem lenRun_some {cs : List Int} {st : List Span} {out : List Int} (h : lenRun cs = some (st, out)) : out.length = cs.length ∧ sumAbs st ≤ 8 * cs.length ∧ st.length ≤ cs.length := by
  suffices H : ∀ (cs : List Int) (p q : List Span × List Int), cs.foldlM lenStep p = some q → q.2.length = p.2.length + cs.length ∧ sumAbs q.1 ≤ sumAbs p.1 + 8 * cs.length ∧ q.1.length ≤ p.1.length + cs.length by
    have := H cs _ _ h
    simpa [sumAbs] using this
  intro cs
  induction cs with
  | nil => intro p q h; simp at h; subst h; simp
  | cons c r ih =>
    intro p q h
    rw [List.foldlM_cons] at h
    cases hs : lenStep p c with
    | none => rw [hs] at h; cases h
    | some p' =>
      rw [hs] at h
      have h' := ih p' q h
      have h1 := sumAbs_word p.1 c
      have h2 := len_word p.1 c
      unfold lenStep at hs
      split at hs
      · cases hs
      · cases hs
        simp only [sumAbs, List.length_append, List.length_cons, List.length_nil] at h' ⊢
        omega
/-- What word.Lengths answers; none: ErrForm. -/
def lengthsM (zs : List Int) : Option (List Int) :=
  match lenRun zs.reverse with
  | some (st, out) => if st.length = 1 then some out.reverse else none
  | none => none
theorem lengthsM_length {zs l : List Int} (h : lengthsM zs = some l) : l.length = zs.length := by
  unfold lengthsM at h
  cases hr : lenRun zs.reverse with
  | none => rw [hr] at h; cases h
  | some p =>
    obtain ⟨st, out⟩ := p
    rw [hr] at h
    simp only at h
    split at h
    · cases h
      simpa using (lenRun_some hr).1
    · cases h
theorem lengthsM_pos {zs l : List Int} (h : lengthsM zs = some l) : 0 < l.length := by
  have hl := lengthsM_length h
  unfold lengthsM at h
  cases zs with
  | nil => simp [lenRun] at h
  | cons z r => rw [hl]; simp
theorem lengthsM_of_run_none {zs : List Int} (h : ∃ k, lenRun (zs.reverse.take k) = none) : lengthsM zs = none := by
  obtain ⟨k, hk⟩ := h
  have : lenRun zs.reverse = none := by
    rw [← List.take_append_drop k zs.reverse]
    unfold lenRun at hk ⊢
    rw [List.foldlM_append, hk]
    rfl
  unfold lengthsM
  rw [this]
end Go.Proofs.Ytgjcigokjfhfkaa
