/-
  Letters ahead of which a right word is cut: right words begin with them; and a right word with a letter more: none begins so (the plain law).
-/
import Derived.Test.YtgjcigokjfhfkaaZipN
import Derived.Test.YtgjcigokjfhfkaaLeast
namespace Go.Proofs.Ytgjcigokjfhfkaa

/-- The stack of spans is what is known of the stack of lengths: the first ones, each within its span. -/
inductive Fits : List Span → List Int → Prop
  | nil (l : List Int) : Fits [] l
  | cons {n : Int} {b : Bool} {st : List Span} {x : Int} {l : List Int} (h : if b = true then n ≤ x else n = x) (h3 : 3 ≤ n) (hr : Fits st l) : Fits ((n, b) :: st) (x :: l)
theorem Fits.pop {st : List Span} {x : Int} {l : List Int} (h : Fits st (x :: l)) (hx : 3 ≤ x) : (if (popX st).2 = true then (popX st).1 ≤ x else (popX st).1 = x) ∧ 3 ≤ (popX st).1 ∧ Fits (popR st) l := by
  cases h with
  | nil => exact ⟨by simp [popX]; exact hx, by simp [popX], Fits.nil _⟩
  | cons h h3 hr => exact ⟨h, h3, hr⟩
theorem step_all3 {l l' : List Int} {c : Int} (h : ∀ x ∈ l, 3 ≤ x) (hs : ref24Step l c = some l') : ∀ x ∈ l', 3 ≤ x := by
  unfold ref24Step at hs
  split at hs
  · cases hs
    intro x hx
    simp at hx
    rcases hx with rfl | hx
    · omega
    · exact h x hx
  · split at hs
    · cases l with
      | nil => cases hs
      | cons y t =>
        simp only at hs
        split at hs
        · cases hs
        · cases hs
          intro x hx
          simp at hx
          rcases hx with rfl | hx
          · omega
          · exact h x (by simp [hx])
    · split at hs
      · cases l with
        | nil => cases hs
        | cons y t =>
          cases hs
          intro x hx
          simp at hx
          rcases hx with rfl | hx
          · have := h y (by simp); omega
          · exact h x (by simp [hx])
      · split at hs
        · match l, hs with
          | y :: u :: t, hs =>
            cases hs
            intro x hx
            simp at hx
            rcases hx with rfl | hx
            · have h1 := h y (by simp); have h2 := h u (by simp); omega
            · exact h x (by simp [hx])
        · cases hs
theorem fits_step {st : List Span} {l l' : List Int} {c : Int} (hf : Fits st l) (h : ∀ x ∈ l, 3 ≤ x) (hs : ref24Step l c = some l') : ∃ st', begStep st c = some st' ∧ Fits st' l' := by
  rcases (step_letter hs).1 with rfl | rfl | rfl | rfl | rfl
  · match l, hs with
    | x :: r, hs =>
      by_cases hx : x < 4
      · simp [ref24Step, hx] at hs
      · simp [ref24Step, hx] at hs
        subst hs
        obtain ⟨p1, p2, p3⟩ := hf.pop (h x (by simp))
        generalize hp : popX st = p at *
        obtain ⟨n, b⟩ := p
        simp only at p1 p2
        cases b
        · simp at p1
          refine ⟨(n - 1, false) :: popR st, ?_, Fits.cons (by simp; omega) (by omega) p3⟩
          simp [begStep, wordM, codeN, hp]
          omega
        · simp at p1
          refine ⟨(max (n - 1) 3, true) :: popR st, ?_, Fits.cons (by simp; omega) (by omega) p3⟩
          simp [begStep, wordM, codeN, hp]
          omega
    | [], hs => simp [ref24Step] at hs
  · simp [ref24Step] at hs
    subst hs
    refine ⟨(3, false) :: st, ?_, Fits.cons (by simp) (by omega) hf⟩
    simp [begStep, wordM, codeN]
  · match l, hs with
    | x :: r, hs =>
      simp [ref24Step] at hs
      subst hs
      obtain ⟨p1, p2, p3⟩ := hf.pop (h x (by simp))
      generalize hp : popX st = p at *
      obtain ⟨n, b⟩ := p
      simp only at p1 p2
      refine ⟨(n + 1, b) :: popR st, ?_, Fits.cons (by cases b <;> simp at p1 ⊢ <;> omega) (by omega) p3⟩
      simp [begStep, wordM, codeN, hp]
      omega
    | [], hs => simp [ref24Step] at hs
  · match l, hs with
    | x :: r, hs =>
      simp [ref24Step] at hs
      subst hs
      obtain ⟨p1, p2, p3⟩ := hf.pop (h x (by simp))
      generalize hp : popX st = p at *
      obtain ⟨n, b⟩ := p
      simp only at p1 p2
      refine ⟨(n + 1, b) :: popR st, ?_, Fits.cons (by cases b <;> simp at p1 ⊢ <;> omega) (by omega) p3⟩
      simp [begStep, wordM, codeN, hp]
      omega
    | [], hs => simp [ref24Step] at hs
  · match l, hs with
    | x :: y :: r, hs =>
      simp [ref24Step] at hs
      subst hs
      obtain ⟨p1, p2, p3⟩ := hf.pop (h x (by simp))
      obtain ⟨q1, q2, q3⟩ := p3.pop (h y (by simp))
      generalize hp : popX st = p at *
      generalize hq : popX (popR st) = q at *
      obtain ⟨n, b⟩ := p
      obtain ⟨n', b'⟩ := q
      simp only at p1 p2 q1 q2
      refine ⟨(n + n' - 1, b || b') :: popR (popR st), ?_, Fits.cons (by cases b <;> cases b' <;> simp at p1 q1 ⊢ <;> omega) (by omega) q3⟩
      simp [begStep, wordM, codeN, hp, hq]
      omega
    | [x], hs => simp [ref24Step] at hs
    | [], hs => simp [ref24Step] at hs
theorem fits_run (cs : List Int) : ∀ {st : List Span} {l l' : List Int}, Fits st l → (∀ x ∈ l, 3 ≤ x) → cs.foldlM ref24Step l = some l' → ∃ st', cs.foldlM begStep st = some st' ∧ Fits st' l' := by
  induction cs with
  | nil => intro st l l' hf _ h; simp at h; subst h; exact ⟨st, rfl, hf⟩
  | cons c r ih =>
    intro st l l' hf h3 h
    rw [List.foldlM_cons] at h
    cases hs : ref24Step l c with
    | none => rw [hs] at h; cases h
    | some p =>
      rw [hs] at h
      obtain ⟨st1, h1, h2⟩ := fits_step hf h3 hs
      obtain ⟨st2, h4, h5⟩ := ih h2 (step_all3 h3 hs) h
      exact ⟨st2, by rw [List.foldlM_cons, h1]; exact h4, h5⟩
theorem run_of_right {zs : List Int} (h : ref24M zs = true) : ref24Run zs.reverse = some [3] := by
  unfold ref24M at h
  cases hr : ref24Run zs.reverse with
  | none => rw [hr] at h; cases h
  | some l =>
    rw [hr] at h
    match l, h with
    | [x], h =>
      have : x = 3 := by simpa [isThree] using h
      rw [this]
theorem begins_of_cut {zs : List Int} (h : ref24M zs = true) (j : Nat) : beginsM (zs.take j) = true := by
  have hr := run_of_right h
  have hsp : zs.reverse = (zs.drop j).reverse ++ (zs.take j).reverse := by rw [← List.reverse_append, List.take_append_drop]
  rw [hsp] at hr
  unfold ref24Run at hr
  rw [List.foldlM_append] at hr
  cases h1 : (zs.drop j).reverse.foldlM ref24Step [] with
  | none => rw [h1] at hr; cases hr
  | some l =>
    rw [h1] at hr
    obtain ⟨st', h2, h3⟩ := fits_run _ (Fits.nil l) (run_all3 h1) hr
    unfold beginsM begRun
    rw [h2]
    cases h3 with
    | nil => rfl
    | cons h h3 hr =>
      rename_i n b st
      cases hr
      have : n = 3 := by cases b <;> simp at h <;> omega
      simp [begEnd, this]

/-- The stack of a word that misses none, with a span below it. -/
def onto (y : Span) (l : List Int) : List Span := (l.map fun x => (x, false)) ++ [y]
theorem onto_step {l l' : List Int} {c : Int} {y : Span} (h : ∀ x ∈ l, 3 ≤ x) (hs : ref24Step l c = some l') : begStep (onto y l) c = some (onto y l') := by
  rcases (step_letter hs).1 with rfl | rfl | rfl | rfl | rfl
  · match l, hs with
    | x :: r, hs =>
      by_cases hx : x < 4
      · simp [ref24Step, hx] at hs
      · simp [ref24Step, hx] at hs
        subst hs
        simp [begStep, wordM, codeN, onto, popX, popR]
        omega
    | [], hs => simp [ref24Step] at hs
  · simp [ref24Step] at hs
    subst hs
    simp [begStep, wordM, codeN, onto]
  · match l, hs with
    | x :: r, hs =>
      simp [ref24Step] at hs
      subst hs
      have := h x (by simp)
      simp [begStep, wordM, codeN, onto, popX, popR]
      omega
    | [], hs => simp [ref24Step] at hs
  · match l, hs with
    | x :: r, hs =>
      simp [ref24Step] at hs
      subst hs
      have := h x (by simp)
      simp [begStep, wordM, codeN, onto, popX, popR]
      omega
    | [], hs => simp [ref24Step] at hs
  · match l, hs with
    | x :: u :: r, hs =>
      simp [ref24Step] at hs
      subst hs
      have := h x (by simp)
      have := h u (by simp)
      simp [begStep, wordM, codeN, onto, popX, popR]
      omega
    | [x], hs => simp [ref24Step] at hs
    | [], hs => simp [ref24Step] at hs
theorem onto_run {y : Span} (cs : List Int) : ∀ {l l' : List Int}, (∀ x ∈ l, 3 ≤ x) → cs.foldlM ref24Step l = some l' → cs.foldlM begStep (onto y l) = some (onto y l') := by
  induction cs with
  | nil => intro l l' _ h; simp at h; subst h; rfl
  | cons c r ih =>
    intro l l' h3 h
    rw [List.foldlM_cons] at h
    cases hs : ref24Step l c with
    | none => rw [hs] at h; cases h
    | some p =>
      rw [hs] at h
      rw [List.foldlM_cons, onto_step h3 hs]
      exact ih (step_all3 h3 hs) h
theorem begins_of_more {zs : List Int} (h : ref24M zs = true) (c : Int) : beginsM (zs ++ [c]) = false := by
  have hr := run_of_right h
  unfold beginsM begRun
  rw [List.reverse_append, List.reverse_singleton, List.singleton_append, List.foldlM_cons]
  cases hs : begStep [] c with
  | none => rfl
  | some st =>
    have : ∃ y, st = [y] := by
      unfold begStep at hs
      split at hs
      · cases hs
      · cases hs
        refine ⟨(wordM [] c).1, ?_⟩
        have := len_word [] c
        congr 1
        exact List.eq_nil_of_length_eq_zero (by simpa using this)
    obtain ⟨y, rfl⟩ := this
    have := onto_run (y := y) zs.reverse (l := []) (by simp) hr
    simp only [Option.bind_eq_bind, Option.bind_some]
    rw [show ([y] : List Span) = onto y [] from rfl, this]
    rfl
theorem right_pos {zs : List Int} (h : ref24M zs = true) : 0 < zs.length := by
  cases zs with
  | nil => cases h
  | cons z r => simp
/-- A cut of a right word is none. -/
theorem cut_not {zs : List Int} (h : ref24M zs = true) {k : Nat} (hk : k < zs.length) : ref24M (zs.take k) = false := by
  cases h2 : ref24M (zs.take k) with
  | false => rfl
  | true =>
    have h3 := begins_of_more h2 zs[k]
    rw [← take_snoc_int zs k hk, begins_of_cut h] at h3
    cases h3
theorem more_not {zs : List Int} (h : ref24M zs = true) (c : Int) : ref24M (zs ++ [c]) = false := by
  cases h2 : ref24M (zs ++ [c]) with
  | false => rfl
  | true =>
    have h3 := begins_of_cut h2 (zs.length + 1)
    rw [List.take_of_length_le (by simp), begins_of_more h] at h3
    cases h3
theorem least_cut {zs : List Int} (h : ref24M zs = true) {k r : Nat} (hk : k ≤ zs.length) (hl : LeastAt (zs.take k) r) : r = k := by
  obtain ⟨h1, h2, _⟩ := hl
  rw [List.length_take] at h1 h2
  rcases Nat.lt_or_ge r k with hlt | hge
  · have := h2 (by omega)
    rw [List.take_take, begins_of_cut h] at this
    cases this
  · omega
theorem least_more {zs : List Int} (h : ref24M zs = true) {c : Int} {r : Nat} (hl : LeastAt (zs ++ [c]) r) : r = zs.length := by
  obtain ⟨h1, h2, h3⟩ := hl
  simp only [List.length_append, List.length_cons, List.length_nil] at h1 h2
  rcases Nat.lt_or_ge r zs.length with hlt | hge
  · have := h2 (by omega)
    rw [List.take_append_of_le_length (by omega), begins_of_cut h] at this
    cases this
  · rcases Nat.lt_or_ge zs.length r with h4 | h4
    · have := h3 (by omega)
      rw [List.take_of_length_le (by simp; omega), begins_of_more h] at this
      cases this
    · omega
end Go.Proofs.Ytgjcigokjfhfkaa
