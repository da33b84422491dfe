/-
  The plain law: word.Right answers as the document's Right (layer 24) does. No program in sight.
-/
import Derived.Test.YtgjcigokjfhfkaaRefR
import Derived.Test.YtgjcigokjfhfkaaRight
namespace Go.Proofs.Ytgjcigokjfhfkaa

theorem foldl_min_le (l : List Int) (a k : Int) : k ≤ l.foldl min a ↔ k ≤ a ∧ ∀ o ∈ l, k ≤ o := by
  induction l generalizing a with
  | nil => simp
  | cons x r ih =>
    rw [List.foldl_cons, ih]
    constructor
    · rintro ⟨h1, h2⟩
      refine ⟨by omega, fun o ho => ?_⟩
      rcases List.mem_cons.1 ho with rfl | ho
      · omega
      · exact h2 o ho
    · rintro ⟨h1, h2⟩
      exact ⟨by have := h2 x (by simp); omega, fun o ho => h2 o (by simp [ho])⟩
theorem minOf_le {l : List Int} (h : l ≠ []) (k : Int) : k ≤ Lib.minOf l ↔ ∀ o ∈ l, k ≤ o := by
  cases l with
  | nil => exact absurd rfl h
  | cons x r =>
    unfold Lib.minOf
    rw [foldl_min_le]
    constructor
    · exact fun h => h.2
    · exact fun h => ⟨h x (by simp), h⟩

theorem mem_popR {st : List Span} {y : Span} (h : y ∈ popR st) : y ∈ st := by
  cases st with
  | nil => exact h
  | cons x r => exact List.mem_cons_of_mem _ h
theorem mem_word {st : List Span} {c : Int} {y : Span} (h : y ∈ (wordM st c).2.2) : y ∈ st := by
  unfold wordM at h
  split at h
  · exact h
  · split at h
    · exact h
    · split at h
      · exact mem_popR h
      · split at h
        · exact mem_popR (mem_popR h)
        · exact mem_popR h

/-- How the two runs stand to each other. -/
structure RunRel (st : List Span) (out : List Int) (r : Option (List Int)) : Prop where
  plain : ∀ x ∈ st, x.2 = false
  good : (∀ o ∈ out, 3 ≤ o) → r = some (st.map (·.1)) ∧ ∀ x ∈ st, 3 ≤ x.1
  bad : ¬ (∀ o ∈ out, 3 ≤ o) → r = none
  top : ∀ x r', st = x :: r' → out.getLast? = some x.1

theorem run_rel (xs : List Int) : (∀ st out, lenRun xs.reverse = some (st, out) → RunRel st out (ref24Run xs.reverse)) ∧ (lenRun xs.reverse = none → ref24Run xs.reverse = none) := by
  induction xs with
  | nil =>
    refine ⟨fun st out h => ?_, fun h => by cases h⟩
    cases h
    exact ⟨by simp, fun _ => ⟨rfl, by simp⟩, fun h => absurd (by simp) h, by simp⟩
  | cons c xs ih =>
    rw [List.reverse_cons, lenRun_snoc, ref24Run_snoc]
    cases hr : lenRun xs.reverse with
    | none =>
      refine ⟨fun st out h => by simp at h, fun _ => ?_⟩
      rw [ih.2 hr]
      rfl
    | some p =>
      obtain ⟨st, out⟩ := p
      obtain ⟨hp, hg, hb, ht⟩ := ih.1 st out hr
      simp only [Option.bind_some]
      have fin : ∀ x r', RunRel (x :: r') (out ++ [x.1]) ((ref24Run xs.reverse).bind fun p => ref24Step p c) ↔
          (∀ y ∈ x :: r', y.2 = false) ∧ ((∀ o ∈ out ++ [x.1], 3 ≤ o) → ((ref24Run xs.reverse).bind fun p => ref24Step p c) = some ((x :: r').map (·.1)) ∧ ∀ y ∈ x :: r', 3 ≤ y.1) ∧ (¬ (∀ o ∈ out ++ [x.1], 3 ≤ o) → ((ref24Run xs.reverse).bind fun p => ref24Step p c) = none) := by
        intro x r'
        constructor
        · rintro ⟨h1, h2, h3, -⟩; exact ⟨h1, h2, h3⟩
        · rintro ⟨h1, h2, h3⟩; exact ⟨h1, h2, h3, fun y r2 e => by cases e; simp⟩
      -- where what came before was bad, all is bad
      by_cases hall : ∀ o ∈ out, 3 ≤ o
      · obtain ⟨hrs, hge⟩ := hg hall
        rw [hrs] at fin ⊢
        simp only [Option.bind_some] at fin ⊢
        have allsnoc : ∀ x : Int, (∀ o ∈ out ++ [x], 3 ≤ o) ↔ 3 ≤ x := fun x => by
          constructor
          · exact fun h => h x (by simp)
          · intro h o ho
            rcases List.mem_append.1 ho with ho | ho
            · exact hall o ho
            · simp at ho; omega
        constructor
        · intro st' out' h
          unfold lenStep at h
          split at h
          · cases h
          · rename_i hno
            simp only [Option.some.injEq, Prod.mk.injEq] at h
            obtain ⟨rfl, rfl⟩ := h
            rw [fin]
            simp only [allsnoc]
            revert hno
            unfold wordM ref24Step
            by_cases h0 : codeN c = 0
            · simp [h0]
            · simp only [h0, if_false]
              by_cases h1 : c = 69
              · subst h1
                simp only [if_true]
                intro _
                refine ⟨?_, fun _ => ⟨rfl, ?_⟩, fun h => absurd (by simp) h⟩
                · intro y hy; rcases List.mem_cons.1 hy with rfl | hy
                  · rfl
                  · exact hp y hy
                · intro y hy; rcases List.mem_cons.1 hy with rfl | hy
                  · simp
                  · exact hge y hy
              · simp only [h1, if_false]
                cases st with
                | nil =>
                  intro hno
                  exfalso
                  apply hno
                  right
                  by_cases h2 : c = 67 <;> by_cases h3 : c = 83 <;> simp [h2, h3, popX]
                | cons x r =>
                  have hx2 : x.2 = false := hp x (by simp)
                  have hx3 : 3 ≤ x.1 := hge x (by simp)
                  have hpr : ∀ y ∈ r, y.2 = false := fun y hy => hp y (by simp [hy])
                  have hgr : ∀ y ∈ r, 3 ≤ y.1 := fun y hy => hge y (by simp [hy])
                  simp only [popX, popR]
                  by_cases h2 : c = 67
                  · subst h2
                    simp only [if_true, hx2, Bool.false_eq_true, if_false, List.map_cons]
                    intro _
                    refine ⟨?_, fun h => ?_, fun h => ?_⟩
                    · intro y hy; rcases List.mem_cons.1 hy with rfl | hy
                      · rfl
                      · exact hpr y hy
                    · rw [if_neg (by omega)]
                      refine ⟨rfl, fun y hy => ?_⟩
                      rcases List.mem_cons.1 hy with rfl | hy
                      · exact h
                      · exact hgr y hy
                    · rw [if_pos (by omega)]
                  · simp only [h2, if_false]
                    by_cases h3 : c = 83
                    · subst h3
                      cases r with
                      | nil =>
                        intro hno
                        exfalso
                        apply hno
                        right
                        simp
                      | cons y r =>
                        have hy2 : y.2 = false := hpr y (by simp)
                        have hy3 : 3 ≤ y.1 := hgr y (by simp)
                        simp only [if_true, List.map_cons]
                        intro _
                        refine ⟨?_, fun h => ⟨by simp, ?_⟩, fun h => absurd (by omega) h⟩
                        · intro z hz; rcases List.mem_cons.1 hz with rfl | hz
                          · simp [hx2, hy2]
                          · exact hpr z (by simp [hz])
                        · intro z hz; rcases List.mem_cons.1 hz with rfl | hz
                          · exact h
                          · exact hgr z (by simp [hz])
                    · simp only [h3, if_false]
                      intro _
                      have h4 : c = 76 ∨ c = 82 := by
                        unfold codeN at h0
                        simp [h1, h2, h3] at h0
                        omega
                      rw [if_pos h4]
                      refine ⟨?_, fun h => ⟨rfl, ?_⟩, fun h => absurd (by first | omega | (simp only; omega)) h⟩
                      · intro z hz; rcases List.mem_cons.1 hz with rfl | hz
                        · exact hx2
                        · exact hpr z hz
                      · intro z hz; rcases List.mem_cons.1 hz with rfl | hz
                        · exact h
                        · exact hgr z hz
        · intro h
          unfold lenStep at h
          split at h
          · rename_i hno
            revert hno
            unfold wordM ref24Step
            by_cases h0 : codeN c = 0
            · intro _
              unfold codeN at h0
              by_cases h1 : c = 69
              · simp [h1] at h0
              · by_cases h2 : c = 67
                · simp [h2] at h0
                · by_cases h3 : c = 83
                  · simp [h3] at h0
                  · by_cases h4 : c = 76 ∨ c = 82
                    · rcases h4 with rfl | rfl <;> simp at h0
                    · simp [h1, h2, h3, h4]
            · simp only [h0, if_false]
              by_cases h1 : c = 69
              · subst h1; simp
              · simp only [h1, if_false]
                cases st with
                | nil =>
                  intro _
                  by_cases h2 : c = 67
                  · simp [h2]
                  · by_cases h4 : c = 76 ∨ c = 82
                    · rcases h4 with rfl | rfl <;> simp
                    · by_cases h3 : c = 83
                      · subst h3; simp
                      · simp [h2, h3, h4]
                | cons x r =>
                  have hx2 : x.2 = false := hp x (by simp)
                  have hpr : ∀ y ∈ r, y.2 = false := fun y hy => hp y (by simp [hy])
                  simp only [popX, popR]
                  by_cases h2 : c = 67
                  · subst h2; simp [hx2]
                  · simp only [h2, if_false]
                    by_cases h3 : c = 83
                    · subst h3
                      cases r with
                      | nil => intro _; simp
                      | cons y r => simp [hx2, hpr y (by simp)]
                    · simp only [h3, if_false]
                      simp [hx2]
          · cases h
      · have hn := hb hall
        rw [hn] at fin ⊢
        refine ⟨fun st' out' h => ?_, fun _ => rfl⟩
        unfold lenStep at h
        split at h
        · cases h
        · rename_i hno
          simp only [Option.some.injEq, Prod.mk.injEq] at h
          obtain ⟨rfl, rfl⟩ := h
          rw [fin]
          refine ⟨?_, fun h => absurd (fun o ho => h o (by simp [ho])) hall, fun _ => rfl⟩
          intro y hy
          rcases List.mem_cons.1 hy with rfl | hy
          · cases h : (wordM st c).1.2
            · rfl
            · exact absurd (.inr h) hno
          · exact hp y (mem_word hy)

theorem right_eq (zs : List Int) : rightM zs = ref24M zs := by
  obtain ⟨h1, h2⟩ := run_rel zs
  unfold rightM ref24M lengthsM
  cases hr : lenRun zs.reverse with
  | none => rw [h2 hr]
  | some p =>
    obtain ⟨st, out⟩ := p
    obtain ⟨-, hg, hb, ht⟩ := h1 st out hr
    have hl := (lenRun_some hr).1
    simp only
    by_cases hall : ∀ o ∈ out, 3 ≤ o
    · rw [(hg hall).1]
      match st, ht with
      | [], _ => simp [isThree]
      | [x], ht =>
        have ht' := ht x [] rfl
        have hne : out.reverse ≠ [] := by
          intro e
          have : out = [] := by simpa using e
          rw [this] at ht'
          cases ht'
        have hm : 3 ≤ Lib.minOf out.reverse := (minOf_le hne 3).2 (fun o ho => hall o (by simpa using ho))
        have hh : out.reverse.headD 0 = x.1 := by
          rw [List.headD_eq_head?_getD, List.head?_reverse, ht']; rfl
        simp only [List.length_cons, List.length_nil, if_true, isThree, List.map_cons, List.map_nil]
        rw [hh]
        simp [hm]
      | x :: y :: r, _ => simp [isThree]
    · rw [hb hall]
      by_cases h1 : st.length = 1
      · rw [if_pos h1]
        have hne : out.reverse ≠ [] := by
          intro e
          have : out = [] := by simpa using e
          exact hall (by rw [this]; simp)
        have hm : ¬ 3 ≤ Lib.minOf out.reverse := fun h => hall (fun o ho => (minOf_le hne 3).1 h o (by simpa using ho))
        simp [hm]
      · rw [if_neg h1]
end Go.Proofs.Ytgjcigokjfhfkaa
