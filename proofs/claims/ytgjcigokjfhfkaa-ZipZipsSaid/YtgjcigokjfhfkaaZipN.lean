/-
  What zip computes, letter by letter, and what stands at each letter (the plain law).
-/
import Derived.Test.YtgjcigokjfhfkaaStep
import Derived.Test.YtgjcigokjfhfkaaSecM
import Derived.Test.YtgjcigokjfhfkaaRightEq
namespace Go.Proofs.Ytgjcigokjfhfkaa
open Go.RowKit

/-- Of an S the length of the second word that it takes. -/
def iAt (zs : List Int) (k : Nat) : Nat := if zs.getD k 0 = 83 then (match stAt zs (k + 1) with | some (_ :: y :: _) => y.toNat | _ => 0) else 0
def nextM (zs : List Int) (k : Nat) (m : ZM) : ZM :=
  { (stepM (zs.getD k 0) (iAt zs k) m).2 with T := m.T ++ [((stepM (zs.getD k 0) (iAt zs k) m).1, m.loop.getD 0 0, m.loop.getD 1 0)] }
/-- What is zipped ahead of letter k. -/
def zmAt (zs : List Int) : Nat → ZM
  | 0 => ⟨3, [(0, 1, 2)], [1, 0, 2], []⟩
  | k + 1 => nextM zs k (zmAt zs k)
/-- The triangle of letter k; whether it fits to those ahead. -/
def triAt (zs : List Int) (k : Nat) : Tr := ((stepM (zs.getD k 0) (iAt zs k) (zmAt zs k)).1, (zmAt zs k).loop.getD 0 0, (zmAt zs k).loop.getD 1 0)
def fitsAt (zs : List Int) (k : Nat) : Bool := fitsM (zmAt zs k).T (triAt zs k)
theorem stepM_T (c : Int) (i : Nat) (m : ZM) : (stepM c i m).2.T = m.T := by
  unfold stepM
  repeat' split
  all_goals rfl

theorem run_all3 {cs l : List Int} (h : ref24Run cs = some l) : ∀ x ∈ l, 3 ≤ x := by
  suffices H : ∀ (cs p q : List Int), (∀ x ∈ p, 3 ≤ x) → cs.foldlM ref24Step p = some q → ∀ x ∈ q, 3 ≤ x from H cs [] l (by simp) h
  intro cs
  induction cs with
  | nil => intro p q hp h; simp at h; subst h; exact hp
  | cons c r ih =>
    intro p q hp h
    rw [List.foldlM_cons] at h
    cases hs : ref24Step p c with
    | none => rw [hs] at h; cases h
    | some p' =>
      rw [hs] at h
      refine ih p' q ?_ h
      unfold ref24Step at hs
      split at hs
      · cases hs
        intro x hx
        simp at hx
        rcases hx with rfl | hx
        · omega
        · exact hp x hx
      · split at hs
        · cases p with
          | nil => cases hs
          | cons y t =>
            simp only at hs
            split at hs
            · cases hs
            · cases hs
              intro x hx
              simp at hx
              rcases hx with rfl | hx
              · omega
              · exact hp x (by simp [hx])
        · split at hs
          · cases p with
            | nil => cases hs
            | cons y t =>
              cases hs
              intro x hx
              simp at hx
              rcases hx with rfl | hx
              · have := hp y (by simp); omega
              · exact hp x (by simp [hx])
          · split at hs
            · match p, hs with
              | y :: u :: t, hs =>
                cases hs
                intro x hx
                simp at hx
                rcases hx with rfl | hx
                · have h1 := hp y (by simp); have h2 := hp u (by simp); omega
                · exact hp x (by simp [hx])
            · cases hs
theorem step_letter {l l' : List Int} {c : Int} (h : ref24Step l c = some l') : (c = 67 ∨ c = 69 ∨ c = 76 ∨ c = 82 ∨ c = 83) ∧ l' ≠ [] := by
  unfold ref24Step at h
  split at h
  · rename_i hc; cases h; exact ⟨.inr (.inl hc), by simp⟩
  · split at h
    · rename_i hc
      cases l with
      | nil => cases h
      | cons x r =>
        simp only at h
        split at h
        · cases h
        · cases h; exact ⟨.inl hc, by simp⟩
    · split at h
      · rename_i hc
        cases l with
        | nil => cases h
        | cons x r =>
          cases h
          exact ⟨by rcases hc with h | h <;> simp [h], by simp⟩
      · split at h
        · rename_i hc
          match l, h with
          | x :: y :: r, h => cases h; exact ⟨.inr (.inr (.inr (.inr hc))), by simp⟩
        · cases h
theorem getD_getElem {zs : List Int} {k : Nat} (h : k < zs.length) : zs.getD k 0 = zs[k] := by simp [List.getD, List.getElem?_eq_getElem h]
theorem getD_mem {zs : List Int} {k : Nat} (h : k < zs.length) : zs.getD k 0 ∈ zs := by rw [getD_getElem h]; exact List.getElem_mem h

structure ZInv (zs : List Int) (k : Nat) (m : ZM) : Prop where
  st : k < zs.length → stAt zs k = some ((m.loop.length : Int) :: m.waits.map fun l => (l.length : Int))
  T : m.T.length = k + 1
  n : (m.n : Int) = 3 + cnt (zs.take k) 67
  lb : ∀ x ∈ m.loop, 0 ≤ x ∧ x < m.n
  wb : ∀ l ∈ m.waits, ∀ x ∈ l, 0 ≤ x ∧ x < m.n

section
variable {zs : List Int} {k : Nat} {m : ZM}
theorem ZInv.start (h : ref24M zs = true) : ZInv zs 0 (zmAt zs 0) := by
  refine ⟨fun _ => ?_, rfl, rfl, ?_, fun l hl => absurd hl (by simp [zmAt])⟩
  · rw [stAt_zero]
    unfold ref24M at h
    cases hr : ref24Run zs.reverse with
    | none => rw [hr] at h; cases h
    | some l =>
      rw [hr] at h
      match l, h with
      | [x], h =>
        have : x = 3 := by simpa [isThree] using h
        subst this
        rfl
  · intro x hx
    simp [zmAt] at hx ⊢
    omega
theorem ZInv.len (h : ZInv zs k m) (hk : k < zs.length) : 3 ≤ m.loop.length ∧ (m.loop.length : Int) ≤ 4 * zs.length ∧ m.waits.length ≤ zs.length ∧ (zs.getD k 0 = 67 ∨ zs.getD k 0 = 69 ∨ zs.getD k 0 = 76 ∨ zs.getD k 0 = 82 ∨ zs.getD k 0 = 83) ∧ (zs.getD k 0 = 83 → 1 ≤ iAt zs k ∧ iAt zs k < m.loop.length) := by
  have hs := h.st hk
  have h1 : (m.loop.length : Int) ≥ 3 := run_all3 hs _ (by simp)
  obtain ⟨h2, h3⟩ := ref24Run_some hs
  simp only [List.length_reverse, List.length_drop, List.length_cons, List.length_map, sumL] at h2 h3
  have h4 := sumL_nonneg (m.waits.map fun l => (l.length : Int))
  have h5 := stAt_step zs k hk
  rw [hs] at h5
  cases hq : stAt zs (k + 1) with
  | none => rw [hq] at h5; cases h5
  | some q =>
    rw [hq] at h5
    simp only [Option.bind_some] at h5
    rw [← getD_getElem hk] at h5
    refine ⟨by omega, by omega, by omega, (step_letter h5.symm).1, fun hc => ?_⟩
    rw [hc] at h5
    unfold iAt
    rw [if_pos hc, hq]
    match q, h5, hq with
    | x :: y :: r, h5, hq =>
      have h6 : some ((m.loop.length : Int) :: m.waits.map fun l => (l.length : Int)) = some ((x + y - 1) :: r) := h5
      have h7 := run_all3 hq
      have h8 := h7 x (by simp)
      have h9 := h7 y (by simp)
      simp at h6
      simp only
      omega
    | [x], h5, _ => cases h5
    | [], h5, _ => cases h5
theorem ZInv.tri (h : ZInv zs k m) (hk : k < zs.length) : 0 ≤ m.loop.getD 0 0 ∧ m.loop.getD 0 0 < m.n ∧ 0 ≤ m.loop.getD 1 0 ∧ m.loop.getD 1 0 < m.n ∧ 0 ≤ (stepM (zs.getD k 0) (iAt zs k) m).1 ∧ (stepM (zs.getD k 0) (iAt zs k) m).1 ≤ m.n := by
  obtain ⟨h1, h2, h3, h4, h5⟩ := h.len hk
  have g0 := h.lb _ (getD_mem (zs := m.loop) (k := 0) (by omega))
  have g1 := h.lb _ (getD_mem (zs := m.loop) (k := 1) (by omega))
  refine ⟨g0.1, g0.2, g1.1, g1.2, ?_⟩
  have H : ∀ j, j < m.loop.length → 0 ≤ m.loop.getD j 0 ∧ m.loop.getD j 0 ≤ m.n := fun j hj => by
    have := h.lb _ (getD_mem (zs := m.loop) hj)
    omega
  unfold stepM
  rcases h4 with hc | hc | hc | hc | hc <;> rw [hc] <;> simp only [if_true, if_false, Int.reduceEq]
  · omega
  · cases m.waits <;> exact H 2 (by omega)
  · exact H _ (by omega)
  · exact H _ (by omega)
  · exact H _ (h5 hc).2
theorem ZInv.next (h : ZInv zs k m) (hk : k < zs.length) : ZInv zs (k + 1) (nextM zs k m) := by
  obtain ⟨h1, h2, h3, h4, h5⟩ := h.len hk
  have hs := h.st hk
  have hst := stAt_step zs k hk
  rw [hs, ← getD_getElem hk] at hst
  have htk : zs.take (k + 1) = zs.take k ++ [zs.getD k 0] := by rw [getD_getElem hk]; exact take_snoc_int zs k hk
  have hn := h.n
  cases hq : stAt zs (k + 1) with
  | none => rw [hq] at hst; cases hst
  | some q =>
    rw [hq] at hst
    simp only [Option.bind_some] at hst
    have hcn : cnt (zs.take (k + 1)) 67 = cnt (zs.take k) 67 + (if zs.getD k 0 = 67 then 1 else 0) := by
      rw [htk, cnt_snoc]
      split <;> simp_all
    have htl : (nextM zs k m).T.length = k + 1 + 1 := by simp [nextM, h.T]
    have hsub : ∀ l : List Int, (∀ x ∈ l, x ∈ m.loop) → ∀ x ∈ l, 0 ≤ x ∧ x < m.n := fun l hl x hx => h.lb x (hl x hx)
    rcases h4 with hc | hc | hc | hc | hc
    · have e : nextM zs k m = { n := m.n + 1, T := m.T ++ [((m.n : Int), m.loop.getD 0 0, m.loop.getD 1 0)], loop := m.loop.take 1 ++ [(m.n : Int)] ++ m.loop.drop 1, waits := m.waits } := by
        simp only [nextM, stepM, hc, if_true]
      rw [hc] at hst hcn
      rw [e] at htl ⊢
      refine ⟨fun _ => ?_, htl, ?_, ?_, ?_⟩
      · rw [hq]
        match q, hst with
        | x :: r, hst =>
          by_cases hx : x < 4
          · simp [ref24Step, hx] at hst
          · simp [ref24Step, hx] at hst
            have : (m.loop.take 1 ++ [(m.n : Int)] ++ m.loop.drop 1).length = m.loop.length + 1 := by simp; omega
            rw [this, hst.2]
            congr 2
            push_cast
            omega
        | [], hst => simp [ref24Step] at hst
      · simp at hcn ⊢; omega
      · intro x hx
        simp only [List.mem_append, List.mem_singleton] at hx
        rcases hx with (hx | rfl) | hx
        · have := h.lb x (List.mem_of_mem_take hx); simp; omega
        · simp; omega
        · have := h.lb x (List.mem_of_mem_drop hx); simp; omega
      · intro l hl x hx
        have := h.wb l hl x hx
        simp; omega
    · rw [hc] at hst hcn
      have hq2 : q = m.waits.map fun l => (l.length : Int) := by
        simp [ref24Step] at hst
        exact hst.2.symm
      cases hw : m.waits with
      | nil =>
        have e : nextM zs k m = { n := m.n, T := m.T ++ [(m.loop.getD 2 0, m.loop.getD 0 0, m.loop.getD 1 0)], loop := m.loop, waits := m.waits } := by
          simp only [nextM, stepM, hc, hw, if_false, Int.reduceEq]
        rw [e] at htl ⊢
        refine ⟨fun hk1 => ?_, htl, by simp at hcn ⊢; omega, h.lb, h.wb⟩
        exfalso
        rw [hw] at hq2
        subst hq2
        have h6 := stAt_step zs (k + 1) hk1
        rw [hq] at h6
        cases hq3 : stAt zs (k + 1 + 1) with
        | none => rw [hq3] at h6; cases h6
        | some q3 =>
          rw [hq3] at h6
          exact (step_letter h6.symm).2 rfl
      | cons l r =>
        have e : nextM zs k m = { n := m.n, T := m.T ++ [(m.loop.getD 2 0, m.loop.getD 0 0, m.loop.getD 1 0)], loop := l, waits := r } := by
          simp only [nextM, stepM, hc, hw, if_false, Int.reduceEq]
        rw [e] at htl ⊢
        refine ⟨fun _ => ?_, htl, by simp at hcn ⊢; omega, fun x hx => h.wb l (by simp [hw]) x hx, fun l' hl' => h.wb l' (by simp [hw, hl'])⟩
        rw [hq, hq2, hw]
        rfl
    · have e : nextM zs k m = { n := m.n, T := m.T ++ [(m.loop.getD (m.loop.length - 1) 0, m.loop.getD 0 0, m.loop.getD 1 0)], loop := m.loop.drop (m.loop.length - 1) ++ (m.loop.take (m.loop.length - 1)).drop 1, waits := m.waits } := by
        simp only [nextM, stepM, hc, if_true, if_false, Int.reduceEq]
      rw [hc] at hst hcn
      rw [e] at htl ⊢
      refine ⟨fun _ => ?_, htl, by simp at hcn ⊢; omega, ?_, h.wb⟩
      · rw [hq]
        match q, hst with
        | x :: r, hst =>
          simp [ref24Step] at hst
          have : (m.loop.drop (m.loop.length - 1) ++ (m.loop.take (m.loop.length - 1)).drop 1).length = m.loop.length - 1 := by simp; omega
          rw [this, hst.2]
          congr 2
          omega
        | [], hst => simp [ref24Step] at hst
      · refine hsub _ fun x hx => ?_
        simp only [List.mem_append] at hx
        rcases hx with hx | hx
        · exact List.mem_of_mem_drop hx
        · exact List.mem_of_mem_take (List.mem_of_mem_drop hx)
    · have e : nextM zs k m = { n := m.n, T := m.T ++ [(m.loop.getD 2 0, m.loop.getD 0 0, m.loop.getD 1 0)], loop := m.loop.take 1 ++ m.loop.drop 2, waits := m.waits } := by
        simp only [nextM, stepM, hc, if_true, if_false, Int.reduceEq]
      rw [hc] at hst hcn
      rw [e] at htl ⊢
      refine ⟨fun _ => ?_, htl, by simp at hcn ⊢; omega, ?_, h.wb⟩
      · rw [hq]
        match q, hst with
        | x :: r, hst =>
          simp [ref24Step] at hst
          have : (m.loop.take 1 ++ m.loop.drop 2).length = m.loop.length - 1 := by simp; omega
          rw [this, hst.2]
          congr 2
          omega
        | [], hst => simp [ref24Step] at hst
      · refine hsub _ fun x hx => ?_
        simp only [List.mem_append] at hx
        rcases hx with hx | hx
        · exact List.mem_of_mem_take hx
        · exact List.mem_of_mem_drop hx
    · obtain ⟨i1, i2⟩ := h5 hc
      have e : nextM zs k m = { n := m.n, T := m.T ++ [(m.loop.getD (iAt zs k) 0, m.loop.getD 0 0, m.loop.getD 1 0)], loop := m.loop.take 1 ++ m.loop.drop (iAt zs k), waits := ((m.loop.drop (iAt zs k)).take 1 ++ (m.loop.take (iAt zs k)).drop 1) :: m.waits } := by
        simp only [nextM, stepM, hc, if_true, if_false, Int.reduceEq]
      have hi : iAt zs k = match stAt zs (k + 1) with | some (_ :: y :: _) => y.toNat | _ => 0 := by unfold iAt; rw [if_pos hc]
      rw [hq] at hi
      rw [hc] at hst hcn
      rw [e] at htl ⊢
      refine ⟨fun _ => ?_, htl, by simp at hcn ⊢; omega, ?_, ?_⟩
      · rw [hq]
        match q, hst, hi with
        | x :: y :: r, hst, hi =>
          simp [ref24Step] at hst
          simp only at hi
          have e1 : (m.loop.take 1 ++ m.loop.drop (iAt zs k)).length = 1 + (m.loop.length - iAt zs k) := by simp; omega
          have e2 : ((m.loop.drop (iAt zs k)).take 1 ++ (m.loop.take (iAt zs k)).drop 1).length = iAt zs k := by simp; omega
          rw [List.map_cons, e1, e2, hst.2]
          have hy : (iAt zs k : Int) = y := by omega
          congr 2
          · omega
          · rw [hy]
        | [x], hst, hi => simp [ref24Step] at hst
        | [], hst, hi => simp [ref24Step] at hst
      · refine hsub _ fun x hx => ?_
        simp only [List.mem_append] at hx
        rcases hx with hx | hx
        · exact List.mem_of_mem_take hx
        · exact List.mem_of_mem_drop hx
      · intro l hl
        simp only [List.mem_cons] at hl
        rcases hl with rfl | hl
        · refine hsub _ fun x hx => ?_
          simp only [List.mem_append] at hx
          rcases hx with hx | hx
          · exact List.mem_of_mem_drop (List.mem_of_mem_take hx)
          · exact List.mem_of_mem_take (List.mem_of_mem_drop hx)
        · exact h.wb l hl
end
theorem zinv_at {zs : List Int} (h : ref24M zs = true) : ∀ k, k ≤ zs.length → ZInv zs k (zmAt zs k) := by
  intro k
  induction k with
  | zero => intro _; exact ZInv.start h
  | succ k ih => intro hk; exact (ih (by omega)).next (by omega)
theorem lenFold_pre (ds : List Int) : ∀ (p q : List Span × List Int), ds.foldlM lenStep p = some q → ∃ ext, q.2 = p.2 ++ ext ∧ ext.length = ds.length := by
  induction ds with
  | nil => intro p q h; simp at h; subst h; exact ⟨[], by simp, rfl⟩
  | cons d r ih =>
    intro p q h
    rw [List.foldlM_cons] at h
    cases hs : lenStep p d with
    | none => rw [hs] at h; cases h
    | some p' =>
      rw [hs] at h
      obtain ⟨ext, h1, h2⟩ := ih p' q h
      unfold lenStep at hs
      split at hs
      · cases hs
      · cases hs
        exact ⟨(wordM p.1 d).1.1 :: ext, by rw [h1]; simp, by simp [h2]⟩
/-- What word.Lengths tells of a letter is what the stack has on top there. -/
theorem lengths_at {zs l : List Int} (h : lengthsM zs = some l) {p : Nat} {x : Int} {r : List Int} (hst : stAt zs p = some (x :: r)) (hp : p < zs.length) : l[p]? = some x := by
  unfold lengthsM at h
  cases hr : lenRun zs.reverse with
  | none => rw [hr] at h; cases h
  | some q =>
    obtain ⟨st, out⟩ := q
    rw [hr] at h
    simp only at h
    have hl : out.reverse = l := by
      split at h
      · cases h; rfl
      · cases h
    have hsp : zs.reverse = (zs.drop p).reverse ++ (zs.take p).reverse := by rw [← List.reverse_append, List.take_append_drop]
    rw [hsp] at hr
    unfold lenRun at hr
    rw [List.foldlM_append] at hr
    cases hr1 : (zs.drop p).reverse.foldlM lenStep ([], []) with
    | none => rw [hr1] at hr; cases hr
    | some q1 =>
      obtain ⟨st1, out1⟩ := q1
      rw [hr1] at hr
      obtain ⟨ext, h1, h2⟩ := lenFold_pre _ _ _ hr
      simp only at h1
      have hrel := (run_rel (zs.drop p)).1 st1 out1 hr1
      unfold stAt at hst
      have hall : ∀ o ∈ out1, 3 ≤ o := by
        by_cases ha : ∀ o ∈ out1, 3 ≤ o
        · exact ha
        · have := hrel.bad ha
          rw [hst] at this
          cases this
      have hg := (hrel.good hall).1
      rw [hst] at hg
      match st1, hg, hrel.top with
      | y :: t, hg, htop =>
        have hx : x = y.1 := by simpa using (congrArg (fun o => (o.getD []).head?) hg)
        have := htop y t rfl
        rw [← hl, h1, List.reverse_append, List.getElem?_append_right (by simp [h2]; omega), hx]
        simp only [List.length_reverse, h2, List.length_take]
        rw [show p - min p zs.length = 0 from by omega, ← List.head?_eq_getElem?, List.head?_reverse]
        exact this
      | [], hg, _ => simp at hg
end Go.Proofs.Ytgjcigokjfhfkaa
