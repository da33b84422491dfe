/-
  The document's layer 22 (the plain law): words missing; a right word begins with letters just where word.begins says so.
-/
import Derived.Test.YtgjcigokjfhfkaaBegP
import Derived.Test.YtgjcigokjfhfkaaParts
namespace Go.Proofs.Ytgjcigokjfhfkaa

def takesM (c : Int) : Int := if c = 69 then 0 else if c = 67 ∨ c = 76 ∨ c = 82 then 1 else if c = 83 then 2 else -1
def missGo : List Int → Int → Int
  | [], m => m
  | c :: r, m => if m = 0 ∨ takesM c < 0 then -1 else missGo r (m - 1 + takesM c)
/-- How many words are missing behind letters; -1: they are more than a word, or none. -/
def missM (zs : List Int) : Int := missGo zs 1
theorem takesM_le (c : Int) : -1 ≤ takesM c ∧ takesM c ≤ 2 := by
  unfold takesM
  repeat' split
  all_goals omega
/-- Lengths alone, of whatever size. -/
def exStep (l : List Int) (c : Int) : Option (List Int) :=
  if c = 69 then some (3 :: l)
  else if c = 67 then (match l with | [] => none | x :: r => some ((x - 1) :: r))
  else if c = 76 ∨ c = 82 then (match l with | [] => none | x :: r => some ((x + 1) :: r))
  else if c = 83 then (match l with | x :: y :: r => some ((x + y - 1) :: r) | _ => none)
  else none
def exRun (cs : List Int) : Option (List Int) := cs.foldlM exStep []
theorem exRun_snoc (cs : List Int) (c : Int) : exRun (cs ++ [c]) = (exRun cs).bind (fun p => exStep p c) := by
  simp [exRun, List.foldlM_append]
/-- A letter takes so many, and makes one. -/
theorem exStep_len {l : List Int} {c : Int} : (∀ l', exStep l c = some l' → 0 ≤ takesM c ∧ (l'.length : Int) = l.length - takesM c + 1 ∧ 0 < l'.length) ∧ (0 ≤ takesM c → takesM c ≤ l.length → ∃ l', exStep l c = some l') := by
  unfold exStep
  by_cases h1 : c = 69
  · have ht : takesM c = 0 := by simp [takesM, h1]
    rw [if_pos h1, ht]
    exact ⟨fun l' h => by cases h; simp, fun _ _ => ⟨_, rfl⟩⟩
  · rw [if_neg h1]
    by_cases h2 : c = 67
    · have ht : takesM c = 1 := by simp [takesM, h2]
      rw [if_pos h2, ht]
      cases l with
      | nil => exact ⟨fun l' h => (by cases h), fun _ h => by simp at h⟩
      | cons x r => exact ⟨fun l' h => by cases h; simp, fun _ _ => ⟨_, rfl⟩⟩
    · rw [if_neg h2]
      by_cases h3 : c = 76 ∨ c = 82
      · have ht : takesM c = 1 := by rcases h3 with h3 | h3 <;> simp [takesM, h3]
        rw [if_pos h3, ht]
        cases l with
        | nil => exact ⟨fun l' h => (by cases h), fun _ h => by simp at h⟩
        | cons x r => exact ⟨fun l' h => by cases h; simp, fun _ _ => ⟨_, rfl⟩⟩
      · rw [if_neg h3]
        by_cases h4 : c = 83
        · have ht : takesM c = 2 := by simp [takesM, h4]
          rw [if_pos h4, ht]
          match l with
          | [] => exact ⟨fun l' h => (by cases h), fun _ h => by simp at h⟩
          | [x] => exact ⟨fun l' h => (by cases h), fun _ h => by simp at h⟩
          | x :: y :: r => exact ⟨fun l' h => by cases h; simp; omega, fun _ _ => ⟨_, rfl⟩⟩
        · have ht : takesM c = -1 := by
            have h5 : c ≠ 76 := fun e => h3 (.inl e)
            have h6 : c ≠ 82 := fun e => h3 (.inr e)
            simp [takesM, h1, h2, h4, h5, h6]
          rw [if_neg h4, ht]
          exact ⟨fun l' h => (by cases h), fun h => by omega⟩
/-- None are missing just where that many words stand. -/
theorem miss_run (zs : List Int) : ∀ m : Nat, missGo zs m = 0 ↔ ∃ l, exRun zs.reverse = some l ∧ l.length = m := by
  induction zs with
  | nil =>
    intro m
    simp [missGo, exRun]
    omega
  | cons c r ih =>
    intro m
    rw [List.reverse_cons, exRun_snoc]
    unfold missGo
    constructor
    · intro h
      split at h
      · omega
      · rename_i hc
        have ht : 0 ≤ takesM c := by omega
        obtain ⟨j, hj⟩ : ∃ j : Nat, (m : Int) - 1 + takesM c = j := ⟨((m : Int) - 1 + takesM c).toNat, by omega⟩
        rw [hj] at h
        obtain ⟨l, h1, h2⟩ := (ih j).1 h
        obtain ⟨l', h3⟩ := (exStep_len (l := l) (c := c)).2 ht (by omega)
        have h4 := (exStep_len (l := l) (c := c)).1 l' h3
        exact ⟨l', by rw [h1]; exact h3, by omega⟩
    · rintro ⟨l', h1, h2⟩
      cases hr : exRun r.reverse with
      | none => rw [hr] at h1; cases h1
      | some l =>
        rw [hr] at h1
        have h4 := (exStep_len (l := l) (c := c)).1 l' h1
        rw [if_neg (by omega)]
        obtain ⟨j, hj⟩ : ∃ j : Nat, (m : Int) - 1 + takesM c = j := ⟨((m : Int) - 1 + takesM c).toNat, by omega⟩
        rw [hj]
        exact (ih j).2 ⟨l, hr, by omega⟩
theorem miss_zero (zs : List Int) : missM zs = 0 ↔ ∃ x, exRun zs.reverse = some [x] := by
  have := miss_run zs 1
  unfold missM
  rw [show ((1 : Nat) : Int) = 1 from rfl] at this
  rw [this]
  constructor
  · rintro ⟨l, h1, h2⟩
    match l, h2 with
    | [x], _ => exact ⟨x, h1⟩
  · rintro ⟨x, h⟩
    exact ⟨_, h, rfl⟩
theorem ex_of_ref {l l' : List Int} {c : Int} (h : ref24Step l c = some l') : exStep l c = some l' := by
  unfold ref24Step at h
  unfold exStep
  split at h
  · rename_i hc; rw [if_pos hc]; exact h
  · rename_i h1
    rw [if_neg h1]
    split at h
    · rename_i hc
      rw [if_pos hc]
      cases l with
      | nil => cases h
      | cons x r =>
        simp only at h ⊢
        split at h
        · cases h
        · exact h
    · rename_i h2
      rw [if_neg h2]
      exact h
theorem ref_of_ex {l l' : List Int} {c : Int} (h : exStep l c = some l') (h3 : ∀ x r, l' = x :: r → 3 ≤ x) : ref24Step l c = some l' := by
  unfold exStep at h
  unfold ref24Step
  split at h
  · rename_i hc; rw [if_pos hc]; exact h
  · rename_i h1
    rw [if_neg h1]
    split at h
    · rename_i hc
      rw [if_pos hc]
      cases l with
      | nil => cases h
      | cons x r =>
        simp only at h ⊢
        cases h
        have := h3 _ _ rfl
        rw [if_neg (by omega)]
    · rename_i h2
      rw [if_neg h2]
      exact h
/-- The lengths at place p, of whatever size. -/
def exAt (zs : List Int) (p : Nat) : Option (List Int) := exRun (zs.drop p).reverse
theorem exAt_end (zs : List Int) : exAt zs zs.length = some [] := by simp [exAt, exRun]
theorem exAt_zero (zs : List Int) : exAt zs 0 = exRun zs.reverse := by simp [exAt]
theorem exAt_step (zs : List Int) (p : Nat) (h : p < zs.length) : exAt zs p = (exAt zs (p + 1)).bind fun l => exStep l zs[p] := by
  unfold exAt
  rw [List.drop_eq_getElem_cons h, List.reverse_cons, exRun_snoc]
theorem exAt_some {zs l0 : List Int} (h : exRun zs.reverse = some l0) : ∀ p, p ≤ zs.length → ∃ l, exAt zs p = some l := by
  intro p
  induction p with
  | zero => intro _; exact ⟨l0, by rw [exAt_zero, h]⟩
  | succ p ih =>
    intro hp
    obtain ⟨l, hl⟩ := ih (by omega)
    rw [exAt_step zs p (by omega)] at hl
    cases hs : exAt zs (p + 1) with
    | none => rw [hs] at hl; cases hl
    | some q => exact ⟨q, rfl⟩
theorem ex_of_st {zs : List Int} {p : Nat} {l : List Int} (h : stAt zs p = some l) : exAt zs p = some l := by
  unfold stAt at h
  unfold exAt
  suffices H : ∀ (cs a b : List Int), cs.foldlM ref24Step a = some b → cs.foldlM exStep a = some b from H _ _ _ h
  intro cs
  induction cs with
  | nil => intro a b h; exact h
  | cons c r ih =>
    intro a b h
    rw [List.foldlM_cons] at h
    cases hs : ref24Step a c with
    | none => rw [hs] at h; cases h
    | some a' =>
      rw [hs] at h
      rw [List.foldlM_cons, ex_of_ref hs]
      exact ih _ _ h
/-- With every length three at least it is right, if one word of three stands. -/
theorem right_of_ex {zs : List Int} (h0 : exRun zs.reverse = some [3]) (hall : ∀ p x r, p < zs.length → exAt zs p = some (x :: r) → 3 ≤ x) : ref24M zs = true := by
  have key : ∀ j, j ≤ zs.length → stAt zs (zs.length - j) = exAt zs (zs.length - j) := by
    intro j
    induction j with
    | zero => intro _; rw [Nat.sub_zero, stAt_end, exAt_end]
    | succ j ih =>
      intro hj
      have hp : zs.length - (j + 1) < zs.length := by omega
      have h1 := ih (by omega)
      rw [show zs.length - j = zs.length - (j + 1) + 1 from by omega] at h1
      rw [stAt_step zs _ hp, exAt_step zs _ hp, h1]
      obtain ⟨l, hl⟩ := exAt_some h0 (zs.length - (j + 1) + 1) (by omega)
      obtain ⟨l', hl'⟩ := exAt_some h0 (zs.length - (j + 1)) (by omega)
      have h2 := exAt_step zs _ hp
      rw [hl, hl'] at h2
      rw [hl]
      simp only [Option.bind_some] at h2 ⊢
      rw [← h2]
      exact ref_of_ex h2.symm (fun x r e => hall _ x r hp (by rw [hl', e]))
  have := key zs.length (Nat.le_refl _)
  rw [Nat.sub_self, stAt_zero, exAt_zero, h0] at this
  unfold ref24M
  rw [this]
  rfl
end Go.Proofs.Ytgjcigokjfhfkaa
