/-
  The stack of lengths at each place of a text; where the second word of an S begins (the plain law).
-/
import Derived.Test.YtgjcigokjfhfkaaRefR
namespace Go.Proofs.Ytgjcigokjfhfkaa
open Go.RowKit

/-- The lengths of the words that wait at place p, the one that begins there first. -/
def stAt (zs : List Int) (p : Nat) : Option (List Int) := ref24Run (zs.drop p).reverse
theorem stAt_end (zs : List Int) : stAt zs zs.length = some [] := by simp [stAt, ref24Run]
theorem stAt_zero (zs : List Int) : stAt zs 0 = ref24Run zs.reverse := by simp [stAt]
theorem stAt_step (zs : List Int) (p : Nat) (h : p < zs.length) : stAt zs p = (stAt zs (p + 1)).bind fun l => ref24Step l zs[p] := by
  unfold stAt
  rw [List.drop_eq_getElem_cons h, List.reverse_cons, ref24Run_snoc]
theorem stAt_some {zs l0 : List Int} (h : ref24Run zs.reverse = some l0) : ∀ p, p ≤ zs.length → ∃ l, stAt zs p = some l := by
  intro p
  induction p with
  | zero => intro _; exact ⟨l0, by rw [stAt_zero, h]⟩
  | succ p ih =>
    intro hp
    obtain ⟨l, hl⟩ := ih (by omega)
    rw [stAt_step zs p (by omega)] at hl
    cases hs : stAt zs (p + 1) with
    | none => rw [hs] at hl; cases hl
    | some q => exact ⟨q, rfl⟩

/-- What the map tells of an S: where its second word begins. -/
def Second (zs : List Int) (k : Nat) (v : Int) : Prop := ∃ (p : Nat) (x y : Int) (r : List Int), v = p ∧ k < p ∧ p < zs.length ∧ stAt zs (k + 1) = some (x :: y :: r) ∧ stAt zs p = some (y :: r)
/-- The ends of the words that begin at ps: each word's end is where the next one begins; the last one's is the text's. -/
def endsOf (n : Nat) : List Nat → List Nat
  | [] => []
  | _ :: r => r ++ [n]
theorem endsOf_length (n : Nat) (ps : List Nat) : (endsOf n ps).length = ps.length := by cases ps <;> simp [endsOf]
/-- What the rounds keep: the words behind place k begin at ps. -/
structure SecInv (zs : List Int) (k : Nat) (ps : List Nat) (f : Int → Int) : Prop where
  len : ∀ l, stAt zs k = some l → ps.length = l.length
  at_ : ∀ l, stAt zs k = some l → ∀ j (hj : j < ps.length), k ≤ ps[j] ∧ ps[j] < zs.length ∧ stAt zs ps[j] = some (l.drop j)
  head : (ps = [] → k = zs.length) ∧ ∀ h : 0 < ps.length, ps[0] = k
  map : ∀ j (hj : j < zs.length), k ≤ j → zs[j] = 83 → Second zs j (f j)

theorem SecInv.start (zs : List Int) (f : Int → Int) : SecInv zs zs.length [] f :=
  ⟨fun l h => by rw [stAt_end] at h; cases h; rfl, fun l _ j hj => by simp at hj, ⟨fun _ => rfl, fun h => by simp at h⟩, fun j hj h _ => by omega⟩

theorem SecInv.ends_ {zs : List Int} {k : Nat} {ps : List Nat} {f : Int → Int} (h : SecInv zs (k + 1) ps f) : endsOf zs.length (k :: ps) = (k + 1) :: endsOf zs.length ps := by
  cases ps with
  | nil => have := h.head.1 rfl; simp [endsOf, this]
  | cons p r =>
    have := h.head.2 (by simp)
    simp at this
    subst this
    simp [endsOf]
theorem SecInv.stE {zs : List Int} {k : Nat} {ps : List Nat} {f : Int → Int} {l : List Int} (h : SecInv zs (k + 1) ps f) (hk : k < zs.length) (hl : stAt zs (k + 1) = some l) (hc : zs[k] = 69) : SecInv zs k (k :: ps) f := by
  have hs : stAt zs k = some (3 :: l) := by rw [stAt_step zs k hk, hl, hc]; rfl
  refine ⟨fun q hq => ?_, fun q hq j hj => ?_, ⟨fun e => (by cases e), fun _ => rfl⟩, fun j hj hkj hz => ?_⟩
  · rw [hs] at hq; cases hq; simp [h.len l hl]
  · rw [hs] at hq
    cases hq
    cases j with
    | zero => exact ⟨Nat.le_refl _, hk, hs⟩
    | succ j => have := h.at_ l hl j (by simpa using hj); exact ⟨by simp; omega, by simpa using this.2.1, by simpa using this.2.2⟩
  · refine h.map j hj ?_ hz
    rcases Nat.lt_or_ge k j with h1 | h1
    · omega
    · exfalso
      have : j = k := by omega
      subst this
      rw [hc] at hz
      cases hz
/-- C, L, R: the top word begins one letter ahead. -/
theorem SecInv.st1 {zs : List Int} {k p : Nat} {ps : List Nat} {f : Int → Int} {l : List Int} (h : SecInv zs (k + 1) (p :: ps) f) (hk : k < zs.length) (hl : stAt zs k = some l) (hc : zs[k] ≠ 69) (hc2 : zs[k] ≠ 83) : SecInv zs k (k :: ps) f := by
  have hs := stAt_step zs k hk
  rw [hl] at hs
  cases hq : stAt zs (k + 1) with
  | none => rw [hq] at hs; cases hs
  | some l1 =>
    rw [hq] at hs
    simp only [Option.bind_some] at hs
    have hlen := h.len l1 hq
    obtain ⟨x, r, rfl⟩ : ∃ x r, l1 = x :: r := by cases l1 with | nil => simp at hlen | cons x r => exact ⟨x, r, rfl⟩
    obtain ⟨x', rfl⟩ : ∃ x', l = x' :: r := by
      unfold ref24Step at hs
      rw [if_neg hc] at hs
      split at hs
      · simp only at hs
        split at hs
        · cases hs
        · cases hs; exact ⟨_, rfl⟩
      · split at hs
        · cases hs; exact ⟨_, rfl⟩
        · first
            | cases hs
            | (rw [if_neg hc2] at hs; cases hs)
    refine ⟨fun q hq' => ?_, fun q hq' j hj => ?_, ⟨fun e => (by cases e), fun _ => rfl⟩, fun j hj hkj hz => ?_⟩
    · rw [hl] at hq'; cases hq'; simpa using hlen
    · rw [hl] at hq'
      cases hq'
      cases j with
      | zero => exact ⟨Nat.le_refl _, hk, hl⟩
      | succ j => have := h.at_ _ hq (j + 1) (by simpa using hj); exact ⟨by simp at this ⊢; omega, by simpa using this.2.1, by simpa using this.2.2⟩
    · refine h.map j hj ?_ hz
      rcases Nat.lt_or_ge k j with h1 | h1
      · omega
      · exfalso
        have : j = k := by omega
        subst this
        exact hc2 hz
/-- S: the two top words become one; the map learns where the second begins. -/
theorem SecInv.stS {zs : List Int} {k p1 p2 : Nat} {ps : List Nat} {f : Int → Int} {l : List Int} (h : SecInv zs (k + 1) (p1 :: p2 :: ps) f) (hk : k < zs.length) (hl : stAt zs k = some l) (hc : zs[k] = 83) :
    SecInv zs k (k :: ps) (fun y => if y = (k : Int) then (p2 : Int) else f y) := by
  have hs := stAt_step zs k hk
  rw [hl] at hs
  cases hq : stAt zs (k + 1) with
  | none => rw [hq] at hs; cases hs
  | some l1 =>
    rw [hq] at hs
    simp only [Option.bind_some] at hs
    have hlen := h.len l1 hq
    match l1, hlen, hs, hq with
    | x :: y :: r, hlen, hs, hq =>
      rw [hc] at hs
      have hs' : some l = some ((x + y - 1) :: r) := hs
      cases hs'
      have h2 := h.at_ _ hq 1 (by simp)
      simp at h2
      refine ⟨fun q hq' => ?_, fun q hq' j hj => ?_, ⟨fun e => (by cases e), fun _ => rfl⟩, fun j hj hkj hz => ?_⟩
      · rw [hl] at hq'; cases hq'; simpa using hlen
      · rw [hl] at hq'
        cases hq'
        cases j with
        | zero => exact ⟨Nat.le_refl _, hk, hl⟩
        | succ j => have := h.at_ _ hq (j + 2) (by simpa using hj); exact ⟨by simp at this ⊢; omega, by simpa using this.2.1, by simpa using this.2.2⟩
      · by_cases hjk : j = k
        · subst hjk
          simp only [if_true]
          exact ⟨p2, x, y, r, rfl, by omega, h2.2.1, hq, h2.2.2⟩
        · simp only [Int.ofNat_inj, hjk, if_false]
          exact h.map j hj (by omega) hz
    | [x], hlen, hs, hq => simp at hlen
    | [], hlen, hs, hq => simp at hlen
end Go.Proofs.Ytgjcigokjfhfkaa
