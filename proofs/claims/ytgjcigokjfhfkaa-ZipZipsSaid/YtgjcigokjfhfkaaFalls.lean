/-
  gypsumref23.falls, by walking its text; it is what (*zipper).add tells (the plain law).
-/
import Derived.Test.YtgjcigokjfhfkaaSame
import Derived.Test.YtgjcigokjfhfkaaOther
namespace Go.Proofs.Ytgjcigokjfhfkaa
open Go.RowKit Go.Maps

def nth3 (t : Tr) : Nat → Int
  | 0 => t.1
  | 1 => t.2.1
  | _ => t.2.2
def eqAt (u t : Tr) (x y : Nat) : Bool := nth3 u x == nth3 t y
def hitAt (u t : Tr) (x y : Nat) : Bool := eqAt u t x y && eqAt u t ((x + 1) % 3) ((y + 1) % 3)
def cntY (u t : Tr) (x : Nat) : Nat → Nat
  | 0 => 0
  | y + 1 => cntY u t x y + (if eqAt u t x y = true then 1 else 0)
def cntX (u t : Tr) : Nat → Nat
  | 0 => 0
  | x + 1 => cntX u t x + cntY u t x 3
def fallsOne (u t : Tr) : Bool := (hitAt u t 0 0 || hitAt u t 0 1 || hitAt u t 0 2 || hitAt u t 1 0 || hitAt u t 1 1 || hitAt u t 1 2 || hitAt u t 2 0 || hitAt u t 2 1 || hitAt u t 2 2) || cntX u t 3 == 3
def fallsL (T : List Tr) (t : Tr) : Bool := T.any fun u => fallsOne u t
def Dist (t : Tr) : Prop := t.1 ≠ t.2.1 ∧ t.2.1 ≠ t.2.2 ∧ t.2.2 ≠ t.1
theorem row_one {u a b c : Int} (h : a ≠ b ∧ b ≠ c ∧ c ≠ a) : (0 + (if (u == a) = true then 1 else 0) + (if (u == b) = true then 1 else 0) + (if (u == c) = true then 1 else 0) : Nat) = if u = a ∨ u = b ∨ u = c then 1 else 0 := by
  simp only [beq_iff_eq]
  by_cases h1 : u = a
  · subst h1
    rw [if_pos rfl, if_neg h.1, if_neg (fun e => h.2.2 e.symm), if_pos (.inl rfl)]
  · by_cases h2 : u = b
    · subst h2
      rw [if_neg h1, if_pos rfl, if_neg h.2.1, if_pos (.inr (.inl rfl))]
    · by_cases h3 : u = c
      · subst h3
        rw [if_neg h1, if_neg h2, if_pos rfl, if_pos (.inr (.inr rfl))]
      · rw [if_neg h1, if_neg h2, if_neg h3, if_neg (by rintro (h | h | h) <;> contradiction)]
theorem cnt_three {u t : Tr} (hu : Dist u) (ht : Dist t) : cntX u t 3 = 3 ↔ sortedT u = sortedT t := by
  obtain ⟨a, b, c⟩ := u
  obtain ⟨d, e, f⟩ := t
  have hc : cntX (a, b, c) (d, e, f) 3 = (if a = d ∨ a = e ∨ a = f then 1 else 0) + (if b = d ∨ b = e ∨ b = f then 1 else 0) + (if c = d ∨ c = e ∨ c = f then 1 else 0) := by
    rw [← row_one ht, ← row_one ht, ← row_one ht]
    simp only [cntX, cntY, eqAt, nth3]
    omega
  rw [hc]
  unfold sortedT
  rw [sort3_ord, sort3_ord]
  unfold ord3
  unfold Dist at hu ht
  simp only [Prod.mk.injEq] at hu ht ⊢
  constructor
  · intro h
    have h1 : a = d ∨ a = e ∨ a = f := by
      by_cases hh : a = d ∨ a = e ∨ a = f
      · exact hh
      · rw [if_neg hh] at h; (repeat' split at h) <;> omega
    have h2 : b = d ∨ b = e ∨ b = f := by
      by_cases hh : b = d ∨ b = e ∨ b = f
      · exact hh
      · rw [if_neg hh] at h; (repeat' split at h) <;> omega
    have h3 : c = d ∨ c = e ∨ c = f := by
      by_cases hh : c = d ∨ c = e ∨ c = f
      · exact hh
      · rw [if_neg hh] at h; (repeat' split at h) <;> omega
    clear h hc
    omega
  · intro h
    rw [if_pos (by omega), if_pos (by omega), if_pos (by omega)]
theorem hit_edge {u t : Tr} : ((hitAt u t 0 0 || hitAt u t 0 1 || hitAt u t 0 2 || hitAt u t 1 0 || hitAt u t 1 1 || hitAt u t 1 2 || hitAt u t 2 0 || hitAt u t 2 1 || hitAt u t 2 2) = true) ↔ (t.1, t.2.1) ∈ edgesOf [u] ∨ (t.2.1, t.2.2) ∈ edgesOf [u] ∨ (t.2.2, t.1) ∈ edgesOf [u] := by
  obtain ⟨a, b, c⟩ := u
  obtain ⟨d, e, f⟩ := t
  simp only [hitAt, eqAt, nth3, edgesOf, List.flatMap_cons, List.flatMap_nil, List.append_nil, List.mem_cons, List.not_mem_nil, or_false, Prod.mk.injEq, Bool.or_eq_true, Bool.and_eq_true, beq_iff_eq, Nat.reduceAdd, Nat.reduceMod]
  constructor
  · rintro ((((((((⟨rfl, rfl⟩ | ⟨rfl, rfl⟩) | ⟨rfl, rfl⟩) | ⟨rfl, rfl⟩) | ⟨rfl, rfl⟩) | ⟨rfl, rfl⟩) | ⟨rfl, rfl⟩) | ⟨rfl, rfl⟩) | ⟨rfl, rfl⟩) <;> simp
  · rintro ((⟨rfl, rfl⟩ | ⟨rfl, rfl⟩ | ⟨rfl, rfl⟩) | (⟨rfl, rfl⟩ | ⟨rfl, rfl⟩ | ⟨rfl, rfl⟩) | (⟨rfl, rfl⟩ | ⟨rfl, rfl⟩ | ⟨rfl, rfl⟩)) <;> simp
theorem edgesOf_any {T : List Tr} {e : Int × Int} : e ∈ edgesOf T ↔ ∃ u ∈ T, e ∈ edgesOf [u] := by
  simp [edgesOf]
theorem falls_fits {T : List Tr} {t : Tr} (hT : ∀ u ∈ T, Dist u) (ht : Dist t) : fitsM T t = !fallsL T t := by
  have hf : fallsL T t = true ↔ sortedT t ∈ T.map sortedT ∨ (t.1, t.2.1) ∈ edgesOf T ∨ (t.2.1, t.2.2) ∈ edgesOf T ∨ (t.2.2, t.1) ∈ edgesOf T := by
    unfold fallsL
    rw [List.any_eq_true]
    constructor
    · rintro ⟨u, hu, h⟩
      unfold fallsOne at h
      rw [Bool.or_eq_true, hit_edge, beq_iff_eq, cnt_three (hT u hu) ht] at h
      rcases h with (h | h | h) | h
      · exact .inr (.inl (edgesOf_any.2 ⟨u, hu, h⟩))
      · exact .inr (.inr (.inl (edgesOf_any.2 ⟨u, hu, h⟩)))
      · exact .inr (.inr (.inr (edgesOf_any.2 ⟨u, hu, h⟩)))
      · exact .inl (List.mem_map.2 ⟨u, hu, h⟩)
    · intro h
      have key : ∃ u ∈ T, (t.1, t.2.1) ∈ edgesOf [u] ∨ (t.2.1, t.2.2) ∈ edgesOf [u] ∨ (t.2.2, t.1) ∈ edgesOf [u] ∨ sortedT u = sortedT t := by
        rcases h with h | h | h | h
        · obtain ⟨u, hu, he⟩ := List.mem_map.1 h
          exact ⟨u, hu, .inr (.inr (.inr he))⟩
        · obtain ⟨u, hu, he⟩ := edgesOf_any.1 h
          exact ⟨u, hu, .inl he⟩
        · obtain ⟨u, hu, he⟩ := edgesOf_any.1 h
          exact ⟨u, hu, .inr (.inl he)⟩
        · obtain ⟨u, hu, he⟩ := edgesOf_any.1 h
          exact ⟨u, hu, .inr (.inr (.inl he))⟩
      obtain ⟨u, hu, he⟩ := key
      refine ⟨u, hu, ?_⟩
      unfold fallsOne
      rw [Bool.or_eq_true, hit_edge, beq_iff_eq, cnt_three (hT u hu) ht]
      rcases he with he | he | he | he
      · exact .inl (.inl he)
      · exact .inl (.inr (.inl he))
      · exact .inl (.inr (.inr he))
      · exact .inr he
  obtain ⟨a, b, c⟩ := t
  unfold Dist at ht
  simp only at ht hf
  have e1 : ((b, c) : Int × Int) ≠ (a, b) := fun e => ht.1 (by simp at e; omega)
  have e2 : ((c, a) : Int × Int) ≠ (b, c) := fun e => ht.2.1 (by simp at e; omega)
  have e3 : ((c, a) : Int × Int) ≠ (a, b) := fun e => ht.2.2 (by simp at e; omega)
  rw [Bool.eq_iff_iff, Bool.not_eq_true', ← Bool.not_eq_true, hf]
  unfold fitsM
  simp only [Bool.and_eq_true, decide_eq_true_eq, List.mem_cons, not_or]
  constructor
  · rintro ⟨⟨⟨h1, h2⟩, h3⟩, h4⟩
    exact ⟨h1, h2, h3.2, h4.2.2⟩
  · rintro ⟨h1, h2, h3, h4⟩
    exact ⟨⟨⟨h1, h2⟩, e1, h3⟩, e2, e3, h4⟩
theorem tri_dist {zs : List Int} (h : ref24M zs = true) {k : Nat} (hk : k < zs.length) : Dist (triAt zs k) := by
  have hi := zinv_at h k (by omega)
  obtain ⟨nd, -⟩ := znod_at h k (by omega)
  obtain ⟨h1, h2, h3, h4, h5⟩ := hi.len hk
  have l01 : (zmAt zs k).loop.getD 0 0 ≠ (zmAt zs k).loop.getD 1 0 := fun e => by
    have := getD_inj nd (by omega) (by omega) e
    omega
  have key : ∀ j, 2 ≤ j → j < (zmAt zs k).loop.length → (zmAt zs k).loop.getD j 0 ≠ (zmAt zs k).loop.getD 0 0 ∧ (zmAt zs k).loop.getD j 0 ≠ (zmAt zs k).loop.getD 1 0 := fun j hj hl =>
    ⟨fun e => by have := getD_inj nd hl (by omega) e; omega, fun e => by have := getD_inj nd hl (by omega) e; omega⟩
  have hn : ∀ j, j < (zmAt zs k).loop.length → ((zmAt zs k).n : Int) ≠ (zmAt zs k).loop.getD j 0 := fun j hj e => by
    have := (hi.lb _ (getD_mem hj)).2
    omega
  unfold triAt Dist
  simp only
  rcases hi.kind hk with ⟨c1, i1, v1⟩ | ⟨c1, i1, l1, v1⟩ | ⟨c1, i1, l1, v1⟩ | ⟨c1, i1, l1, v1⟩ | ⟨c1, i1, l1, v1⟩ <;> rw [v1]
  · exact ⟨hn 0 (by omega), l01, fun e => hn 1 (by omega) e.symm⟩
  · obtain ⟨a1, a2⟩ := key 2 (by omega) (by omega)
    exact ⟨a1, l01, fun e => a2 e.symm⟩
  · obtain ⟨a1, a2⟩ := key ((zmAt zs k).loop.length - 1) (by omega) (by omega)
    exact ⟨a1, l01, fun e => a2 e.symm⟩
  · obtain ⟨a1, a2⟩ := key 2 (by omega) (by omega)
    exact ⟨a1, l01, fun e => a2 e.symm⟩
  · obtain ⟨a1, a2⟩ := key (iAt zs k) (by omega) (by omega)
    exact ⟨a1, l01, fun e => a2 e.symm⟩
theorem all_dist {zs : List Int} (h : ref24M zs = true) : ∀ k, k ≤ zs.length → ∀ u ∈ (zmAt zs k).T, Dist u := by
  intro k
  induction k with
  | zero =>
    intro _ u hu
    simp [zmAt] at hu
    subst hu
    unfold Dist
    simp
  | succ k ih =>
    intro hk u hu
    rw [zmAt_T, List.mem_append] at hu
    rcases hu with hu | hu
    · exact ih (by omega) u hu
    · simp at hu
      rw [hu]
      exact tri_dist h (by omega)
end Go.Proofs.Ytgjcigokjfhfkaa
