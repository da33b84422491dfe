/-
  Texts joined by program, what the law uses alone: SurM WkM Ran Gap ZipS Insert Kept Way StpC WayS.
-/
import Derived.Lib.Slices
import Derived.Lib.Hide
import Derived.Shelf.Spec.SlicesInsert
import Derived.Shelf.Spec.SlicesInsertGrow
import Derived.Lib.QuietBelow
import Derived.BigQuiet
import Derived.Deep.RegionHeld3
import Derived.Test.YtpnkhgjjlionnaaGreatD4
import Derived.Test.YtpnkhgjjlionnaaGreatD5
import Derived.Test.YtpnkhgjjlionnaaGreatD2
import Derived.Test.YtpnkhgjjlionnaaGreatD1
namespace Go.Proofs.YtpnkhgjjlionnaaGreat
open Go.RowKit

theorem sort3_perm {a b c a' b' c' : Int} (h : [a, b, c].Perm [a', b', c']) : sort3 a b c = sort3 a' b' c' := by
  have hs : ∀ l : List Int, (sortL l).Pairwise (fun x y => x ≤ y) := fun l => by
    have := List.pairwise_mergeSort (le := fun x y : Int => decide (x ≤ y)) (fun a b c h1 h2 => by simp at h1 h2 ⊢; omega) (fun a b => by simp; omega) l
    exact this.imp (fun {a b} h => by simpa using h)
  have hp : ∀ l : List Int, (sortL l).Perm l := fun l => List.mergeSort_perm l _
  have key : ∀ {l l' : List Int}, l.Perm l' → l.Pairwise (fun x y => x ≤ y) → l'.Pairwise (fun x y => x ≤ y) → l = l' := by
    intro l
    induction l with
    | nil => intro l' h _ _; exact List.Perm.nil_eq h
    | cons x r ih =>
      intro l' h h1 h2
      cases l' with
      | nil => have := h.length_eq; simp at this
      | cons y s =>
        obtain ⟨a1, a2⟩ := List.pairwise_cons.1 h1
        obtain ⟨b1, b2⟩ := List.pairwise_cons.1 h2
        have hxy : x = y := by
          have hx : x ∈ y :: s := h.mem_iff.1 (List.mem_cons_self ..)
          have hy : y ∈ x :: r := h.mem_iff.2 (List.mem_cons_self ..)
          rcases List.mem_cons.1 hx with e | hx
          · exact e
          · rcases List.mem_cons.1 hy with e | hy
            · exact e.symm
            · have := a1 y hy
              have := b1 x hx
              omega
        subst hxy
        rw [ih (List.Perm.cons_inv h) a2 b2]
  have e := key (((hp [a, b, c]).trans h).trans (hp [a', b', c']).symm) (hs _) (hs _)
  unfold sort3
  rw [e]
theorem sort3_has {a b c a' b' c' : Int} (h : sort3 a b c = sort3 a' b' c') : [a, b, c].Perm [a', b', c'] := by
  have e : sortL [a, b, c] = sortL [a', b', c'] := by rw [sort3_eq, sort3_eq, h]
  have hp : ∀ l : List Int, (sortL l).Perm l := fun l => List.mergeSort_perm l _
  exact (hp _).symm.trans (by rw [e]; exact hp _)
theorem hasV_mem {t : Tr} {x : Int} : hasV t x ↔ x ∈ [t.1, t.2.1, t.2.2] := by
  unfold hasV
  simp
/-- One triangle over there: turned, or turned and mirrored, in other numbers. -/
def Turned (r : Bool) (g : Int → Int) (t t' : Tr) : Prop :=
  match r with
  | false => t' = (g t.1, g t.2.1, g t.2.2) ∨ t' = (g t.2.1, g t.2.2, g t.1) ∨ t' = (g t.2.2, g t.1, g t.2.1)
  | true => t' = (g t.1, g t.2.2, g t.2.1) ∨ t' = (g t.2.2, g t.2.1, g t.1) ∨ t' = (g t.2.1, g t.1, g t.2.2)
theorem Turned.perm {r : Bool} {g : Int → Int} {t t' : Tr} (h : Turned r g t t') : [t'.1, t'.2.1, t'.2.2].Perm [g t.1, g t.2.1, g t.2.2] := by
  have p1 : ∀ a b c : Int, [b, c, a].Perm [a, b, c] := fun a b c => (List.perm_append_comm (l₁ := [b, c]) (l₂ := [a]))
  have p2 : ∀ a b c : Int, [c, a, b].Perm [a, b, c] := fun a b c => (List.perm_append_comm (l₁ := [c]) (l₂ := [a, b]))
  have p3 : ∀ a b c : Int, [a, c, b].Perm [a, b, c] := fun a b c => (List.Perm.swap b c []).cons a
  cases r with
  | false =>
    rcases h with h | h | h
    · rw [h]
    · rw [h]; exact p1 _ _ _
    · rw [h]; exact p2 _ _ _
  | true =>
    rcases h with h | h | h
    · rw [h]; exact p3 _ _ _
    · rw [h]; exact (p1 _ _ _).trans (p3 _ _ _)
    · rw [h]; exact (p2 _ _ _).trans (p3 _ _ _)
theorem Turned.edges {r : Bool} {g : Int → Int} {t t' : Tr} (h : Turned r g t t') : (edges3 t').Perm ((edges3 t).map fun e => if r then (g e.2.1, g e.1, 0) else (g e.1, g e.2.1, 0)) := by
  have p1 : ∀ a b c : Tr, [b, c, a].Perm [a, b, c] := fun a b c => (List.perm_append_comm (l₁ := [b, c]) (l₂ := [a]))
  have p2 : ∀ a b c : Tr, [c, a, b].Perm [a, b, c] := fun a b c => (List.perm_append_comm (l₁ := [c]) (l₂ := [a, b]))
  have p3 : ∀ a b c : Tr, [c, b, a].Perm [a, b, c] := fun a b c => (p2 a b c |> fun _ => ((List.Perm.swap b c [a]).trans (p1 a b c)))
  cases r with
  | false =>
    rcases h with h | h | h
    · rw [h]; exact List.Perm.refl _
    · rw [h]; exact p1 _ _ _
    · rw [h]; exact p2 _ _ _
  | true =>
    rcases h with h | h | h
    · rw [h]
      show [(g t.1, g t.2.2, (0 : Int)), (g t.2.2, g t.2.1, 0), (g t.2.1, g t.1, 0)].Perm [(g t.2.1, g t.1, 0), (g t.2.2, g t.2.1, 0), (g t.1, g t.2.2, 0)]
      exact p3 _ _ _
    · rw [h]
      show [(g t.2.2, g t.2.1, (0 : Int)), (g t.2.1, g t.1, 0), (g t.1, g t.2.2, 0)].Perm [(g t.2.1, g t.1, 0), (g t.2.2, g t.2.1, 0), (g t.1, g t.2.2, 0)]
      exact List.Perm.swap _ _ _
    · rw [h]
      show [(g t.2.1, g t.1, (0 : Int)), (g t.1, g t.2.2, 0), (g t.2.2, g t.2.1, 0)].Perm [(g t.2.1, g t.1, 0), (g t.2.2, g t.2.1, 0), (g t.1, g t.2.2, 0)]
      exact (List.Perm.swap _ _ _).cons _
/-- The triangles of T are those of T', in another order, turned (or turned and mirrored), in other numbers. -/
structure Mv (r : Bool) (T T' : List Tr) (π : Nat → Nat) (g : Int → Int) : Prop where
  len : T'.length = T.length
  lt : ∀ i, i < T.length → π i < T.length
  inj : ∀ i j, i < T.length → j < T.length → π i = π j → i = j
  tri : ∀ i t, T[i]? = some t → ∃ t', T'[π i]? = some t' ∧ Turned r g t t'
  ginj : ∀ t ∈ T, ∀ s ∈ T, ∀ x y, hasV t x → hasV s y → g x = g y → x = y
theorem Turned.has {r : Bool} {g : Int → Int} {t t' : Tr} (h : Turned r g t t') {u : Int} : hasV t' u ↔ ∃ x, hasV t x ∧ u = g x := by
  rw [hasV_mem, h.perm.mem_iff]
  simp only [List.mem_cons, List.not_mem_nil, or_false]
  unfold hasV
  constructor
  · rintro (e | e | e)
    · exact ⟨_, .inl rfl, e⟩
    · exact ⟨_, .inr (.inl rfl), e⟩
    · exact ⟨_, .inr (.inr rfl), e⟩
  · rintro ⟨x, e | e | e, rfl⟩
    · exact .inl (by rw [e])
    · exact .inr (.inl (by rw [e]))
    · exact .inr (.inr (by rw [e]))
section
variable {r : Bool} {T T' : List Tr} {π : Nat → Nat} {g : Int → Int}
theorem Mv.range (h : Mv r T T' π g) : ((List.range T.length).map π).Perm (List.range T.length) := by
  have hn : ((List.range T.length).map π).Nodup := by
    rw [List.nodup_iff_pairwise_ne, List.pairwise_map]
    refine List.Pairwise.imp_of_mem ?_ (List.nodup_iff_pairwise_ne.1 List.nodup_range)
    intro a b ha hb hab e
    exact hab (h.inj _ _ (List.mem_range.1 ha) (List.mem_range.1 hb) e)
  have hs : ∀ x ∈ (List.range T.length).map π, x ∈ List.range T.length := by
    intro x hx
    obtain ⟨c, hc, rfl⟩ := List.mem_map.1 hx
    exact List.mem_range.2 (h.lt c (List.mem_range.1 hc))
  refine (List.perm_ext_iff_of_nodup hn List.nodup_range).2 fun d => ⟨hs d, fun hd => ?_⟩
  refine Classical.byContradiction fun hno => ?_
  have h2 := Jor.nodup_le (List.nodup_cons.2 ⟨hno, hn⟩) (m := List.range T.length) (fun x hx => by
    rcases List.mem_cons.1 hx with rfl | hx
    · exact hd
    · exact hs x hx)
  simp at h2
  omega
theorem Mv.surj (h : Mv r T T' π g) {k : Nat} (hk : k < T.length) : ∃ i, i < T.length ∧ π i = k := by
  have := h.range.mem_iff.2 (List.mem_range.2 hk)
  obtain ⟨i, hi, e⟩ := List.mem_map.1 this
  exact ⟨i, List.mem_range.1 hi, e⟩
/-- Whoever stands over there came from here. -/
theorem Mv.from_ (h : Mv r T T' π g) {k : Nat} {t' : Tr} (hk : T'[k]? = some t') : ∃ i t, i < T.length ∧ π i = k ∧ T[i]? = some t ∧ Turned r g t t' := by
  have hk' := (List.getElem?_eq_some_iff.1 hk).1
  rw [h.len] at hk'
  obtain ⟨i, hi, e⟩ := h.surj hk'
  obtain ⟨t'', e1, e2⟩ := h.tri i T[i] (List.getElem?_eq_getElem hi)
  rw [e, hk] at e1
  cases e1
  exact ⟨i, T[i], hi, e, List.getElem?_eq_getElem hi, e2⟩
/-- The triangles over there in the order of those here. -/
def Mv.ord (T T' : List Tr) (π : Nat → Nat) : List Tr := (List.range T.length).map fun i => T'.getD (π i) (0, 0, 0)
theorem Mv.perm (h : Mv r T T' π g) : T'.Perm (Mv.ord T T' π) := by
  have e1 : T' = (List.range T.length).map fun k => T'.getD k (0, 0, 0) := by
    apply List.ext_getElem?
    intro k
    rw [List.getElem?_map]
    by_cases hk : k < T.length
    · rw [List.getElem?_range hk]
      have : k < T'.length := by rw [h.len]; exact hk
      simp [List.getD, List.getElem?_eq_getElem this]
    · rw [List.getElem?_eq_none (by rw [h.len]; omega), List.getElem?_eq_none (by simp; omega)]
      rfl
  have e2 : Mv.ord T T' π = ((List.range T.length).map π).map fun k => T'.getD k (0, 0, 0) := by
    unfold Mv.ord
    rw [List.map_map]
    rfl
  rw [e2]
  have h1 := (h.range.map fun k => T'.getD k (0, 0, 0)).symm
  rw [← e1] at h1
  exact h1
theorem Mv.ord_at (h : Mv r T T' π g) {i : Nat} {t : Tr} (hi : T[i]? = some t) : ∃ t', (Mv.ord T T' π)[i]? = some t' ∧ Turned r g t t' := by
  have hl := (List.getElem?_eq_some_iff.1 hi).1
  obtain ⟨t', e1, e2⟩ := h.tri i t hi
  refine ⟨t', ?_, e2⟩
  unfold Mv.ord
  rw [List.getElem?_map, List.getElem?_range hl]
  simp [List.getD, e1]
/-- Lists side by side, triangle by triangle. -/
theorem flat_side {α : Type} {f h : Tr → List α} : ∀ {A B : List Tr}, A.length = B.length → (∀ (i : Nat) (t : Tr), A[i]? = some t → ∃ t' : Tr, B[i]? = some t' ∧ (f t').Perm (h t)) → (B.flatMap f).Perm (A.flatMap h)
  | [], [], _, _ => List.Perm.refl _
  | [], _ :: _, e, _ => by simp at e
  | _ :: _, [], e, _ => by simp at e
  | a :: A, b :: B, e, hh => by
    rw [List.flatMap_cons, List.flatMap_cons]
    obtain ⟨t', e1, e2⟩ := hh 0 a rfl
    have e1 : b = t' := by simpa using e1
    rw [e1]
    exact e2.append (flat_side (by simpa using e) (fun i t hi => hh (i + 1) t (by simpa using hi)))
theorem nodup_map_on {α β : Type} {f : α → β} : ∀ {l : List α}, l.Nodup → (∀ x ∈ l, ∀ y ∈ l, f x = f y → x = y) → (l.map f).Nodup
  | [], _, _ => List.nodup_nil
  | a :: l, h, hf => by
    obtain ⟨h1, h2⟩ := List.nodup_cons.1 h
    rw [List.map_cons, List.nodup_cons]
    refine ⟨fun hm => ?_, nodup_map_on h2 (fun x hx y hy => hf x (List.mem_cons_of_mem _ hx) y (List.mem_cons_of_mem _ hy))⟩
    obtain ⟨x, hx, e⟩ := List.mem_map.1 hm
    have := hf x (List.mem_cons_of_mem _ hx) a (List.mem_cons_self ..) e
    rw [this] at hx
    exact h1 hx
theorem edges3_has {t e : Tr} (h : e ∈ edges3 t) : hasV t e.1 ∧ hasV t e.2.1 ∧ e.2.2 = 0 := by
  unfold edges3 at h
  simp only [List.mem_cons, List.not_mem_nil, or_false] at h
  unfold hasV
  rcases h with rfl | rfl | rfl
  · exact ⟨.inl rfl, .inr (.inl rfl), rfl⟩
  · exact ⟨.inr (.inl rfl), .inr (.inr rfl), rfl⟩
  · exact ⟨.inr (.inr rfl), .inl rfl, rfl⟩
theorem Mv.twice (h : Mv r T T' π g) (hE : (T.flatMap edges3).Nodup) : (T'.flatMap edges3).Nodup := by
  have p1 : (T'.flatMap edges3).Perm ((Mv.ord T T' π).flatMap edges3) := h.perm.flatMap_right _
  have hl : T.length = (Mv.ord T T' π).length := by unfold Mv.ord; simp
  have p2 := flat_side (f := edges3) (h := fun t => (edges3 t).map fun e => if r then (g e.2.1, g e.1, (0 : Int)) else (g e.1, g e.2.1, 0)) hl (fun i t hi => by
    obtain ⟨t', e1, e2⟩ := h.ord_at hi
    exact ⟨t', e1, e2.edges⟩)
  have e3 : (T.flatMap fun t => (edges3 t).map fun e => if r then (g e.2.1, g e.1, (0 : Int)) else (g e.1, g e.2.1, 0)) = (T.flatMap edges3).map fun e => if r then (g e.2.1, g e.1, (0 : Int)) else (g e.1, g e.2.1, 0) := by rw [List.map_flatMap]
  rw [e3] at p2
  refine ((p1.trans p2).nodup_iff).2 (nodup_map_on hE fun x hx y hy e => ?_)
  obtain ⟨t, ht, hx⟩ := List.mem_flatMap.1 hx
  obtain ⟨s, hs, hy⟩ := List.mem_flatMap.1 hy
  obtain ⟨x1, x2, x3⟩ := edges3_has hx
  obtain ⟨y1, y2, y3⟩ := edges3_has hy
  have h1 : g x.1 = g y.1 ∧ g x.2.1 = g y.2.1 := by
    cases r with
    | false => simp only [Bool.false_eq_true, if_false, Prod.mk.injEq] at e; exact ⟨e.1, e.2.1⟩
    | true => simp only [if_true, Prod.mk.injEq] at e; exact ⟨e.2.1, e.1⟩
  obtain ⟨a, b, c⟩ := x
  obtain ⟨a', b', c'⟩ := y
  simp only at x1 x2 x3 y1 y2 y3 h1 ⊢
  rw [h.ginj t ht s hs _ _ x1 y1 h1.1, h.ginj t ht s hs _ _ x2 y2 h1.2, x3, y3]
theorem perm_of_has {t s : Tr} (ht : simple3 t) (hs : simple3 s) (h : ∀ x, hasV t x ↔ hasV s x) : [t.1, t.2.1, t.2.2].Perm [s.1, s.2.1, s.2.2] := by
  have nd : ∀ {t : Tr}, simple3 t → [t.1, t.2.1, t.2.2].Nodup := fun {t} h => by
    obtain ⟨a, b, c⟩ := h
    simp only [List.nodup_cons, List.mem_cons, List.not_mem_nil, or_false, not_or, not_false_eq_true, List.nodup_nil, and_true]
    exact ⟨⟨a, fun e => c e.symm⟩, b⟩
  refine (List.perm_ext_iff_of_nodup (nd ht) (nd hs)).2 fun x => ?_
  rw [← hasV_mem, ← hasV_mem]
  exact h x
theorem key3_idx {T : List Tr} (h : (T.flatMap key3).Nodup) {i j : Nat} {t s : Tr} (hi : T[i]? = some t) (hj : T[j]? = some s) (e : sort3 t.1 t.2.1 t.2.2 = sort3 s.1 s.2.1 s.2.2) : i = j := by
  have e1 : T.flatMap key3 = T.map fun t => sort3 t.1 t.2.1 t.2.2 := by
    have : ∀ l : List Tr, l.flatMap key3 = l.map fun t => sort3 t.1 t.2.1 t.2.2 := fun l => by
      induction l with
      | nil => rfl
      | cons a l ih => rw [List.flatMap_cons, ih]; rfl
    exact this T
  rw [e1] at h
  have hp := List.pairwise_iff_getElem.1 (List.nodup_iff_pairwise_ne.1 h)
  obtain ⟨q1, q2⟩ := List.getElem?_eq_some_iff.1 hi
  obtain ⟨q3, q4⟩ := List.getElem?_eq_some_iff.1 hj
  rcases Nat.lt_trichotomy i j with h1 | h1 | h1
  · exact absurd (by rw [List.getElem_map, List.getElem_map, q2, q4]; exact e) (hp i j (by rw [List.length_map]; exact q1) (by rw [List.length_map]; exact q3) h1)
  · exact h1
  · exact absurd (by rw [List.getElem_map, List.getElem_map, q2, q4]; exact e.symm) (hp j i (by rw [List.length_map]; exact q3) (by rw [List.length_map]; exact q1) h1)
theorem key3_of {T : List Tr} (h : ∀ (i j : Nat) (t s : Tr), T[i]? = some t → T[j]? = some s → sort3 t.1 t.2.1 t.2.2 = sort3 s.1 s.2.1 s.2.2 → i = j) : (T.flatMap key3).Nodup := by
  have e1 : T.flatMap key3 = T.map fun t => sort3 t.1 t.2.1 t.2.2 := by
    have : ∀ l : List Tr, l.flatMap key3 = l.map fun t => sort3 t.1 t.2.1 t.2.2 := fun l => by
      induction l with
      | nil => rfl
      | cons a l ih => rw [List.flatMap_cons, ih]; rfl
    exact this T
  rw [e1, List.nodup_iff_pairwise_ne]
  refine List.pairwise_iff_getElem.2 fun i j hi hj hij e => ?_
  simp only [List.getElem_map] at e
  have := h i j _ _ (List.getElem?_eq_getElem (by simpa using hi)) (List.getElem?_eq_getElem (by simpa using hj)) e
  omega
theorem Turned.simple {r : Bool} {g : Int → Int} {t t' : Tr} (h : Turned r g t t') (ht : simple3 t) (hg : ∀ x y, hasV t x → hasV t y → g x = g y → x = y) : simple3 t' := by
  obtain ⟨a, b, c⟩ := ht
  have v1 : hasV t t.1 := .inl rfl
  have v2 : hasV t t.2.1 := .inr (.inl rfl)
  have v3 : hasV t t.2.2 := .inr (.inr rfl)
  have n1 : g t.1 ≠ g t.2.1 := fun e => a (hg _ _ v1 v2 e)
  have n2 : g t.2.1 ≠ g t.2.2 := fun e => b (hg _ _ v2 v3 e)
  have n3 : g t.2.2 ≠ g t.1 := fun e => c (hg _ _ v3 v1 e)
  cases r with
  | false =>
    rcases h with h | h | h <;> rw [h]
    · exact ⟨n1, n2, n3⟩
    · exact ⟨n2, n3, n1⟩
    · exact ⟨n3, n1, n2⟩
  | true =>
    rcases h with h | h | h <;> rw [h]
    · exact ⟨fun e => n3 e.symm, fun e => n2 e.symm, fun e => n1 e.symm⟩
    · exact ⟨fun e => n2 e.symm, fun e => n1 e.symm, fun e => n3 e.symm⟩
    · exact ⟨fun e => n1 e.symm, fun e => n3 e.symm, fun e => n2 e.symm⟩
theorem Mv.mirrored (h : Mv r T T' π g) (hs : ∀ t ∈ T, simple3 t) (hK : (T.flatMap key3).Nodup) : (T'.flatMap key3).Nodup := by
  refine key3_of fun k l t' s' hk hl e => ?_
  obtain ⟨i, t, hi, rfl, ht, tt⟩ := h.from_ hk
  obtain ⟨j, s, hj, rfl, hs', ts⟩ := h.from_ hl
  have htm := List.mem_of_getElem? ht
  have hsm := List.mem_of_getElem? hs'
  have hp := sort3_has e
  have hsame : ∀ x, hasV t x ↔ hasV s x := by
    intro x
    constructor
    · intro hx
      have h1 : hasV t' (g x) := tt.has.2 ⟨x, hx, rfl⟩
      rw [hasV_mem, hp.mem_iff, ← hasV_mem] at h1
      obtain ⟨y, hy, e2⟩ := ts.has.1 h1
      rw [h.ginj t htm s hsm x y hx hy e2]
      exact hy
    · intro hx
      have h1 : hasV s' (g x) := ts.has.2 ⟨x, hx, rfl⟩
      rw [hasV_mem, ← hp.mem_iff, ← hasV_mem] at h1
      obtain ⟨y, hy, e2⟩ := tt.has.1 h1
      rw [h.ginj s hsm t htm x y hx hy e2]
      exact hy
  rw [key3_idx hK ht hs' (sort3_perm (perm_of_has (hs t htm) (hs s hsm) hsame))]
end
/-! Connected, from whomever on. -/
theorem adjV_symm {T : List Tr} {v : Int} {i k : Nat} (h : adjV T v i k) : adjV T v k i := by
  obtain ⟨a, b, x, h1, h2, h3, h4, h5⟩ := h
  exact ⟨b, a, x, h2, h1, h3, h5, h4⟩
def Link (T : List Tr) (v : Int) (l : List Nat) (i k : Nat) : Prop := ∀ S : Nat → Prop, S i → (∀ i ∈ l, ∀ k ∈ l, S i → adjV T v i k → S k) → S k
theorem Link.trans {T : List Tr} {v : Int} {l : List Nat} {i j k : Nat} (h1 : Link T v l i j) (h2 : Link T v l j k) : Link T v l i k := fun S a b => h2 S (h1 S a b) b
theorem ConnV.any {T : List Tr} {v : Int} {l : List Nat} (h : ConnV T v l) {i k : Nat} (hi : i ∈ l) (hk : k ∈ l) : Link T v l i k := by
  obtain ⟨a, r, rfl⟩ : ∃ a r, l = a :: r := by
    cases l with
    | nil => cases hi
    | cons a r => exact ⟨a, r, rfl⟩
  have h1 : ∀ k ∈ a :: r, Link T v (a :: r) a k ∧ Link T v (a :: r) k a := h (fun k => Link T v (a :: r) a k ∧ Link T v (a :: r) k a) (fun i e => by
    have : i = a := by simpa using e.symm
    subst this
    exact ⟨fun S s _ => s, fun S s _ => s⟩) (fun i hi k hk hs ha => by
    have s1 : Link T v (a :: r) i k := fun S s c => c i hi k hk s ha
    have s2 : Link T v (a :: r) k i := fun S s c => c k hk i hi s (adjV_symm ha)
    exact ⟨hs.1.trans s1, s2.trans hs.2⟩)
  exact (h1 i hi).2.trans (h1 k hk).1
theorem ConnV.of_any {T : List Tr} {v : Int} {l : List Nat} (h : ∀ i ∈ l, ∀ k ∈ l, Link T v l i k) : ConnV T v l := fun S s0 sc k hk => by
  cases l with
  | nil => cases hk
  | cons a r => exact h a (List.mem_cons_self ..) k hk S (s0 a rfl) sc
section
variable {r : Bool} {T T' : List Tr} {π : Nat → Nat} {g : Int → Int}
theorem Mv.pinch (h : Mv r T T' π g) {t0 : Tr} {i0 : Nat} {x : Int} (h0 : T[i0]? = some t0) (hx : hasV t0 x) (hc : ConnV T x (atV T x)) : ConnV T' (g x) (atV T' (g x)) := by
  have ht0 := List.mem_of_getElem? h0
  -- who is at g x over there came from one at x here
  have back : ∀ k, k ∈ atV T' (g x) → ∃ i, i ∈ atV T x ∧ π i = k := by
    intro k hk
    obtain ⟨t', e1, e2⟩ := atV_mem.1 hk
    obtain ⟨i, t, hi, e3, e4, e5⟩ := h.from_ e1
    obtain ⟨y, hy, e6⟩ := e5.has.1 e2
    have := h.ginj t0 ht0 t (List.mem_of_getElem? e4) x y hx hy e6
    rw [← this] at hy
    exact ⟨i, atV_mem.2 ⟨t, e4, hy⟩, e3⟩
  have forth : ∀ i, i ∈ atV T x → π i ∈ atV T' (g x) := by
    intro i hi
    obtain ⟨t, e1, e2⟩ := atV_mem.1 hi
    obtain ⟨t', e3, e4⟩ := h.tri i t e1
    exact atV_mem.2 ⟨t', e3, e4.has.2 ⟨x, e2, rfl⟩⟩
  have step : ∀ i k, adjV T x i k → adjV T' (g x) (π i) (π k) := by
    rintro i k ⟨a, b, y, h1, h2, h3, h4, h5⟩
    obtain ⟨a', a1, a2⟩ := h.tri i a h1
    obtain ⟨b', b1, b2⟩ := h.tri k b h2
    refine ⟨a', b', g y, a1, b1, fun e => h3 ?_, a2.has.2 ⟨y, h4, rfl⟩, b2.has.2 ⟨y, h5, rfl⟩⟩
    exact h.ginj a (List.mem_of_getElem? h1) t0 ht0 y x h4 hx e
  refine ConnV.of_any fun k hk l hl => ?_
  obtain ⟨i, hi, rfl⟩ := back k hk
  obtain ⟨j, hj, rfl⟩ := back l hl
  intro S s0 sc
  exact hc.any hi hj (fun i => S (π i)) s0 (fun i hi k hk hs ha => sc _ (forth i hi) _ (forth k hk) hs (step i k ha))
theorem flatT_has {T : List Tr} {u : Int} : u ∈ flatT T ↔ ∃ t ∈ T, hasV t u := by
  unfold flatT
  rw [List.mem_flatMap]
  constructor
  · rintro ⟨t, ht, hu⟩
    exact ⟨t, ht, hasV_mem.2 hu⟩
  · rintro ⟨t, ht, hu⟩
    exact ⟨t, ht, hasV_mem.1 hu⟩
theorem in3_has {N : Int} {t : Tr} : in3 N t ↔ ∀ x, hasV t x → inR N x := by
  unfold in3 hasV
  constructor
  · rintro ⟨a, b, c⟩ x (rfl | rfl | rfl) <;> assumption
  · intro h
    exact ⟨h _ (.inl rfl), h _ (.inr (.inl rfl)), h _ (.inr (.inr rfl))⟩
/-- A surface stays one. -/
theorem Mv.surf (h : Mv r T T' π g) {N N' : Int} (hS : Surf N T) (h0 : 0 ≤ N') (h1 : N' ≤ 4096) (hin : ∀ x, inR N x → inR N' (g x)) (hco : ∀ u, inR N' u → ∃ x, inR N x ∧ g x = u) : Surf N' T' where
  n0 := h0
  n1 := h1
  len := by rw [h.len]; exact hS.len
  inr := fun t' ht' => by
    obtain ⟨k, hk, e⟩ := List.getElem_of_mem ht'
    obtain ⟨i, t, hi, -, e2, e3⟩ := h.from_ (k := k) (t' := t') (by rw [List.getElem?_eq_getElem hk, e])
    refine in3_has.2 fun u hu => ?_
    obtain ⟨x, hx, rfl⟩ := e3.has.1 hu
    exact hin x (in3_has.1 (hS.inr t (List.mem_of_getElem? e2)) x hx)
  simple := fun t' ht' => by
    obtain ⟨k, hk, e⟩ := List.getElem_of_mem ht'
    obtain ⟨i, t, hi, -, e2, e3⟩ := h.from_ (k := k) (t' := t') (by rw [List.getElem?_eq_getElem hk, e])
    have hm := List.mem_of_getElem? e2
    exact e3.simple (hS.simple t hm) (fun x y hx hy e => h.ginj t hm t hm x y hx hy e)
  twice := h.twice hS.twice
  mirrored := h.mirrored hS.simple hS.mirrored
  lonely := fun u hu => by
    obtain ⟨x, hx, rfl⟩ := hco u hu
    obtain ⟨t, ht, hxt⟩ := flatT_has.1 (hS.lonely x hx)
    obtain ⟨i, hi, e⟩ := List.getElem_of_mem ht
    obtain ⟨t', e1, e2⟩ := h.tri i t (by rw [List.getElem?_eq_getElem hi, e])
    exact flatT_has.2 ⟨t', List.mem_of_getElem? e1, e2.has.2 ⟨x, hxt, rfl⟩⟩
  pinch := fun u hu => by
    obtain ⟨x, hx, rfl⟩ := hco u hu
    obtain ⟨t, ht, hxt⟩ := flatT_has.1 (hS.lonely x hx)
    obtain ⟨i, hi, e⟩ := List.getElem_of_mem ht
    exact h.pinch (i0 := i) (t0 := t) (by rw [List.getElem?_eq_getElem hi, e]) hxt (hS.pinch x hx)
end
end Go.Proofs.YtpnkhgjjlionnaaGreat
namespace Go.Proofs.YtpnkhgjjlionnaaGreat
open Go.RowKit

structure WSt where
  come : List Int
  loop : List Int
  wait : List (List Int)
structure WStep where
  letter : Int
  corner : Int
  loops : Nat
  length : Nat
/-- One step; none: there is no sense in it. -/
def stepM (T : List Tr) (s : WSt) : Option (WStep × WSt) :=
  match s.loop with
  | a :: b :: r =>
    if facI T (a, b) < 0 then none
    else if vertI T (facI T (a, b)) ∉ s.come then some (⟨67, facI T (a, b), s.wait.length, r.length + 2⟩, ⟨s.come ++ [vertI T (facI T (a, b))], a :: vertI T (facI T (a, b)) :: b :: r, s.wait⟩)
    else if r.length = 1 then some (⟨69, facI T (a, b), s.wait.length, r.length + 2⟩, ⟨s.come, s.wait.getLast?.getD [], s.wait.dropLast⟩)
    else if Lib.idxOf (a :: b :: r) (vertI T (facI T (a, b))) = r.length + 1 then some (⟨76, facI T (a, b), s.wait.length, r.length + 2⟩, ⟨s.come, vertI T (facI T (a, b)) :: (b :: r).dropLast, s.wait⟩)
    else if Lib.idxOf (a :: b :: r) (vertI T (facI T (a, b))) = 2 then some (⟨82, facI T (a, b), s.wait.length, r.length + 2⟩, ⟨s.come, a :: r, s.wait⟩)
    else if 2 < Lib.idxOf (a :: b :: r) (vertI T (facI T (a, b))) then some (⟨83, facI T (a, b), s.wait.length, r.length + 2⟩, ⟨s.come, a :: (a :: b :: r).drop (Lib.idxOf (a :: b :: r) (vertI T (facI T (a, b)))).toNat, s.wait ++ [vertI T (facI T (a, b)) :: (b :: r).take ((Lib.idxOf (a :: b :: r) (vertI T (facI T (a, b)))).toNat - 1)]⟩)
    else none
  | _ => none
def hdI (T : List Tr) (c : Nat) : Int := vertN T (Jor.nx c)
/-- The numbers are those of the corners. -/
structure WRel (T : List Tr) (D : List Nat) (Xs : List (List Nat)) (s : WSt) : Prop where
  come : ∀ c, c < 3 * T.length → (vertN T c ∈ s.come ↔ Jor.Come T.length (verN T) D (verN T c))
  nd : s.come.Nodup
  rng : ∀ v ∈ s.come, ∃ c, c < 3 * T.length ∧ vertN T c = v
  loop : s.loop = (Xs.headD []).map (hdI T)
  wait : s.wait = (Xs.tail.map fun X => X.map (hdI T)).reverse
theorem idxOf_at {l m : List Int} {v : Int} (h : v ∉ l) : Lib.idxOf (l ++ v :: m) v = l.length := by
  have := Lib.idxOf_hit (l ++ v :: m) (l ++ v :: m).length l.length v (by simp) (Nat.le_refl _) (by simp [List.getD]) (fun j hj e => h (by
    have : (l ++ v :: m).getD j 0 = l[j] := by simp [List.getD, List.getElem?_append_left hj, List.getElem?_eq_getElem hj]
    rw [this] at e
    rw [← e]
    exact List.getElem_mem _))
  rwa [List.take_length] at this
variable {N : Int} {T : List Tr} {d0 : Nat} {D : List Nat}
theorem hdI_opp (hc : ClosedT T) {c : Nat} (h : c < 3 * T.length) : hdI T (oppN T c) = vertN T (Jor.pv c) := by
  obtain ⟨_, h2⟩ := opp_some h (hc.opp h)
  have := congrArg Prod.fst h2
  simpa [edgeN, hdI] using this
theorem stepM_ok (hS : Surf N T) (hc : ClosedT T) (K : Jor.Walks T.length N.toNat (oppN T) (verN T)) {c0 : Nat} {r : List Nat} {W : List (List Nat)} {s : WSt}
    (h : Jor.WInv T.length (oppN T) (verN T) d0 D ((c0 :: r) :: W)) (R : WRel T D ((c0 :: r) :: W) s) :
    ∃ l s' Xs', stepM T s = some (⟨l, (c0 : Int), W.length, r.length + 1⟩, s') ∧ Jor.WInv T.length (oppN T) (verN T) d0 (c0 / 3 :: D) Xs' ∧ WRel T (c0 / 3 :: D) Xs' s' ∧
      ((l = 67 ∧ s'.come = s.come ++ [vertN T c0] ∧ Xs'.length = W.length + 1 ∧ s'.loop.length = r.length + 2) ∨ (l = 69 ∧ s'.come = s.come ∧ Xs'.length = W.length ∧ r.length = 2) ∨ ((l = 76 ∨ l = 82) ∧ s'.come = s.come ∧ Xs'.length = W.length + 1 ∧ s'.loop.length = r.length) ∨ (l = 83 ∧ s'.come = s.come ∧ Xs'.length = W.length + 2)) := by
  have hX : (c0 :: r) ∈ (c0 :: r) :: W := List.mem_cons_self ..
  have h0 : Jor.Bd T.length (oppN T) D c0 := h.mem hX (List.mem_cons_self ..)
  have hl0 := h0.1
  have ha : Jor.pv c0 < 3 * T.length := Jor.pv_lt hl0
  have hb : Jor.nx c0 < 3 * T.length := Jor.nx_lt hl0
  have hlen := h.len _ hX
  obtain ⟨b, r', rfl⟩ : ∃ b r', r = b :: r' := List.exists_cons_of_ne_nil (by rintro rfl; simp at hlen)
  have hbm : b ∈ c0 :: b :: r' := by simp
  have hbl := (h.mem hX hbm).1
  have e1 : vertN T (Jor.pv c0) = hdI T b := by
    obtain ⟨c', r'', e', hcyc⟩ := h.cyc _ hX
    cases e'
    simp only [List.map_cons, List.cons_append, List.cons.injEq] at hcyc
    exact (verN_eq hS ha (Jor.nx_lt hbl)).1 hcyc.1
  have hloop : s.loop = hdI T c0 :: hdI T b :: r'.map (hdI T) := R.loop
  have hwl : s.wait.length = W.length := by rw [R.wait]; simp
  have hfac : facI T (hdI T c0, hdI T b) = (c0 : Int) := by
    rw [← e1]
    exact facI_of hS.twice hl0
  have hv : vertI T (c0 : Int) = vertN T c0 := vertI_nat hl0
  have hrl : (r'.map (hdI T)).length = r'.length := by simp
  have hcs := Jor.come_step K h0
  have hoa : hdI T (oppN T (Jor.pv c0)) = hdI T c0 := by rw [hdI_opp hc ha, Jor.pv_pv]; rfl
  have hob : hdI T (oppN T (Jor.nx c0)) = vertN T c0 := by rw [hdI_opp hc hb, Jor.pv_nx]
  rcases h.next K with ⟨hn, hI⟩ | ⟨hcm, r1, e, r2, hr, hev, hr1, hI⟩
  · have hnv : vertN T c0 ∉ s.come := fun hm => hn ((R.come c0 hl0).1 hm)
    refine ⟨67, ⟨s.come ++ [vertN T c0], hdI T c0 :: vertN T c0 :: hdI T b :: r'.map (hdI T), s.wait⟩, _, ?_, hI, ⟨?_, ?_, ?_, ?_, ?_⟩, .inl ⟨rfl, rfl, by simp, by simp⟩⟩
    · unfold stepM
      rw [hloop]
      simp only [hfac, hv]
      rw [if_neg (by omega), if_pos hnv, hwl, hrl]
      rfl
    · intro c hcl
      rw [hcs, ← R.come c hcl, List.mem_append, List.mem_singleton, verN_eq hS hcl hl0]
    · rw [List.nodup_append]
      exact ⟨R.nd, by simp, fun a ha b hb e => by rw [List.mem_singleton.1 hb] at e; exact hnv (by rw [← e]; exact ha)⟩
    · intro v hvm
      rcases List.mem_append.1 hvm with hvm | hvm
      · exact R.rng v hvm
      · rw [List.mem_singleton.1 hvm]
        exact ⟨c0, hl0, rfl⟩
    · simp [hoa, hob]
    · exact R.wait
  · have hvm : vertN T c0 ∈ s.come := (R.come c0 hl0).2 hcm
    have hem : e ∈ c0 :: b :: r' := by rw [hr]; simp
    have hel := (h.mem hX hem).1
    have hev' : hdI T e = vertN T c0 := (verN_eq hS (Jor.nx_lt hel) hl0).1 hev
    have hcome : ∀ c, c < 3 * T.length → (vertN T c ∈ s.come ↔ Jor.Come T.length (verN T) (c0 / 3 :: D) (verN T c)) := by
      intro c hcl
      rw [hcs, ← R.come c hcl, verN_eq hS hcl hl0]
      exact ⟨.inl, fun h => by rcases h with h | h; exact h; rw [h]; exact hvm⟩
    have hvl : hdI T b :: r'.map (hdI T) = r1.map (hdI T) ++ vertN T c0 :: r2.map (hdI T) := by
      rw [← hev', ← List.map_cons, ← List.map_cons, ← List.map_append, hr]
    have hnot : vertN T c0 ∉ hdI T c0 :: r1.map (hdI T) := by
      have hnd := h.vnd _ hX
      rw [hr] at hnd
      intro hm
      rcases List.mem_cons.1 hm with hm | hm
      · exact (vert_ne hS.simple hl0).1 hm.symm
      · obtain ⟨x, hx, hxe⟩ := List.mem_map.1 hm
        have hxm : x ∈ c0 :: b :: r' := by rw [hr]; simp [hx]
        have e2 : Jor.hd (verN T) x = Jor.hd (verN T) e := by
          rw [hev]
          exact (verN_eq hS (Jor.nx_lt (h.mem hX hxm).1) hl0).2 hxe
        simp only [List.map_cons, List.map_append, List.nodup_cons, List.nodup_append, List.mem_cons] at hnd
        exact hnd.2.2.2 _ (List.mem_map_of_mem hx) _ (.inl rfl) e2
    have hidx : Lib.idxOf (hdI T c0 :: hdI T b :: r'.map (hdI T)) (vertN T c0) = r1.length + 1 := by
      rw [hvl, ← List.cons_append, idxOf_at hnot]
      simp
    have hlr : r'.length + 1 = r1.length + r2.length + 1 := by
      have := congrArg List.length hr
      simp only [List.length_cons, List.length_append] at this
      omega
    have h1pos : 0 < r1.length := List.length_pos_iff.2 hr1
    have hl3 : 3 ≤ r'.length + 2 := by simpa using hlen
    by_cases z1 : r1.length = 1
    · by_cases z2 : r2 = []
      · have hz2 : r2.length = 0 := by rw [z2]; rfl
        unfold Jor.parted at hI
        rw [if_pos z1, if_pos z2] at hI
        refine ⟨69, ⟨s.come, s.wait.getLast?.getD [], s.wait.dropLast⟩, W, ?_, hI, ⟨hcome, R.nd, R.rng, ?_, ?_⟩, .inr (.inl ⟨rfl, rfl, rfl, by simp only [List.length_cons]; omega⟩)⟩
        · unfold stepM
          rw [hloop]
          simp only [hfac, hv]
          rw [if_neg (by omega), if_neg (by simpa using hvm), if_pos (by rw [hrl]; omega), hwl, hrl]
          rfl
        · rw [R.wait]
          cases W <;> simp
        · rw [R.wait]
          cases W <;> simp
      · have hz2 := List.length_pos_iff.2 z2
        unfold Jor.parted at hI
        rw [if_pos z1, if_neg z2] at hI
        refine ⟨82, ⟨s.come, hdI T c0 :: r'.map (hdI T), s.wait⟩, _, ?_, hI, ⟨hcome, R.nd, R.rng, ?_, R.wait⟩, .inr (.inr (.inl ⟨.inr rfl, rfl, by simp, by simp⟩))⟩
        · unfold stepM
          rw [hloop]
          simp only [hfac, hv]
          rw [if_neg (by omega), if_neg (by simpa using hvm), if_neg (by rw [hrl]; omega), hidx, if_neg (by rw [hrl]; omega), if_pos (by omega), hwl, hrl]
          rfl
        · obtain ⟨x, hx⟩ : ∃ x, r1 = [x] := List.length_eq_one_iff.1 z1
          subst hx
          simp only [List.map_cons, List.map_nil, List.cons_append, List.nil_append, List.cons.injEq] at hvl
          simp [hoa, hev', hvl.2]
    · by_cases z2 : r2 = []
      · have hz2 : r2.length = 0 := by rw [z2]; rfl
        unfold Jor.parted at hI
        rw [if_neg z1, if_pos z2] at hI
        refine ⟨76, ⟨s.come, vertN T c0 :: (hdI T b :: r'.map (hdI T)).dropLast, s.wait⟩, _, ?_, hI, ⟨hcome, R.nd, R.rng, ?_, R.wait⟩, .inr (.inr (.inl ⟨.inl rfl, rfl, by simp, by simp⟩))⟩
        · unfold stepM
          rw [hloop]
          simp only [hfac, hv]
          rw [if_neg (by omega), if_neg (by simpa using hvm), if_neg (by rw [hrl]; omega), hidx, if_pos (by rw [hrl]; omega), hwl, hrl]
          rfl
        · rw [hvl, z2]
          simp [hob]
      · have hz2 := List.length_pos_iff.2 z2
        unfold Jor.parted at hI
        rw [if_neg z1, if_neg z2] at hI
        refine ⟨83, ⟨s.come, hdI T c0 :: (hdI T c0 :: hdI T b :: r'.map (hdI T)).drop ((r1.length : Int) + 1).toNat, s.wait ++ [vertN T c0 :: (hdI T b :: r'.map (hdI T)).take (((r1.length : Int) + 1).toNat - 1)]⟩, _, ?_, hI, ⟨hcome, R.nd, R.rng, ?_, ?_⟩, .inr (.inr (.inr ⟨rfl, rfl, by simp⟩))⟩
        · unfold stepM
          rw [hloop]
          simp only [hfac, hv]
          rw [if_neg (by omega), if_neg (by simpa using hvm), if_neg (by rw [hrl]; omega), hidx, if_neg (by rw [hrl]; omega), if_neg (by omega), if_pos (by omega), hwl, hrl]
          rfl
        · have e3 : ((r1.length : Int) + 1).toNat = r1.length + 1 := by omega
          rw [e3, List.drop_succ_cons, hvl, List.drop_append_of_le_length (by simp), show r1.length = (r1.map (hdI T)).length from by simp, List.drop_length]
          simp [hoa, hev']
        · have e3 : ((r1.length : Int) + 1).toNat - 1 = r1.length := by omega
          rw [e3, hvl, List.take_append_of_le_length (by simp), show r1.length = (r1.map (hdI T)).length from by simp, List.take_length, R.wait]
          simp [hob]
end Go.Proofs.YtpnkhgjjlionnaaGreat
namespace Go.Proofs.YtpnkhgjjlionnaaGreat
open Go.RowKit

/-- A simple surface: closed, of one part, of Euler number 2. -/
structure Simp (N : Int) (T : List Tr) : Prop where
  surf : Surf N T
  closed : ClosedT T
  conn : ∀ S : Nat → Prop, S 0 → (∀ c, c < 3 * T.length → S (c / 3) → S (oppN T c / 3)) → ∀ t, t < T.length → S t
  pos : 0 < T.length
  euler : 2 * N = T.length + 4
theorem Simp.K {N : Int} {T : List Tr} (h : Simp N T) : Jor.Walks T.length N.toNat (oppN T) (verN T) := walks_of h.surf h.closed h.conn h.pos h.euler
/-- The walk begins at corner c. -/
def beginS (T : List Tr) (c : Nat) : WSt := ⟨[vertN T c, vertN T (Jor.nx c), vertN T (Jor.pv c)], [vertN T (Jor.nx c), vertN T c, vertN T (Jor.pv c)], []⟩
/-- The triangles gone over, the last one ahead. -/
def dOf (c : Nat) (L : List WStep) : List Nat := (L.map fun x => x.corner.toNat / 3).reverse ++ [c / 3]
/-- The vertices come to by the steps. -/
def newV (T : List Tr) (L : List WStep) : List Int := (L.filter fun x => decide (x.letter = 67)).map fun x => vertI T x.corner
theorem dOf_len (c : Nat) (L : List WStep) : (dOf c L).length = L.length + 1 := by simp [dOf]
theorem dOf_snoc (c : Nat) (L : List WStep) (x : WStep) : dOf c (L ++ [x]) = x.corner.toNat / 3 :: dOf c L := by simp [dOf]
theorem newV_snoc (T : List Tr) (L : List WStep) (x : WStep) : newV T (L ++ [x]) = newV T L ++ (if x.letter = 67 then [vertI T x.corner] else []) := by
  unfold newV
  rw [List.filter_append, List.map_append]
  by_cases h : x.letter = 67 <;> simp [h]
/-- The steps so far. -/
inductive Ran (T : List Tr) (s0 : WSt) : List WStep → WSt → Prop
  | nil : Ran T s0 [] s0
  | snoc {L : List WStep} {s s' : WSt} {x : WStep} : Ran T s0 L s → stepM T s = some (x, s') → Ran T s0 (L ++ [x]) s'
theorem Ran.one {T : List Tr} {s0 s s' : WSt} {L L' : List WStep} (h : Ran T s0 L s) (h' : Ran T s0 L' s') (hl : L.length = L'.length) : L = L' ∧ s = s' := by
  induction h generalizing L' s' with
  | nil =>
    cases h' with
    | nil => exact ⟨rfl, rfl⟩
    | snoc _ _ => simp at hl
  | snoc h1 h2 ih =>
    cases h' with
    | nil => simp at hl
    | snoc k1 k2 =>
      obtain ⟨rfl, rfl⟩ := ih k1 (by simpa using hl)
      rw [h2] at k2
      cases k2
      exact ⟨rfl, rfl⟩
theorem Ran.take {T : List Tr} {s0 s : WSt} {L : List WStep} (h : Ran T s0 L s) : ∀ k, k ≤ L.length → ∃ s', Ran T s0 (L.take k) s' := by
  induction h with
  | nil => intro k _; exact ⟨s0, by simpa using Ran.nil⟩
  | @snoc L s s' x h1 h2 ih =>
    intro k hk
    by_cases e : k = L.length + 1
    · subst e
      exact ⟨s', by rw [List.take_of_length_le (by simp)]; exact .snoc h1 h2⟩
    · have hk' : k ≤ L.length := by simp at hk; omega
      obtain ⟨s2, h3⟩ := ih k hk'
      exact ⟨s2, by rw [List.take_append_of_le_length hk']; exact h3⟩
/-- A walk that is over is no beginning of another one. -/
theorem Ran.end_ {T : List Tr} {s0 s s' : WSt} {L L' : List WStep} (h : Ran T s0 L s) (he : s.loop = []) (h' : Ran T s0 L' s') : L'.length ≤ L.length := by
  induction h' with
  | nil => simp
  | @snoc M s1 s2 x h1 h2 ih =>
    rcases Nat.lt_or_ge M.length L.length with hl | hl
    · simp; omega
    · obtain ⟨e1, e2⟩ := h1.one h (by omega)
      subst e2
      unfold stepM at h2
      rw [he] at h2
      cases h2
theorem Ran.same {T : List Tr} {s0 s s' : WSt} {L L' : List WStep} (h : Ran T s0 L s) (he : s.loop = []) (h' : Ran T s0 L' s') (he' : s'.loop = []) : L' = L ∧ s' = s := by
  have h1 := h.end_ he h'
  have h2 := h'.end_ he' h
  exact h'.one h (by omega)

/-- What holds behind the steps. -/
structure Gone (N : Int) (T : List Tr) (c : Nat) (L : List WStep) (s : WSt) (Xs : List (List Nat)) : Prop where
  inv : Jor.WInv T.length (oppN T) (verN T) (c / 3) (dOf c L) Xs
  rel : WRel T (dOf c L) Xs s
  come : s.come = (beginS T c).come ++ newV T L
  cnt : Xs.length + L.countP (fun x => decide (x.letter = 69)) = 1 + L.countP (fun x => decide (x.letter = 83))
  each : ∀ x ∈ L, ∃ d : Nat, x.corner = d ∧ d < 3 * T.length ∧ 3 ≤ x.length ∧ x.length ≤ 3 * T.length ∧ x.loops ≤ 3 * T.length ∧ (x.letter = 67 ∨ x.letter = 69 ∨ x.letter = 76 ∨ x.letter = 82 ∨ x.letter = 83)
  over : ∀ i x, L[i]? = some x → oppN T x.corner.toNat / 3 ∈ dOf c (L.take i)
theorem nodup_len : ∀ {l m : List Nat}, l.Nodup → l ⊆ m → l.length ≤ m.length
  | [], _, _, _ => by simp
  | a :: l, m, hn, hs => by
    have ha := hs (List.mem_cons_self ..)
    have hn' := List.nodup_cons.1 hn
    have : l ⊆ m.erase a := fun x hx => (List.mem_erase_of_ne (fun e => hn'.1 (by rw [← e]; exact hx))).2 (hs (List.mem_cons_of_mem _ hx))
    have := nodup_len hn'.2 this
    rw [List.length_erase_of_mem ha] at this
    have := List.length_pos_of_mem ha
    simp only [List.length_cons]
    omega
theorem WInv_flat {F : Nat} {opp vert : Nat → Nat} {d0 : Nat} {D : List Nat} {Xs : List (List Nat)} (h : Jor.WInv F opp vert d0 D Xs) : Xs.flatten.length ≤ 3 * F := by
  have h1 : Xs.flatten ⊆ List.range (3 * F) := fun c hc => List.mem_range.2 ((h.bd c).1 hc).1
  have := nodup_len h.nd h1
  simpa using this
theorem flat_count {Xs : List (List Nat)} (h : ∀ X ∈ Xs, 3 ≤ X.length) : 3 * Xs.length ≤ Xs.flatten.length := by
  induction Xs with
  | nil => simp
  | cons X R ih =>
    have h1 := h X (List.mem_cons_self ..)
    have h2 := ih (fun Y hY => h Y (List.mem_cons_of_mem _ hY))
    simp only [List.length_cons, List.flatten_cons, List.length_append]
    omega
variable {N : Int} {T : List Tr} {c : Nat}
theorem begin_gone (h : Simp N T) (hc : c < 3 * T.length) : Gone N T c [] (beginS T c) [[oppN T (Jor.pv c), oppN T (Jor.nx c), oppN T c]] where
  inv := by simpa [dOf] using Jor.WInv.start h.K hc
  rel := by
    have hb := Jor.nx_lt hc
    have hd := Jor.pv_lt hc
    obtain ⟨n1, n2, n3⟩ := vert_ne h.surf.simple hc
    refine ⟨fun d hdl => ?_, ?_, ?_, ?_, by simp [beginS]⟩
    · show _ ↔ Jor.Come T.length (verN T) [c / 3] (verN T d)
      rw [Jor.come_start hc, verN_eq h.surf hdl hc, verN_eq h.surf hdl hb, verN_eq h.surf hdl hd]
      simp [beginS]
    · simp only [beginS, List.nodup_cons, List.mem_cons, List.not_mem_nil, or_false, not_or, not_false_eq_true, List.nodup_nil, and_true]
      exact ⟨⟨fun e => n1 e.symm, fun e => n2 e.symm⟩, n3⟩
    · intro v hv
      simp only [beginS, List.mem_cons, List.not_mem_nil, or_false] at hv
      rcases hv with rfl | rfl | rfl
      · exact ⟨c, hc, rfl⟩
      · exact ⟨_, hb, rfl⟩
      · exact ⟨_, hd, rfl⟩
    · simp [beginS, hdI_opp h.closed hd, hdI_opp h.closed hb, hdI_opp h.closed hc, Jor.pv_pv, Jor.pv_nx]
  come := by simp [newV]
  cnt := by simp
  each := by simp
  over := by simp
/-- One step more. -/
theorem Gone.next (h : Simp N T) {L : List WStep} {s : WSt} {Xs : List (List Nat)} (G : Gone N T c L s Xs) (hl : s.loop ≠ []) :
    ∃ x s' Xs', stepM T s = some (x, s') ∧ Gone N T c (L ++ [x]) s' Xs' ∧ x.loops = s.wait.length ∧ x.length = s.loop.length ∧
      ((x.letter = 67 ∧ Xs'.length = Xs.length ∧ s'.loop.length = s.loop.length + 1) ∨ (x.letter = 69 ∧ Xs'.length + 1 = Xs.length ∧ s.loop.length = 3) ∨ ((x.letter = 76 ∨ x.letter = 82) ∧ Xs'.length = Xs.length ∧ s'.loop.length + 1 = s.loop.length) ∨ (x.letter = 83 ∧ Xs'.length = Xs.length + 1)) := by
  obtain ⟨c0, r, W, rfl⟩ : ∃ c0 r W, Xs = (c0 :: r) :: W := by
    cases Xs with
    | nil => exact absurd (by simpa using G.rel.loop) hl
    | cons X W =>
      cases X with
      | nil => exact absurd (by simpa using G.rel.loop) hl
      | cons c0 r => exact ⟨c0, r, W, rfl⟩
  obtain ⟨l, s', Xs', h1, h2, h3, h4⟩ := stepM_ok h.surf h.closed h.K G.inv G.rel
  have hX : (c0 :: r) ∈ (c0 :: r) :: W := List.mem_cons_self ..
  have h0 : Jor.Bd T.length (oppN T) (dOf c L) c0 := G.inv.mem hX (List.mem_cons_self ..)
  have hloop : s.loop.length = r.length + 1 := by rw [G.rel.loop]; simp
  have hwait : s.wait.length = W.length := by rw [G.rel.wait]; simp
  have hlen := G.inv.len _ hX
  simp only [List.length_cons] at hlen
  have hfl := WInv_flat G.inv
  have hfc := flat_count G.inv.len
  have hcn := G.cnt
  simp only [List.flatten_cons, List.length_append, List.length_cons] at hfl hfc hcn
  have hv : vertI T ((c0 : Nat) : Int) = vertN T c0 := vertI_nat h0.1
  refine ⟨_, s', Xs', h1, ⟨?_, ?_, ?_, ?_, ?_, ?_⟩, hwait.symm, hloop.symm, ?_⟩
  · rw [dOf_snoc]; exact h2
  · rw [dOf_snoc]; exact h3
  · rw [newV_snoc, ← List.append_assoc, ← G.come]
    rcases h4 with ⟨rfl, e, _⟩ | ⟨rfl, e, _⟩ | ⟨e1 | e1, e, _⟩ | ⟨rfl, e, _⟩
    · rw [e, if_pos rfl, hv]
    · rw [e]; simp
    · subst e1; rw [e]; simp
    · subst e1; rw [e]; simp
    · rw [e]; simp
  · rw [List.countP_append, List.countP_append]
    rcases h4 with ⟨rfl, e, e2, _⟩ | ⟨rfl, e, e2, _⟩ | ⟨e1 | e1, e, e2, _⟩ | ⟨rfl, e, e2⟩
    · simp; omega
    · simp; omega
    · subst e1; simp; omega
    · subst e1; simp; omega
    · simp; omega
  · intro x hx
    rcases List.mem_append.1 hx with hx | hx
    · exact G.each x hx
    · rw [List.mem_singleton.1 hx]
      refine ⟨c0, rfl, h0.1, hlen, by show r.length + 1 ≤ _; omega, by show W.length ≤ _; omega, ?_⟩
      show l = 67 ∨ l = 69 ∨ l = 76 ∨ l = 82 ∨ l = 83
      rcases h4 with ⟨e, _⟩ | ⟨e, _⟩ | ⟨e | e, _⟩ | ⟨e, _⟩ <;> simp [e]
  · intro i x hx
    rcases Nat.lt_or_ge i L.length with hi | hi
    · rw [List.getElem?_append_left hi] at hx
      rw [List.take_append_of_le_length (by omega)]
      exact G.over i x hx
    · rw [List.getElem?_append_right hi] at hx
      have hi0 : i - L.length = 0 := by
        have := (List.getElem?_eq_some_iff.1 hx).1
        simp at this
        omega
      rw [hi0] at hx
      simp only [List.getElem?_cons_zero, Option.some.injEq] at hx
      subst hx
      have hi' : i = L.length := by omega
      subst hi'
      rw [List.take_left]
      exact h0.2.2
  · rcases h4 with ⟨e1, e, e2, e3⟩ | ⟨e1, e, e2, e3⟩ | ⟨e1, e, e2, e3⟩ | ⟨e1, e, e2⟩
    · exact .inl ⟨e1, by simpa using e2, by omega⟩
    · exact .inr (.inl ⟨e1, by simp; omega, by omega⟩)
    · exact .inr (.inr (.inl ⟨e1, by simpa using e2, by omega⟩))
    · exact .inr (.inr (.inr ⟨e1, by simp; omega⟩))
/-- Whatever was gone over so far. -/
theorem Ran.gone (h : Simp N T) (hc : c < 3 * T.length) {L : List WStep} {s : WSt} (R : Ran T (beginS T c) L s) : ∃ Xs, Gone N T c L s Xs := by
  induction R with
  | nil => exact ⟨_, begin_gone h hc⟩
  | @snoc L s s' x h1 h2 ih =>
    obtain ⟨Xs, G⟩ := ih
    have hl : s.loop ≠ [] := by
      intro e
      unfold stepM at h2
      rw [e] at h2
      cases h2
    obtain ⟨x2, s2, Xs2, e, G2, _⟩ := G.next h hl
    rw [h2] at e
    cases e
    exact ⟨Xs2, G2⟩
theorem Gone.lt (h : Simp N T) {L : List WStep} {s : WSt} {Xs : List (List Nat)} (G : Gone N T c L s Xs) : L.length + 1 ≤ T.length ∧ (s.loop = [] ↔ L.length + 1 = T.length) := by
  have h1 := G.inv.len_le
  rw [dOf_len] at h1
  refine ⟨h1, fun e => ?_, fun e => ?_⟩
  · have hX : Xs = [] := by
      cases Xs with
      | nil => rfl
      | cons X W =>
        have := G.rel.loop
        rw [e] at this
        have h3 := G.inv.len X (List.mem_cons_self ..)
        simp at this
        rw [this] at h3
        simp at h3
    subst hX
    have := G.inv.finish_len h.K
    rwa [dOf_len] at this
  · cases Xs with
    | nil => simpa using G.rel.loop
    | cons X W =>
      have := G.inv.len_lt
      rw [dOf_len] at this
      omega
/-- What the step wants of the state. -/
theorem Gone.wants (h : Simp N T) {L : List WStep} {s : WSt} {Xs : List (List Nat)} (G : Gone N T c L s Xs) :
    (∀ z ∈ s.loop, 0 ≤ z ∧ z < N) ∧ s.loop.length ≤ 3 * T.length ∧ s.wait.length ≤ 3 * T.length ∧ (s.loop ≠ [] → 3 ≤ s.loop.length) ∧ ∀ l ∈ s.wait, l ≠ [] := by
  have hfl := WInv_flat G.inv
  have hfc := flat_count G.inv.len
  cases Xs with
  | nil =>
    have e1 : s.loop = [] := by simpa using G.rel.loop
    have e2 : s.wait = [] := by simpa using G.rel.wait
    rw [e1, e2]
    simp
  | cons X W =>
    have e1 : s.loop = X.map (hdI T) := by simpa using G.rel.loop
    have e2 := G.rel.wait
    simp only [List.tail_cons] at e2
    simp only [List.flatten_cons, List.length_append, List.length_cons] at hfl hfc
    have h3 := G.inv.len X (List.mem_cons_self ..)
    refine ⟨fun z hz => ?_, by rw [e1, List.length_map]; omega, by rw [e2]; simp; omega, fun _ => by rw [e1, List.length_map]; exact h3, fun l hl => ?_⟩
    · rw [e1] at hz
      obtain ⟨d, hd, rfl⟩ := List.mem_map.1 hz
      exact vert_rng h.surf (Jor.nx_lt (G.inv.mem (List.mem_cons_self ..) hd).1)
    · rw [e2, List.mem_reverse] at hl
      obtain ⟨Y, hY, rfl⟩ := List.mem_map.1 hl
      have := G.inv.len Y (List.mem_cons_of_mem _ hY)
      intro e
      have : Y = [] := by simpa using e
      subst this
      simp at *
theorem ends_aux (h : Simp N T) (hc : c < 3 * T.length) : ∀ (k : Nat) (L : List WStep) (s : WSt), Ran T (beginS T c) L s → T.length = L.length + 1 + k → ∃ L' s', Ran T (beginS T c) L' s' ∧ s'.loop = []
  | 0, L, s, R, hk => by
    obtain ⟨Xs, G⟩ := R.gone h hc
    exact ⟨L, s, R, (G.lt h).2.2 (by omega)⟩
  | k + 1, L, s, R, hk => by
    obtain ⟨Xs, G⟩ := R.gone h hc
    have hl : s.loop ≠ [] := fun e => by
      have := (G.lt h).2.1 e
      omega
    obtain ⟨x, s', Xs', e, _⟩ := G.next h hl
    exact ends_aux h hc k (L ++ [x]) s' (.snoc R e) (by simp; omega)
/-- The walk comes to an end. -/
theorem ends (h : Simp N T) (hc : c < 3 * T.length) : ∃ L s, Ran T (beginS T c) L s ∧ s.loop = [] := ends_aux h hc (T.length - 1) [] _ .nil (by have := h.pos; simp; omega)
/-- The steps, reckoned. -/
def runM (T : List Tr) : Nat → WSt → List WStep × WSt
  | 0, s => ([], s)
  | n + 1, s => match stepM T s with
    | some (x, s') => (x :: (runM T n s').1, (runM T n s').2)
    | none => ([], s)
theorem runM_ran (T : List Tr) (s0 : WSt) : ∀ (n : Nat) (L : List WStep) (s : WSt), Ran T s0 L s → Ran T s0 (L ++ (runM T n s).1) (runM T n s).2
  | 0, L, s, R => by simpa [runM] using R
  | n + 1, L, s, R => by
    unfold runM
    cases hs : stepM T s with
    | none => simpa using R
    | some p =>
      obtain ⟨x, s'⟩ := p
      have := runM_ran T s0 n (L ++ [x]) s' (.snoc R hs)
      simpa using this
/-- The steps of the whole walk. -/
def stepsM (T : List Tr) (c : Nat) : List WStep := (runM T T.length (beginS T c)).1
theorem runM_len (T : List Tr) : ∀ (n : Nat) (s : WSt), (runM T n s).1.length = n ∨ stepM T (runM T n s).2 = none
  | 0, s => .inl rfl
  | n + 1, s => by
    unfold runM
    cases hs : stepM T s with
    | none => exact .inr hs
    | some p =>
      obtain ⟨x, s'⟩ := p
      rcases runM_len T n s' with h | h
      · exact .inl (by simp [h])
      · exact .inr h
/-- Whichever way a walk has come to its end: these are its steps. -/
theorem Ran.steps (h : Simp N T) (hc : c < 3 * T.length) {L : List WStep} {s : WSt} (R : Ran T (beginS T c) L s) (he : s.loop = []) : L = stepsM T c := by
  have R2 := runM_ran T (beginS T c) T.length [] _ .nil
  rw [List.nil_append] at R2
  have hl := R.end_ he R2
  obtain ⟨Xs, G⟩ := R2.gone h hc
  have hlt := (G.lt h).1
  have he2 : (runM T T.length (beginS T c)).2.loop = [] := by
    by_cases e : (runM T T.length (beginS T c)).2.loop = []
    · exact e
    · obtain ⟨x, s', Xs', e2, _⟩ := G.next h e
      rcases runM_len T T.length (beginS T c) with h3 | h3
      · omega
      · rw [h3] at e2
        cases e2
  exact ((R.same he R2 he2).1).symm
end Go.Proofs.YtpnkhgjjlionnaaGreat
namespace Go.Proofs.YtpnkhgjjlionnaaGreat
open Go.RowKit

/-- The vertices of a way with those ahead and behind. -/
def gp : Int → List Int → Int → List Tr
  | _, [], _ => []
  | x, v :: r, e => (x, v, r.headD e) :: gp v r e
theorem lastD_app : ∀ (l : List Int) (x : Int) (r : List Int) (d : Int), (l ++ x :: r).getLastD d = r.getLastD x
  | [], x, r, d => List.getLastD_cons
  | a :: l, x, r, d => by rw [List.cons_append, List.getLastD_cons, lastD_app l x r a]
theorem gp_append : ∀ (l : List Int) (x v : Int) (r : List Int) (e : Int), gp x (l ++ v :: r) e = gp x l v ++ gp (l.getLastD x) (v :: r) e
  | [], _, _, _, _ => rfl
  | a :: l, x, v, r, e => by
    have h := gp_append l a v r e
    have h1 : (l ++ v :: r).headD e = l.headD v := by cases l <;> rfl
    show (x, a, (l ++ v :: r).headD e) :: gp a (l ++ v :: r) e = ((x, a, l.headD v) :: gp a l v) ++ gp ((a :: l).getLastD x) (v :: r) e
    rw [h, h1, List.getLastD_cons, List.cons_append]
/-- A loop's vertices with those ahead and behind. -/
def gapsL (l : List Int) : List Tr := match l with
  | [] => []
  | a :: r => gp (r.getLastD a) (a :: r) a
def gapsS (Ls : List (List Int)) : List Tr := Ls.flatMap gapsL
section
variable {a b u : Int} {p q r : List Int}
theorem gaps_old (a b u : Int) (p q : List Int) : gapsL (a :: b :: p ++ u :: q) = (q.getLastD u, a, b) :: (a, b, p.headD u) :: (gp b p u ++ (p.getLastD b, u, q.headD a) :: gp u q a) := by
  have h : ((b :: p) ++ u :: q).getLastD a = q.getLastD u := lastD_app (b :: p) u q a
  show gp (((b :: p) ++ u :: q).getLastD a) (a :: ((b :: p) ++ u :: q)) a = _
  rw [h]
  show (q.getLastD u, a, b) :: gp a ((b :: p) ++ u :: q) a = _
  rw [gp_append]
  have h2 : (b :: p).getLastD a = p.getLastD b := List.getLastD_cons
  rw [h2]
  rfl
theorem gaps_A (a u : Int) (q : List Int) : gapsL (a :: u :: q) = (q.getLastD u, a, u) :: (a, u, q.headD a) :: gp u q a := by
  have h : (u :: q).getLastD a = q.getLastD u := List.getLastD_cons
  show gp ((u :: q).getLastD a) (a :: u :: q) a = _
  rw [h]
  rfl
end
/-- The triangles at a vertex hang together, over common vertices and over gaps. -/
def GapAt (T : List Tr) (G : List Tr) (v : Int) (i k : Nat) : Prop := ∃ x y s t, (x, v, y) ∈ G ∧ T[i]? = some s ∧ T[k]? = some t ∧ (v, x, 0) ∈ edges3 s ∧ (y, v, 0) ∈ edges3 t
structure Cl (T : List Tr) (G : List Tr) (v : Int) (S : Nat → Prop) : Prop where
  adj : ∀ i k, S i → adjV T v i k → hasV (T.getD i (0, 0, 0)) v → hasV (T.getD k (0, 0, 0)) v → S k
  gap : ∀ i k, GapAt T G v i k → (S i ↔ S k)
def Pin (T : List Tr) (G : List Tr) (v : Int) : Prop := ∀ S, Cl T G v S → ∀ (i k : Nat) (s t : Tr), T[i]? = some s → T[k]? = some t → hasV s v → hasV t v → S i → S k
/-- What holds of the triangles laid so far and the gaps of the loops. -/
structure ZG (N : Nat) (T : List Tr) (G : List Tr) : Prop where
  rng : ∀ t ∈ T, ∀ x, hasV t x → 0 ≤ x ∧ x < N
  lone : ∀ x : Int, 0 ≤ x → x < N → ∃ t ∈ T, hasV t x
  sim : ∀ t ∈ T, simple3 t
  opn : ∀ x v y, (x, v, y) ∈ G → (v, x, 0) ∈ T.flatMap edges3 ∧ (y, v, 0) ∈ T.flatMap edges3
  clo : ∀ p q, (p, q, 0) ∈ T.flatMap edges3 → (q, p, 0) ∈ T.flatMap edges3 ∨ ∃ y, (q, p, y) ∈ G
  pin : ∀ v, Pin T G v
theorem edges3_V {t : Tr} {x y : Int} (h : (x, y, 0) ∈ edges3 t) : hasV t x ∧ hasV t y := ⟨(edges3_has h).1, (edges3_has h).2.1⟩
theorem get_some {T : List Tr} {i : Nat} {t : Tr} (h : T[i]? = some t) : T.getD i (0, 0, 0) = t := by simp [List.getD, h]
theorem get_old {T : List Tr} {i : Nat} {s : Tr} (h : T[i]? = some s) (τ : Tr) : (T ++ [τ])[i]? = some s := by
  rw [List.getElem?_append_left (List.getElem?_eq_some_iff.1 h).1, h]
theorem get_new (T : List Tr) (τ : Tr) : (T ++ [τ])[T.length]? = some τ := by simp
theorem get_case {T : List Tr} {i : Nat} {s τ : Tr} (h : (T ++ [τ])[i]? = some s) : T[i]? = some s ∨ (i = T.length ∧ s = τ) := by
  by_cases hi : i < T.length
  · rw [List.getElem?_append_left hi] at h
    exact .inl h
  · rw [List.getElem?_append_right (by omega)] at h
    have h1 := (List.getElem?_eq_some_iff.1 h).1
    simp at h1
    have h2 : i = T.length := by omega
    subst h2
    simp at h
    exact .inr ⟨rfl, h.symm⟩
theorem mem_owner {T : List Tr} {e : Tr} (h : e ∈ T.flatMap edges3) : ∃ (i : Nat) (s : Tr), T[i]? = some s ∧ e ∈ edges3 s := by
  obtain ⟨s, hs, he⟩ := List.mem_flatMap.1 h
  obtain ⟨i, hi, e2⟩ := List.getElem_of_mem hs
  exact ⟨i, s, by rw [List.getElem?_eq_getElem hi, e2], he⟩
section
variable {N : Nat} {T G G' : List Tr} {τ : Tr}
/-- What is closed in the whole is closed in the part, if each old gap is bridged. -/
theorem Cl.old {v : Int} {S : Nat → Prop} (h : Cl (T ++ [τ]) G' v S) (hg : ∀ i k, GapAt T G v i k → (S i ↔ S k)) : Cl T G v S where
  adj := fun i k hi ha h1 h2 => by
    obtain ⟨a, b, x, e1, e2, e3, e4, e5⟩ := ha
    refine h.adj i k hi ⟨a, b, x, get_old e1 τ, get_old e2 τ, e3, e4, e5⟩ ?_ ?_
    · rw [get_some (get_old e1 τ)]; rw [get_some e1] at h1; exact h1
    · rw [get_some (get_old e2 τ)]; rw [get_some e2] at h2; exact h2
  gap := hg
/-- Two triangles that have another vertex in common. -/
theorem Cl.beside {v y : Int} {S : Nat → Prop} (h : Cl T G v S) {i k : Nat} {s t : Tr} (hi : T[i]? = some s) (hk : T[k]? = some t) (h1 : hasV s v) (h2 : hasV t v) (hy : y ≠ v) (h3 : hasV s y) (h4 : hasV t y) : S i ↔ S k :=
  ⟨fun hs => h.adj i k hs ⟨s, t, y, hi, hk, hy, h3, h4⟩ (by rw [get_some hi]; exact h1) (by rw [get_some hk]; exact h2),
   fun hs => h.adj k i hs ⟨t, s, y, hk, hi, hy, h4, h3⟩ (by rw [get_some hk]; exact h2) (by rw [get_some hi]; exact h1)⟩
theorem Cl.mono {v : Int} {S : Nat → Prop} (h : Cl T G v S) (hs : ∀ g ∈ G', g ∈ G) : Cl T G' v S :=
  ⟨h.adj, fun i k ⟨x, y, s, t, hm, r⟩ => h.gap i k ⟨x, y, s, t, hs _ hm, r⟩⟩
/-- From the part to the whole: the new triangle hangs at an old one wherever there are any. -/
theorem Pin.new {v : Int} (hp : Pin T G v) (hg : ∀ S, Cl (T ++ [τ]) G' v S → ∀ i k, GapAt T G v i k → (S i ↔ S k))
    (hn : ∀ S, Cl (T ++ [τ]) G' v S → hasV τ v → (∃ (i : Nat) (s : Tr), T[i]? = some s ∧ hasV s v ∧ (S i ↔ S T.length)) ∨ ∀ (i : Nat) (s : Tr), T[i]? = some s → ¬ hasV s v) : Pin (T ++ [τ]) G' v := by
  intro S hS i k s t hi hk h1 h2 h3
  have ho := hS.old (hg S hS)
  have key : ∀ (i k : Nat) (s t : Tr), T[i]? = some s → T[k]? = some t → hasV s v → hasV t v → S i → S k := fun i k s t a b c d e => hp S ho i k s t a b c d e
  rcases get_case hi with hi' | ⟨rfl, rfl⟩ <;> rcases get_case hk with hk' | ⟨rfl, rfl⟩
  · exact key i k s t hi' hk' h1 h2 h3
  · rcases hn S hS h2 with ⟨j, r, hj, hr, e⟩ | hno
    · exact e.1 (key i j s r hi' hj h1 hr h3)
    · exact absurd h1 (hno i s hi')
  · rcases hn S hS h1 with ⟨j, r, hj, hr, e⟩ | hno
    · exact key j k r t hj hk' hr h2 (e.2 h3)
    · exact absurd h2 (hno k t hk')
  · exact h3
theorem mem_old {e : Tr} (h : e ∈ T.flatMap edges3) (τ : Tr) : e ∈ (T ++ [τ]).flatMap edges3 := by
  rw [List.flatMap_append]
  exact List.mem_append_left _ h
theorem mem_new {e : Tr} (h : e ∈ edges3 τ) (T : List Tr) : e ∈ (T ++ [τ]).flatMap edges3 := by
  rw [List.flatMap_append]
  exact List.mem_append_right _ (by simpa using h)
theorem mem_case {e : Tr} (h : e ∈ (T ++ [τ]).flatMap edges3) : e ∈ T.flatMap edges3 ∨ e ∈ edges3 τ := by
  rw [List.flatMap_append] at h
  rcases List.mem_append.1 h with h | h
  · exact .inl h
  · exact .inr (by simpa using h)
end
section
variable {N : Nat} {T R : List Tr} {a b u : Int} {p q r : List Int}
/-- A triangle over a vertex of the loop: the loop falls in two. -/
theorem ZG.split (h : ZG N T (gapsL (a :: b :: p ++ u :: q) ++ R)) (hab : a ≠ b) (hua : u ≠ a) (hub : u ≠ b) : ZG N (T ++ [(u, a, b)]) (gapsL (a :: u :: q) ++ gapsL (u :: b :: p) ++ R) := by
  rw [gaps_old] at h
  rw [gaps_A, gaps_A]
  have oz := h.opn (q.getLastD u) a b (by simp)
  have ob := h.opn a b (p.headD u) (by simp)
  have ou := h.opn (p.getLastD b) u (q.headD a) (by simp)
  have hrg : ∀ x y, (x, y, 0) ∈ T.flatMap edges3 → (0 ≤ x ∧ x < (N : Int)) ∧ 0 ≤ y ∧ y < (N : Int) := fun x y hm => by
    obtain ⟨i, s, hs, he⟩ := mem_owner hm
    have := List.mem_of_getElem? hs
    exact ⟨h.rng s this x (edges3_V he).1, h.rng s this y (edges3_V he).2⟩
  refine ⟨?_, ?_, ?_, ?_, ?_, ?_⟩
  · intro t ht x hx
    rcases List.mem_append.1 ht with ht | ht
    · exact h.rng t ht x hx
    · rw [List.mem_singleton.1 ht] at hx
      rcases hx with e | e | e
      · rw [e]; exact (hrg _ _ ou.1).1
      · rw [e]; exact (hrg _ _ oz.1).1
      · rw [e]; exact (hrg _ _ ob.1).1
  · intro x h0 h1
    obtain ⟨t, ht, hx⟩ := h.lone x h0 h1
    exact ⟨t, List.mem_append_left _ ht, hx⟩
  · intro t ht
    rcases List.mem_append.1 ht with ht | ht
    · exact h.sim t ht
    · rw [List.mem_singleton.1 ht]
      exact ⟨hua, hab, fun e => hub e.symm⟩
  · intro x v y hm
    have n1 : (u, a, 0) ∈ (T ++ [(u, a, b)]).flatMap edges3 := mem_new (by simp [edges3]) T
    have n2 : (b, u, 0) ∈ (T ++ [(u, a, b)]).flatMap edges3 := mem_new (by simp [edges3]) T
    simp only [List.mem_append, List.mem_cons, Prod.mk.injEq] at hm
    rcases hm with ((⟨rfl, rfl, rfl⟩ | ⟨rfl, rfl, rfl⟩ | hm) | ⟨rfl, rfl, rfl⟩ | ⟨rfl, rfl, rfl⟩ | hm) | hm
    · exact ⟨mem_old oz.1 _, n1⟩
    · exact ⟨n1, mem_old ou.2 _⟩
    · exact (h.opn x v y (by simp [hm])).imp (fun e => mem_old e _) (fun e => mem_old e _)
    · exact ⟨mem_old ou.1 _, n2⟩
    · exact ⟨n2, mem_old ob.2 _⟩
    · exact (h.opn x v y (by simp [hm])).imp (fun e => mem_old e _) (fun e => mem_old e _)
    · exact (h.opn x v y (by simp [hm])).imp (fun e => mem_old e _) (fun e => mem_old e _)
  · intro x y hm
    rcases mem_case hm with hm | hm
    · rcases h.clo x y hm with hc | ⟨z, hc⟩
      · exact .inl (mem_old hc _)
      · simp only [List.mem_append, List.mem_cons, Prod.mk.injEq] at hc
        rcases hc with (⟨rfl, rfl, rfl⟩ | ⟨rfl, rfl, rfl⟩ | hc | ⟨rfl, rfl, rfl⟩ | hc) | hc
        · exact .inr ⟨u, by simp⟩
        · exact .inl (mem_new (by simp [edges3]) T)
        · exact .inr ⟨z, by simp [hc]⟩
        · exact .inr ⟨b, by simp⟩
        · exact .inr ⟨z, by simp [hc]⟩
        · exact .inr ⟨z, by simp [hc]⟩
    · simp only [edges3, List.mem_cons, Prod.mk.injEq, and_true, List.not_mem_nil, or_false] at hm
      rcases hm with ⟨rfl, rfl⟩ | ⟨rfl, rfl⟩ | ⟨rfl, rfl⟩
      · exact .inr ⟨q.headD y, by simp⟩
      · exact .inl (mem_old oz.2 _)
      · exact .inr ⟨p.headD y, by simp⟩
  · intro v
    have nu : hasV ((u, a, b) : Tr) u := .inl rfl
    have na : hasV ((u, a, b) : Tr) a := .inr (.inl rfl)
    have nb : hasV ((u, a, b) : Tr) b := .inr (.inr rfl)
    have g0 := get_new T (u, a, b)
    -- the links of the new triangle
    have la : ∀ S, Cl (T ++ [(u, a, b)]) ((q.getLastD u, a, u) :: (a, u, q.headD a) :: gp u q a ++ (p.getLastD b, u, b) :: (u, b, p.headD u) :: gp b p u ++ R) a S → (∀ (i : Nat) (s : Tr), T[i]? = some s → (a, q.getLastD u, 0) ∈ edges3 s → (S i ↔ S T.length)) ∧ (∀ (k : Nat) (t : Tr), T[k]? = some t → (b, a, 0) ∈ edges3 t → (S T.length ↔ S k)) := fun S hS =>
      ⟨fun i s hi he => hS.gap _ _ ⟨_, u, s, (u, a, b), by simp, get_old hi _, g0, he, by simp [edges3]⟩,
       fun k t hk he => hS.beside g0 (get_old hk _) na (edges3_V he).2 (fun e => hab e.symm) nb (edges3_V he).1⟩
    have lb : ∀ S, Cl (T ++ [(u, a, b)]) ((q.getLastD u, a, u) :: (a, u, q.headD a) :: gp u q a ++ (p.getLastD b, u, b) :: (u, b, p.headD u) :: gp b p u ++ R) b S → (∀ (i : Nat) (s : Tr), T[i]? = some s → (b, a, 0) ∈ edges3 s → (S i ↔ S T.length)) ∧ (∀ (k : Nat) (t : Tr), T[k]? = some t → (p.headD u, b, 0) ∈ edges3 t → (S T.length ↔ S k)) := fun S hS =>
      ⟨fun i s hi he => hS.beside (get_old hi _) g0 (edges3_V he).1 nb hab (edges3_V he).2 na,
       fun k t hk he => hS.gap _ _ ⟨u, _, (u, a, b), t, by simp, g0, get_old hk _, by simp [edges3], he⟩⟩
    have lu : ∀ S, Cl (T ++ [(u, a, b)]) ((q.getLastD u, a, u) :: (a, u, q.headD a) :: gp u q a ++ (p.getLastD b, u, b) :: (u, b, p.headD u) :: gp b p u ++ R) u S → (∀ (i : Nat) (s : Tr), T[i]? = some s → (u, p.getLastD b, 0) ∈ edges3 s → (S i ↔ S T.length)) ∧ (∀ (k : Nat) (t : Tr), T[k]? = some t → (q.headD a, u, 0) ∈ edges3 t → (S T.length ↔ S k)) := fun S hS =>
      ⟨fun i s hi he => hS.gap _ _ ⟨_, b, s, (u, a, b), by simp, get_old hi _, g0, he, by simp [edges3]⟩,
       fun k t hk he => hS.gap _ _ ⟨a, _, (u, a, b), t, by simp, g0, get_old hk _, by simp [edges3], he⟩⟩
    refine (h.pin v).new ?_ ?_
    · rintro S hS i k ⟨x, y, s, t, hm, hi, hk, he1, he2⟩
      have keep : (x, v, y) ∈ ((q.getLastD u, a, u) :: (a, u, q.headD a) :: gp u q a ++ (p.getLastD b, u, b) :: (u, b, p.headD u) :: gp b p u ++ R) → (S i ↔ S k) := fun hm => hS.gap i k ⟨x, y, s, t, hm, get_old hi _, get_old hk _, he1, he2⟩
      simp only [List.mem_append, List.mem_cons, Prod.mk.injEq] at hm
      rcases hm with (⟨rfl, rfl, rfl⟩ | ⟨rfl, rfl, rfl⟩ | hm | ⟨rfl, rfl, rfl⟩ | hm) | hm
      · obtain ⟨l1, l2⟩ := la S hS
        exact (l1 i s hi he1).trans (l2 k t hk he2)
      · obtain ⟨l1, l2⟩ := lb S hS
        exact (l1 i s hi he1).trans (l2 k t hk he2)
      · exact keep (by simp [hm])
      · obtain ⟨l1, l2⟩ := lu S hS
        exact (l1 i s hi he1).trans (l2 k t hk he2)
      · exact keep (by simp [hm])
      · exact keep (by simp [hm])
    · intro S hS hv
      rcases hv with e | e | e
      · subst e
        obtain ⟨i, s, hi, he⟩ := mem_owner ou.1
        exact .inl ⟨i, s, hi, (edges3_V he).1, (lu S hS).1 i s hi he⟩
      · subst e
        obtain ⟨i, s, hi, he⟩ := mem_owner oz.1
        exact .inl ⟨i, s, hi, (edges3_V he).1, (la S hS).1 i s hi he⟩
      · subst e
        obtain ⟨i, s, hi, he⟩ := mem_owner ob.1
        exact .inl ⟨i, s, hi, (edges3_V he).1, (lb S hS).1 i s hi he⟩
/-- A triangle over a new vertex. -/
theorem ZG.grow (h : ZG N T (gapsL (a :: b :: r) ++ R)) (hab : a ≠ b) : ZG (N + 1) (T ++ [((N : Int), a, b)]) (gapsL (a :: (N : Int) :: b :: r) ++ R) := by
  rw [gaps_A] at h
  have e0 : gapsL (a :: (N : Int) :: b :: r) = (r.getLastD b, a, (N : Int)) :: (a, (N : Int), b) :: ((N : Int), b, r.headD a) :: gp b r a := by
    rw [gaps_A]
    have h1 : (b :: r).getLastD (N : Int) = r.getLastD b := List.getLastD_cons
    rw [h1]
    rfl
  rw [e0]
  have oz := h.opn (r.getLastD b) a b (by simp)
  have ob := h.opn a b (r.headD a) (by simp)
  have hrg : ∀ x y, (x, y, 0) ∈ T.flatMap edges3 → (0 ≤ x ∧ x < (N : Int)) ∧ 0 ≤ y ∧ y < (N : Int) := fun x y hm => by
    obtain ⟨i, s, hs, he⟩ := mem_owner hm
    have := List.mem_of_getElem? hs
    exact ⟨h.rng s this x (edges3_V he).1, h.rng s this y (edges3_V he).2⟩
  have ra := (hrg _ _ oz.1).1
  have rb := (hrg _ _ ob.1).1
  refine ⟨?_, ?_, ?_, ?_, ?_, ?_⟩
  · intro t ht x hx
    rcases List.mem_append.1 ht with ht | ht
    · have := h.rng t ht x hx
      omega
    · rw [List.mem_singleton.1 ht] at hx
      rcases hx with e | e | e
      · simp only at e; omega
      · simp only at e; omega
      · simp only at e; omega
  · intro x h0 h1
    by_cases hx : x < N
    · obtain ⟨t, ht, hx⟩ := h.lone x h0 hx
      exact ⟨t, List.mem_append_left _ ht, hx⟩
    · exact ⟨_, List.mem_append_right _ (List.mem_singleton_self _), .inl (by show x = (N : Int); omega)⟩
  · intro t ht
    rcases List.mem_append.1 ht with ht | ht
    · exact h.sim t ht
    · rw [List.mem_singleton.1 ht]
      refine ⟨?_, hab, ?_⟩
      · show (N : Int) ≠ a; omega
      · show b ≠ (N : Int); omega
  · intro x v y hm
    have n1 : ((N : Int), a, 0) ∈ (T ++ [((N : Int), a, b)]).flatMap edges3 := mem_new (by simp [edges3]) T
    have n2 : (b, (N : Int), 0) ∈ (T ++ [((N : Int), a, b)]).flatMap edges3 := mem_new (by simp [edges3]) T
    simp only [List.mem_append, List.mem_cons, Prod.mk.injEq] at hm
    rcases hm with (⟨rfl, rfl, rfl⟩ | ⟨rfl, rfl, rfl⟩ | ⟨rfl, rfl, rfl⟩ | hm) | hm
    · exact ⟨mem_old oz.1 _, n1⟩
    · exact ⟨n1, n2⟩
    · exact ⟨n2, mem_old ob.2 _⟩
    · exact (h.opn x v y (by simp [hm])).imp (fun e => mem_old e _) (fun e => mem_old e _)
    · exact (h.opn x v y (by simp [hm])).imp (fun e => mem_old e _) (fun e => mem_old e _)
  · intro x y hm
    rcases mem_case hm with hm | hm
    · rcases h.clo x y hm with hc | ⟨z, hc⟩
      · exact .inl (mem_old hc _)
      · simp only [List.mem_append, List.mem_cons, Prod.mk.injEq] at hc
        rcases hc with (⟨rfl, rfl, rfl⟩ | ⟨rfl, rfl, rfl⟩ | hc) | hc
        · exact .inr ⟨(N : Int), by simp⟩
        · exact .inl (mem_new (by simp [edges3]) T)
        · exact .inr ⟨z, by simp [hc]⟩
        · exact .inr ⟨z, by simp [hc]⟩
    · simp only [edges3, List.mem_cons, Prod.mk.injEq, and_true, List.not_mem_nil, or_false] at hm
      rcases hm with ⟨rfl, rfl⟩ | ⟨rfl, rfl⟩ | ⟨rfl, rfl⟩
      · exact .inr ⟨b, by simp⟩
      · exact .inl (mem_old oz.2 _)
      · exact .inr ⟨r.headD a, by simp⟩
  · intro v
    have na : hasV (((N : Int), a, b) : Tr) a := .inr (.inl rfl)
    have nb : hasV (((N : Int), a, b) : Tr) b := .inr (.inr rfl)
    have g0 := get_new T ((N : Int), a, b)
    have la : ∀ S, Cl (T ++ [((N : Int), a, b)]) ((r.getLastD b, a, (N : Int)) :: (a, (N : Int), b) :: ((N : Int), b, r.headD a) :: gp b r a ++ R) a S → (∀ (i : Nat) (s : Tr), T[i]? = some s → (a, r.getLastD b, 0) ∈ edges3 s → (S i ↔ S T.length)) ∧ (∀ (k : Nat) (t : Tr), T[k]? = some t → (b, a, 0) ∈ edges3 t → (S T.length ↔ S k)) := fun S hS =>
      ⟨fun i s hi he => hS.gap _ _ ⟨_, (N : Int), s, ((N : Int), a, b), by simp, get_old hi _, g0, he, by simp [edges3]⟩,
       fun k t hk he => hS.beside g0 (get_old hk _) na (edges3_V he).2 (fun e => hab e.symm) nb (edges3_V he).1⟩
    have lb : ∀ S, Cl (T ++ [((N : Int), a, b)]) ((r.getLastD b, a, (N : Int)) :: (a, (N : Int), b) :: ((N : Int), b, r.headD a) :: gp b r a ++ R) b S → (∀ (i : Nat) (s : Tr), T[i]? = some s → (b, a, 0) ∈ edges3 s → (S i ↔ S T.length)) ∧ (∀ (k : Nat) (t : Tr), T[k]? = some t → (r.headD a, b, 0) ∈ edges3 t → (S T.length ↔ S k)) := fun S hS =>
      ⟨fun i s hi he => hS.beside (get_old hi _) g0 (edges3_V he).1 nb hab (edges3_V he).2 na,
       fun k t hk he => hS.gap _ _ ⟨(N : Int), _, ((N : Int), a, b), t, by simp, g0, get_old hk _, by simp [edges3], he⟩⟩
    refine (h.pin v).new ?_ ?_
    · rintro S hS i k ⟨x, y, s, t, hm, hi, hk, he1, he2⟩
      have keep : (x, v, y) ∈ ((r.getLastD b, a, (N : Int)) :: (a, (N : Int), b) :: ((N : Int), b, r.headD a) :: gp b r a ++ R) → (S i ↔ S k) := fun hm => hS.gap i k ⟨x, y, s, t, hm, get_old hi _, get_old hk _, he1, he2⟩
      simp only [List.mem_append, List.mem_cons, Prod.mk.injEq] at hm
      rcases hm with (⟨rfl, rfl, rfl⟩ | ⟨rfl, rfl, rfl⟩ | hm) | hm
      · obtain ⟨l1, l2⟩ := la S hS
        exact (l1 i s hi he1).trans (l2 k t hk he2)
      · obtain ⟨l1, l2⟩ := lb S hS
        exact (l1 i s hi he1).trans (l2 k t hk he2)
      · exact keep (by simp [hm])
      · exact keep (by simp [hm])
    · intro S hS hv
      rcases hv with e | e | e
      · refine .inr fun i s hi hs => ?_
        have := h.rng s (List.mem_of_getElem? hi) v hs
        simp only at e
        omega
      · subst e
        obtain ⟨i, s, hi, he⟩ := mem_owner oz.1
        exact .inl ⟨i, s, hi, (edges3_V he).1, (la S hS).1 i s hi he⟩
      · subst e
        obtain ⟨i, s, hi, he⟩ := mem_owner ob.1
        exact .inl ⟨i, s, hi, (edges3_V he).1, (lb S hS).1 i s hi he⟩
/-- A loop of two is none. -/
theorem ZG.drop2 {x y : Int} (h : ZG N T (gapsL [x, y] ++ R)) : ZG N T R := by
  have e0 : gapsL [x, y] = [(y, x, y), (x, y, x)] := rfl
  rw [e0] at h
  have o1 := h.opn y x y (by simp)
  refine ⟨h.rng, h.lone, h.sim, fun x v y hm => h.opn x v y (by simp [hm]), ?_, ?_⟩
  · intro p q hm
    rcases h.clo p q hm with hc | ⟨z, hc⟩
    · exact .inl hc
    · simp only [List.mem_append, List.mem_cons, Prod.mk.injEq, List.not_mem_nil, or_false] at hc
      rcases hc with (⟨rfl, rfl, -⟩ | ⟨rfl, rfl, -⟩) | hc
      · exact .inl o1.2
      · exact .inl o1.1
      · exact .inr ⟨z, hc⟩
  · intro v S hS
    refine h.pin v S ⟨hS.adj, ?_⟩
    rintro i k ⟨x', y', s, t, hm, hi, hk, he1, he2⟩
    have hne : ∀ (i : Nat) (s : Tr), T[i]? = some s → ∀ p q, (p, q, 0) ∈ edges3 s → p ≠ q := fun i s hi p q he => by
      obtain ⟨a1, a2, a3⟩ := h.sim s (List.mem_of_getElem? hi)
      simp only [edges3, List.mem_cons, Prod.mk.injEq, and_true, List.not_mem_nil, or_false] at he
      rcases he with ⟨rfl, rfl⟩ | ⟨rfl, rfl⟩ | ⟨rfl, rfl⟩
      · exact a1
      · exact a2
      · exact a3
    simp only [List.mem_append, List.mem_cons, Prod.mk.injEq, List.not_mem_nil, or_false] at hm
    rcases hm with (⟨rfl, rfl, rfl⟩ | ⟨rfl, rfl, rfl⟩) | hm
    · exact hS.beside hi hk (edges3_V he1).1 (edges3_V he2).2 (hne k t hk _ _ he2) (edges3_V he1).2 (edges3_V he2).1
    · exact hS.beside hi hk (edges3_V he1).1 (edges3_V he2).2 (hne k t hk _ _ he2) (edges3_V he1).2 (edges3_V he2).1
    · exact hS.gap i k ⟨x', y', s, t, hm, hi, hk, he1, he2⟩
theorem ZG.gaps {G G' : List Tr} (h : ZG N T G) (hg : ∀ g, g ∈ G ↔ g ∈ G') : ZG N T G' :=
  ⟨h.rng, h.lone, h.sim, fun x v y hm => h.opn x v y ((hg _).2 hm), fun p q hm => (h.clo p q hm).imp id (fun ⟨y, hy⟩ => ⟨y, (hg _).1 hy⟩), fun v S hS => h.pin v S (hS.mono fun g hm => (hg g).1 hm)⟩
end
theorem edge_mem {T : List Tr} {c : Nat} (hc : c < 3 * T.length) : ((edgeN T c).1, (edgeN T c).2, 0) ∈ T.flatMap edges3 := List.mem_of_getElem? (edges_at hc)
theorem edge_at {T : List Tr} {x y : Int} (h : (x, y, 0) ∈ T.flatMap edges3) : ∃ o, o < 3 * T.length ∧ edgeN T o = (x, y) := by
  obtain ⟨i, s, hi, he⟩ := mem_owner h
  have hl := (List.getElem?_eq_some_iff.1 hi).1
  have ta : ∀ d, d / 3 = i → triAt T d = s := fun d hd => by unfold triAt; rw [hd, hi]; rfl
  have v0 : vertN T (3 * i) = s.1 := by unfold vertN; rw [if_pos (by omega), ta _ (by omega)]
  have v1 : vertN T (3 * i + 1) = s.2.1 := by unfold vertN; rw [if_neg (by omega), if_pos (by omega), ta _ (by omega)]
  have v2 : vertN T (3 * i + 2) = s.2.2 := by unfold vertN; rw [if_neg (by omega), if_neg (by omega), ta _ (by omega)]
  have n0 : Jor.nx (3 * i) = 3 * i + 1 := by unfold Jor.nx; omega
  have n1 : Jor.nx (3 * i + 1) = 3 * i + 2 := by unfold Jor.nx; omega
  have n2 : Jor.nx (3 * i + 2) = 3 * i := by unfold Jor.nx; omega
  have p0 : Jor.pv (3 * i) = 3 * i + 2 := by unfold Jor.pv; omega
  have p1 : Jor.pv (3 * i + 1) = 3 * i := by unfold Jor.pv; omega
  have p2 : Jor.pv (3 * i + 2) = 3 * i + 1 := by unfold Jor.pv; omega
  simp only [edges3, List.mem_cons, Prod.mk.injEq, and_true, List.not_mem_nil, or_false] at he
  rcases he with ⟨rfl, rfl⟩ | ⟨rfl, rfl⟩ | ⟨rfl, rfl⟩
  · exact ⟨3 * i + 2, by omega, by unfold edgeN; rw [n2, p2, v0, v1]⟩
  · exact ⟨3 * i, by omega, by unfold edgeN; rw [n0, p0, v1, v2]⟩
  · exact ⟨3 * i + 1, by omega, by unfold edgeN; rw [n1, p1, v2, v0]⟩
/-- Without a gap: a surface, closed. -/
theorem ZG.surf {N : Nat} {T : List Tr} (h : ZG N T []) (hE : (T.flatMap edges3).Nodup) (hK : (T.flatMap key3).Nodup) (hN : N ≤ 4096) (hT : T.length ≤ 8192) : Surf N T ∧ ClosedT T := by
  refine ⟨⟨by omega, by omega, hT, fun t ht => in3_has.2 fun x hx => h.rng t ht x hx, h.sim, hE, hK, fun u hu => flatT_has.2 (h.lone u hu.1 hu.2), fun u _ => ?_⟩, ?_⟩
  · refine ConnV.of_any fun i hi k hk => ?_
    obtain ⟨s, h1, h2⟩ := atV_mem.1 hi
    obtain ⟨t, h3, h4⟩ := atV_mem.1 hk
    intro S s0 sc
    refine h.pin u S ⟨fun i k hS ha h1 h2 => ?_, fun i k ⟨x, y, s, t, hm, _⟩ => by cases hm⟩ i k s t h1 h3 h2 h4 s0
    obtain ⟨a, b, x, e1, e2, r⟩ := ha
    rw [get_some e1] at h1
    rw [get_some e2] at h2
    exact sc i (atV_mem.2 ⟨a, e1, h1⟩) k (atV_mem.2 ⟨b, e2, h2⟩) hS ⟨a, b, x, e1, e2, r⟩
  · intro c hc
    have h1 : ((edgeN T c).1, (edgeN T c).2, 0) ∈ T.flatMap edges3 := edge_mem hc
    rcases h.clo _ _ h1 with h2 | ⟨y, h2⟩
    · obtain ⟨o, ho, e⟩ := edge_at h2
      have := (opp_iff hE hc).2 ⟨ho, e⟩
      omega
    · cases h2
end Go.Proofs.YtpnkhgjjlionnaaGreat
namespace Go.Proofs.YtpnkhgjjlionnaaGreat.Zp
open Go.RowKit

theorem zm_n9 {zs : List Int} (h : ref24M zs = true) : ((zmAt zs zs.length).n : Int) = 3 + cnt zs 67 := by
  have := (zinv_at h zs.length (Nat.le_refl _)).n
  rwa [List.take_length] at this
theorem loop_split {l : List Int} {i : Nat} (h2 : 2 ≤ i) (hi : i < l.length) : ∃ a b p u q, l = a :: b :: p ++ u :: q ∧ p.length + 2 = i := by
  match l, hi with
  | a :: b :: r, hi =>
    have hr : i - 2 < r.length := by simp at hi; omega
    refine ⟨a, b, r.take (i - 2), r[i - 2], r.drop (i - 2 + 1), ?_, by simp; omega⟩
    rw [List.cons_append, List.cons_append, ← List.drop_eq_getElem_cons hr, List.take_append_drop]
  | [], hi => simp at hi
  | [_], hi => simp at hi; omega
section
variable {a b u : Int} {p q : List Int}
theorem split_get (a b u : Int) (p q : List Int) {i : Nat} (hi : p.length + 2 = i) : (a :: b :: p ++ u :: q).getD i 0 = u ∧ (a :: b :: p ++ u :: q).getD 0 0 = a ∧ (a :: b :: p ++ u :: q).getD 1 0 = b := by
  subst hi
  refine ⟨?_, rfl, rfl⟩
  have : (a :: b :: p ++ u :: q)[p.length + 2]? = some u := by
    rw [List.getElem?_append_right (by simp)]
    simp
  simp only [List.getD, this, Option.getD_some]
theorem split_A (a b u : Int) (p q : List Int) {i : Nat} (hi : p.length + 2 = i) : (a :: b :: p ++ u :: q).take 1 ++ (a :: b :: p ++ u :: q).drop i = a :: u :: q := by
  subst hi
  have : (a :: b :: p ++ u :: q).drop (p.length + 2) = u :: q := by
    rw [List.drop_append_of_le_length (by simp)]
    simp
  rw [this]
  rfl
theorem split_B (a b u : Int) (p q : List Int) {i : Nat} (hi : p.length + 2 = i) : ((a :: b :: p ++ u :: q).drop i).take 1 ++ ((a :: b :: p ++ u :: q).take i).drop 1 = u :: b :: p := by
  subst hi
  have h1 : (a :: b :: p ++ u :: q).drop (p.length + 2) = u :: q := by
    rw [List.drop_append_of_le_length (by simp)]
    simp
  have h2 : (a :: b :: p ++ u :: q).take (p.length + 2) = a :: b :: p := by
    rw [List.take_append_of_le_length (by simp), List.take_of_length_le (by simp)]
  rw [h1, h2]
  rfl
end
theorem gapsS_cons (l : List Int) (Ls : List (List Int)) : gapsS (l :: Ls) = gapsL l ++ gapsS Ls := by simp [gapsS]
section
variable {zs : List Int} {k : Nat} {m : ZM}
/-- The last letter is an E, and nothing waits. -/
theorem ZInv.last (h : ZInv zs k m) (hk : k < zs.length) : k + 1 = zs.length ↔ zs.getD k 0 = 69 ∧ m.waits = [] := by
  have hs := h.st hk
  have hst := stAt_step zs k hk
  rw [hs, ← getD_getElem hk] at hst
  constructor
  · intro e
    rw [e, stAt_end] at hst
    simp only [Option.bind_some] at hst
    have hl := (step_letter hst.symm).1
    rcases hl with hc | hc | hc | hc | hc <;> rw [hc] at hst <;> simp [ref24Step] at hst
    exact ⟨hc, hst.2⟩
  · rintro ⟨hc, hw⟩
    refine Classical.byContradiction fun hne => ?_
    have hk1 : k + 1 < zs.length := by omega
    rw [hc, hw] at hst
    cases hq : stAt zs (k + 1) with
    | none => rw [hq] at hst; simp at hst
    | some q =>
      rw [hq] at hst
      simp [ref24Step] at hst
      have h6 := stAt_step zs (k + 1) hk1
      rw [hq, hst.2] at h6
      cases hq3 : stAt zs (k + 1 + 1) with
      | none => rw [hq3] at h6; simp at h6
      | some q3 =>
        rw [hq3] at h6
        exact (step_letter h6.symm).2 rfl
/-- The loops that are open ahead of a letter. -/
def opnS (zs : List Int) (k : Nat) (m : ZM) : List (List Int) := if k < zs.length then m.loop :: m.waits else []
theorem zg_next (h : ZInv zs k m) (hn : ZNod m) (hk : k < zs.length) (hz : ZG m.n m.T (gapsS (m.loop :: m.waits))) : ZG (nextM zs k m).n (nextM zs k m).T (gapsS (opnS zs (k + 1) (nextM zs k m))) := by
  have hlast := h.last hk
  obtain ⟨h1, -⟩ := h.len hk
  rw [gapsS_cons] at hz
  have more : zs.getD k 0 ≠ 69 → opnS zs (k + 1) (nextM zs k m) = (nextM zs k m).loop :: (nextM zs k m).waits := fun hne => by
    unfold opnS
    rw [if_pos]
    have : ¬ (k + 1 = zs.length) := fun e => hne (hlast.1 e).1
    omega
  rcases h.kind hk with ⟨hc, -, -⟩ | ⟨hc, -, h3, -⟩ | ⟨hc, -, h4, -⟩ | ⟨hc, -, h4, -⟩ | ⟨hc, i3, i4, -⟩
  · -- C
    rw [more (by rw [hc]; decide)]
    obtain ⟨a, b, r, e⟩ : ∃ a b r, m.loop = a :: b :: r := by
      match m.loop, h1 with
      | a :: b :: r, _ => exact ⟨a, b, r, rfl⟩
      | [], h => simp at h
      | [_], h => simp at h
    have hab : a ≠ b := by
      have := hn.1
      rw [e] at this
      exact fun e2 => (List.nodup_cons.1 this).1 (by rw [e2]; exact List.mem_cons_self ..)
    rw [e] at hz
    have := hz.grow hab
    rw [gapsS_cons]
    simp only [nextM, stepM, hc, if_true, e]
    exact this
  all_goals
    obtain ⟨i, hi⟩ : ∃ i, i = (if zs.getD k 0 = 83 then iAt zs k else if zs.getD k 0 = 76 then m.loop.length - 1 else 2) := ⟨_, rfl⟩
    simp only [hc, if_true, if_false, Int.reduceEq] at hi
    obtain ⟨a, b, p, u, q, e, hp⟩ := loop_split (l := m.loop) (i := i) (by omega) (by omega)
    have hll : m.loop.length = p.length + 2 + 1 + q.length := by rw [e]; simp; omega
    have hnd := hn.1
    rw [e] at hnd
    have hab : a ≠ b := fun e2 => (List.nodup_cons.1 hnd).1 (by rw [e2]; simp)
    have hua : u ≠ a := fun e2 => (List.nodup_cons.1 hnd).1 (by rw [← e2]; simp)
    have hub : u ≠ b := fun e2 => (List.nodup_cons.1 (List.nodup_cons.1 hnd).2).1 (by rw [← e2]; simp)
    rw [e] at hz
    have hs := hz.split hab hua hub
    rw [List.append_assoc] at hs
    obtain ⟨g1, g2, g3⟩ := split_get a b u p q hp
    have eA := split_A a b u p q hp
    have eB := split_B a b u p q hp
  · -- E
    obtain rfl : p = [] := List.eq_nil_of_length_eq_zero (by omega)
    obtain rfl : q = [] := List.eq_nil_of_length_eq_zero (by omega)
    have hz2 := (hs.drop2 (x := a) (y := u)).drop2 (x := u) (y := b)
    subst hi
    cases hw : m.waits with
    | nil =>
      have e9 : k + 1 = zs.length := hlast.2 ⟨hc, hw⟩
      have e8 : opnS zs (k + 1) (nextM zs k m) = [] := by unfold opnS; rw [if_neg (by omega)]
      rw [e8]
      rw [hw] at hz2
      simp only [nextM, stepM, hc, hw, if_false, Int.reduceEq, e]
      exact hz2
    | cons l r =>
      have e8 : opnS zs (k + 1) (nextM zs k m) = (nextM zs k m).loop :: (nextM zs k m).waits := by
        unfold opnS
        rw [if_pos]
        have : ¬ (k + 1 = zs.length) := fun e => by have := (hlast.1 e).2; rw [hw] at this; cases this
        omega
      rw [e8]
      rw [hw] at hz2
      simp only [nextM, stepM, hc, hw, if_false, Int.reduceEq, e]
      exact hz2
  · -- L
    obtain rfl : q = [] := List.eq_nil_of_length_eq_zero (by omega)
    have hz2 := hs.drop2 (x := a) (y := u)
    rw [more (by rw [hc]; decide), gapsS_cons]
    have e7 : m.loop.drop (m.loop.length - 1) ++ (m.loop.take (m.loop.length - 1)).drop 1 = u :: b :: p := by
      rw [← hi, e, ← eB]
      have : ((a :: b :: p ++ [u]).drop i).take 1 = (a :: b :: p ++ [u]).drop i := List.take_of_length_le (by simp; omega)
      rw [this]
    have e6 : m.loop.getD (m.loop.length - 1) 0 = u := by rw [← hi, e]; exact g1
    simp only [nextM, stepM, hc, if_true, if_false, Int.reduceEq, e7, e6]
    rw [e, g2, g3]
    exact hz2
  · -- R
    subst hi
    obtain rfl : p = [] := List.eq_nil_of_length_eq_zero (by omega)
    have hz2 := (hs.gaps (G' := gapsL [u, b] ++ (gapsL (a :: u :: q) ++ gapsS m.waits)) (fun g => by
      simp only [List.mem_append]
      constructor <;> rintro (h | h | h) <;> simp [h])).drop2
    rw [more (by rw [hc]; decide), gapsS_cons]
    simp only [nextM, stepM, hc, if_true, if_false, Int.reduceEq]
    rw [e, eA, g1, g2, g3]
    exact hz2
  · -- S
    subst hi
    rw [more (by rw [hc]; decide), gapsS_cons]
    simp only [nextM, stepM, hc, if_true, if_false, Int.reduceEq]
    rw [gapsS_cons, e, eA, eB, g1, g2, g3]
    exact hs
end
theorem zg_zero : ZG 3 [((0 : Int), (1 : Int), (2 : Int))] (gapsS [[1, 0, 2]]) := by
  have e : gapsS [[1, 0, 2]] = [(2, 1, 0), (1, 0, 2), (0, 2, 1)] := rfl
  rw [e]
  refine ⟨?_, ?_, ?_, ?_, ?_, ?_⟩
  · intro t ht x hx
    rw [List.mem_singleton.1 ht] at hx
    rcases hx with e | e | e
    · simp only at e; omega
    · simp only at e; omega
    · simp only at e; omega
  · intro x h0 h1
    refine ⟨_, List.mem_singleton_self _, ?_⟩
    show x = 0 ∨ x = 1 ∨ x = 2
    omega
  · intro t ht
    rw [List.mem_singleton.1 ht]
    exact ⟨by decide, by decide, by decide⟩
  · intro x v y hm
    simp only [List.mem_cons, Prod.mk.injEq, List.not_mem_nil, or_false] at hm
    rcases hm with ⟨rfl, rfl, rfl⟩ | ⟨rfl, rfl, rfl⟩ | ⟨rfl, rfl, rfl⟩ <;> simp [edges3]
  · intro p q hm
    simp only [List.flatMap_cons, List.flatMap_nil, List.append_nil, edges3, List.mem_cons, Prod.mk.injEq, and_true, List.not_mem_nil, or_false] at hm
    rcases hm with ⟨rfl, rfl⟩ | ⟨rfl, rfl⟩ | ⟨rfl, rfl⟩
    · exact .inr ⟨2, by simp⟩
    · exact .inr ⟨0, by simp⟩
    · exact .inr ⟨1, by simp⟩
  · intro v S hS i k s t hi hk _ _ h
    have h1 := (List.getElem?_eq_some_iff.1 hi).1
    have h2 := (List.getElem?_eq_some_iff.1 hk).1
    simp at h1 h2
    subst h1 h2
    exact h
theorem zg_at {zs : List Int} (h : ref24M zs = true) : ∀ k, k ≤ zs.length → ZG (zmAt zs k).n (zmAt zs k).T (gapsS (opnS zs k (zmAt zs k))) := by
  have hpos : 0 < zs.length := by
    cases zs with
    | nil => exact absurd h (by decide)
    | cons _ _ => simp
  intro k
  induction k with
  | zero =>
    intro _
    have : opnS zs 0 (zmAt zs 0) = [[1, 0, 2]] := by unfold opnS; rw [if_pos hpos]; rfl
    rw [this]
    exact zg_zero
  | succ k ih =>
    intro hk
    have hz := ih (by omega)
    have : opnS zs k (zmAt zs k) = (zmAt zs k).loop :: (zmAt zs k).waits := by unfold opnS; rw [if_pos (by omega)]
    rw [this] at hz
    exact zg_next (zinv_at h k (by omega)) (znod_at h k (by omega)) (by omega) hz
theorem edgesOf_3 (T : List Tr) (x y : Int) : (x, y) ∈ edgesOf T ↔ (x, y, 0) ∈ T.flatMap edges3 := by
  unfold edgesOf edges3
  rw [List.mem_flatMap, List.mem_flatMap]
  constructor
  · rintro ⟨t, ht, h⟩
    refine ⟨t, ht, ?_⟩
    simpa using h
  · rintro ⟨t, ht, h⟩
    refine ⟨t, ht, ?_⟩
    simpa using h
theorem nodup_fits {zs : List Int} (hf : ∀ k, k < zs.length → fitsAt zs k = true) : ∀ k, k ≤ zs.length → ((zmAt zs k).T.flatMap edges3).Nodup ∧ ((zmAt zs k).T.flatMap key3).Nodup := by
  intro k
  induction k with
  | zero => intro _; exact ⟨show ([((0 : Int), (1 : Int), (2 : Int))].flatMap edges3).Nodup by decide, show ([((0 : Int), (1 : Int), (2 : Int))].flatMap key3).Nodup by decide⟩
  | succ k ih =>
    intro hk
    obtain ⟨h1, h2⟩ := ih (by omega)
    have h3 := hf k (by omega)
    unfold fitsAt fitsM at h3
    simp only [Bool.and_eq_true, decide_eq_true_eq, List.mem_cons, Prod.mk.injEq, not_or] at h3
    obtain ⟨⟨⟨a1, a2⟩, a3, a4⟩, a5, a6, a7⟩ := h3
    rw [edgesOf_3] at a2 a4 a7
    rw [zmAt_T, List.flatMap_append, List.flatMap_append]
    constructor
    · rw [List.nodup_append]
      refine ⟨h1, ?_, fun x hx y hy e => ?_⟩
      · simp only [List.flatMap_cons, List.flatMap_nil, List.append_nil, edges3, List.nodup_cons, List.mem_cons, Prod.mk.injEq, and_true, List.not_mem_nil, or_false, not_or, List.nodup_nil, not_false_eq_true]
        exact ⟨⟨fun e => a3 ⟨e.1.symm, e.2.symm⟩, fun e => a6 ⟨e.1.symm, e.2.symm⟩⟩, fun e => a5 ⟨e.1.symm, e.2.symm⟩⟩
      · subst e
        simp only [List.flatMap_cons, List.flatMap_nil, List.append_nil, edges3, List.mem_cons, List.not_mem_nil, or_false] at hy
        rcases hy with rfl | rfl | rfl
        · exact a2 hx
        · exact a4 hx
        · exact a7 hx
    · rw [List.nodup_append]
      refine ⟨h2, by simp [key3], fun x hx y hy e => ?_⟩
      subst e
      simp only [List.flatMap_cons, List.flatMap_nil, List.append_nil, key3, List.mem_singleton] at hy
      rw [hy] at hx
      refine a1 ?_
      obtain ⟨t, ht, hx⟩ := List.mem_flatMap.1 hx
      refine List.mem_map.2 ⟨t, ht, ?_⟩
      have := List.mem_singleton.1 hx
      exact this.symm
/-- Each triangle lies at one ahead of it. -/
theorem zip_conn {zs : List Int} (h : ref24M zs = true) {k : Nat} (hk : k < zs.length) : ((triAt zs k).2.2, (triAt zs k).2.1, 0) ∈ (zmAt zs k).T.flatMap edges3 := by
  have hz := zg_at h k (by omega)
  have : opnS zs k (zmAt zs k) = (zmAt zs k).loop :: (zmAt zs k).waits := by unfold opnS; rw [if_pos hk]
  rw [this, gapsS_cons] at hz
  obtain ⟨h1, -⟩ := (zinv_at h k (by omega)).len hk
  obtain ⟨a, b, r, e⟩ : ∃ a b r, (zmAt zs k).loop = a :: b :: r := by
    match (zmAt zs k).loop, h1 with
    | a :: b :: r, _ => exact ⟨a, b, r, rfl⟩
    | [], h => simp at h
    | [_], h => simp at h
  unfold triAt
  rw [e] at hz ⊢
  rw [gaps_A] at hz
  exact (hz.opn (r.getLastD b) a b (by simp)).2
theorem zip_get {zs : List Int} {k n : Nat} (hk : k < n) : (zmAt zs n).T[k + 1]? = some (triAt zs k) := by
  have h1 := zmAt_T_take zs (show k + 1 ≤ n from hk)
  have h2 : ((zmAt zs n).T.take (k + 1 + 1))[k + 1]? = some (triAt zs k) := by
    rw [h1, zmAt_T]
    have := zmAt_T_len zs k
    rw [List.getElem?_append_right (by omega), show k + 1 - (zmAt zs k).T.length = 0 from by omega]
    rfl
  rw [List.getElem?_take] at h2
  split at h2
  · exact h2
  · cases h2
/-- What is zipped is a simple surface. -/
theorem zip_simp {zs : List Int} (h : ref24M zs = true) (hf : ∀ k, k < zs.length → fitsAt zs k = true) (hl : zs.length ≤ 4000) : Simp ((zmAt zs zs.length).n : Int) (zmAt zs zs.length).T := by
  obtain ⟨hE, hK⟩ := nodup_fits hf zs.length (Nat.le_refl _)
  have hz := zg_at h zs.length (Nat.le_refl _)
  have e0 : opnS zs zs.length (zmAt zs zs.length) = [] := by unfold opnS; rw [if_neg (by omega)]
  rw [e0] at hz
  have hN := zm_n9 h
  have hT := zmAt_T_len zs zs.length
  have hc := cnt_le zs 67
  obtain ⟨r1, r2, r3, r4, r5⟩ := right_counts h
  obtain ⟨hS, hC⟩ := ZG.surf hz hE hK (by omega) (by omega)
  refine ⟨hS, hC, fun S s0 sc => ?_, by omega, by omega⟩
  have key : ∀ j, j ≤ zs.length → ∀ i, i ≤ j → S i := by
    intro j
    induction j with
    | zero => intro _ i hi; rw [show i = 0 from by omega]; exact s0
    | succ j ih =>
      intro hj i hi
      by_cases hij : i ≤ j
      · exact ih (by omega) i hij
      · obtain rfl : i = j + 1 := by omega
        have h1 := zip_conn h (k := j) (by omega)
        have h2 : ((triAt zs j).2.2, (triAt zs j).2.1, 0) ∈ ((zmAt zs zs.length).T.take (j + 1)).flatMap edges3 := by rw [zmAt_T_take zs (by omega)]; exact h1
        obtain ⟨o, ho, eo⟩ := edge_at h2
        rw [List.length_take] at ho
        have hol : o < 3 * (zmAt zs zs.length).T.length := by omega
        have eo2 : edgeN (zmAt zs zs.length).T o = ((triAt zs j).2.2, (triAt zs j).2.1) := by
          rw [← eo]
          have hv : ∀ d, d < 3 * (j + 1) → vertN ((zmAt zs zs.length).T.take (j + 1)) d = vertN (zmAt zs zs.length).T d := fun d hd => by
            unfold vertN Proofs.YtpnkhgjjlionnaaGreat.triAt
            rw [List.getElem?_take_of_lt (by omega)]
          unfold edgeN
          rw [hv _ (by unfold Jor.nx; omega), hv _ (by unfold Jor.pv; omega)]
        -- the corner that faces the gate
        have hg := zip_get (zs := zs) (k := j) (n := zs.length) (by omega)
        have hcl : 3 * (j + 1) < 3 * (zmAt zs zs.length).T.length := by omega
        have ec : edgeN (zmAt zs zs.length).T (3 * (j + 1)) = ((triAt zs j).2.1, (triAt zs j).2.2) := by
          have ta : ∀ d, d / 3 = j + 1 → Proofs.YtpnkhgjjlionnaaGreat.triAt (zmAt zs zs.length).T d = triAt zs j := fun d hd => by unfold Proofs.YtpnkhgjjlionnaaGreat.triAt; rw [hd, hg]; rfl
          have n0 : Jor.nx (3 * (j + 1)) = 3 * (j + 1) + 1 := by unfold Jor.nx; omega
          have p0 : Jor.pv (3 * (j + 1)) = 3 * (j + 1) + 2 := by unfold Jor.pv; omega
          unfold edgeN vertN
          rw [n0, p0, if_neg (by omega), if_pos (by omega), if_neg (by omega), if_neg (by omega), ta _ (by omega), ta _ (by omega)]
        have hop : oppN (zmAt zs zs.length).T o = 3 * (j + 1) := by
          have := (opp_iff hE hol (o := 3 * (j + 1))).2 ⟨hcl, by rw [ec, eo2]⟩
          unfold oppN
          rw [this]
          omega
        have := sc o hol (ih (by omega) (o / 3) (by omega))
        rw [hop, show 3 * (j + 1) / 3 = j + 1 from by omega] at this
        exact this
  exact fun t ht => key zs.length (Nat.le_refl _) t (by omega)
end Go.Proofs.YtpnkhgjjlionnaaGreat.Zp
namespace Go.Proofs.YtpnkhgjjlionnaaGreat
open Go.RowKit

def insRen : Go.Shelf.Ren := ⟨fun | 21 => 95 | 27 => 116 | 28 => 117 | 35 => 139 | 39 => 78 | n => n, fun | 22 => 30 | 3 => 3 | 4 => 4 | n => n, fun | n => n⟩
theorem infoInt9 : (Tryz.prog.info? 3).map (fun i => (i.zero, i.size, i.bytes)) = some (some (.int .i64 0), 1, 8) := by kernel_rfl
theorem insLays : Go.Proofs.Lays2.n21 Tryz.prog insRen := {
  mixed := by kernel_rfl
  f21 := Tryz.func95.trans (congrArg some (by kernel_rfl))
  f27 := Tryz.func116.trans (congrArg some (by kernel_rfl))
  f28 := Tryz.func117.trans (congrArg some (by kernel_rfl))
  f35 := Tryz.func139.trans (congrArg some (by kernel_rfl))
  f39 := Tryz.func78.trans (congrArg some (by kernel_rfl))
  t0 := Tryz.underlying0
  a0 := Tryz.isAgg0
  z0 := Tryz.sizeOf0
  v0 := Tryz.zeroValue0
  t3 := Tryz.underlying3
  a3 := Tryz.isAgg3
  z3 := Tryz.sizeOf3
  v3 := Tryz.zeroValue3
  t4 := Tryz.underlying4
  a4 := Tryz.isAgg4
  z4 := Tryz.sizeOf4
  v4 := Tryz.zeroValue4
  t22 := Tryz.underlying30
  a22 := Tryz.isAgg30
  z22 := Tryz.sizeOf30
  v22 := Tryz.zeroValue30
  i3 := infoInt9 }

/-! Cells stored one behind the other. -/
theorem setCells_row {g : Nat} {t : TypeId} {fr : Nat × Nat} : ∀ (vs : List Value) (o : Nat) (w : World) (C : List Value), w.heap[g]? = some (.cells C.toArray t fr) → o + vs.length ≤ C.length → (w.setCells g o vs).heap[g]? = some (.cells (C.take o ++ vs ++ C.drop (o + vs.length)).toArray t fr)
  | [], o, w, C, h, _ => by
    rw [World.setCells, h]
    simp
  | v :: vs, o, w, C, h, hl => by
    rw [World.setCells]
    simp only [List.length_cons] at hl
    have h1 : (w.setCell ⟨g, o, none⟩ v).heap[g]? = some (.cells (C.set o v).toArray t fr) := by
      simp [World.setCell, Array.getElem?_modify, h]
    rw [setCells_row vs (o + 1) _ _ h1 (by simp; omega)]
    have e1 : (C.set o v).take (o + 1) = C.take o ++ [v] := by
      rw [List.take_succ_eq_append_getElem (by simp; omega), List.take_set, List.set_eq_of_length_le (by rw [List.length_take]; omega)]
      simp
    have e2 : (C.set o v).drop (o + 1 + vs.length) = C.drop (o + (v :: vs).length) := by
      rw [List.drop_set_of_lt (by omega)]
      congr 1
      simp only [List.length_cons]
      omega
    rw [e1, e2]
    simp
theorem setCells_row2 {g : Nat} {t : TypeId} {fr : Nat × Nat} (vs us : List Value) (o p : Nat) (w : World) (C : List Value) (h : w.heap[g]? = some (.cells C.toArray t fr)) (h1 : o + vs.length ≤ C.length) (h2 : p + us.length ≤ C.length) :
    ((w.setCells g o vs).drew.setCells g p us).heap[g]? = some (.cells ((C.take o ++ vs ++ C.drop (o + vs.length)).take p ++ us ++ (C.take o ++ vs ++ C.drop (o + vs.length)).drop (p + us.length)).toArray t fr) :=
  setCells_row us p (w.setCells g o vs).drew (C.take o ++ vs ++ C.drop (o + vs.length)) (setCells_row vs o w C h h1) (by simp only [List.length_append, List.length_take, List.length_drop]; omega)
theorem gSets {w : World} {row : Option Nat} {g : Nat} (hp : row = some g ∨ w.heap.size ≤ g) : ∀ (vs : List Value) (o : Nat) (a : World), w.grownBy a row → w.grownBy (a.setCells g o vs) row
  | [], _, _, h => h
  | v :: vs, o, a, h => by
    rw [World.setCells]
    exact gSets hp vs (o + 1) _ (gSt h hp)
set_option maxRecDepth 100000 in
theorem insert_any (base b : Nat) (vL : Value) (a v : Int) (l : List Int) (w : World) (h : w.ownsRow base 3 1 vL (l.length + 1) ((a :: l).map (Value.int .i64))) (hl : 0 < l.length) (hlen : l.length ≤ 100000) (hb : Blk w b 3 #[.int .i64 v]) (hne : vL.ownBlock ≠ some b) (hbase : base ≤ w.heap.size) :
    Calls Tryz.prog 95 #[vL, .int .i64 1, .slice (some ⟨b, 0, none⟩) 1 1] w fun e w' => ∃ v', e = .returned v' ∧ w'.ownsRow base 3 1 v' (l.length + 2) ((a :: v :: l).map (Value.int .i64)) ∧ w.grownBy w' vL.ownBlock ∧ (v'.ownBlock = vL.ownBlock ∨ ∃ g, v'.ownBlock = some g ∧ w.heap.size ≤ g) := by
  rcases h.2 with ⟨_, e0⟩ | ⟨g, cap, cur, rfl, hg0, hg, hn, hcm, hcs, hct⟩
  · omega
  have hgb : b ≠ g := fun e => hne (by rw [e]; rfl)
  have hgl : g < w.heap.size := (Array.getElem?_eq_some_iff.1 hg).1
  obtain ⟨C⟩ := cur
  simp only [Nat.mul_one, List.size_toArray] at hcs hct
  have hC : C.take (l.length + 1) = (a :: l).map (Value.int .i64) := by simpa using hct
  have hcell : ∀ j u, ((a :: l).map (Value.int .i64))[j]? = some u → w.cell? ⟨g, 0 + j, none⟩ = some u := by
    intro j u hj
    rw [Nat.zero_add, cell_of_row w g j _ _ _ hg]
    rw [← hC] at hj
    have hj2 := (List.getElem?_eq_some_iff.1 hj).1
    rw [List.length_take] at hj2
    rw [List.getElem?_take_of_lt (by omega)] at hj
    simpa using hj
  have hv : ∀ j u, [Value.int .i64 v][j]? = some u → w.cell? ⟨b, 0 + j, none⟩ = some u := by
    intro j u hj
    rw [Nat.zero_add, hb.cell]
    simpa using hj
  have h1c : ∀ u ∈ (a :: l).map (Value.int .i64), u.oneCell' = true := by
    intro u hu
    obtain ⟨x, _, rfl⟩ := List.mem_map.1 hu
    rfl
  have h1v : ∀ u ∈ [Value.int .i64 v], u.oneCell' = true := by
    intro u hu
    rw [List.mem_singleton.1 hu]
    rfl
  by_cases hroom : l.length + 1 + 1 ≤ cap
  · refine (Any2.slices_Insert_int_shift insLays g 0 (l.length + 1) cap 1 b 0 1 1 ((a :: l).map (Value.int .i64)) [.int .i64 v] w (by omega) (by omega) hroom (by unfold maxLen at hcm; omega) hgb (by simp) rfl hcell
      (fun j hj => by rw [Nat.zero_add, cell_of_row w g j _ _ _ hg]; simp; omega) (fun j _ => by simp [World.frozen?, hg]) hv h1c h1v 3 3 1 cap (by unfold Blk at hb; simp [World.shape?, hb]) (by simp [World.shape?, hg, hcs]) (by omega) (hb.frozen 0) (hb.frozen 1)).mono ?_
    rintro e w' ⟨rfl, rfl⟩
    have h1 := setCells_row ((((a :: l).map (Value.int .i64))).drop 1) (0 + (1 + 1)) w.drew C hg (by simp; omega)
    have h2 := setCells_row [Value.int .i64 v] (0 + 1) _ _ h1 (by simp; omega)
    refine ⟨_, rfl, ⟨by simp, .inr ⟨g, cap, _, rfl, hg0, h2, hroom, hcm, ?_, ?_⟩⟩, gSets (.inl rfl) _ _ _ (gSets (.inl rfl) _ _ _ (gDrew (World.grownBy.refl _ _))), .inl rfl⟩
    · simp
      omega
    · simp only [List.map_cons, List.drop_succ_cons, List.drop_zero, Nat.zero_add, List.length_cons, List.length_nil, Nat.mul_one]
      obtain ⟨c0, C', rfl⟩ : ∃ c0 C', C = c0 :: C' := List.exists_cons_of_ne_nil (by rintro rfl; simp at hcs; omega)
      simp only [List.take_succ_cons, List.map_cons, List.cons.injEq] at hC
      obtain ⟨rfl, hC'⟩ := hC
      obtain ⟨c1, C'', rfl⟩ : ∃ c1 C'', C' = c1 :: C'' := List.exists_cons_of_ne_nil (by rintro rfl; simp at hcs; omega)
      simp
  · refine (Any2.slices_Insert_int_grow insLays g 0 (l.length + 1) cap 1 b 0 1 1 ((a :: l).map (Value.int .i64)) [.int .i64 v] w (by omega) (by omega) hn (by omega) (by omega) (by simp) rfl hcell hv h1c h1v).mono ?_
    rintro e w' ⟨rfl, rfl⟩
    obtain ⟨k, hk⟩ : ∃ k, grownCap w (l.length + 1 + 1) cap (insRen.t 3) = k := ⟨_, rfl⟩
    have hk1 : l.length + 1 + 1 ≤ k := by rw [← hk]; exact grownCap_ge ..
    have hk2 : k ≤ maxLen := by rw [← hk]; exact grownCap_le_maxLen _ _ _ _ (by unfold maxLen; omega)
    rw [hk]
    have hz : ∀ n, (Builtin.zeroCells (Value.int .i64 0).cells n) = (List.replicate n (Value.int .i64 0)).toArray := by
      intro n
      apply Array.ext'
      simp [Builtin.zeroCells, Value.cells, Nat.mod_one, List.map_const']
    rw [hz, hz]
    have e0 : (List.take 1 ((a :: l).map (Value.int .i64))).toArray ++ (List.replicate (l.length + 1 + 1 - 1) (Value.int .i64 0)).toArray ++ (List.replicate (k - (l.length + 1 + 1)) (Value.int .i64 0)).toArray = (([Value.int .i64 a] ++ List.replicate (l.length + 1) (Value.int .i64 0)) ++ List.replicate (k - (l.length + 1 + 1)) (Value.int .i64 0)).toArray := by
      simp
    rw [e0]
    have h0 := heap_alloc_new w (.cells (([Value.int .i64 a] ++ List.replicate (l.length + 1) (Value.int .i64 0)) ++ List.replicate (k - (l.length + 1 + 1)) (Value.int .i64 0)).toArray (insRen.t 3))
    have h2 := setCells_row2 [Value.int .i64 v] ((((a :: l).map (Value.int .i64))).drop 1) 1 (1 + 1) (w.alloc (.cells (([Value.int .i64 a] ++ List.replicate (l.length + 1) (Value.int .i64 0)) ++ List.replicate (k - (l.length + 1 + 1)) (Value.int .i64 0)).toArray (insRen.t 3))).drew _ h0 (by simp; omega) (by simp; omega)
    refine ⟨_, rfl, ⟨by simp, .inr ⟨w.heap.size, k, _, rfl, hbase, h2, hk1, hk2, ?_, ?_⟩⟩, gSets (.inr (Nat.le_refl _)) _ _ _ (gDrew (gSets (.inr (Nat.le_refl _)) _ _ _ (gDrew (gAlloc (World.grownBy.refl _ _) _)))), .inr ⟨_, rfl, Nat.le_refl _⟩⟩
    · simp
      omega
    · simp
end Go.Proofs.YtpnkhgjjlionnaaGreat
namespace Go.Proofs.YtpnkhgjjlionnaaGreat
open Go.RowKit

/-- Of the blocks that lay there only those of S may be others now. -/
structure Kept (S : Nat → Prop) (w w' : World) : Prop where
  os : w'.os = w.os
  tape : w'.tape = w.tape
  output : w'.output = w.output
  size : w.heap.size ≤ w'.heap.size
  block : ∀ k, k < w.heap.size → ¬ S k → w'.heap[k]? = w.heap[k]?
section
variable {S S' : Nat → Prop} {a b c w w' : World}
theorem Kept.refl (S : Nat → Prop) (w : World) : Kept S w w := ⟨rfl, rfl, rfl, Nat.le_refl _, fun _ _ _ => rfl⟩
theorem Kept.trans (h : Kept S a b) (k : Kept S b c) : Kept S a c :=
  ⟨k.os.trans h.os, k.tape.trans h.tape, k.output.trans h.output, Nat.le_trans h.size k.size, fun i hi hs => (k.block i (Nat.lt_of_lt_of_le hi h.size) hs).trans (h.block i hi hs)⟩
theorem Kept.mono (h : Kept S w w') (hs : ∀ k, S k → S' k) : Kept S' w w' := ⟨h.os, h.tape, h.output, h.size, fun k hk hn => h.block k hk (fun x => hn (hs k x))⟩
theorem Kept.of (h : Below w.heap.size w w') : Kept S w w' := ⟨h.os, h.tape, h.output, h.size, fun k hk _ => h.block k hk⟩
theorem Kept.below {B : Nat} (h : Kept S w w') (hs : ∀ k, S k → B ≤ k) (hB : B ≤ w.heap.size) : Below B w w' := ⟨h.os, h.tape, h.output, h.size, fun k hk => h.block k (by omega) (fun x => by have := hs k x; omega)⟩
theorem Kept.drew (h : Kept S a w) : Kept S a w.drew := ⟨h.os, h.tape, h.output, h.size, h.block⟩
theorem Kept.alloc (h : Kept S a w) (o : Obj) : Kept S a (w.alloc o) :=
  ⟨h.os, h.tape, h.output, by rw [World.size_alloc]; have := h.size; omega, fun k hk hs => (Below.heap_alloc w o k (Nat.lt_of_lt_of_le hk h.size)).trans (h.block k hk hs)⟩
theorem Kept.setCell (h : Kept S a w) {p : Addr} (hp : S p.block ∨ a.heap.size ≤ p.block) (u : Value) : Kept S a (w.setCell p u) := by
  have hz : (w.setCell p u).heap.size = w.heap.size := by simp [World.setCell]
  exact ⟨h.os, h.tape, h.output, by rw [hz]; exact h.size, fun k hk hs => (Below.heap_setCell w p u k (fun e => by
    subst e
    rcases hp with hp | hp
    · exact hs hp
    · omega)).trans (h.block k hk hs)⟩
theorem Kept.grown (h : Kept S a w) {row : Option Nat} (hg : w.grownBy w' row) (hr : ∀ k, row = some k → S k ∨ a.heap.size ≤ k) : Kept S a w' :=
  ⟨hg.os.trans h.os, hg.tape.trans h.tape, hg.output.trans h.output, Nat.le_trans h.size hg.size, fun k hk hs => (hg.block k (Nat.lt_of_lt_of_le hk h.size) (fun e => by
    rcases hr k e.symm with x | x
    · exact hs x
    · omega)).trans (h.block k hk hs)⟩
theorem Kept.frown (h : Kept S a b) (k : Kept S' b c) (hs : ∀ k, S' k → S k ∨ a.heap.size ≤ k) : Kept S a c :=
  ⟨k.os.trans h.os, k.tape.trans h.tape, k.output.trans h.output, Nat.le_trans h.size k.size, fun i hi hn => (k.block i (Nat.lt_of_lt_of_le hi h.size) (fun x => by
    rcases hs i x with x | x
    · exact hn x
    · omega)).trans (h.block i hi hn)⟩
theorem own_same {base n s : Nat} {e : TypeId} {v : Value} {xs : List Value} (h : w.ownsRow base e s v n xs) (hs : ∀ k, v.ownBlock = some k → w'.heap[k]? = w.heap[k]?) : w'.ownsRow base e s v n xs := by
  obtain ⟨h1, h2 | ⟨g, cap, cur, rfl, a1, a2, a3⟩⟩ := h
  · exact ⟨h1, .inl h2⟩
  · exact ⟨h1, .inr ⟨g, cap, cur, rfl, a1, (hs g rfl).trans a2, a3⟩⟩
theorem blk_same {q : Nat} {t : TypeId} {cs : Array Value} (h : Blk w q t cs) (hs : w'.heap[q]? = w.heap[q]?) : Blk w' q t cs := hs.trans h
end
end Go.Proofs.YtpnkhgjjlionnaaGreat
namespace Go.Proofs.YtpnkhgjjlionnaaGreat
open Go.RowKit

/-- Values own blocks of their own, each another one. -/
def Own2 (l : List Value) : Prop := (∀ v ∈ l, ∃ g, v.ownBlock = some g) ∧ (l.map Value.ownBlock).Nodup
theorem Own2.cons_new {l : List Value} (h : Own2 l) {v : Value} {g : Nat} (hv : v.ownBlock = some g) (hn : ∀ u ∈ l, ∀ j, u.ownBlock = some j → j ≠ g) : Own2 (v :: l) := by
  refine ⟨fun u hu => ?_, ?_⟩
  · rcases List.mem_cons.1 hu with rfl | hu
    · exact ⟨g, hv⟩
    · exact h.1 u hu
  · rw [List.map_cons, List.nodup_cons]
    refine ⟨fun hm => ?_, h.2⟩
    obtain ⟨u, hu, e⟩ := List.mem_map.1 hm
    exact hn u hu g (by rw [e, hv]) rfl
theorem Own2.tail {l : List Value} {v : Value} (h : Own2 (v :: l)) : Own2 l := ⟨fun u hu => h.1 u (List.mem_cons_of_mem _ hu), (List.nodup_cons.1 h.2).2⟩
theorem Own2.ne {l : List Value} {v u : Value} (h : Own2 (v :: l)) (hu : u ∈ l) : u.ownBlock ≠ v.ownBlock := fun e => (List.nodup_cons.1 h.2).1 (List.mem_map.2 ⟨u, hu, e⟩)
/-- Block b is a walk that is on its way; all that it owns lies at base or behind. -/
structure WayAt (w : World) (base g b : Nat) (vC vL vW : Value) (vs : List Value) (n : Nat) (s : WSt) : Prop where
  blk : Blk w b 154 #[.pointer (some ⟨g, 0, none⟩), vC, vL, vW]
  hb : base ≤ b
  C : ∃ bs, w.ownsRow base 4 1 vC n (bools bs) ∧ BitsOf bs n s.come
  L : w.ownsRow base 3 1 vL s.loop.length (intsV s.loop)
  W : w.ownsRow base 30 1 vW s.wait.length vs
  rows : ∀ (i : Nat) (u : Value) (r : List Int), vs[i]? = some u → s.wait[i]? = some r → w.ownsRow base 3 1 u r.length (intsV r)
  apart : Own2 (vL :: vs)
  nn : s.loop ≠ []
section
variable {w w' : World} {base g b n : Nat} {vC vL vW : Value} {vs : List Value} {s : WSt}
theorem WayAt.vlen (h : WayAt w base g b vC vL vW vs n s) : vs.length = s.wait.length := by
  have := h.W.1
  omega
theorem WayAt.ble (h : WayAt w base g b vC vL vW vs n s) : base ≤ w.heap.size := Nat.le_trans h.hb (Nat.le_of_lt h.blk.lt)
theorem WayAt.below (h : WayAt w base g b vC vL vW vs n s) (hb : Below w.heap.size w w') : WayAt w' base g b vC vL vW vs n s :=
  ⟨h.blk.below hb h.blk.lt, h.hb, by obtain ⟨bs, h1, h2⟩ := h.C; exact ⟨bs, own_below h1 hb, h2⟩, own_below h.L hb, own_below h.W hb, fun i u r hu hr => own_below (h.rows i u r hu hr) hb, h.apart, h.nn⟩
theorem WayAt.alloc (h : WayAt w base g b vC vL vW vs n s) (o : Obj) : WayAt (w.alloc o) base g b vC vL vW vs n s := h.below ((Below.refl _ _).alloc (Nat.le_refl _) _)
theorem WayAt.drew (h : WayAt w base g b vC vL vW vs n s) : WayAt w.drew base g b vC vL vW vs n s := h.below (Below.refl _ _).drew
/-- A block of another kind is written. -/
theorem WayAt.far (h : WayAt w base g b vC vL vW vs n s) {q j : Nat} {t : TypeId} {cs : Array Value} {u : Value} (hq : Blk w q t cs) (h1 : t ≠ 154) (h2 : t ≠ 4) (h3 : t ≠ 3) (h4 : t ≠ 30) : WayAt (w.setCell ⟨q, j, none⟩ u) base g b vC vL vW vs n s :=
  ⟨h.blk.far (fun e => Blk.ne_ hq h.blk h1 e.symm) _, h.hb, by obtain ⟨bs, a, c⟩ := h.C; exact ⟨bs, own_alloc_st a hq (Ne.symm h2), c⟩, own_alloc_st h.L hq (Ne.symm h3), own_alloc_st h.W hq (Ne.symm h4), fun i x r hu hr => own_alloc_st (h.rows i x r hu hr) hq (Ne.symm h3), h.apart, h.nn⟩
theorem WayAt.mark (h : WayAt w base g b vC vL vW vs n s) {gC capC v : Nat} (hC : vC = .slice (some ⟨gC, 0, none⟩) n capC) (hv : v < n) : WayAt (w.setCell ⟨gC, v, none⟩ (.bool true)) base g b vC vL vW vs n ⟨s.come ++ [(v : Int)], s.loop, s.wait⟩ := by
  subst hC
  obtain ⟨bs, h1, h2⟩ := h.C
  obtain ⟨k1, k2⟩ := h1.stored v (.bool true)
  exact ⟨h.blk.grown k2 (fun e => own_blk_ne h1 h.blk (by decide) e.symm), h.hb, ⟨bs.set v true, by rw [← bools_set]; exact k1, h2.mark hv⟩, h.L.kept k2 (own_own_ne h.L h1 (by decide)), h.W.kept k2 (own_own_ne h.W h1 (by decide)),
    fun i u r hu hr => (h.rows i u r hu hr).kept k2 (own_own_ne (h.rows i u r hu hr) h1 (by decide)), h.apart, h.nn⟩
/-- The loop is another one. -/
theorem WayAt.reloop (h : WayAt w base g b vC vL vW vs n s) {v' : Value} {l : List Int} (hg : w.grownBy w' vL.ownBlock) (hr : w'.ownsRow base 3 1 v' l.length (intsV l)) (hat : v'.ownBlock = vL.ownBlock ∨ ∃ q, v'.ownBlock = some q ∧ w.heap.size ≤ q) (hl : l ≠ []) :
    WayAt (w'.setCell ⟨b, 2, none⟩ v') base g b vC v' vW vs n ⟨s.come, l, s.wait⟩ := by
  have k0 := h.blk.grown hg (fun e => own_blk_ne h.L h.blk (by decide) e.symm)
  obtain ⟨bs, h1, h2⟩ := h.C
  have lt : ∀ u ∈ vs, ∀ j, u.ownBlock = some j → j < w.heap.size := by
    intro u hu j hj
    obtain ⟨i, hi, e⟩ := List.getElem_of_mem hu
    have hi2 : i < s.wait.length := by rw [← h.vlen]; exact hi
    exact ((h.rows i u s.wait[i] (by rw [List.getElem?_eq_getElem hi, e]) (List.getElem?_eq_getElem hi2)).lt j hj).2
  refine ⟨by simpa using k0.set_ 2 v', h.hb, ⟨bs, own_alloc_st (h1.kept hg (own_own_ne h1 h.L (by decide))) k0 (by decide), h2⟩, own_alloc_st hr k0 (by decide), own_alloc_st (h.W.kept hg (own_own_ne h.W h.L (by decide))) k0 (by decide), ?_, ?_, hl⟩
  · intro i u r hu hr'
    exact own_alloc_st ((h.rows i u r hu hr').kept hg (.inr (h.apart.ne (List.mem_of_getElem? hu)))) k0 (by decide)
  · rcases hat with e | ⟨q, e, hq⟩
    · refine ⟨fun u hu => ?_, ?_⟩
      · rcases List.mem_cons.1 hu with rfl | hu
        · obtain ⟨j, hj⟩ := h.apart.1 vL (List.mem_cons_self ..)
          exact ⟨j, e.trans hj⟩
        · exact h.apart.1 u (List.mem_cons_of_mem _ hu)
      · have := h.apart.2
        rw [List.map_cons] at this ⊢
        rw [e]
        exact this
    · exact h.apart.tail.cons_new e (fun u hu j hj e2 => by
        have := lt u hu j hj
        omega)
/-- A part of the loop, as it is read. -/
theorem WayAt.part {gl m cap : Nat} (h : WayAt w base g b vC (.slice (some ⟨gl, 0, none⟩) m cap) vW vs n s) (hm : s.loop.length = m) (a k : Nat) (hak : a + k ≤ m) : ∀ j u, (((s.loop.drop a).take k).map (Value.int .i64))[j]? = some u → w.cell? ((⟨gl, a, none⟩ : Addr).add j) = some u := by
  intro j u hj
  have hl := h.L
  rw [hm] at hl
  rw [List.getElem?_map] at hj
  have hj' : j < k := by
    rcases Nat.lt_or_ge j k with h | h
    · exact h
    · rw [List.getElem?_eq_none (by rw [List.length_take]; omega)] at hj
      cases hj
  rw [Addr.add_lit]
  show w.cell? ⟨gl, a + j, none⟩ = some u
  rw [hl.cellAt (a + j) (by omega), ← hj]
  simp [intsV, hj', List.getElem?_drop]
theorem own_one {q : Nat} {v : Int} (h : Blk w q 3 #[.int .i64 v]) (hb : base ≤ q) : w.ownsRow base 3 1 (.slice (some ⟨q, 0, none⟩) 1 1) 1 [.int .i64 v] :=
  ⟨rfl, .inr ⟨q, 1, _, rfl, hb, h, Nat.le_refl _, by decide, rfl, rfl⟩⟩
/-- One loop more waits. -/
theorem WayAt.rewait (h : WayAt w base g b vC vL vW vs n s) {w4 w5 : World} {tmp : Obj} {u v5 : Value} {l : List Int} {q : Nat} (hb4 : Below w.heap.size w w4) (hr4 : w4.ownsRow base 3 1 u l.length (intsV l)) (hu : u.ownBlock = some q) (hq : w.heap.size ≤ q)
    (hg5 : (w4.alloc tmp).grownBy w5 vW.ownBlock) (hr5 : w5.ownsRow base 30 1 v5 (s.wait.length + 1) (vs ++ [u])) : WayAt (w5.setCell ⟨b, 3, none⟩ v5) base g b vC vL v5 (vs ++ [u]) n ⟨s.come, s.loop, s.wait ++ [l]⟩ := by
  have h4 := (h.below hb4).alloc tmp
  have ne : ∀ {e : TypeId} {k : Nat} {x : Value} {xs : List Value}, e ≠ 30 → (w4.alloc tmp).ownsRow base e 1 x k xs → (w5.setCell ⟨b, 3, none⟩ v5).ownsRow base e 1 x k xs ∨ e = 154 := by
    intro e k x xs he hx
    by_cases hw : e = 154
    · exact .inr hw
    · exact .inl (own_alloc_st (hx.kept hg5 (own_own_ne hx h4.W he)) (h4.blk.grown hg5 (fun e => own_blk_ne h4.W h4.blk (by decide) e.symm)) hw)
  have k5 := h4.blk.grown hg5 (fun e => own_blk_ne h4.W h4.blk (by decide) e.symm)
  have hl := h.vlen
  have lt : ∀ x ∈ vL :: vs, ∀ j, x.ownBlock = some j → j < w.heap.size := by
    intro x hx j hj
    rcases List.mem_cons.1 hx with rfl | hx
    · exact (h.L.lt j hj).2
    · obtain ⟨i, hi, e⟩ := List.getElem_of_mem hx
      have hi2 : i < s.wait.length := by rw [← hl]; exact hi
      exact ((h.rows i x s.wait[i] (by rw [List.getElem?_eq_getElem hi, e]) (List.getElem?_eq_getElem hi2)).lt j hj).2
  refine ⟨by simpa using k5.set_ 3 v5, h.hb, ?_, ?_, ?_, ?_, ?_, h.nn⟩
  · obtain ⟨bs, h1, h2⟩ := h4.C
    rcases ne (by decide) h1 with h1 | h1
    · exact ⟨bs, h1, h2⟩
    · exact absurd h1 (by decide)
  · rcases ne (by decide) h4.L with h1 | h1
    · exact h1
    · exact absurd h1 (by decide)
  · rw [List.length_append, List.length_singleton]
    exact own_alloc_st hr5 k5 (by decide)
  · intro i x r hx hr
    rcases Nat.lt_or_ge i vs.length with hi | hi
    · rw [List.getElem?_append_left hi] at hx
      rw [List.getElem?_append_left (by omega)] at hr
      rcases ne (by decide) (h4.rows i x r hx hr) with h1 | h1
      · exact h1
      · exact absurd h1 (by decide)
    · rw [List.getElem?_append_right hi] at hx
      rw [List.getElem?_append_right (by omega)] at hr
      have hi0 : i - vs.length = 0 := by
        have := (List.getElem?_eq_some_iff.1 hx).1
        simp at this
        omega
      rw [hi0] at hx
      rw [← hl, hi0] at hr
      simp only [List.getElem?_cons_zero, Option.some.injEq] at hx hr
      subst hx
      subst hr
      rcases ne (by decide) (hr4.alloc tmp) with h1 | h1
      · exact h1
      · exact absurd h1 (by decide)
  · have ha : Own2 (u :: vL :: vs) := h.apart.cons_new hu (fun x hx j hj => by
      have := lt x hx j hj
      omega)
    have hp : (u :: vL :: vs).Perm (vL :: (vs ++ [u])) := (List.Perm.swap vL u vs).trans (List.Perm.cons _ (List.perm_append_singleton u vs).symm)
    exact ⟨fun x hx => ha.1 x (hp.mem_iff.2 hx), (hp.map _).nodup_iff.1 ha.2⟩
/-- The loop that waits last is gone on with. -/
theorem WayAt.pop (h : WayAt w base g b vC vL vW vs n s) {vs' : List Value} {u : Value} {ws : List (List Int)} {l : List Int} {aW : Option Addr} {k cW : Nat} (hvs : vs = vs' ++ [u]) (hws : s.wait = ws ++ [l]) (hW : vW = .slice aW (k + 1) cW) (hk : ws.length = k) (hl : l ≠ [])
    (hg : w.grownBy w' (some b)) (hb' : Blk w' b 154 #[.pointer (some ⟨g, 0, none⟩), vC, u, .slice aW k cW]) : WayAt w' base g b vC u (.slice aW k cW) vs' n ⟨s.come, l, ws⟩ := by
  subst hvs hW
  have hlen := h.vlen
  rw [hws] at hlen
  simp only [List.length_append, List.length_singleton] at hlen
  have hW := h.W
  rw [hws, List.length_append, List.length_singleton, hk] at hW
  have hW2 : w.ownsRow base 30 1 (.slice aW k cW) k vs' := by
    rcases hW.2 with ⟨_, h0⟩ | ⟨q, cap, cur, e, h1, h2, h3, h4, h5, h6⟩
    · omega
    · injection e with e1 e2 e3
      subst e1 e3
      refine ⟨by omega, .inr ⟨q, cW, cur, rfl, h1, h2, by omega, h4, h5, ?_⟩⟩
      have : (cur.toList.take ((k + 1) * 1)).take (k * 1) = (vs' ++ [u]).take (k * 1) := by rw [h6]
      rw [List.take_take, show min (k * 1) ((k + 1) * 1) = k * 1 from by omega] at this
      rw [this, show k * 1 = vs'.length from by omega, List.take_left]
  obtain ⟨bs, c1, c2⟩ := h.C
  have st : ∀ {e : TypeId} {k' : Nat} {x : Value} {xs : List Value}, e ≠ 154 → w.ownsRow base e 1 x k' xs → w'.ownsRow base e 1 x k' xs := fun he hx => hx.kept hg (.inr (own_blk_ne hx h.blk he))
  refine ⟨hb', h.hb, ⟨bs, st (by decide) c1, c2⟩, ?_, ?_, ?_, ?_, hl⟩
  · refine st (by decide) (h.rows vs'.length u l (by simp) ?_)
    rw [hws, show vs'.length = ws.length from by omega]
    simp
  · rw [hk]
    exact st (by decide) hW2
  · intro i x r hx hr
    have hi := (List.getElem?_eq_some_iff.1 hx).1
    have hi2 := (List.getElem?_eq_some_iff.1 hr).1
    refine st (by decide) (h.rows i x r (by rw [List.getElem?_append_left hi]; exact hx) ?_)
    rw [hws, List.getElem?_append_left hi2]
    exact hr
  · have hp : (vs' ++ [u]).Perm (u :: vs') := List.perm_append_singleton u vs'
    have ha := h.apart.tail
    exact ⟨fun x hx => ha.1 x (hp.mem_iff.2 hx), (hp.map _).nodup_iff.1 ha.2⟩
/-- The blocks of a walk that is on its way. -/
def OwnA (b : Nat) (vC vL vW : Value) (vs : List Value) (k : Nat) : Prop := k = b ∨ vC.ownBlock = some k ∨ vL.ownBlock = some k ∨ vW.ownBlock = some k ∨ ∃ v ∈ vs, v.ownBlock = some k
/-- What a step may change, and whose the blocks are then. -/
structure Kind (w w' : World) (b : Nat) (vC vL vW : Value) (vs : List Value) (vL' vW' : Value) (vs' : List Value) : Prop where
  kept : Kept (OwnA b vC vL vW vs) w w'
  own : ∀ k, OwnA b vC vL' vW' vs' k → OwnA b vC vL vW vs k ∨ w.heap.size ≤ k
theorem own_reloop {b : Nat} {vC vL vL' vW : Value} {vs : List Value} {z : Nat} (h : vL'.ownBlock = vL.ownBlock ∨ ∃ q, vL'.ownBlock = some q ∧ z ≤ q) (k : Nat) (hk : OwnA b vC vL' vW vs k) : OwnA b vC vL vW vs k ∨ z ≤ k := by
  rcases hk with e | e | e | e | e
  · exact .inl (.inl e)
  · exact .inl (.inr (.inl e))
  · rcases h with h | ⟨q, h, hq⟩
    · exact .inl (.inr (.inr (.inl (by rw [← h]; exact e))))
    · rw [h] at e
      cases e
      exact .inr hq
  · exact .inl (.inr (.inr (.inr (.inl e))))
  · exact .inl (.inr (.inr (.inr (.inr e))))
theorem WayAt.own_ge (h : WayAt w base g b vC vL vW vs n s) {k : Nat} (hk : OwnA b vC vL vW vs k) : base ≤ k ∧ k < w.heap.size := by
  rcases hk with rfl | e | e | e | ⟨v, hv, e⟩
  · exact ⟨h.hb, h.blk.lt⟩
  · obtain ⟨bs, h1, _⟩ := h.C
    exact h1.lt k e
  · exact h.L.lt k e
  · exact h.W.lt k e
  · obtain ⟨i, hi, e2⟩ := List.getElem_of_mem hv
    have hi2 : i < s.wait.length := by rw [← h.vlen]; exact hi
    exact (h.rows i v s.wait[i] (by rw [List.getElem?_eq_getElem hi, e2]) (List.getElem?_eq_getElem hi2)).lt k e
theorem WayAt.same (h : WayAt w base g b vC vL vW vs n s) (hs : ∀ k, OwnA b vC vL vW vs k → w'.heap[k]? = w.heap[k]?) : WayAt w' base g b vC vL vW vs n s :=
  ⟨blk_same h.blk (hs b (.inl rfl)), h.hb, by obtain ⟨bs, h1, h2⟩ := h.C; exact ⟨bs, own_same h1 (fun k e => hs k (.inr (.inl e))), h2⟩, own_same h.L (fun k e => hs k (.inr (.inr (.inl e)))), own_same h.W (fun k e => hs k (.inr (.inr (.inr (.inl e))))),
    fun i u r hu hr => own_same (h.rows i u r hu hr) (fun k e => hs k (.inr (.inr (.inr (.inr ⟨u, List.mem_of_getElem? hu, e⟩))))), h.apart, h.nn⟩
/-- A step is laid in its cell. -/
theorem WayAt.out4 (h : WayAt w base g b vC vL vW vs n s) {w0 : World} {q : Nat} {x0 x1 x2 x3 : Value} (hq : Blk w q 82 #[x0, x1, x2, x3]) {S : Nat → Prop} (hB : Kept S w0 w) (hbq : w0.heap.size ≤ q) (u0 u1 u2 u3 : Value) :
    WayAt ((((w.setCell ⟨q, 0, none⟩ u0).setCell ⟨q, 1, none⟩ u1).setCell ⟨q, 2, none⟩ u2).setCell ⟨q, 3, none⟩ u3) base g b vC vL vW vs n s ∧ Blk ((((w.setCell ⟨q, 0, none⟩ u0).setCell ⟨q, 1, none⟩ u1).setCell ⟨q, 2, none⟩ u2).setCell ⟨q, 3, none⟩ u3) q 82 #[u0, u1, u2, u3] ∧ Kept S w0 ((((w.setCell ⟨q, 0, none⟩ u0).setCell ⟨q, 1, none⟩ u1).setCell ⟨q, 2, none⟩ u2).setCell ⟨q, 3, none⟩ u3) := by
  have q1 := hq.set_ 0 u0
  have q2 := q1.set_ 1 u1
  have q3 := q2.set_ 2 u2
  have q4 := q3.set_ 3 u3
  exact ⟨(((h.far hq (by decide) (by decide) (by decide) (by decide)).far q1 (by decide) (by decide) (by decide) (by decide)).far q2 (by decide) (by decide) (by decide) (by decide)).far q3 (by decide) (by decide) (by decide) (by decide), by simpa using q4, (((hB.setCell (p := ⟨q, 0, none⟩) (.inr hbq) _).setCell (p := ⟨q, 1, none⟩) (.inr hbq) _).setCell (p := ⟨q, 2, none⟩) (.inr hbq) _).setCell (p := ⟨q, 3, none⟩) (.inr hbq) _⟩
end
end Go.Proofs.YtpnkhgjjlionnaaGreat
namespace Go.Proofs.YtpnkhgjjlionnaaGreat
open Go.RowKit Go.Maps

theorem own_form {w : World} {base n : Nat} {t : TypeId} {v : Value} {xs : List Value} (h : w.ownsRow base t 1 v n xs) (hn : 0 < n) : ∃ g cap, v = .slice (some ⟨g, 0, none⟩) n cap ∧ g < w.heap.size ∧ n ≤ cap ∧ cap ≤ 9223372036854775807 := by
  rcases h.2 with ⟨_, h0⟩ | ⟨g, cap, cur, rfl, _, hg, h1, h2, _⟩
  · omega
  · exact ⟨g, cap, rfl, (Array.getElem?_eq_some_iff.1 hg).1, h1, by unfold maxLen at h2; omega⟩
theorem four {w : World} {b : Nat} {t : TypeId} {x0 x1 x2 x3 : Value} (h : Blk w b t #[x0, x1, x2, x3]) : b < w.heap.size ∧ w.cell? ⟨b, 0, none⟩ = some x0 ∧ w.cell? ⟨b, 1, none⟩ = some x1 ∧ w.cell? ⟨b, 2, none⟩ = some x2 ∧ w.cell? ⟨b, 3, none⟩ = some x3 ∧ w.frozen? ⟨b, 2, none⟩ = false ∧ w.frozen? ⟨b, 3, none⟩ = false := ⟨h.lt, h.cell 0, h.cell 1, h.cell 2, h.cell 3, h.frozen 2, h.frozen 3⟩
set_option maxRecDepth 100000 in
set_option maxHeartbeats 2000000 in
theorem stepC_any {w : World} {base g b n : Nat} {vC vL vW : Value} {vs : List Value} {s : WSt} {T : List Tr} (hT : Tab w g n T) (h : WayAt w base g b vC vL vW vs n s) {x y : Int} {r : List Int} (hl : s.loop = x :: y :: r)
    (hx : -1 ≤ x ∧ x ≤ 10000) (hy : -1 ≤ y ∧ y ≤ 10000) (hc : 0 ≤ facI T (x, y)) (hv : vertI T (facI T (x, y)) ∉ s.come) (hlen : r.length ≤ 50000) (_hwl : s.wait.length ≤ 50000) :
    Calls Tryz.prog 66 #[.pointer (some ⟨b, 0, none⟩)] w fun e w' => e = .returned (.tuple #[.agg #[.int .u8 67, .int .i64 (facI T (x, y)), .int .i64 s.wait.length, .int .i64 (r.length + 2 : Nat)], .bool true]) ∧
      (∃ vL', WayAt w' base g b vC vL' vW vs n ⟨s.come ++ [vertI T (facI T (x, y))], x :: vertI T (facI T (x, y)) :: y :: r, s.wait⟩ ∧ Kind w w' b vC vL vW vs vL' vW vs) := by
  have hL := h.L
  rw [hl] at hL
  obtain ⟨m, hm⟩ : ∃ m, (x :: y :: r).length = m := ⟨_, rfl⟩
  rw [hm] at hL
  have hm2 : r.length + 2 = m := hm
  obtain ⟨gl, cap, rfl, hgl, hcap, hcap2⟩ := own_form hL (by omega)
  obtain ⟨aW, cW, rfl⟩ := ownsRow_slice h.W
  obtain ⟨lb, c0, c1, c2, c3, f2, f3⟩ := four h.blk
  have hs0 : (intsV (x :: y :: r))[0]? = some (.int .i64 x) := rfl
  have l0 : w.cell? ⟨gl, 0, none⟩ = some (.int .i64 x) := by rw [hL.cellAt 0 (by omega)]; exact hs0
  have l1 : w.cell? ⟨gl, 1, none⟩ = some (.int .i64 y) := by rw [hL.cellAt 1 (by omega)]; rfl
  have hnil := fun (W : World) => Lib.run_eql_slice_nil (P := Tryz.prog) W 30 3 (some ⟨gl, 0, none⟩) m cap 0 0 Tryz.underlying30
  obtain ⟨c, hce⟩ : ∃ c : Nat, facI T (x, y) = (c : Int) := ⟨(facI T (x, y)).toNat, by omega⟩
  have hcl := (facI_some hce).1
  have hvb := vertN_in hT.inr hcl
  obtain ⟨v, hve⟩ : ∃ v : Nat, vertI T (facI T (x, y)) = (v : Int) := ⟨(vertN T c).toNat, by rw [hce, vertI_nat hcl]; omega⟩
  have hvn : v < n := by rw [hce, vertI_nat hcl] at hve; omega
  obtain ⟨bs, hC, hbs⟩ := h.C
  obtain ⟨gC, capC, rfl, hgC, hcC, -⟩ := own_form hC (by omega)
  have hbv : bs[v]? = some false := by
    have hvl : v < bs.length := by rw [hbs.1]; exact hvn
    cases hb : bs[v] with
    | false => rw [List.getElem?_eq_getElem hvl, hb]
    | true => exact absurd ((hbs.2 v hvn).1 (by rw [List.getElem?_eq_getElem hvl, hb])) (by rw [← hve]; exact hv)
  have cv : w.cell? ⟨gC, v, none⟩ = some (.bool false) := by
    rw [hC.cellAt v (by omega)]
    simp [bools, hbv]
  have cf := hC.frozenAt v
  have hn1 : gC ≠ b := fun e => own_blk_ne hC h.blk (by decide) (by rw [← e]; rfl)
  have hn2 : b ≠ gC := fun e => hn1 e.symm
  have hbg : base ≤ gC := (hC.lt gC rfl).1
  have HF := Lib.hid (fun (W : World) (hW : Below w.heap.size w W) => facing_any g n x y T W (hT.below hW) hx hy)
  have HV := Lib.hid (fun (W : World) (hW : Below w.heap.size w W) => (show Calls Tryz.prog 22 #[.pointer (some ⟨g, 0, none⟩), .int .i64 (c : Int)] W fun e w' => e = .returned (.int .i64 (v : Int)) ∧ W = w' from by
    have := vertex_any g n (facI T (x, y)) T W (hT.below hW).toTabS
    rw [hve, hce] at this
    exact this))
  rw [hve]
  rw [hce] at HF ⊢
  have HL := Lib.hid hl
  rw [hm2]
  obtain ⟨wl, hwe⟩ : ∃ wl, s.wait.length = wl := ⟨_, rfl⟩
  rw [hwe] at c3 h ⊢
  have H := Lib.hid h
  have HM := Lib.hid hm
  have hm3 : m ≤ 50002 := by omega
  have hm4 : 2 ≤ m := by omega
  clear h hT hl hL hs0 hm hm2 hlen hce hcl hvb hve hC hbs hbv hv hc
  go_enter Tryz.func66, Tryz.ntmps66
  go_wp2
  have hA := H.out.alloc (.cells #[.int .u8 0, .int .i64 0, .int .i64 0, .int .i64 0] 82)
  have hB0 : Below w.heap.size w (w.alloc (.cells #[.int .u8 0, .int .i64 0, .int .i64 0, .int .i64 0] 82)) := (Below.refl _ _).alloc (Nat.le_refl _) _
  have b0 := Blk.new w 82 #[.int .u8 0, .int .i64 0, .int .i64 0, .int .i64 0]
  have hszA : w.heap.size < (w.alloc (.cells #[.int .u8 0, .int .i64 0, .int .i64 0, .int .i64 0] 82)).heap.size := by simp
  generalize w.alloc (.cells #[.int .u8 0, .int .i64 0, .int .i64 0, .int .i64 0] 82) = wA at *
  obtain ⟨lb', c0', c1', c2', c3', -⟩ := four hA.blk
  have l0' := (hB0.cell (p := ⟨gl, 0, none⟩) hgl).trans l0
  have l1' := (hB0.cell (p := ⟨gl, 1, none⟩) hgl).trans l1
  have HA := Lib.hid hA
  have HB0 := Lib.hid hB0
  have Hb0 := Lib.hid b0
  clear hA hB0 b0
  have i0 : (0 : Int) < (m : Int) := by omega
  have i1 : (1 : Int) < (m : Int) := by omega
  have d0 := cell_regrown c0'
  have d2 := cell_regrown c2'
  have q0 := cell_regrown l0'
  have q1 := cell_regrown l1'
  refine wp_region_quiet_below (by kernel_rfl) (by kernel_rfl) ?_
  repeat (go_big_quiet_step ((go_at_call 69; exact Calls.regrown_of (HF.out _ (HB0.out.trans ((below_regrown wA _ _).mono HB0.out.size))))))
  refine wpQuiet_nil ?_
  intro _ hw'
  obtain ⟨⟨dq, osq⟩, hw''⟩ := hw'
  subst hw''
  have hB1 := below_regrown wA dq osq
  generalize Sort.grow (redrawn wA dq) osq = w1 at *
  have hA1 := HA.out.below hB1
  obtain ⟨lb1, x0, x1, x2, x3, y2, y3⟩ := four hA1.blk
  have HA1 := Lib.hid hA1
  have hB2 := HB0.out.trans (hB1.mono HB0.out.size)
  have cv1 := (hB2.cell (p := ⟨gC, v, none⟩) hgC).trans cv
  have cf1 := (hB2.frozen (p := ⟨gC, v, none⟩) hgC).trans cf
  have hsz1 := hB1.size
  have hgC1 : gC < w1.heap.size := by omega
  have HB1 := Lib.hid hB1
  have HB2 := Lib.hid hB2
  clear hA1 hB1 hB2 d0 d2 q0 q1 c0' c2' l0' l1' c1' c3'
  go_wp2_with (go_at_call 22; refine (HV.out _ HB2.out).mono ?_; rintro e w2 ⟨rfl, rfl⟩)
  have A3 := ((HA1.out.mark rfl hvn).alloc (.cells #[.int .u8 67, .int .i64 (c : Int), .int .i64 (wl : Int), .int .i64 (m : Int)] 82)).alloc (.cells #[.int .i64 (v : Int)] 3)
  have hL3 := A3.L
  simp only at hL3
  rw [HL.out] at hL3
  have bT : Blk (((w1.setCell ⟨gC, v, none⟩ (.bool true)).alloc (.cells #[.int .u8 67, .int .i64 (c : Int), .int .i64 (wl : Int), .int .i64 (m : Int)] 82)).alloc (.cells #[.int .i64 (v : Int)] 3)) (w1.heap.size + 1) 3 #[.int .i64 (v : Int)] := blk_new_at (by simp [World.setCell])
  have bS : Blk (((w1.setCell ⟨gC, v, none⟩ (.bool true)).alloc (.cells #[.int .u8 67, .int .i64 (c : Int), .int .i64 (wl : Int), .int .i64 (m : Int)] 82)).alloc (.cells #[.int .i64 (v : Int)] 3)) w1.heap.size 82 #[.int .u8 67, .int .i64 (c : Int), .int .i64 (wl : Int), .int .i64 (m : Int)] := (blk_new_at (by simp [World.setCell])).alloc _
  have bR : Blk (((w1.setCell ⟨gC, v, none⟩ (.bool true)).alloc (.cells #[.int .u8 67, .int .i64 (c : Int), .int .i64 (wl : Int), .int .i64 (m : Int)] 82)).alloc (.cells #[.int .i64 (v : Int)] 3)) w.heap.size 82 #[.int .u8 0, .int .i64 0, .int .i64 0, .int .i64 0] := (((Hb0.out.below HB1.out hszA).far (p := ⟨gC, v, none⟩) (by simp only; omega) _).alloc _).alloc _
  have hB3 : Kept (OwnA b (.slice (some ⟨gC, 0, none⟩) n capC) (.slice (some ⟨gl, 0, none⟩) m cap) (.slice aW wl cW) vs) w (((w1.setCell ⟨gC, v, none⟩ (.bool true)).alloc (.cells #[.int .u8 67, .int .i64 (c : Int), .int .i64 (wl : Int), .int .i64 (m : Int)] 82)).alloc (.cells #[.int .i64 (v : Int)] 3)) := (((Kept.of HB2.out).setCell (p := ⟨gC, v, none⟩) (.inl (.inr (.inl rfl))) _).alloc _).alloc _
  have hsz3 : w1.heap.size + 2 = (((w1.setCell ⟨gC, v, none⟩ (.bool true)).alloc (.cells #[.int .u8 67, .int .i64 (c : Int), .int .i64 (wl : Int), .int .i64 (m : Int)] 82)).alloc (.cells #[.int .i64 (v : Int)] 3)).heap.size := by simp [World.setCell]
  generalize (((w1.setCell ⟨gC, v, none⟩ (.bool true)).alloc (.cells #[.int .u8 67, .int .i64 (c : Int), .int .i64 (wl : Int), .int .i64 (m : Int)] 82)).alloc (.cells #[.int .i64 (v : Int)] 3)) = W3 at *
  refine (insert_any base (w1.heap.size + 1) (.slice (some ⟨gl, 0, none⟩) m cap) x v (y :: r) W3 hL3 (by simp) (by have := HM.out; simp only [List.length_cons] at this ⊢; omega) bT (by simp [Value.ownBlock]; omega) A3.ble).mono ?_
  rintro e w4 ⟨v', rfl, hr4, hg4, hat4⟩
  obtain ⟨g4, cap4, rfl, -, -, -⟩ := own_form hr4 (by omega)
  have nb : some b ≠ some gl := fun e => own_blk_ne hL3 A3.blk (by decide) e.symm
  have b4 := A3.blk.grown hg4 nb
  obtain ⟨lb4, z0, z1, z2, z3, u2, u3⟩ := four b4
  have s4 := bS.grown hg4 (fun e => own_blk_ne hL3 bS (by decide) e.symm)
  have t4 := bR.grown hg4 (fun e => own_blk_ne hL3 bR (by decide) e.symm)
  obtain ⟨ls4, s0, s1, s2, s3, -⟩ := four s4
  obtain ⟨lt4, t0, t1, t2, t3, r2, r3⟩ := four t4
  have r0 := t4.frozen 0
  have r1 := t4.frozen 1
  have A4 := A3.reloop (l := x :: v :: y :: r) hg4 (by simpa [intsV] using hr4) hat4 (by simp)
  have hB4 := hB3.grown hg4 (fun j e => .inl (.inr (.inr (.inl e))))
  have hO4 := own_reloop (b := b) (vC := .slice (some ⟨gC, 0, none⟩) n capC) (vW := .slice aW wl cW) (vs := vs) (z := w.heap.size) (by
    rcases hat4 with e | ⟨q, e, hq⟩
    · exact .inl e
    · exact .inr ⟨q, e, by omega⟩)
  have k1 : b ≠ w.heap.size := fun e => by have := lb; omega
  have k2 : b ≠ w1.heap.size := by omega
  have k3 : w.heap.size ≠ w1.heap.size := by omega
  have hbb := Nat.le_trans H.out.ble (Nat.le_refl _)
  generalize (y :: r).length + 2 = k4 at *
  have HA4 := Lib.hid A4
  have HB4 := Lib.hid hB4
  have HO4 := Lib.hid hO4
  have HT4 := Lib.hid t4
  clear A4 hB4 hO4 hr4 hg4 hat4 A3 hL3 bT bS bR hB3 b4 s4 t4
  go_wp2
  obtain ⟨o1, o2, o3⟩ := HA4.out.out4 (HT4.out.far (p := ⟨b, 2, none⟩) (by simp only; omega) _) (HB4.out.setCell (p := ⟨b, 2, none⟩) (.inl (.inl rfl)) _) (Nat.le_refl _) (.int .u8 67) (.int .i64 (c : Int)) (.int .i64 (wl : Int)) (.int .i64 (m : Int))
  obtain ⟨-, p0, p1, p2, p3, -⟩ := four o2
  exact bodyPost_ret (v := .tuple #[.agg #[.int .u8 67, .int .i64 (c : Int), .int .i64 (wl : Int), .int .i64 (m : Int)], .bool true]) (by simp [results, Tryz.results66, go_sem, p0, p1, p2, p3]) rfl ⟨rfl, _, o1, o3, HO4.out⟩
end Go.Proofs.YtpnkhgjjlionnaaGreat
namespace Go.Proofs.YtpnkhgjjlionnaaGreat
open Go.RowKit Go.Maps

/-- A walk that is on its way, or over; its blocks are of S. -/
def WayS (w : World) (base g b n : Nat) (S : Nat → Prop) (s : WSt) : Prop :=
  (∀ k, S k → base ≤ k ∧ k < w.heap.size) ∧ ((∃ vC vL vW vs, WayAt w base g b vC vL vW vs n s ∧ ∀ k, OwnA b vC vL vW vs k → S k) ∨ (s.loop = [] ∧ S b ∧ ∃ vC vW, Blk w b 154 #[.pointer (some ⟨g, 0, none⟩), vC, .slice none 0 0, vW]))
section
variable {w w' : World} {base g b n : Nat} {S : Nat → Prop} {s s' : WSt} {T : List Tr}
theorem WayS.same (h : WayS w base g b n S s) (hz : w.heap.size ≤ w'.heap.size) (hs : ∀ k, S k → w'.heap[k]? = w.heap[k]?) : WayS w' base g b n S s := by
  obtain ⟨h1, ⟨vC, vL, vW, vs, h2, h3⟩ | ⟨h2, h3, vC, vW, h4⟩⟩ := h
  · exact ⟨fun k hk => by have := h1 k hk; omega, .inl ⟨vC, vL, vW, vs, h2.same (fun k hk => hs k (h3 k hk)), h3⟩⟩
  · exact ⟨fun k hk => by have := h1 k hk; omega, .inr ⟨h2, h3, vC, vW, blk_same h4 (hs b h3)⟩⟩
/-- What a step leaves behind. -/
def StpPost (w : World) (base g b n : Nat) (S : Nat → Prop) (s' : WSt) (w' : World) : Prop := ∃ S', WayS w' base g b n S' s' ∧ (∀ k, S' k → S k ∨ (w.heap.size ≤ k ∧ k < w'.heap.size)) ∧ Kept S w w'
theorem stp_of {vC vL vW vL' vW' : Value} {vs vs' : List Value} (hS : ∀ k, OwnA b vC vL vW vs k → S k) (h' : WayAt w' base g b vC vL' vW' vs' n s') (k : Kind w w' b vC vL vW vs vL' vW' vs') : StpPost w base g b n S s' w' :=
  ⟨OwnA b vC vL' vW' vs', ⟨fun _j hj => h'.own_ge hj, .inl ⟨vC, vL', vW', vs', h', fun _ hj => hj⟩⟩, fun j hj => (k.own j hj).imp (hS j) (fun e => ⟨e, (h'.own_ge hj).2⟩), k.kept.mono hS⟩
set_option maxRecDepth 100000 in
set_option maxHeartbeats 1000000 in
/-- No loop is left. -/
theorem step_end (h : WayS w base g b n S s) (hl : s.loop = []) (_hb : base ≤ w.heap.size) :
    Calls Tryz.prog 66 #[.pointer (some ⟨b, 0, none⟩)] w fun e w' => e = .returned (.tuple #[.agg #[.int .u8 0, .int .i64 0, .int .i64 0, .int .i64 0], .bool false]) ∧ Kept S w w' := by
  obtain ⟨-, ⟨vC, vL, vW, vs, hA, hO⟩ | ⟨-, hSb, vC, vW, hB⟩⟩ := h
  · exact absurd hl hA.nn
  obtain ⟨lb, c0, c1, c2, c3, f2, f3⟩ := four hB
  have b0 := Blk.new w 82 #[.int .u8 0, .int .i64 0, .int .i64 0, .int .i64 0]
  have hBB := hB.alloc (.cells #[.int .u8 0, .int .i64 0, .int .i64 0, .int .i64 0] 82)
  have hk : Kept S w (w.alloc (.cells #[.int .u8 0, .int .i64 0, .int .i64 0, .int .i64 0] 82)) := (Kept.refl _ _).alloc _
  have hnil := fun (W : World) => Lib.run_eql_slice_nil (P := Tryz.prog) W 30 3 none 0 0 0 0 Tryz.underlying30
  go_enter Tryz.func66, Tryz.ntmps66
  go_wp2
  obtain ⟨-, p0, p1, p2, p3, -⟩ := four b0
  exact bodyPost_ret (v := .tuple #[.agg #[.int .u8 0, .int .i64 0, .int .i64 0, .int .i64 0], .bool false]) (by simp [results, Tryz.results66, go_sem, p0, p1, p2, p3]) rfl ⟨rfl, hk⟩
end
end Go.Proofs.YtpnkhgjjlionnaaGreat
