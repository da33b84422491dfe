/-
  Texts joined by program, what the law uses alone: SurM MirJ RtC Rt FrS Stab Join FoS.
-/
import Derived.Deep.RegionWith
import Derived.Deep.RegionHeld3
import Derived.Deep.DeepCutAuto
import Derived.StillTailTactics
import Derived.Test.YtpnkhgjjlionnaaG3
import Derived.Test.YtpnkhgjjlionnaaG4
import Derived.Test.YtpnkhgjjlionnaaG2
import Derived.Test.YtpnkhgjjlionnaaShelf
namespace Go.Proofs.Ytpnkhgjjlionnaa
open Go.RowKit

theorem sort3_perm {a b c a' b' c' : Int} (h : [a, b, c].Perm [a', b', c']) : sort3 a b c = sort3 a' b' c' := by
  have hs : ∀ l : List Int, (sortL l).Pairwise (fun x y => x ≤ y) := fun l => by
    have := List.pairwise_mergeSort (le := fun x y : Int => decide (x ≤ y)) (fun a b c h1 h2 => by simp at h1 h2 ⊢; omega) (fun a b => by simp; omega) l
    exact this.imp (fun {a b} h => by simpa using h)
  have hp : ∀ l : List Int, (sortL l).Perm l := fun l => List.mergeSort_perm l _
  have key : ∀ {l l' : List Int}, l.Perm l' → l.Pairwise (fun x y => x ≤ y) → l'.Pairwise (fun x y => x ≤ y) → l = l' := by
    intro l
    induction l with
    | nil => intro l' h _ _; exact List.Perm.nil_eq h
    | cons x r ih =>
      intro l' h h1 h2
      cases l' with
      | nil => have := h.length_eq; simp at this
      | cons y s =>
        obtain ⟨a1, a2⟩ := List.pairwise_cons.1 h1
        obtain ⟨b1, b2⟩ := List.pairwise_cons.1 h2
        have hxy : x = y := by
          have hx : x ∈ y :: s := h.mem_iff.1 (List.mem_cons_self ..)
          have hy : y ∈ x :: r := h.mem_iff.2 (List.mem_cons_self ..)
          rcases List.mem_cons.1 hx with e | hx
          · exact e
          · rcases List.mem_cons.1 hy with e | hy
            · exact e.symm
            · have := a1 y hy
              have := b1 x hx
              omega
        subst hxy
        rw [ih (List.Perm.cons_inv h) a2 b2]
  have e := key (((hp [a, b, c]).trans h).trans (hp [a', b', c']).symm) (hs _) (hs _)
  unfold sort3
  rw [e]
theorem sort3_has {a b c a' b' c' : Int} (h : sort3 a b c = sort3 a' b' c') : [a, b, c].Perm [a', b', c'] := by
  have e : sortL [a, b, c] = sortL [a', b', c'] := by rw [sort3_eq, sort3_eq, h]
  have hp : ∀ l : List Int, (sortL l).Perm l := fun l => List.mergeSort_perm l _
  exact (hp _).symm.trans (by rw [e]; exact hp _)
theorem hasV_mem {t : Tr} {x : Int} : hasV t x ↔ x ∈ [t.1, t.2.1, t.2.2] := by
  unfold hasV
  simp
/-- One triangle over there: turned, or turned and mirrored, in other numbers. -/
def Turned (r : Bool) (g : Int → Int) (t t' : Tr) : Prop :=
  match r with
  | false => t' = (g t.1, g t.2.1, g t.2.2) ∨ t' = (g t.2.1, g t.2.2, g t.1) ∨ t' = (g t.2.2, g t.1, g t.2.1)
  | true => t' = (g t.1, g t.2.2, g t.2.1) ∨ t' = (g t.2.2, g t.2.1, g t.1) ∨ t' = (g t.2.1, g t.1, g t.2.2)
theorem Turned.perm {r : Bool} {g : Int → Int} {t t' : Tr} (h : Turned r g t t') : [t'.1, t'.2.1, t'.2.2].Perm [g t.1, g t.2.1, g t.2.2] := by
  have p1 : ∀ a b c : Int, [b, c, a].Perm [a, b, c] := fun a b c => (List.perm_append_comm (l₁ := [b, c]) (l₂ := [a]))
  have p2 : ∀ a b c : Int, [c, a, b].Perm [a, b, c] := fun a b c => (List.perm_append_comm (l₁ := [c]) (l₂ := [a, b]))
  have p3 : ∀ a b c : Int, [a, c, b].Perm [a, b, c] := fun a b c => (List.Perm.swap b c []).cons a
  cases r with
  | false =>
    rcases h with h | h | h
    · rw [h]
    · rw [h]; exact p1 _ _ _
    · rw [h]; exact p2 _ _ _
  | true =>
    rcases h with h | h | h
    · rw [h]; exact p3 _ _ _
    · rw [h]; exact (p1 _ _ _).trans (p3 _ _ _)
    · rw [h]; exact (p2 _ _ _).trans (p3 _ _ _)
theorem Turned.edges {r : Bool} {g : Int → Int} {t t' : Tr} (h : Turned r g t t') : (edges3 t').Perm ((edges3 t).map fun e => if r then (g e.2.1, g e.1, 0) else (g e.1, g e.2.1, 0)) := by
  have p1 : ∀ a b c : Tr, [b, c, a].Perm [a, b, c] := fun a b c => (List.perm_append_comm (l₁ := [b, c]) (l₂ := [a]))
  have p2 : ∀ a b c : Tr, [c, a, b].Perm [a, b, c] := fun a b c => (List.perm_append_comm (l₁ := [c]) (l₂ := [a, b]))
  have p3 : ∀ a b c : Tr, [c, b, a].Perm [a, b, c] := fun a b c => (p2 a b c |> fun _ => ((List.Perm.swap b c [a]).trans (p1 a b c)))
  cases r with
  | false =>
    rcases h with h | h | h
    · rw [h]; exact List.Perm.refl _
    · rw [h]; exact p1 _ _ _
    · rw [h]; exact p2 _ _ _
  | true =>
    rcases h with h | h | h
    · rw [h]
      show [(g t.1, g t.2.2, (0 : Int)), (g t.2.2, g t.2.1, 0), (g t.2.1, g t.1, 0)].Perm [(g t.2.1, g t.1, 0), (g t.2.2, g t.2.1, 0), (g t.1, g t.2.2, 0)]
      exact p3 _ _ _
    · rw [h]
      show [(g t.2.2, g t.2.1, (0 : Int)), (g t.2.1, g t.1, 0), (g t.1, g t.2.2, 0)].Perm [(g t.2.1, g t.1, 0), (g t.2.2, g t.2.1, 0), (g t.1, g t.2.2, 0)]
      exact List.Perm.swap _ _ _
    · rw [h]
      show [(g t.2.1, g t.1, (0 : Int)), (g t.1, g t.2.2, 0), (g t.2.2, g t.2.1, 0)].Perm [(g t.2.1, g t.1, 0), (g t.2.2, g t.2.1, 0), (g t.1, g t.2.2, 0)]
      exact (List.Perm.swap _ _ _).cons _
/-- The triangles of T are those of T', in another order, turned (or turned and mirrored), in other numbers. -/
structure Mv (r : Bool) (T T' : List Tr) (π : Nat → Nat) (g : Int → Int) : Prop where
  len : T'.length = T.length
  lt : ∀ i, i < T.length → π i < T.length
  inj : ∀ i j, i < T.length → j < T.length → π i = π j → i = j
  tri : ∀ i t, T[i]? = some t → ∃ t', T'[π i]? = some t' ∧ Turned r g t t'
  ginj : ∀ t ∈ T, ∀ s ∈ T, ∀ x y, hasV t x → hasV s y → g x = g y → x = y
theorem Turned.has {r : Bool} {g : Int → Int} {t t' : Tr} (h : Turned r g t t') {u : Int} : hasV t' u ↔ ∃ x, hasV t x ∧ u = g x := by
  rw [hasV_mem, h.perm.mem_iff]
  simp only [List.mem_cons, List.not_mem_nil, or_false]
  unfold hasV
  constructor
  · rintro (e | e | e)
    · exact ⟨_, .inl rfl, e⟩
    · exact ⟨_, .inr (.inl rfl), e⟩
    · exact ⟨_, .inr (.inr rfl), e⟩
  · rintro ⟨x, e | e | e, rfl⟩
    · exact .inl (by rw [e])
    · exact .inr (.inl (by rw [e]))
    · exact .inr (.inr (by rw [e]))
section
variable {r : Bool} {T T' : List Tr} {π : Nat → Nat} {g : Int → Int}
theorem Mv.range (h : Mv r T T' π g) : ((List.range T.length).map π).Perm (List.range T.length) := by
  have hn : ((List.range T.length).map π).Nodup := by
    rw [List.nodup_iff_pairwise_ne, List.pairwise_map]
    refine List.Pairwise.imp_of_mem ?_ (List.nodup_iff_pairwise_ne.1 List.nodup_range)
    intro a b ha hb hab e
    exact hab (h.inj _ _ (List.mem_range.1 ha) (List.mem_range.1 hb) e)
  have hs : ∀ x ∈ (List.range T.length).map π, x ∈ List.range T.length := by
    intro x hx
    obtain ⟨c, hc, rfl⟩ := List.mem_map.1 hx
    exact List.mem_range.2 (h.lt c (List.mem_range.1 hc))
  refine (List.perm_ext_iff_of_nodup hn List.nodup_range).2 fun d => ⟨hs d, fun hd => ?_⟩
  refine Classical.byContradiction fun hno => ?_
  have h2 := Jor.nodup_le (List.nodup_cons.2 ⟨hno, hn⟩) (m := List.range T.length) (fun x hx => by
    rcases List.mem_cons.1 hx with rfl | hx
    · exact hd
    · exact hs x hx)
  simp at h2
  omega
theorem Mv.surj (h : Mv r T T' π g) {k : Nat} (hk : k < T.length) : ∃ i, i < T.length ∧ π i = k := by
  have := h.range.mem_iff.2 (List.mem_range.2 hk)
  obtain ⟨i, hi, e⟩ := List.mem_map.1 this
  exact ⟨i, List.mem_range.1 hi, e⟩
/-- Whoever stands over there came from here. -/
theorem Mv.from_ (h : Mv r T T' π g) {k : Nat} {t' : Tr} (hk : T'[k]? = some t') : ∃ i t, i < T.length ∧ π i = k ∧ T[i]? = some t ∧ Turned r g t t' := by
  have hk' := (List.getElem?_eq_some_iff.1 hk).1
  rw [h.len] at hk'
  obtain ⟨i, hi, e⟩ := h.surj hk'
  obtain ⟨t'', e1, e2⟩ := h.tri i T[i] (List.getElem?_eq_getElem hi)
  rw [e, hk] at e1
  cases e1
  exact ⟨i, T[i], hi, e, List.getElem?_eq_getElem hi, e2⟩
/-- The triangles over there in the order of those here. -/
def Mv.ord (T T' : List Tr) (π : Nat → Nat) : List Tr := (List.range T.length).map fun i => T'.getD (π i) (0, 0, 0)
theorem Mv.perm (h : Mv r T T' π g) : T'.Perm (Mv.ord T T' π) := by
  have e1 : T' = (List.range T.length).map fun k => T'.getD k (0, 0, 0) := by
    apply List.ext_getElem?
    intro k
    rw [List.getElem?_map]
    by_cases hk : k < T.length
    · rw [List.getElem?_range hk]
      have : k < T'.length := by rw [h.len]; exact hk
      simp [List.getD, List.getElem?_eq_getElem this]
    · rw [List.getElem?_eq_none (by rw [h.len]; omega), List.getElem?_eq_none (by simp; omega)]
      rfl
  have e2 : Mv.ord T T' π = ((List.range T.length).map π).map fun k => T'.getD k (0, 0, 0) := by
    unfold Mv.ord
    rw [List.map_map]
    rfl
  rw [e2]
  have h1 := (h.range.map fun k => T'.getD k (0, 0, 0)).symm
  rw [← e1] at h1
  exact h1
theorem Mv.ord_at (h : Mv r T T' π g) {i : Nat} {t : Tr} (hi : T[i]? = some t) : ∃ t', (Mv.ord T T' π)[i]? = some t' ∧ Turned r g t t' := by
  have hl := (List.getElem?_eq_some_iff.1 hi).1
  obtain ⟨t', e1, e2⟩ := h.tri i t hi
  refine ⟨t', ?_, e2⟩
  unfold Mv.ord
  rw [List.getElem?_map, List.getElem?_range hl]
  simp [List.getD, e1]
/-- Lists side by side, triangle by triangle. -/
theorem flat_side {α : Type} {f h : Tr → List α} : ∀ {A B : List Tr}, A.length = B.length → (∀ (i : Nat) (t : Tr), A[i]? = some t → ∃ t' : Tr, B[i]? = some t' ∧ (f t').Perm (h t)) → (B.flatMap f).Perm (A.flatMap h)
  | [], [], _, _ => List.Perm.refl _
  | [], _ :: _, e, _ => by simp at e
  | _ :: _, [], e, _ => by simp at e
  | a :: A, b :: B, e, hh => by
    rw [List.flatMap_cons, List.flatMap_cons]
    obtain ⟨t', e1, e2⟩ := hh 0 a rfl
    have e1 : b = t' := by simpa using e1
    rw [e1]
    exact e2.append (flat_side (by simpa using e) (fun i t hi => hh (i + 1) t (by simpa using hi)))
theorem nodup_map_on {α β : Type} {f : α → β} : ∀ {l : List α}, l.Nodup → (∀ x ∈ l, ∀ y ∈ l, f x = f y → x = y) → (l.map f).Nodup
  | [], _, _ => List.nodup_nil
  | a :: l, h, hf => by
    obtain ⟨h1, h2⟩ := List.nodup_cons.1 h
    rw [List.map_cons, List.nodup_cons]
    refine ⟨fun hm => ?_, nodup_map_on h2 (fun x hx y hy => hf x (List.mem_cons_of_mem _ hx) y (List.mem_cons_of_mem _ hy))⟩
    obtain ⟨x, hx, e⟩ := List.mem_map.1 hm
    have := hf x (List.mem_cons_of_mem _ hx) a (List.mem_cons_self ..) e
    rw [this] at hx
    exact h1 hx
theorem edges3_has {t e : Tr} (h : e ∈ edges3 t) : hasV t e.1 ∧ hasV t e.2.1 ∧ e.2.2 = 0 := by
  unfold edges3 at h
  simp only [List.mem_cons, List.not_mem_nil, or_false] at h
  unfold hasV
  rcases h with rfl | rfl | rfl
  · exact ⟨.inl rfl, .inr (.inl rfl), rfl⟩
  · exact ⟨.inr (.inl rfl), .inr (.inr rfl), rfl⟩
  · exact ⟨.inr (.inr rfl), .inl rfl, rfl⟩
theorem Mv.twice (h : Mv r T T' π g) (hE : (T.flatMap edges3).Nodup) : (T'.flatMap edges3).Nodup := by
  have p1 : (T'.flatMap edges3).Perm ((Mv.ord T T' π).flatMap edges3) := h.perm.flatMap_right _
  have hl : T.length = (Mv.ord T T' π).length := by unfold Mv.ord; simp
  have p2 := flat_side (f := edges3) (h := fun t => (edges3 t).map fun e => if r then (g e.2.1, g e.1, (0 : Int)) else (g e.1, g e.2.1, 0)) hl (fun i t hi => by
    obtain ⟨t', e1, e2⟩ := h.ord_at hi
    exact ⟨t', e1, e2.edges⟩)
  have e3 : (T.flatMap fun t => (edges3 t).map fun e => if r then (g e.2.1, g e.1, (0 : Int)) else (g e.1, g e.2.1, 0)) = (T.flatMap edges3).map fun e => if r then (g e.2.1, g e.1, (0 : Int)) else (g e.1, g e.2.1, 0) := by rw [List.map_flatMap]
  rw [e3] at p2
  refine ((p1.trans p2).nodup_iff).2 (nodup_map_on hE fun x hx y hy e => ?_)
  obtain ⟨t, ht, hx⟩ := List.mem_flatMap.1 hx
  obtain ⟨s, hs, hy⟩ := List.mem_flatMap.1 hy
  obtain ⟨x1, x2, x3⟩ := edges3_has hx
  obtain ⟨y1, y2, y3⟩ := edges3_has hy
  have h1 : g x.1 = g y.1 ∧ g x.2.1 = g y.2.1 := by
    cases r with
    | false => simp only [Bool.false_eq_true, if_false, Prod.mk.injEq] at e; exact ⟨e.1, e.2.1⟩
    | true => simp only [if_true, Prod.mk.injEq] at e; exact ⟨e.2.1, e.1⟩
  obtain ⟨a, b, c⟩ := x
  obtain ⟨a', b', c'⟩ := y
  simp only at x1 x2 x3 y1 y2 y3 h1 ⊢
  rw [h.ginj t ht s hs _ _ x1 y1 h1.1, h.ginj t ht s hs _ _ x2 y2 h1.2, x3, y3]
theorem perm_of_has {t s : Tr} (ht : simple3 t) (hs : simple3 s) (h : ∀ x, hasV t x ↔ hasV s x) : [t.1, t.2.1, t.2.2].Perm [s.1, s.2.1, s.2.2] := by
  have nd : ∀ {t : Tr}, simple3 t → [t.1, t.2.1, t.2.2].Nodup := fun {t} h => by
    obtain ⟨a, b, c⟩ := h
    simp only [List.nodup_cons, List.mem_cons, List.not_mem_nil, or_false, not_or, not_false_eq_true, List.nodup_nil, and_true]
    exact ⟨⟨a, fun e => c e.symm⟩, b⟩
  refine (List.perm_ext_iff_of_nodup (nd ht) (nd hs)).2 fun x => ?_
  rw [← hasV_mem, ← hasV_mem]
  exact h x
theorem key3_idx {T : List Tr} (h : (T.flatMap key3).Nodup) {i j : Nat} {t s : Tr} (hi : T[i]? = some t) (hj : T[j]? = some s) (e : sort3 t.1 t.2.1 t.2.2 = sort3 s.1 s.2.1 s.2.2) : i = j := by
  have e1 : T.flatMap key3 = T.map fun t => sort3 t.1 t.2.1 t.2.2 := by
    have : ∀ l : List Tr, l.flatMap key3 = l.map fun t => sort3 t.1 t.2.1 t.2.2 := fun l => by
      induction l with
      | nil => rfl
      | cons a l ih => rw [List.flatMap_cons, ih]; rfl
    exact this T
  rw [e1] at h
  have hp := List.pairwise_iff_getElem.1 (List.nodup_iff_pairwise_ne.1 h)
  obtain ⟨q1, q2⟩ := List.getElem?_eq_some_iff.1 hi
  obtain ⟨q3, q4⟩ := List.getElem?_eq_some_iff.1 hj
  rcases Nat.lt_trichotomy i j with h1 | h1 | h1
  · exact absurd (by rw [List.getElem_map, List.getElem_map, q2, q4]; exact e) (hp i j (by rw [List.length_map]; exact q1) (by rw [List.length_map]; exact q3) h1)
  · exact h1
  · exact absurd (by rw [List.getElem_map, List.getElem_map, q2, q4]; exact e.symm) (hp j i (by rw [List.length_map]; exact q3) (by rw [List.length_map]; exact q1) h1)
theorem key3_of {T : List Tr} (h : ∀ (i j : Nat) (t s : Tr), T[i]? = some t → T[j]? = some s → sort3 t.1 t.2.1 t.2.2 = sort3 s.1 s.2.1 s.2.2 → i = j) : (T.flatMap key3).Nodup := by
  have e1 : T.flatMap key3 = T.map fun t => sort3 t.1 t.2.1 t.2.2 := by
    have : ∀ l : List Tr, l.flatMap key3 = l.map fun t => sort3 t.1 t.2.1 t.2.2 := fun l => by
      induction l with
      | nil => rfl
      | cons a l ih => rw [List.flatMap_cons, ih]; rfl
    exact this T
  rw [e1, List.nodup_iff_pairwise_ne]
  refine List.pairwise_iff_getElem.2 fun i j hi hj hij e => ?_
  simp only [List.getElem_map] at e
  have := h i j _ _ (List.getElem?_eq_getElem (by simpa using hi)) (List.getElem?_eq_getElem (by simpa using hj)) e
  omega
theorem Turned.simple {r : Bool} {g : Int → Int} {t t' : Tr} (h : Turned r g t t') (ht : simple3 t) (hg : ∀ x y, hasV t x → hasV t y → g x = g y → x = y) : simple3 t' := by
  obtain ⟨a, b, c⟩ := ht
  have v1 : hasV t t.1 := .inl rfl
  have v2 : hasV t t.2.1 := .inr (.inl rfl)
  have v3 : hasV t t.2.2 := .inr (.inr rfl)
  have n1 : g t.1 ≠ g t.2.1 := fun e => a (hg _ _ v1 v2 e)
  have n2 : g t.2.1 ≠ g t.2.2 := fun e => b (hg _ _ v2 v3 e)
  have n3 : g t.2.2 ≠ g t.1 := fun e => c (hg _ _ v3 v1 e)
  cases r with
  | false =>
    rcases h with h | h | h <;> rw [h]
    · exact ⟨n1, n2, n3⟩
    · exact ⟨n2, n3, n1⟩
    · exact ⟨n3, n1, n2⟩
  | true =>
    rcases h with h | h | h <;> rw [h]
    · exact ⟨fun e => n3 e.symm, fun e => n2 e.symm, fun e => n1 e.symm⟩
    · exact ⟨fun e => n2 e.symm, fun e => n1 e.symm, fun e => n3 e.symm⟩
    · exact ⟨fun e => n1 e.symm, fun e => n3 e.symm, fun e => n2 e.symm⟩
theorem Mv.mirrored (h : Mv r T T' π g) (hs : ∀ t ∈ T, simple3 t) (hK : (T.flatMap key3).Nodup) : (T'.flatMap key3).Nodup := by
  refine key3_of fun k l t' s' hk hl e => ?_
  obtain ⟨i, t, hi, rfl, ht, tt⟩ := h.from_ hk
  obtain ⟨j, s, hj, rfl, hs', ts⟩ := h.from_ hl
  have htm := List.mem_of_getElem? ht
  have hsm := List.mem_of_getElem? hs'
  have hp := sort3_has e
  have hsame : ∀ x, hasV t x ↔ hasV s x := by
    intro x
    constructor
    · intro hx
      have h1 : hasV t' (g x) := tt.has.2 ⟨x, hx, rfl⟩
      rw [hasV_mem, hp.mem_iff, ← hasV_mem] at h1
      obtain ⟨y, hy, e2⟩ := ts.has.1 h1
      rw [h.ginj t htm s hsm x y hx hy e2]
      exact hy
    · intro hx
      have h1 : hasV s' (g x) := ts.has.2 ⟨x, hx, rfl⟩
      rw [hasV_mem, ← hp.mem_iff, ← hasV_mem] at h1
      obtain ⟨y, hy, e2⟩ := tt.has.1 h1
      rw [h.ginj s hsm t htm x y hx hy e2]
      exact hy
  rw [key3_idx hK ht hs' (sort3_perm (perm_of_has (hs t htm) (hs s hsm) hsame))]
end
/-! Connected, from whomever on. -/
theorem adjV_symm {T : List Tr} {v : Int} {i k : Nat} (h : adjV T v i k) : adjV T v k i := by
  obtain ⟨a, b, x, h1, h2, h3, h4, h5⟩ := h
  exact ⟨b, a, x, h2, h1, h3, h5, h4⟩
def Link (T : List Tr) (v : Int) (l : List Nat) (i k : Nat) : Prop := ∀ S : Nat → Prop, S i → (∀ i ∈ l, ∀ k ∈ l, S i → adjV T v i k → S k) → S k
theorem Link.trans {T : List Tr} {v : Int} {l : List Nat} {i j k : Nat} (h1 : Link T v l i j) (h2 : Link T v l j k) : Link T v l i k := fun S a b => h2 S (h1 S a b) b
theorem ConnV.any {T : List Tr} {v : Int} {l : List Nat} (h : ConnV T v l) {i k : Nat} (hi : i ∈ l) (hk : k ∈ l) : Link T v l i k := by
  obtain ⟨a, r, rfl⟩ : ∃ a r, l = a :: r := by
    cases l with
    | nil => cases hi
    | cons a r => exact ⟨a, r, rfl⟩
  have h1 : ∀ k ∈ a :: r, Link T v (a :: r) a k ∧ Link T v (a :: r) k a := h (fun k => Link T v (a :: r) a k ∧ Link T v (a :: r) k a) (fun i e => by
    have : i = a := by simpa using e.symm
    subst this
    exact ⟨fun S s _ => s, fun S s _ => s⟩) (fun i hi k hk hs ha => by
    have s1 : Link T v (a :: r) i k := fun S s c => c i hi k hk s ha
    have s2 : Link T v (a :: r) k i := fun S s c => c k hk i hi s (adjV_symm ha)
    exact ⟨hs.1.trans s1, s2.trans hs.2⟩)
  exact (h1 i hi).2.trans (h1 k hk).1
theorem ConnV.of_any {T : List Tr} {v : Int} {l : List Nat} (h : ∀ i ∈ l, ∀ k ∈ l, Link T v l i k) : ConnV T v l := fun S s0 sc k hk => by
  cases l with
  | nil => cases hk
  | cons a r => exact h a (List.mem_cons_self ..) k hk S (s0 a rfl) sc
section
variable {r : Bool} {T T' : List Tr} {π : Nat → Nat} {g : Int → Int}
theorem Mv.pinch (h : Mv r T T' π g) {t0 : Tr} {i0 : Nat} {x : Int} (h0 : T[i0]? = some t0) (hx : hasV t0 x) (hc : ConnV T x (atV T x)) : ConnV T' (g x) (atV T' (g x)) := by
  have ht0 := List.mem_of_getElem? h0
  -- who is at g x over there came from one at x here
  have back : ∀ k, k ∈ atV T' (g x) → ∃ i, i ∈ atV T x ∧ π i = k := by
    intro k hk
    obtain ⟨t', e1, e2⟩ := atV_mem.1 hk
    obtain ⟨i, t, hi, e3, e4, e5⟩ := h.from_ e1
    obtain ⟨y, hy, e6⟩ := e5.has.1 e2
    have := h.ginj t0 ht0 t (List.mem_of_getElem? e4) x y hx hy e6
    rw [← this] at hy
    exact ⟨i, atV_mem.2 ⟨t, e4, hy⟩, e3⟩
  have forth : ∀ i, i ∈ atV T x → π i ∈ atV T' (g x) := by
    intro i hi
    obtain ⟨t, e1, e2⟩ := atV_mem.1 hi
    obtain ⟨t', e3, e4⟩ := h.tri i t e1
    exact atV_mem.2 ⟨t', e3, e4.has.2 ⟨x, e2, rfl⟩⟩
  have step : ∀ i k, adjV T x i k → adjV T' (g x) (π i) (π k) := by
    rintro i k ⟨a, b, y, h1, h2, h3, h4, h5⟩
    obtain ⟨a', a1, a2⟩ := h.tri i a h1
    obtain ⟨b', b1, b2⟩ := h.tri k b h2
    refine ⟨a', b', g y, a1, b1, fun e => h3 ?_, a2.has.2 ⟨y, h4, rfl⟩, b2.has.2 ⟨y, h5, rfl⟩⟩
    exact h.ginj a (List.mem_of_getElem? h1) t0 ht0 y x h4 hx e
  refine ConnV.of_any fun k hk l hl => ?_
  obtain ⟨i, hi, rfl⟩ := back k hk
  obtain ⟨j, hj, rfl⟩ := back l hl
  intro S s0 sc
  exact hc.any hi hj (fun i => S (π i)) s0 (fun i hi k hk hs ha => sc _ (forth i hi) _ (forth k hk) hs (step i k ha))
theorem flatT_has {T : List Tr} {u : Int} : u ∈ flatT T ↔ ∃ t ∈ T, hasV t u := by
  unfold flatT
  rw [List.mem_flatMap]
  constructor
  · rintro ⟨t, ht, hu⟩
    exact ⟨t, ht, hasV_mem.2 hu⟩
  · rintro ⟨t, ht, hu⟩
    exact ⟨t, ht, hasV_mem.1 hu⟩
theorem in3_has {N : Int} {t : Tr} : in3 N t ↔ ∀ x, hasV t x → inR N x := by
  unfold in3 hasV
  constructor
  · rintro ⟨a, b, c⟩ x (rfl | rfl | rfl) <;> assumption
  · intro h
    exact ⟨h _ (.inl rfl), h _ (.inr (.inl rfl)), h _ (.inr (.inr rfl))⟩
/-- A surface stays one. -/
theorem Mv.surf (h : Mv r T T' π g) {N N' : Int} (hS : Surf N T) (h0 : 0 ≤ N') (h1 : N' ≤ 4096) (hin : ∀ x, inR N x → inR N' (g x)) (hco : ∀ u, inR N' u → ∃ x, inR N x ∧ g x = u) : Surf N' T' where
  n0 := h0
  n1 := h1
  len := by rw [h.len]; exact hS.len
  inr := fun t' ht' => by
    obtain ⟨k, hk, e⟩ := List.getElem_of_mem ht'
    obtain ⟨i, t, hi, -, e2, e3⟩ := h.from_ (k := k) (t' := t') (by rw [List.getElem?_eq_getElem hk, e])
    refine in3_has.2 fun u hu => ?_
    obtain ⟨x, hx, rfl⟩ := e3.has.1 hu
    exact hin x (in3_has.1 (hS.inr t (List.mem_of_getElem? e2)) x hx)
  simple := fun t' ht' => by
    obtain ⟨k, hk, e⟩ := List.getElem_of_mem ht'
    obtain ⟨i, t, hi, -, e2, e3⟩ := h.from_ (k := k) (t' := t') (by rw [List.getElem?_eq_getElem hk, e])
    have hm := List.mem_of_getElem? e2
    exact e3.simple (hS.simple t hm) (fun x y hx hy e => h.ginj t hm t hm x y hx hy e)
  twice := h.twice hS.twice
  mirrored := h.mirrored hS.simple hS.mirrored
  lonely := fun u hu => by
    obtain ⟨x, hx, rfl⟩ := hco u hu
    obtain ⟨t, ht, hxt⟩ := flatT_has.1 (hS.lonely x hx)
    obtain ⟨i, hi, e⟩ := List.getElem_of_mem ht
    obtain ⟨t', e1, e2⟩ := h.tri i t (by rw [List.getElem?_eq_getElem hi, e])
    exact flatT_has.2 ⟨t', List.mem_of_getElem? e1, e2.has.2 ⟨x, hxt, rfl⟩⟩
  pinch := fun u hu => by
    obtain ⟨x, hx, rfl⟩ := hco u hu
    obtain ⟨t, ht, hxt⟩ := flatT_has.1 (hS.lonely x hx)
    obtain ⟨i, hi, e⟩ := List.getElem_of_mem ht
    exact h.pinch (i0 := i) (t0 := t) (by rw [List.getElem?_eq_getElem hi, e]) hxt (hS.pinch x hx)
end
end Go.Proofs.Ytpnkhgjjlionnaa
namespace Go.Proofs.Ytpnkhgjjlionnaa
open Go.RowKit

/-! Mirrors. -/
def mirT (t : Tr) : Tr := (t.1, t.2.2, t.2.1)
theorem mir_mv {N : Int} {T : List Tr} (_hS : Surf N T) : Mv true T (T.map mirT) id id where
  len := by simp
  lt := fun _ h => h
  inj := fun _ _ _ _ h => h
  tri := fun i t hi => ⟨mirT t, by rw [id, List.getElem?_map, hi]; rfl, .inl rfl⟩
  ginj := fun _ _ _ _ _ _ _ _ h => h
theorem mir_surf {N : Int} {T : List Tr} (hS : Surf N T) : Surf N (T.map mirT) :=
  (mir_mv hS).surf hS hS.n0 hS.n1 (fun _ h => h) (fun u hu => ⟨u, hu, rfl⟩)
def muC (c : Nat) : Nat := if c % 3 = 0 then c else if c % 3 = 1 then c + 1 else c - 1
theorem muC_lt {c n : Nat} (h : c < 3 * n) : muC c < 3 * n := by unfold muC; split; · exact h
                                                                 · split <;> omega
theorem muC_mu (c : Nat) : muC (muC c) = c := by
  unfold muC
  rcases (by omega : c % 3 = 0 ∨ c % 3 = 1 ∨ c % 3 = 2) with h | h | h
  · simp [h]
  · have h1 : (c + 1) % 3 = 2 := by omega
    simp [h, h1]
  · have h1 : (c - 1) % 3 = 1 := by omega
    simp [h, h1]
    omega
theorem muC_nx (c : Nat) : Jor.nx (muC c) = muC (Jor.pv c) := by
  obtain ⟨q, hq⟩ : ∃ q, c = 3 * q ∨ c = 3 * q + 1 ∨ c = 3 * q + 2 := ⟨c / 3, by omega⟩
  have m0 : muC (3 * q) = 3 * q := by unfold muC; rw [if_pos (by omega)]
  have m1 : muC (3 * q + 1) = 3 * q + 2 := by unfold muC; rw [if_neg (by omega), if_pos (by omega)]
  have m2 : muC (3 * q + 2) = 3 * q + 1 := by unfold muC; rw [if_neg (by omega), if_neg (by omega)]; omega
  have n0 : Jor.nx (3 * q) = 3 * q + 1 := by unfold Jor.nx; omega
  have n1 : Jor.nx (3 * q + 1) = 3 * q + 2 := by unfold Jor.nx; omega
  have n2 : Jor.nx (3 * q + 2) = 3 * q := by unfold Jor.nx; omega
  have p0 : Jor.pv (3 * q) = 3 * q + 2 := by unfold Jor.pv; omega
  have p1 : Jor.pv (3 * q + 1) = 3 * q := by unfold Jor.pv; omega
  have p2 : Jor.pv (3 * q + 2) = 3 * q + 1 := by unfold Jor.pv; omega
  rcases hq with rfl | rfl | rfl
  · rw [m0, n0, p0, m2]
  · rw [m1, n2, p1, m0]
  · rw [m2, n1, p2, m1]
theorem vert_mir {T : List Tr} {c : Nat} (hc : c < 3 * T.length) : vertN (T.map mirT) c = vertN T (muC c) := by
  have hl : c / 3 < T.length := by omega
  have h3 : muC c / 3 = c / 3 := by unfold muC; split; · rfl
                                    · split <;> omega
  have e1 : triAt (T.map mirT) c = mirT (triAt T c) := by
    unfold triAt
    rw [List.getElem?_map, List.getElem?_eq_getElem hl]
    rfl
  have e2 : triAt T (muC c) = triAt T c := by unfold triAt; rw [h3]
  unfold vertN
  rw [e1, e2]
  rcases (by omega : c % 3 = 0 ∨ c % 3 = 1 ∨ c % 3 = 2) with h | h | h
  · have h1 : muC c % 3 = 0 := by unfold muC; rw [if_pos h]; exact h
    rw [if_pos h, if_pos h1]
    rfl
  · have h1 : muC c % 3 = 2 := by unfold muC; rw [if_neg (by omega), if_pos h]; omega
    rw [if_neg (by omega), if_pos h, if_neg (by omega), if_neg (by omega)]
    rfl
  · have h1 : muC c % 3 = 1 := by unfold muC; rw [if_neg (by omega), if_neg (by omega)]; omega
    rw [if_neg (by omega), if_neg (by omega), if_neg (by omega), if_pos h1]
    rfl
theorem Iso.mir {T T' : List Tr} {φ : Nat → Nat} {g : Int → Int} (h : Iso T T' φ g) : Iso (T.map mirT) (T'.map mirT) (fun c => muC (φ (muC c))) g where
  len := by rw [List.length_map, List.length_map, h.len]
  lt := fun c hc => by rw [List.length_map] at hc ⊢; exact muC_lt (h.lt _ (muC_lt hc))
  inj := fun c d hc hd e => by
    rw [List.length_map] at hc hd
    have e1 : φ (muC c) = φ (muC d) := by rw [← muC_mu (φ (muC c)), e, muC_mu]
    have := h.inj _ _ (muC_lt hc) (muC_lt hd) e1
    rw [← muC_mu c, this, muC_mu]
  nx := fun c hc => by
    rw [List.length_map] at hc
    have e1 : muC (Jor.nx c) = Jor.pv (muC c) := by
      have := muC_nx (Jor.nx c)
      rw [Jor.pv_nx] at this
      rw [← this, Jor.pv_nx]
    show muC (φ (muC (Jor.nx c))) = Jor.nx (muC (φ (muC c)))
    rw [e1, h.pv (muC_lt hc), muC_nx]
  vert := fun c hc => by
    rw [List.length_map] at hc
    show vertN (T'.map mirT) (muC (φ (muC c))) = g (vertN (T.map mirT) c)
    have h1 := h.lt _ (muC_lt hc)
    rw [vert_mir (by rw [h.len]; exact muC_lt h1), muC_mu, vert_mir hc, h.vert _ (muC_lt hc)]
  ginj := fun c d hc hd e => by
    rw [List.length_map] at hc hd
    rw [vert_mir hc, vert_mir hd] at e ⊢
    exact h.ginj _ _ (muC_lt hc) (muC_lt hd) e
theorem Alike.mir {T T' : List Tr} (h : Alike T T') : Alike (T.map mirT) (T'.map mirT) := by
  obtain ⟨φ, g, h⟩ := h
  exact ⟨_, _, h.mir⟩
theorem mir_mir (T : List Tr) : (T.map mirT).map mirT = T := by
  rw [List.map_map]
  have : (mirT ∘ mirT) = id := by funext t; rfl
  rw [this, List.map_id]
theorem alike_mir {T T' : List Tr} : Alike (T.map mirT) (T'.map mirT) ↔ Alike T T' := by
  refine ⟨fun h => ?_, Alike.mir⟩
  have := h.mir
  rw [mir_mir, mir_mir] at this
  exact this
/-! Joined. -/
theorem has_sh {n : Int} {t : Tr} {u : Int} : hasV (shT n t) u ↔ hasV t (u - n) := by
  unfold hasV shT
  constructor
  · rintro (e | e | e)
    · exact .inl (by simp only at e; omega)
    · exact .inr (.inl (by simp only at e; omega))
    · exact .inr (.inr (by simp only at e; omega))
  · rintro (e | e | e)
    · exact .inl (by show u = t.1 + n; omega)
    · exact .inr (.inl (by show u = t.2.1 + n; omega))
    · exact .inr (.inr (by show u = t.2.2 + n; omega))
/-- A part's triangles at a vertex hang together in the whole, where none of another part is there. -/
theorem emb_pinch {A B : List Tr} {e : Nat → Nat} {n u : Int} (tri : ∀ (i : Nat) (t : Tr), A[i]? = some t → B[e i]? = some (shT n t)) (back : ∀ k, k ∈ atV B (u + n) → ∃ i, i ∈ atV A u ∧ e i = k) (hc : ConnV A u (atV A u)) : ConnV B (u + n) (atV B (u + n)) := by
  have forth : ∀ i, i ∈ atV A u → e i ∈ atV B (u + n) := by
    intro i hi
    obtain ⟨t, e1, e2⟩ := atV_mem.1 hi
    exact atV_mem.2 ⟨_, tri i t e1, has_sh.2 (by rw [show u + n - n = u from by omega]; exact e2)⟩
  have step : ∀ i k, adjV A u i k → adjV B (u + n) (e i) (e k) := by
    rintro i k ⟨a, b, y, h1, h2, h3, h4, h5⟩
    exact ⟨_, _, y + n, tri i a h1, tri k b h2, fun e => h3 (by omega), has_sh.2 (by rw [show y + n - n = y from by omega]; exact h4), has_sh.2 (by rw [show y + n - n = y from by omega]; exact h5)⟩
  refine ConnV.of_any fun k hk l hl => ?_
  obtain ⟨i, hi, rfl⟩ := back k hk
  obtain ⟨j, hj, rfl⟩ := back l hl
  intro S s0 sc
  exact hc.any hi hj (fun i => S (e i)) s0 (fun i hi k hk hs ha => sc _ (forth i hi) _ (forth k hk) hs (step i k ha))
theorem sh_zero (T : List Tr) : T.map (shT 0) = T := by
  have : shT 0 = id := by funext t; simp [shT]
  rw [this, List.map_id]
theorem join_surf {N N' : Int} {T T' : List Tr} (hS : Surf N T) (hS' : Surf N' T') (hN : N + N' ≤ 4096) (hl : T.length + T'.length ≤ 8192) : Surf (N + N') (T ++ T'.map (shT N)) := by
  have r1 : ∀ t ∈ T, ∀ x, hasV t x → 0 ≤ x ∧ x < N := fun t ht x hx => in3_has.1 (hS.inr t ht) x hx
  have r2 : ∀ t ∈ T', ∀ x, hasV (shT N t) x → N ≤ x ∧ x < N + N' := fun t ht x hx => by
    have h9 := in3_has.1 (hS'.inr t ht) _ (has_sh.1 hx)
    unfold inR at h9
    omega
  have n0 := hS.n0
  have n0' := hS'.n0
  have get1 : ∀ (i : Nat) (t : Tr), T[i]? = some t → (T ++ T'.map (shT N))[i]? = some (shT 0 t) := fun i t h => by
    rw [List.getElem?_append_left (List.getElem?_eq_some_iff.1 h).1, h]
    simp [shT]
  have get2 : ∀ (i : Nat) (t : Tr), T'[i]? = some t → (T ++ T'.map (shT N))[T.length + i]? = some (shT N t) := fun i t h => by
    rw [List.getElem?_append_right (by omega), show T.length + i - T.length = i from by omega, List.getElem?_map, h]
    rfl
  have sim : ∀ t ∈ T', simple3 (shT N t) := fun t ht => by
    obtain ⟨a, b, c⟩ := hS'.simple t ht
    unfold simple3 shT
    simp only
    exact ⟨by omega, by omega, by omega⟩
  refine ⟨by omega, hN, by rw [List.length_append, List.length_map]; exact hl, ?_, ?_, ?_, ?_, ?_, ?_⟩
  · intro t ht
    refine in3_has.2 fun x hx => ?_
    unfold inR
    rcases List.mem_append.1 ht with ht | ht
    · have := r1 t ht x hx
      omega
    · obtain ⟨s, hs, rfl⟩ := List.mem_map.1 ht
      have := r2 s hs x hx
      omega
  · intro t ht
    rcases List.mem_append.1 ht with ht | ht
    · exact hS.simple t ht
    · obtain ⟨s, hs, rfl⟩ := List.mem_map.1 ht
      exact sim s hs
  · rw [List.flatMap_append, List.nodup_append]
    refine ⟨hS.twice, ?_, fun a ha b hb e => ?_⟩
    · have e1 : (T'.map (shT N)).flatMap edges3 = (T'.flatMap edges3).map fun e => (e.1 + N, e.2.1 + N, e.2.2) := by
        rw [List.flatMap_map, List.map_flatMap]
        rfl
      rw [e1]
      refine nodup_map_on hS'.twice fun x _ y _ e => ?_
      obtain ⟨a, b, c⟩ := x
      obtain ⟨a', b', c'⟩ := y
      simp only [Prod.mk.injEq] at e ⊢
      omega
    · subst e
      obtain ⟨t, ht, ha⟩ := List.mem_flatMap.1 ha
      obtain ⟨s, hs, hb⟩ := List.mem_flatMap.1 hb
      obtain ⟨s', hs', rfl⟩ := List.mem_map.1 hs
      have h1 := r1 t ht _ (edges3_has ha).1
      have h2 := r2 s' hs' _ (edges3_has hb).1
      omega
  · refine key3_of fun i j t s hi hj e => ?_
    have hp := sort3_has e
    have hm : ∀ x, hasV t x ↔ hasV s x := fun x => by rw [hasV_mem, hp.mem_iff, ← hasV_mem]
    by_cases hi' : i < T.length <;> by_cases hj' : j < T.length
    · rw [List.getElem?_append_left hi'] at hi
      rw [List.getElem?_append_left hj'] at hj
      exact key3_idx hS.mirrored hi hj e
    · exfalso
      rw [List.getElem?_append_left hi'] at hi
      rw [List.getElem?_append_right (by omega)] at hj
      obtain ⟨s', hs', rfl⟩ := List.mem_map.1 (List.mem_of_getElem? hj)
      have h1 := r1 t (List.mem_of_getElem? hi) t.1 (.inl rfl)
      have h2 := r2 s' hs' t.1 ((hm t.1).1 (.inl rfl))
      omega
    · exfalso
      rw [List.getElem?_append_left hj'] at hj
      rw [List.getElem?_append_right (by omega)] at hi
      obtain ⟨s', hs', rfl⟩ := List.mem_map.1 (List.mem_of_getElem? hi)
      have h1 := r1 s (List.mem_of_getElem? hj) s.1 (.inl rfl)
      have h2 := r2 s' hs' s.1 ((hm s.1).2 (.inl rfl))
      omega
    · rw [List.getElem?_append_right (by omega), List.getElem?_map] at hi hj
      obtain ⟨t', ht', rfl⟩ := Option.map_eq_some_iff.1 hi
      obtain ⟨s', hs', rfl⟩ := Option.map_eq_some_iff.1 hj
      have hsame : ∀ x, hasV t' x ↔ hasV s' x := fun x => by
        have := hm (x + N)
        rw [has_sh, has_sh, show x + N - N = x from by omega] at this
        exact this
      have := key3_idx hS'.mirrored ht' hs' (sort3_perm (perm_of_has (hS'.simple _ (List.mem_of_getElem? ht')) (hS'.simple _ (List.mem_of_getElem? hs')) hsame))
      omega
  · intro u hu
    unfold inR at hu
    refine flatT_has.2 ?_
    by_cases hu' : u < N
    · obtain ⟨t, ht, hx⟩ := flatT_has.1 (hS.lonely u ⟨hu.1, hu'⟩)
      exact ⟨t, List.mem_append_left _ ht, hx⟩
    · obtain ⟨t, ht, hx⟩ := flatT_has.1 (hS'.lonely (u - N) ⟨by omega, by omega⟩)
      exact ⟨shT N t, List.mem_append_right _ (List.mem_map.2 ⟨t, ht, rfl⟩), has_sh.2 hx⟩
  · intro u hu
    unfold inR at hu
    by_cases hu' : u < N
    · have := emb_pinch (A := T) (B := T ++ T'.map (shT N)) (e := id) (n := 0) (u := u) get1 (fun k hk => by
        rw [show u + 0 = u from by omega] at hk
        obtain ⟨t, h1, h2⟩ := atV_mem.1 hk
        by_cases hk' : k < T.length
        · rw [List.getElem?_append_left hk'] at h1
          exact ⟨k, atV_mem.2 ⟨t, h1, h2⟩, rfl⟩
        · rw [List.getElem?_append_right (by omega)] at h1
          obtain ⟨s, hs, rfl⟩ := List.mem_map.1 (List.mem_of_getElem? h1)
          have := r2 s hs u h2
          omega) (hS.pinch u ⟨hu.1, hu'⟩)
      rw [show u + 0 = u from by omega] at this
      exact this
    · have := emb_pinch (A := T') (B := T ++ T'.map (shT N)) (e := fun i => T.length + i) (n := N) (u := u - N) get2 (fun k hk => by
        rw [show u - N + N = u from by omega] at hk
        obtain ⟨t, h1, h2⟩ := atV_mem.1 hk
        by_cases hk' : k < T.length
        · rw [List.getElem?_append_left hk'] at h1
          have := r1 t (List.mem_of_getElem? h1) u h2
          omega
        · rw [List.getElem?_append_right (by omega), List.getElem?_map] at h1
          obtain ⟨s, hs, rfl⟩ := Option.map_eq_some_iff.1 h1
          exact ⟨k - T.length, atV_mem.2 ⟨s, hs, has_sh.1 h2⟩, by omega⟩) (hS'.pinch (u - N) ⟨by omega, by omega⟩)
      rw [show u - N + N = u from by omega] at this
      exact this
theorem vert_left {A B : List Tr} {c : Nat} (h : c < 3 * A.length) : vertN (A ++ B) c = vertN A c := by
  unfold vertN triAt
  rw [List.getElem?_append_left (by omega)]
theorem vert_right {A B : List Tr} {n : Int} {c : Nat} (h : c < 3 * B.length) : vertN (A ++ B.map (shT n)) (3 * A.length + c) = vertN B c + n := by
  have h1 : (3 * A.length + c) / 3 = A.length + c / 3 := by omega
  have h2 : (3 * A.length + c) % 3 = c % 3 := by omega
  have h3 : triAt (A ++ B.map (shT n)) (3 * A.length + c) = shT n (triAt B c) := by
    unfold triAt
    rw [h1, List.getElem?_append_right (by omega), show A.length + c / 3 - A.length = c / 3 from by omega, List.getElem?_map, List.getElem?_eq_getElem (by omega : c / 3 < B.length)]
    rfl
  unfold vertN
  rw [h2, h3]
  split
  · rfl
  · split <;> rfl
theorem nx_add (n c : Nat) : Jor.nx (3 * n + c) = 3 * n + Jor.nx c := by unfold Jor.nx; omega
/-- Joined the other way round: one but for numbers. -/
theorem join_comm {N N' : Int} {T T' : List Tr} (hS : Surf N T) (hS' : Surf N' T') : Alike (T ++ T'.map (shT N)) (T' ++ T.map (shT N')) := by
  have n0 := hS.n0
  have n0' := hS'.n0
  have v1 : ∀ c, c < 3 * T.length → 0 ≤ vertN T c ∧ vertN T c < N := fun c hc => vert_inr hS hc
  have v2 : ∀ c, c < 3 * T'.length → 0 ≤ vertN T' c ∧ vertN T' c < N' := fun c hc => vert_inr hS' hc
  have cs : ∀ c, c < 3 * (T ++ T'.map (shT N)).length → c < 3 * T.length ∨ ∃ d, d < 3 * T'.length ∧ c = 3 * T.length + d := fun c hc => by
    rw [List.length_append, List.length_map] at hc
    by_cases h : c < 3 * T.length
    · exact .inl h
    · exact .inr ⟨c - 3 * T.length, by omega, by omega⟩
  have f1 : ∀ c, c < 3 * T.length → (if c < 3 * T.length then 3 * T'.length + c else c - 3 * T.length) = 3 * T'.length + c := fun c hc => if_pos hc
  have f2 : ∀ d, (if 3 * T.length + d < 3 * T.length then 3 * T'.length + (3 * T.length + d) else 3 * T.length + d - 3 * T.length) = d := fun d => by rw [if_neg (by omega)]; omega
  have hv : ∀ c, c < 3 * (T ++ T'.map (shT N)).length → vertN (T' ++ T.map (shT N')) (if c < 3 * T.length then 3 * T'.length + c else c - 3 * T.length) = (if vertN (T ++ T'.map (shT N)) c < N then vertN (T ++ T'.map (shT N)) c + N' else vertN (T ++ T'.map (shT N)) c - N) := fun c hc => by
    rcases cs c hc with h | ⟨d, hd, rfl⟩
    · rw [f1 c h, vert_right h, vert_left h, if_pos (v1 c h).2]
    · rw [f2 d, vert_left hd, vert_right hd, if_neg (by have := (v2 d hd).1; omega)]
      omega
  refine ⟨fun c => if c < 3 * T.length then 3 * T'.length + c else c - 3 * T.length, fun v => if v < N then v + N' else v - N, ⟨?_, ?_, ?_, ?_, hv, ?_⟩⟩
  · simp only [List.length_append, List.length_map]
    omega
  · intro c hc
    rw [List.length_append, List.length_map] at hc ⊢
    split <;> omega
  · intro c d hc hd e
    rw [List.length_append, List.length_map] at hc hd
    split at e <;> split at e <;> omega
  · intro c hc
    rcases cs c hc with h | ⟨d, hd, rfl⟩
    · rw [f1 c h, f1 _ (Jor.nx_lt h), nx_add]
    · rw [f2 d, nx_add, f2]
  · intro c d hc hd e
    have e' : (if vertN (T ++ T'.map (shT N)) c < N then vertN (T ++ T'.map (shT N)) c + N' else vertN (T ++ T'.map (shT N)) c - N) = (if vertN (T ++ T'.map (shT N)) d < N then vertN (T ++ T'.map (shT N)) d + N' else vertN (T ++ T'.map (shT N)) d - N) := e
    have q : ∀ c, c < 3 * (T ++ T'.map (shT N)).length → 0 ≤ vertN (T ++ T'.map (shT N)) c ∧ vertN (T ++ T'.map (shT N)) c < N + N' := fun c hc => by
      rcases cs c hc with h | ⟨d, hd, rfl⟩
      · rw [vert_left h]
        have := v1 c h
        omega
      · rw [vert_right hd]
        have := v2 d hd
        omega
    have q1 := q c hc
    have q2 := q d hd
    split at e' <;> split at e' <;> omega
end Go.Proofs.Ytpnkhgjjlionnaa
namespace Go.Proofs.Ytpnkhgjjlionnaa
open Go.RowKit Go.Maps

def keysL (L : List Nat) : List Value := intsV (nats (trisOf L))
/-- What Rooted holds while it goes over the corners. -/
structure RtSt (W0 w : World) (g : Nat) (L : List Nat) (v8 : Value) : Prop where
  b2 : Blk w W0.heap.size 26 #[.pointer (some ⟨g, 0, none⟩)]
  bo : Blk w (W0.heap.size + 1) 24 #[.int .i64 0, .slice none 0 0]
  km : KSet Try.prog 3 w (W0.heap.size + 2) (keysL L)
  b7 : Blk w (W0.heap.size + 3) 109 #[.map (some (W0.heap.size + 2))]
  b8 : Blk w (W0.heap.size + 5) 35 #[v8]
  row : w.ownsRow W0.heap.size 3 1 v8 L.length (intsV (nats L))
  bel : Below W0.heap.size W0 w
section
variable {W0 w : World} {g : Nat} {L : List Nat} {v8 : Value}
theorem RtSt.below {w' : World} (h : RtSt W0 w g L v8) (hb : Below w.heap.size w w') : RtSt W0 w' g L v8 :=
  ⟨h.b2.below hb h.b2.lt, h.bo.below hb h.bo.lt, h.km.kept (grown_of_below hb none) (by simp), h.b7.below hb h.b7.lt, h.b8.below hb h.b8.lt, own_below h.row hb, h.bel.trans (hb.mono h.bel.size)⟩
theorem RtSt.drew (h : RtSt W0 w g L v8) : RtSt W0 w.drew g L v8 := h.below (Below.refl _ _).drew
end
theorem keysL_mem {L : List Nat} {t : Nat} : (Value.int .i64 (t : Int)) ∈ keysL L ↔ t ∈ trisOf L := mem_keys
theorem keysL_add (L : List Nat) (o t : Nat) (h : o / 3 = t) : keysL (L ++ [o]) = keysL L ++ [.int .i64 (t : Int)] := by
  subst h
  simp [keysL, intsV, nats, trisOf]

set_option maxRecDepth 100000 in
set_option maxHeartbeats 1000000 in
theorem over_any (g : Nat) (N : Int) (T : List Tr) (W0 w : World) (L : List Nat) (v8 : Value) (c : Int) (hT : Tab W0 g N T) (hL : LOk T L) (h : RtSt W0 w g L v8) :
    Calls Try.prog 62 #[.int .i64 c, .pointer (some ⟨W0.heap.size, 0, none⟩), .pointer (some ⟨W0.heap.size + 3, 0, none⟩), .pointer (some ⟨W0.heap.size + 5, 0, none⟩)] w fun e w' => e = .returned (.tuple #[]) ∧ ∃ v8', RtSt W0 w' g (ovr T L c) v8' ∧ w.heap.size ≤ w'.heap.size := by
  obtain ⟨i2, hj', hz0, hz1, hz2⟩ := info_parts infoInt
  have hTl := hT.len
  have HO := Lib.hid (opp_any g N c T w (hT.below h.bel))
  have hLl := hL.len
  have hsz0 := h.bel.size
  have HH := Lib.hid h
  obtain ⟨l2, x2, -⟩ := h.b2.one
  clear h hT
  rcases opp_cases T c with ho | ⟨o, ho, hol⟩
  · rw [ovr_none ho]
    rw [ho] at HO
    have hd : decide (0 ≤ (-1 : Int)) = false := by decide
    clear ho
    go_enter Try.func62, Try.ntmps62
    go_wp2_with fail
    refine HO.out.mono ?_
    rintro e w1 ⟨rfl, hb⟩
    have HB := Lib.hid hb
    clear x2 hb
    go_wp2
    go_end0
    exact ⟨rfl, v8, HH.out.below HB.out, HB.out.size⟩
  · obtain ⟨t, ht⟩ : ∃ t, o / 3 = t := ⟨_, rfl⟩
    have e1 : (o : Int) / 3 = (t : Int) := by omega
    have hkey := keyOf_int_mk (P := Try.prog) (k := 3) (q := .i64) Try.underlying3 (wfS (x := (t : Int)) ⟨by omega, by omega⟩)
    have ho0 : (0 : Int) ≤ (o : Int) := by omega
    have ho1 : (o : Int) ≤ 100000 := by omega
    have hd0 : decide (0 ≤ (o : Int)) = true := by simp
    by_cases hm : o / 3 ∈ trisOf L
    · rw [ovr_had ho hm]
      rw [ho] at HO
      rw [ht] at hm
      have Hm := Lib.hid (keysL_mem.2 hm)
      clear ho ht hm
      go_enter Try.func62, Try.ntmps62
      go_wp2_with fail
      refine HO.out.mono ?_
      rintro e w1 ⟨rfl, hb⟩
      have hs := HH.out.below hb
      obtain ⟨l7, x7, -⟩ := hs.b7.one
      have hkm := hs.km
      have HS := Lib.hid hs
      have hsz := hb.size
      obtain ⟨r, hrun, hir⟩ := hkm.look (t := 109) (int_keyed Try.underlying3) Try.underlying109 (zero_bool _) hkey
      obtain rfl : r = true := hir.2 Hm.out
      clear x2 hb hs hir
      go_wp2
      go_end0
      exact ⟨rfl, v8, HS.out, hsz⟩
    · rw [ovr_add ho hm]
      have hL2 := hL.ovr c
      rw [ovr_add ho hm] at hL2
      have hl2 := hL2.len
      rw [List.length_append, List.length_singleton] at hl2
      rw [ho] at HO
      rw [ht] at hm
      have Hm := Lib.hid (fun e => hm (keysL_mem.1 e))
      have Hadd := Lib.hid (keysL_add L o t ht)
      have c6 : L.length + 1 ≤ maxLen := by unfold maxLen; omega
      have c7 : (L.length + 1) * 8 ≤ 140737488355328 := by omega
      clear ho ht hm hL2
      go_enter Try.func62, Try.ntmps62
      go_wp2_with fail
      refine HO.out.mono ?_
      rintro e w1 ⟨rfl, hb⟩
      have hs := HH.out.below hb
      obtain ⟨l7, x7, -⟩ := hs.b7.one
      obtain ⟨l8, x8, f8⟩ := hs.b8.one
      have hkm := hs.km
      have HS := Lib.hid hs
      have hsz := hb.size
      have hbs := hs.bel.size
      obtain ⟨es, ck, hob⟩ := hkm.obj
      have n7 : W0.heap.size + 3 ≠ W0.heap.size + 2 := by omega
      have n8 : W0.heap.size + 5 ≠ W0.heap.size + 2 := by omega
      obtain ⟨r, hrun, hir⟩ := hkm.look (t := 109) (int_keyed Try.underlying3) Try.underlying109 (zero_bool _) hkey
      obtain rfl : r = false := (by cases r; rfl; exact absurd (hir.1 rfl) Hm.out)
      clear x2 hb hs hob hir
      go_wp2_with (first
        | (at_mapUpdate; refine wpList_storeK hkm rfl _ _ _ 109 (.inl rfl) (int_keyed Try.underlying3) Try.underlying109 rfl (.int .i64 t) rfl rfl hkey Hm.out ?_; intro w6 hk6 hg6 hs6; clear hs6; have hs6 := hg6.size; have b86 := HS.out.b8.grown hg6 (by simp); obtain ⟨m8, y8, g8⟩ := b86.one; have hr6 := HS.out.row.kept hg6 (row_map_ne HS.out.row HS.out.km.obj))
        | (at_builtin; refine wpList_append_lies _ rfl (.tmp 21) (.tmp 23) 35 rfl W0.heap.size 3 i2 _ 1 8 Try.underlying35 hj' hz0 hz1 hz2 rfl (by decide) v8 L.length (intsV (nats L)) rfl (hr6.alloc _) ⟨w6.heap.size, 0, none⟩ 1 1 [.int .i64 o] rfl rfl (World.news_of_block (heap_alloc_new _ _)) (by simp [Value.oneCell']) (by decide) c6 c7 (by rw [size_alloc']; omega) (w6.heap.size + 1) (by simp) ?_; intro g4 cap4 W4 hr4 hg4 hat4 _; have b84 := (b86.alloc (.cells #[.int .i64 (o : Int)] 3)).grown hg4 (fun e => own_blk_ne hr6 b86 (by decide) e.symm); obtain ⟨p8, q8, s8⟩ := b84.one))
      go_end0
      have all : ∀ {b : Nat} {t : TypeId} {cs : Array Value}, Blk w1 b t cs → b ≠ W0.heap.size + 2 → 3 ≠ t → Blk W4 b t cs := fun {b t cs} hb hne ht => by
        have h6 := hb.grown hg6 (by simpa using hne)
        exact (h6.alloc (.cells #[.int .i64 (o : Int)] 3)).grown hg4 (fun e => own_blk_ne hr6 h6 ht e.symm)
      have hgS : W4.grownBy (W4.setCell ⟨W0.heap.size + 5, 0, none⟩ (.slice (some ⟨g4, 0, none⟩) (L.length + 1) cap4)) (some (W0.heap.size + 5)) := gStR (World.grownBy.refl _ _)
      have hk4 := (hk6.alloc (.cells #[.int .i64 (o : Int)] 3)).kept hg4 (map_row_ne hr6 hk6.obj)
      have hB4 := ((HS.out.bel.grown hg6 hbs (fun j e => by cases e; omega)).alloc (by omega) (.cells #[.int .i64 (o : Int)] 3)).grown hg4 (by rw [size_alloc']; omega) (fun j e => (hr6.lt j e).1)
      refine ⟨rfl, .slice (some ⟨g4, 0, none⟩) (L.length + 1) cap4, ⟨(all HS.out.b2 (by omega) (by decide)).far (by simp) _, (all HS.out.bo (by omega) (by decide)).far (by simp) _, ?_, (all HS.out.b7 (by omega) (by decide)).far (by simp) _, b84.set1 _, ?_, hB4.setCell (by simp) _⟩, ?_⟩
      · rw [Hadd.out]
        exact hk4.kept hgS (by simp)
      · have := own_alloc_st (i := 0) (u := .slice (some ⟨g4, 0, none⟩) (L.length + 1) cap4) hr4 b84 (by decide)
        rw [List.length_append]
        simpa [intsV, nats] using this
      · have := hg4.size
        rw [size_alloc'] at this
        simp
        omega
end Go.Proofs.Ytpnkhgjjlionnaa
namespace Go.Proofs.Ytpnkhgjjlionnaa
open Go.RowKit Go.Maps

theorem own_lower {w : World} {base base' : Nat} {e : TypeId} {size n : Nat} {v : Value} {xs : List Value} (h : w.ownsRow base e size v n xs) (hb : base' ≤ base) : w.ownsRow base' e size v n xs := by
  refine ⟨h.1, ?_⟩
  rcases h.2 with hn | ⟨g, cap, cur, rfl, hb1, rest⟩
  · exact .inl hn
  · exact .inr ⟨g, cap, cur, rfl, Nat.le_trans hb hb1, rest⟩
theorem rtSt_start {w w6 : World} {g c : Nat} (h6 : KSet Try.prog 3 w6 (w.heap.size + 2) (keysL [c])) (hg6 : (((w.alloc (.cells #[.pointer (some ⟨g, 0, none⟩)] 26)).alloc (.cells #[.int .i64 0, .slice none 0 0] 24)).alloc (.map #[] 0)).grownBy w6 (some (w.heap.size + 2))) (hs : w6.heap.size = w.heap.size + 3) :
    RtSt w (((w6.alloc (.cells #[.map (some (w.heap.size + 2))] 109)).alloc (.cells #[.int .i64 (c : Int)] 3)).alloc (.cells #[.slice (some ⟨w.heap.size + 4, 0, none⟩) 1 1] 35)) g [c] (.slice (some ⟨w.heap.size + 4, 0, none⟩) 1 1) where
  b2 := (((((blk_new_at rfl).alloc _).alloc _).grown hg6 (by simp)).alloc _ |>.alloc _).alloc _
  bo := ((((blk_new_at (by simp)).alloc _).grown hg6 (by simp)).alloc _ |>.alloc _).alloc _
  km := ((h6.alloc _).alloc _).alloc _
  b7 := ((blk_new_at (by omega)).alloc _).alloc _
  b8 := blk_new_at (by simp [hs])
  row := by
    have := World.ownsRow_lit (w6.alloc (.cells #[.map (some (w.heap.size + 2))] 109)) (base := w.heap.size) (e := 3) (size := 1) #[.int .i64 (c : Int)] 1 (by simp [hs]; omega) (by decide) rfl
    rw [size_alloc', hs] at this
    exact this.alloc _
  bel := (((((((Below.refl _ _).alloc (Nat.le_refl _) _).alloc (by simp) _).alloc (by simp; omega) _).grown hg6 (by simp; omega) (fun j e => by cases e; omega)).alloc (by omega) _).alloc (by simp; omega) _).alloc (by simp; omega) _
set_option maxRecDepth 100000 in
set_option maxHeartbeats 4000000 in
theorem rooted_any (g : Nat) (N : Int) (T : List Tr) (w : World) (c : Nat) (hT : Tab w g N T) (hc : c < 3 * T.length) :
    Calls Try.prog 28 #[.pointer (some ⟨g, 0, none⟩), .int .i64 (c : Int)] w fun e w' => ∃ vT vO vC, e = .returned (.tuple #[.agg #[.int .i64 (rtN T c).1.length, vT], vO, vC]) ∧
      w'.ownsRow w.heap.size 61 3 vT (rtN T c).2.length (ws3 (rtN T c).2) ∧ w'.ownsRow w.heap.size 3 1 vO (rtN T c).1.length (intsV (rtN T c).1) ∧ w'.ownsRow w.heap.size 3 1 vC (rtL T c).length (intsV (nats (rtL T c))) ∧ Below w.heap.size w w' := by
  obtain ⟨i2, hj', hz0, hz1, hz2⟩ := info_parts infoInt
  have hTl := hT.len
  have hv := vertN_in hT.inr hc
  have hgl := hT.lt
  obtain ⟨t, ht⟩ : ∃ t, c / 3 = t := ⟨_, rfl⟩
  have e1 : (c : Int) / 3 = (t : Int) := by omega
  have hkey := keyOf_int_mk (P := Try.prog) (k := 3) (q := .i64) Try.underlying3 (wfS (x := (t : Int)) ⟨by omega, by omega⟩)
  have H0 := Lib.hid (fun (W : World) (hW : Below w.heap.size w W) => by have := vertex_any g N (c : Int) T W (hT.below hW).toTabS; rw [vertI_nat hc] at this; exact this)
  have HT := Lib.hid hT
  obtain ⟨x, hx⟩ : ∃ x, vertN T c = x := ⟨_, rfl⟩
  rw [hx] at hv H0
  obtain ⟨v0, v1⟩ := hv
  have hd : decide (x < 0) = false := by simp; omega
  have hB0 : Below w.heap.size w ((w.alloc (.cells #[.pointer (some ⟨g, 0, none⟩)] 26)).alloc (.cells #[.int .i64 0, .slice none 0 0] 24)) := ((Below.refl _ _).alloc (Nat.le_refl _) _).alloc (by simp) _
  have H1 := Lib.hid (H0.out _ hB0)
  have hc0 : (0 : Int) ≤ (c : Int) := by omega
  have hc1 : (c : Int) ≤ 100000 := by omega
  have Hc := Lib.hid hc
  have Ht := Lib.hid ht
  have hkm0 := KSet.made ((w.alloc (.cells #[.pointer (some ⟨g, 0, none⟩)] 26)).alloc (.cells #[.int .i64 0, .slice none 0 0] 24)) Try.prog 3
  rw [size_alloc', size_alloc'] at hkm0
  have hmk := @run_makeMap Try.prog
  clear hx hc H0 hT ht v0 v1 hB0
  go_enter Try.func28, Try.ntmps28
  go_wp2_with fail
  refine H1.out.mono ?_
  rintro e w0 ⟨rfl, rfl⟩
  go_wp2_with (refine wpList_storeK hkm0 rfl _ _ _ 109 (.inr rfl) (int_keyed Try.underlying3) Try.underlying109 rfl (.int .i64 t) rfl rfl hkey (by simp) ?_; intro w6 hk6 hg6 hs6; clear hmk; rw [size_alloc', size_alloc', size_alloc'] at hs6)
  have hk7 : KSet Try.prog 3 w6 (w.heap.size + 2) (keysL [c]) := by
    have e : keysL [c] = [.int .i64 (t : Int)] := by rw [← Ht.out]; simp [keysL, intsV, nats, trisOf]
    rw [e]
    exact hk6
  have hst := rtSt_start (g := g) hk7 hg6 hs6
  have HST := Lib.hid hst
  have HL := Lib.hid ((LOk.one Hc.out).ovr (c : Int))
  have HV := Lib.hid (over_any g N T w _ [c] _ (c : Int) HT.out (LOk.one Hc.out) hst)
  clear hk6 hk7 hg6 hst hs6 hkm0
  simp only [Nat.add_assoc, Nat.reduceAdd]
  refine HV.out.mono ?_
  rintro e w1 ⟨rfl, v8, hst, hsz⟩
  have HST := Lib.hid hst
  clear HV
  obtain ⟨R, hR⟩ : ∃ R, rtF T (T.length + 1) 0 (ovr T [c] (c : Int)) = R := ⟨_, rfl⟩
  have HRL := Lib.hid (show rtL T c = R from hR)
  obtain ⟨F, hF⟩ : ∃ F, T.length = F := ⟨_, rfl⟩
  rw [hF] at hR hTl
  have HR := Lib.hid hR
  have HF := Lib.hid hF
  obtain ⟨L1, hL1⟩ : ∃ L1, ovr T [c] (c : Int) = L1 := ⟨_, rfl⟩
  rw [hL1] at HR HL HST
  clear hst hsz hR hF hL1
  obtain ⟨l8, x8, f8⟩ := HST.out.b8.one
  go_wp2
  go_loopw [10] (fun i10 wr => ∃ (i n : Nat) (L : List Nat) (v8 : Value), i10 = .int .i64 i ∧ n + i = F + 1 ∧ i ≤ L.length ∧ LOk T L ∧ rtF T n i L = R ∧ RtSt w wr g L v8) (fun i10 _ => F + 1 - (intOf i10).toNat)
  case atStart => exact ⟨0, F + 1, L1, v8, rfl, by omega, Nat.zero_le _, HL.out, HR.out, HST.out⟩
  case round =>
    clear HL HR HST x8 f8 l8
    clear L1 v8
    obtain ⟨i, n, L, v8, rfl, hni, hiL, hL, hR, hst⟩ := hrel
    rename World => wr
    have hLF := hL.len
    rw [HF.out] at hLF
    have HL := Lib.hid hL
    have HR := Lib.hid hR
    have HST := Lib.hid hst
    obtain ⟨l8, x8, f8⟩ := hst.b8.one
    obtain ⟨l2, x2, -⟩ := hst.b2.one
    obtain ⟨a8, c8, rfl⟩ := ownsRow_slice hst.row
    by_cases hlt : i < L.length
    · obtain ⟨d, hd⟩ : ∃ d, L[i]? = some d := ⟨L[i], List.getElem?_eq_getElem _⟩
      have hd3 := hL.lt d (List.mem_of_getElem? hd)
      obtain ⟨g8, cap, e0, hg8, hg8'⟩ := hst.row.form (by omega)
      cases e0
      have hrc := hst.row.cellAt i (by omega)
      rw [show (intsV (nats L))[i]? = some (.int .i64 (d : Int)) from by simp [intsV, nats, hd]] at hrc
      have hi3 : (i : Int) < (L.length : Int) := by omega
      obtain ⟨lenL, hlenL⟩ : ∃ lenL, L.length = lenL := ⟨_, rfl⟩
      rw [hlenL] at hi3 hlt x8 hLF
      have hnx : nextI T (d : Int) = ((Jor.nx d : Nat) : Int) := by simp [nextI, hasC_true (T := T) (c := (d : Int)) (by omega) (by omega)]
      have hpv : prevI T (d : Int) = ((Jor.pv d : Nat) : Int) := by simp [prevI, hasC_true (T := T) (c := (d : Int)) (by omega) (by omega)]
      have HNx := Lib.hid (fun (W : World) (hW : Below w.heap.size w W) => by have := next_any g N (d : Int) T W (HT.out.below hW).toTabS; rw [hnx] at this; exact this)
      have HPv := Lib.hid (fun (W : World) (hW : Below w.heap.size w W) => by have := prev_any g N (d : Int) T W (HT.out.below hW).toTabS; rw [hpv] at this; exact this)
      have HO1 := Lib.hid (fun (W : World) (hW : RtSt w W g L (.slice (some ⟨g8, 0, none⟩) L.length c8)) => over_any g N T w W L _ ((Jor.nx d : Nat) : Int) HT.out hL hW)
      have HO2 := Lib.hid (fun (W : World) (v : Value) (hW : RtSt w W g (ovr T L (Jor.nx d : Nat)) v) => over_any g N T w W _ v ((Jor.pv d : Nat) : Int) HT.out (hL.ovr _) hW)
      rw [hlenL] at HO1 HST
      have HLen := Lib.hid hlenL
      have Hd := Lib.hid hd
      have HRD := Lib.hid (fun (n' : Nat) (hn : n = n' + 1) => by have := hR; rw [hn, rtF_at hd] at this; exact this)
      generalize ((Jor.nx d : Nat) : Int) = y1 at *
      generalize ((Jor.pv d : Nat) : Int) = y2 at *
      clear hL hR hst hnx hpv hlenL hd
      go_upto_region 10 with fail
      go_cut [] (fun W => ∃ v8', RtSt w W g (ovr T L y1) v8')
      case first =>
        go_region_with (first
          | (go_at_call 63; refine (HNx.out _ HST.out.drew.bel).mono ?_; rintro e w' ⟨rfl, rfl⟩)
          | (go_at_call 62; refine (HO1.out _ HST.out.drew).mono ?_; rintro e w' ⟨rfl, v9, h9, hs9⟩))
        all_goals (go_wp2_with fail; go_meet; exact ⟨v9, h9⟩)
      case rest =>
      obtain ⟨v9, h9⟩ := hcut
      have hd2 : (ovr T L y1)[i]? = some d := by
        unfold ovr
        split
        · rw [List.getElem?_append_left (by rw [HLen.out]; exact hlt)]
          exact Hd.out
        · exact Hd.out
      have hL2 := HL.out.ovr y1
      have hlen2 := hL2.len
      rw [HF.out] at hlen2
      obtain ⟨L2, hL2e⟩ : ∃ L2, ovr T L y1 = L2 := ⟨_, rfl⟩
      rw [hL2e] at h9 hd2 hL2 hlen2
      have hi2 := (List.getElem?_eq_some_iff.1 hd2).1
      obtain ⟨a9, c9, rfl⟩ := ownsRow_slice h9.row
      obtain ⟨g9, cap9, e9, hg9, hg9'⟩ := h9.row.form (by omega)
      cases e9
      have hrc9 := h9.row.cellAt i (by omega)
      rw [show (intsV (nats L2))[i]? = some (.int .i64 (d : Int)) from by simp [intsV, nats, hd2]] at hrc9
      obtain ⟨m8, y8, -⟩ := h9.b8.one
      obtain ⟨m2, y2', -⟩ := h9.b2.one
      have H9 := Lib.hid h9
      have HO3 := Lib.hid (fun (W : World) (v : Value) (hW : RtSt w W g L2 v) => by have := HO2.out W v; rw [hL2e] at this; exact this hW)
      have HE2 := Lib.hid hL2e
      obtain ⟨len2, hlen2e⟩ : ∃ len2, L2.length = len2 := ⟨_, rfl⟩
      rw [hlen2e] at hi2 hlen2 y8 H9
      have HLen2 := Lib.hid hlen2e
      have hi4 : (i : Int) < (len2 : Int) := by omega
      clear h9 hd2 hL2 hL2e HO2 HO1 HNx x8 f8 l8 x2 l2 hrc hi3 hlen2e HST
      go_upto_region 11 with fail
      go_region_with (first
        | (go_at_call 64; refine (HPv.out _ H9.out.drew.bel).mono ?_; rintro e w' ⟨rfl, rfl⟩)
        | (go_at_call 62; refine (HO3.out _ _ H9.out.drew).mono ?_; rintro e w' ⟨rfl, v10, h10, hs10⟩; have HX := Lib.hid h10; clear h10))
      all_goals
        go_wp2
        go_roundw
        case measure => simp [intOf]; omega
        case rel =>
          have hn : ∃ n', n = n' + 1 := ⟨n - 1, by omega⟩
          obtain ⟨n', rfl⟩ := hn
          refine ⟨i + 1, n', _, v10, by go_num, by omega, ?_, (HL.out.ovr y1).ovr y2, HRD.out n' rfl, by rw [HE2.out]; exact HX.out⟩
          rw [HE2.out]
          have := HLen2.out
          unfold ovr
          split
          · simp; omega
          · omega
    · obtain ⟨len, hlen⟩ : ∃ len, L.length = len := ⟨_, rfl⟩
      obtain rfl : i = len := by omega
      have hLR : L = R := by
        have := HR.out
        rw [rtF_end (by omega)] at this
        exact this
      subst hLR
      rw [hlen] at x8 hLF
      have HLen := Lib.hid hlen
      have hbel := hst.bel.size
      clear hst hL hlen HR hR hiL hni
      have hmk := @run_makeMap Try.prog
      have hmp0 := MapP.made (wr.alloc (.cells #[.int .i64 0, .slice none 0 0] 24)) Try.prog 3
      rw [size_alloc'] at hmp0
      have hmp1 := hmp0.congr (f' := nowMap []) (fun y => by unfold nowMap; split <;> simp)
      have hbo0 := (Blk.new wr 24 #[.int .i64 0, .slice none 0 0]).alloc (.map #[] 0)
      have HMP := Lib.hid hmp1
      have HBO := Lib.hid hbo0
      have hB0 : Below wr.heap.size wr ((wr.alloc (.cells #[.int .i64 0, .slice none 0 0] 24)).alloc (.map #[] 0)) := ((Below.refl _ _).alloc (Nat.le_refl _) _).alloc (by simp) _
      have HB0 := Lib.hid hB0
      clear hmp0 hmp1 hbo0 hB0
      go_wp2
      clear hmk
      go_loopw [12, 62] (fun v12 i62 wq => ∃ (k : Nat) (vO vT : Value), vO = v12 ∧ k ≤ i ∧ i62 = .int .i64 k ∧ Blk wq wr.heap.size 24 #[.int .i64 0, vT] ∧ wq.ownsRow wr.heap.size 61 3 vT (numL T (L.take k) ([], [])).2.length (ws3 (numL T (L.take k) ([], [])).2) ∧
        MapP Try.prog 3 wq (wr.heap.size + 1) (nowMap (numL T (L.take k) ([], [])).1) ∧ wq.ownsRow wr.heap.size 3 1 vO (numL T (L.take k) ([], [])).1.length (intsV (numL T (L.take k) ([], [])).1) ∧ Below wr.heap.size wr wq) (fun _ i62 _ => i - (intOf i62).toNat)
      case atStart => exact ⟨0, _, _, rfl, Nat.zero_le _, rfl, HBO.out, World.ownsRow_nil _ _ _ _, HMP.out, World.ownsRow_nil _ _ _ _, HB0.out⟩
      case round =>
        rename World => wq
        clear HBO HMP HB0
        obtain ⟨k, vO, vT, rfl, hk, rfl, hbo, hrT, hmp, hrO, hB⟩ := hrel
        have hq := HST.out.below hB
        obtain ⟨q8, y8, -⟩ := hq.b8.one
        obtain ⟨q2, y2, -⟩ := hq.b2.one
        rw [HLen.out] at y8
        by_cases hlt : k < i
        · obtain ⟨d, hd⟩ : ∃ d, L[k]? = some d := ⟨L[k]'(by have := HLen.out; omega), List.getElem?_eq_getElem _⟩
          have hd3 := HL.out.lt d (List.mem_of_getElem? hd)
          obtain ⟨g8, cap, e0, hg8, hg8'⟩ := hq.row.form (by have := HLen.out; omega)
          cases e0
          have hrc := hq.row.cellAt k (by have := HLen.out; omega)
          rw [show (intsV (nats L))[k]? = some (.int .i64 (d : Int)) from by simp [intsV, nats, hd]] at hrc
          have hk3 : (k : Int) < (i : Int) := by omega
          have Hstep := Lib.hid (numL_take (T := T) hd ([], []))
          obtain ⟨nl1, nl2⟩ := numL_len T (L.take k) ([], [])
          have hlk : (L.take k).length ≤ k := List.length_take_le _ _
          simp only [List.length_nil, Nat.zero_add] at nl1 nl2
          obtain ⟨o0, ho0⟩ : ∃ o0, (numL T (L.take k) ([], [])).1 = o0 := ⟨_, rfl⟩
          obtain ⟨t0, ht0⟩ : ∃ t0, (numL T (L.take k) ([], [])).2 = t0 := ⟨_, rfl⟩
          rw [ho0] at hmp hrO nl2 Hstep
          rw [ht0] at hrT nl1 Hstep
          have hol : o0.length ≤ 3 * 8192 := by omega
          have htl : t0.length ≤ 8192 := by omega
          have hnx : nextI T (d : Int) = ((Jor.nx d : Nat) : Int) := by simp [nextI, hasC_true (T := T) (c := (d : Int)) (by omega) (by omega)]
          have hpv : prevI T (d : Int) = ((Jor.pv d : Nat) : Int) := by simp [prevI, hasC_true (T := T) (c := (d : Int)) (by omega) (by omega)]
          have HNx := Lib.hid (fun (W : World) (hW : Below w.heap.size w W) => by have := next_any g N (d : Int) T W (HT.out.below hW).toTabS; rw [hnx] at this; exact this)
          have HPv := Lib.hid (fun (W : World) (hW : Below w.heap.size w W) => by have := prev_any g N (d : Int) T W (HT.out.below hW).toTabS; rw [hpv] at this; exact this)
          have Hd3 := Lib.hid hd3
          have Hbo := Lib.hid hbo
          have HvT := Lib.hid (fun j (e : vT.ownBlock = some j) => (hrT.lt j e).2)
          have HrT := Lib.hid hrT
          have Hmp := Lib.hid hmp
          have HrO := Lib.hid hrO
          have HB := Lib.hid hB
          have Hq := Lib.hid hq.bel
          have hszq := hB.size
          obtain ⟨e1', he1'⟩ : ∃ e1' : Nat, Jor.nx d = e1' := ⟨_, rfl⟩
          obtain ⟨e2', he2'⟩ : ∃ e2' : Nat, Jor.pv d = e2' := ⟨_, rfl⟩
          rw [he1'] at HNx
          rw [he2'] at HPv
          have He1 := Lib.hid he1'
          have He2 := Lib.hid he2'
          have y2' := ((Below.refl _ wq).alloc (Nat.le_refl _) (.cells #[.int .i64 0, .int .i64 0, .int .i64 0] 61)).cell (p := ⟨w.heap.size, 0, none⟩) q2 |>.trans y2
          have Hqa := Lib.hid (((hq.bel).alloc hq.bel.size (.cells #[.int .i64 0, .int .i64 0, .int .i64 0] 61)).drew)
          clear hd hd3 hbo hrT hmp hrO hB hq ho0 ht0 nl1 nl2 hlk hnx hpv he1' he2'
          go_upto_region 19 with fail
          go_cut [73, 74, 75] (fun s73 s74 s75 W => s73 = .slice (some ⟨wq.heap.size + 1, 0, none⟩) 3 3 ∧ s74 = .int .i64 3 ∧ s75 = .int .i64 0 ∧ W = ((wq.alloc (.cells #[.int .i64 0, .int .i64 0, .int .i64 0] 61)).alloc (.cells #[.int .i64 (d : Int), .int .i64 (e1' : Int), .int .i64 (e2' : Int)] 3)).drew)
          case first =>
            go_region_with (first
              | (go_at_call 63; refine (HNx.out _ Hqa.out).mono ?_; rintro e w' ⟨rfl, rfl⟩)
              | (go_at_call 64; refine (HPv.out _ Hqa.out).mono ?_; rintro e w' ⟨rfl, rfl⟩))
            all_goals (go_wp2_with fail; go_meet; exact ⟨rfl, rfl, rfl, rfl⟩)
          case rest =>
          obtain ⟨rfl, rfl, rfl, rfl⟩ := hcut
          obtain ⟨xs, hxs⟩ : ∃ xs, xs = [vertN T d, vertN T (Jor.nx d), vertN T (Jor.pv d)] := ⟨_, rfl⟩
          have hxl : xs.length = 3 := by rw [hxs]; rfl
          obtain ⟨es, hes⟩ : ∃ es : List Nat, es = [d, e1', e2'] := ⟨_, rfl⟩
          have hel : es.length = 3 := by rw [hes]; rfl
          have Hxs := Lib.hid hxs
          have hvx : ∀ q, q < 3 → ∃ e v, es[q]? = some e ∧ xs[q]? = some v ∧ (0 ≤ v ∧ v < N) ∧ e < 3 * T.length ∧ vertN T e = v := by
            have n1 := Jor.nx_lt Hd3.out
            have n2 := Jor.pv_lt Hd3.out
            have b0 := vertN_in HT.out.inr Hd3.out
            have b1 := vertN_in HT.out.inr n1
            have b2 := vertN_in HT.out.inr n2
            intro q hq
            have : q = 0 ∨ q = 1 ∨ q = 2 := by omega
            rcases this with rfl | rfl | rfl
            · exact ⟨d, _, by rw [hes]; rfl, by rw [hxs]; rfl, b0, Hd3.out, rfl⟩
            · exact ⟨e1', _, by rw [hes]; rfl, by rw [hxs]; rfl, b1, by rw [← He1.out]; exact n1, by rw [← He1.out]⟩
            · exact ⟨e2', _, by rw [hes]; rfl, by rw [hxs]; rfl, b2, by rw [← He2.out]; exact n2, by rw [← He2.out]⟩
          have Hvx := Lib.hid hvx
          have hN1 := HT.out.n1
          have hbl0 : Blk ((wq.alloc (.cells #[.int .i64 0, .int .i64 0, .int .i64 0] 61)).alloc (.cells #[.int .i64 (d : Int), .int .i64 (e1' : Int), .int .i64 (e2' : Int)] 3)).drew (wq.heap.size + 1) 3 (es.map fun e : Nat => Value.int .i64 (e : Int)).toArray := by
            rw [hes]
            exact (blk_new_at (by simp)).drew
          have hbx0 : Blk ((wq.alloc (.cells #[.int .i64 0, .int .i64 0, .int .i64 0] 61)).alloc (.cells #[.int .i64 (d : Int), .int .i64 (e1' : Int), .int .i64 (e2' : Int)] 3)).drew wq.heap.size 61 (cellsQ o0 xs 0).toArray := by
            have : (cellsQ o0 xs 0).toArray = #[.int .i64 0, .int .i64 0, .int .i64 0] := rfl
            rw [this]
            exact ((blk_new_at rfl).alloc _).drew
          have HBL0 := Lib.hid hbl0
          have HBX0 := Lib.hid hbx0
          have HB2 := Lib.hid (((HB.out.alloc hszq (.cells #[.int .i64 0, .int .i64 0, .int .i64 0] 61)).alloc (by simp; omega) (.cells #[.int .i64 (d : Int), .int .i64 (e1' : Int), .int .i64 (e2' : Int)] 3)).drew)
          have HbqI := Lib.hid (((Below.refl wq.heap.size wq).alloc (Nat.le_refl _) (.cells #[.int .i64 0, .int .i64 0, .int .i64 0] 61)).alloc (by simp) (.cells #[.int .i64 (d : Int), .int .i64 (e1' : Int), .int .i64 (e2' : Int)] 3)).drew
          clear hxs hes hvx hbl0 hbx0 HNx HPv Hqa y2' y8 q8 hrc
          go_wp2
          go_loopw [12, 75] (fun v12 i75 wx => ∃ (q : Nat) (vO : Value), vO = v12 ∧ q ≤ 3 ∧ i75 = .int .i64 q ∧ Blk wx wr.heap.size 24 #[.int .i64 0, vT] ∧ wx.ownsRow wr.heap.size 61 3 vT t0.length (ws3 t0) ∧
            MapP Try.prog 3 wx (wr.heap.size + 1) (nowMap (addVs o0 (xs.take q))) ∧ wx.ownsRow wr.heap.size 3 1 vO (addVs o0 (xs.take q)).length (intsV (addVs o0 (xs.take q))) ∧ (addVs o0 (xs.take q)).length ≤ o0.length + q ∧ vO.ownBlock ≠ some (wq.heap.size + 1) ∧
            Blk wx wq.heap.size 61 (cellsQ o0 xs q).toArray ∧ Blk wx (wq.heap.size + 1) 3 (es.map fun e : Nat => Value.int .i64 (e : Int)).toArray ∧ Below wr.heap.size wr wx) (fun _ i75 _ => 3 - (intOf i75).toNat)
          case atStart => exact ⟨0, vO, rfl, by omega, rfl, Hbo.out.below HbqI.out Hbo.out.lt, own_below HrT.out HbqI.out, Hmp.out.below HbqI.out Hmp.out.lt, own_below HrO.out HbqI.out, by simp [addVs], (fun e => by have := (HrO.out.lt _ e).2; omega), HBX0.out, HBL0.out, HB2.out⟩
          case round =>
            rename World => wx
            clear HBL0 HBX0 HB2 HbqI Hbo HrT Hmp HrO HB Hq
            obtain ⟨q, vO, rfl, hq, rfl, hbo, hrT, hmp, hrO, hlO, hvO, hbx, hbl, hB⟩ := hrel
            have HvO := Lib.hid hvO
            clear hvO
            have hst := HST.out.below hB
            have hqw := HST.out.bel.size
            have hsx := hB.size
            obtain ⟨m2, z2, -⟩ := hst.b2.one
            by_cases hq3 : q < 3
            · obtain ⟨e, v, hee, hxv, ⟨v0, v1⟩, he3, hve⟩ := Hvx.out q hq3
              obtain ⟨oq, hoq⟩ : ∃ oq, addVs o0 (xs.take q) = oq := ⟨_, rfl⟩
              have hoq1 : addVs o0 (xs.take (q + 1)) = addV oq v := by
                obtain ⟨hk', hx'⟩ := List.getElem?_eq_some_iff.1 hxv
                rw [List.take_succ_eq_append_getElem hk', hx', addVs_snoc, hoq]
              rw [hoq] at hmp hrO hlO
              have Hcs := Lib.hid (cellsQ_step (old := o0) hxv hq3)
              rw [hoq1] at Hcs
              have hcl : (cellsQ o0 xs q).length = 3 := cellsQ_len o0 xs hq (by omega)
              obtain ⟨cq, hcq⟩ : ∃ cq, (cellsQ o0 xs q)[q]? = some cq := ⟨(cellsQ o0 xs q)[q]'(by omega), List.getElem?_eq_getElem _⟩
              have hcx : wx.cell? ⟨wq.heap.size, q, none⟩ = some cq := by rw [hbx.cell]; simpa using hcq
              have hfx := hbx.frozen q
              have hlx := hbx.lt
              have hce : wx.cell? ⟨wq.heap.size + 1, q, none⟩ = some (.int .i64 (e : Int)) := by rw [hbl.cell]; simp [hee]
              have hll := hbl.lt
              have hkeyv := keyOf_int_mk (P := Try.prog) (k := 3) (q := .i64) Try.underlying3 (wfV (x := v) ⟨by omega, by omega⟩)
              have HVt := Lib.hid (fun (W : World) (hW : Below w.heap.size w W) => (by have := vertex_any g N (e : Int) T W (HT.out.below hW).toTabS; rw [vertI_nat he3, hve] at this; exact this : Calls Try.prog 44 #[.pointer (some ⟨g, 0, none⟩), .int .i64 (e : Int)] W fun e' w' => e' = .returned (.int .i64 v) ∧ W = w'))
              have HVe := Lib.hid (HVt.out wx hst.bel)
              have hlk := hmp.lookOk (t := 73) (int_keyed Try.underlying3) Try.underlying73 (zero_int _) hkeyv
              obtain ⟨mO, hmO⟩ : ∃ mO, oq.length = mO := ⟨_, rfl⟩
              rw [hmO] at hrO hlO
              have HmO := Lib.hid hmO
              have Hoq1 := Lib.hid hoq1
              obtain ⟨aO, cO, rfl⟩ := ownsRow_slice hrO
              have hq0 : (0 : Int) ≤ (q : Int) := by omega
              have hq4 : (q : Int) < 3 := by omega
              by_cases hv : v ∈ oq
              · have hnow : nowMap oq (.int .i64 v) = some (.int .i64 (spot oq v : Nat)) := by simp [nowMap, hv]
                have hsame : addV oq v = oq := by unfold addV; rw [if_pos hv]
                have hlk2 := hmp.look (t := 73) (int_keyed Try.underlying3) Try.underlying73 (zero_int _) hkeyv
                rw [hnow] at hlk hlk2
                simp only [Option.getD_some, Option.isSome_some] at hlk hlk2
                rw [hsame] at Hcs Hoq1
                have hB6 := hB.setCell (p := ⟨wq.heap.size, q, none⟩) (by simp; omega) (.int .i64 (spot oq v : Nat))
                have hgS : wx.grownBy (wx.setCell ⟨wq.heap.size, q, none⟩ (.int .i64 (spot oq v : Nat))) (some wq.heap.size) := gStR (World.grownBy.refl _ _)
                have Hbo := Lib.hid (hbo.grown hgS (by simpa using Blk.ne_ hbo hbx (by decide)))
                have HrT := Lib.hid (hrT.kept hgS (.inr (fun e0 => by have := HvT.out _ e0; omega)))
                have Hmp := Lib.hid (hmp.kept hgS (fun e0 => by
                  obtain ⟨es', ck, ho⟩ := hmp.obj
                  have e1 : wr.heap.size + 1 = wq.heap.size := by simpa using e0
                  rw [e1, show wx.heap[wq.heap.size]? = _ from hbx] at ho
                  cases ho))
                have HrO := Lib.hid (hrO.kept hgS (.inr (by simpa using own_blk_ne hrO hbx (by decide))))
                have Hbx := Lib.hid (hbx.set_ q (.int .i64 (spot oq v : Nat)))
                have Hbl := Lib.hid (hbl.grown hgS (by simp))
                have HB6 := Lib.hid hB6
                clear hnow hsame hv hmp hrO hrT hbo hbx hbl hB hB6 hgS hcl hcq hee hxv hve he3 hoq hoq1 hmO hst HVt v0 v1
                go_wp2_with (go_at_call 44; refine HVe.out.mono ?_; rintro e' w' ⟨rfl, rfl⟩)
                go_roundw
                case measure => simp [intOf]; omega
                case rel =>
                  refine ⟨q + 1, _, rfl, by omega, by go_num, Hbo.out, HrT.out, by rw [Hoq1.out]; exact Hmp.out, by rw [Hoq1.out, HmO.out]; exact HrO.out, by rw [Hoq1.out, HmO.out]; omega, HvO.out, ?_, Hbl.out, HB6.out⟩
                  have := Hbx.out
                  rw [← Hcs.out]
                  simpa using this
              · have hnow : nowMap oq (.int .i64 v) = none := by simp [nowMap, hv]
                have hnew : addV oq v = oq ++ [v] := by unfold addV; rw [if_neg hv]
                rw [hnow] at hlk
                simp only [Option.getD_none, Option.isSome_none] at hlk
                have hsp : (spot (addV oq v) v : Nat) = mO := by rw [hnew, spot_new hv]; exact hmO
                rw [hsp] at Hcs
                rw [hnew] at Hoq1
                have Hnm := Lib.hid (fun y => (by have := nowMap_add hv y; rw [hmO] at this; exact this : updP (nowMap oq) (.int .i64 v) (.int .i64 (mO : Int)) y = nowMap (oq ++ [v]) y))
                have Hsp := Lib.hid (show nowMap (oq ++ [v]) (.int .i64 v) = some (.int .i64 (mO : Int)) by
                  simp only [nowMap]
                  rw [if_pos (by simp), spot_new hv, hmO])
                have c6 : mO + 1 ≤ maxLen := by unfold maxLen; omega
                have c7 : (mO + 1) * 8 ≤ 140737488355328 := by omega
                have Hv := Lib.hid hv
                have HbO := Lib.hid hbo
                have HBX := Lib.hid hbx
                have HBL := Lib.hid hbl
                have HRT := Lib.hid hrT
                have HRO := Lib.hid hrO
                have HBB := Lib.hid hB
                have hmpO := hmp.obj
                have hnb : ∀ {b : Nat} {t : TypeId} {cs : Array Value}, Blk wx b t cs → b ≠ wr.heap.size + 1 := fun {b t cs} hb e0 => by
                  obtain ⟨es', ck, ho⟩ := hmpO
                  rw [← e0, show wx.heap[b]? = _ from hb] at ho
                  cases ho
                have HNB := Lib.hid (And.intro (hnb hbx) (And.intro (hnb hbl) (hnb hbo)))
                have Hcq := Lib.hid hcq
                clear hnow hnew hsp hv hcl hcq hee hxv hve he3 hoq hoq1 hmO hst HVt v0 v1 hbo hbx hbl hrT hrO hB hmpO hnb
                go_upto_region 26 with (first
                  | (go_at_call 44; refine HVe.out.mono ?_; rintro e' w' ⟨rfl, rfl⟩)
                  | (at_mapUpdate; refine wpList_storeP hmp rfl _ _ _ 73 3 (.inl rfl) (int_keyed Try.underlying3) Try.underlying73 rfl (.int .i64 v) (.int .i64 (mO : Int)) rfl rfl hkeyv ?_; intro w6 hm6 hg6 hs6; have hr6 := HRO.out.kept hg6 (row_map_ne HRO.out hmp.obj)))
                have hRO := HRO.out
                clear HRO
                generalize Value.slice aO mO cO = vO at *
                have HRO := Lib.hid hRO
                clear hRO
                go_wp2_with (at_builtin; refine wpList_append_lies _ rfl (.tmp 95) (.tmp 97) 35 rfl wr.heap.size 3 i2 _ 1 8 Try.underlying35 hj' hz0 hz1 hz2 rfl (by decide) vO mO (intsV oq) rfl (hr6.alloc _) ⟨w6.heap.size, 0, none⟩ 1 1 [.int .i64 v] rfl rfl (World.news_of_block (heap_alloc_new _ _)) (by simp [Value.oneCell']) (by decide) c6 c7 (by rw [size_alloc']; omega) (w6.heap.size + 1) (by simp) ?_
                             intro g4 cap4 W4 hr4 hg4 hat4 _
                             have hmq := (((hm6.congr Hnm.out).alloc (.cells #[.int .i64 v] 3)).kept hg4 (map_row_ne (hr6.alloc _) (hm6.alloc (.cells #[.int .i64 v] 3)).obj))
                             (have hlkq := hmq.look (t := 73) (int_keyed Try.underlying3) Try.underlying73 (zero_int _) hkeyv; rw [Hsp.out] at hlkq; simp only [Option.getD_some] at hlkq)
                             have hbx4 := ((HBX.out.grown hg6 (by simpa using HNB.out.1)).alloc (.cells #[.int .i64 v] 3)).grown hg4 (fun e0 => own_blk_ne (hr6.alloc (.cells #[.int .i64 v] 3)) ((HBX.out.grown hg6 (by simpa using HNB.out.1)).alloc (.cells #[.int .i64 v] 3)) (by decide) e0.symm)
                             (have hc4 : W4.cell? ⟨wq.heap.size, q, none⟩ = some cq := (by rw [hbx4.cell]; simpa using Hcq.out))
                             have hf4 := hbx4.frozen q
                             have HBX4 := Lib.hid hbx4
                             have HMQ := Lib.hid hmq
                             clear hmq hbx4)
                go_roundw
                case measure => simp [intOf]; omega
                case rel =>
                  have hgS : W4.grownBy (W4.setCell ⟨wq.heap.size, q, none⟩ (.int .i64 (mO : Int))) (some wq.heap.size) := gStR (World.grownBy.refl _ _)
                  have n1 := HNB.out
                  have hr6a := hr6.alloc (.cells #[.int .i64 v] 3)
                  have bo2 := (HbO.out.grown hg6 (by simp)).alloc (.cells #[.int .i64 v] 3)
                  have bo3 := bo2.grown hg4 (fun e0 => own_blk_ne hr6a bo2 (by decide) e0.symm)
                  have bo4 := bo3.grown hgS (fun e0 => Blk.ne_ bo3 HBX4.out (by decide) (Option.some.inj e0))
                  have t1 := (HRT.out.kept hg6 (row_map_ne HRT.out hmp.obj)).alloc (.cells #[.int .i64 v] 3)
                  have t2 := t1.kept hg4 (own_own_ne t1 hr6a (by decide))
                  have t3 := t2.kept hgS (.inr (fun e0 => by have := HvT.out _ e0; omega))
                  have m1 := HMQ.out.kept hgS (fun e0 => n1.1 (Option.some.inj e0).symm)
                  have o1 := hr4.kept hgS (.inr (by simpa using own_blk_ne hr4 HBX4.out (by decide)))
                  have x1 := HBX4.out.set_ q (.int .i64 (mO : Int))
                  have l1 := (((HBL.out.grown hg6 (by simpa using n1.2.1)).alloc (.cells #[.int .i64 v] 3)).grown hg4 (fun e0 => HvO.out e0.symm)).grown hgS (by simp)
                  have hB4 := (((HBB.out.grown hg6 (by omega) (fun j e => by cases e; omega)).alloc (by omega) (.cells #[.int .i64 v] 3)).grown hg4 (by simp; omega) (fun j e => (HRO.out.lt j e).1)).setCell (p := ⟨wq.heap.size, q, none⟩) (by simp; omega) (.int .i64 (mO : Int))
                  refine ⟨q + 1, _, rfl, by omega, by go_num, bo4, t3, by rw [Hoq1.out]; exact m1, ?_, ?_, ?_, ?_, l1, hB4⟩
                  · rw [Hoq1.out, show (oq ++ [v]).length = mO + 1 from by simp [HmO.out]]
                    simpa [intsV] using o1
                  · rw [Hoq1.out, show (oq ++ [v]).length = mO + 1 from by simp [HmO.out]]
                    omega
                  · intro e0
                    have e1 : g4 = wq.heap.size + 1 := by simpa [Value.ownBlock] using e0
                    rcases hat4 with h | h
                    · exact HvO.out (by rw [h, e1])
                    · omega
                  · rw [← Hcs.out]
                    simpa using x1
            · obtain rfl : q = 3 := by omega
              rw [List.take_of_length_le (by omega : xs.length ≤ 3)] at hmp hrO hlO
              have e1 : addVs o0 xs = numT T o0 d := by rw [Hxs.out]; rfl
              obtain ⟨⟨a, b, c'⟩, ht3⟩ : ∃ t3, triT T o0 d = t3 := ⟨_, rfl⟩
              have e2 : (cellsQ o0 xs 3).toArray = #[.int .i64 a, .int .i64 b, .int .i64 c'] := by
                have h1 : (triT T o0 d).1 = a := by rw [ht3]
                have h2 : (triT T o0 d).2.1 = b := by rw [ht3]
                have h3 : (triT T o0 d).2.2 = c' := by rw [ht3]
                rw [Hxs.out, ← h1, ← h2, ← h3]
                rfl
              rw [e1] at hmp hrO hlO
              rw [e2] at hbx
              have Hst3 := Lib.hid Hstep.out
              rw [ht3] at Hst3
              obtain ⟨i0, hi, hy0, hy1, hy2⟩ := info_parts infoTri
              have hnb : wr.heap.size ≠ wq.heap.size := Blk.ne_ hbo hbx (by decide)
              have c6 : t0.length + 1 ≤ maxLen := by unfold maxLen; omega
              have c7 : (t0.length + 1) * 24 ≤ 140737488355328 := by omega
              obtain ⟨lx, x0, -, x1, -, x2, -⟩ := hbx.three
              obtain ⟨lo, -, -, p1, q1⟩ := hbo.two
              have p1a := p1
              have HbO := Lib.hid hbo
              have HRT := Lib.hid hrT
              have HRO := Lib.hid hrO
              have HMP := Lib.hid hmp
              have HBB := Lib.hid hB
              have hrTa := hrT
              clear Hvx hst z2 e1 e2 ht3 hbo hbx hbl hmp hrO hB hrT
              go_wp2_with (at_builtin; refine wpList_append_lies _ rfl (.tmp 106) (.tmp 108) 22 rfl wr.heap.size 61 i0 _ 3 24 Try.underlying22 hi hy0 hy1 hy2 rfl (by decide) _ _ _ rfl (hrTa.alloc _) ⟨wx.heap.size, 0, none⟩ 1 1 [.int .i64 a, .int .i64 b, .int .i64 c'] rfl rfl (World.news_of_block (heap_alloc_new _ _)) (by simp [Value.oneCell']) (by decide) c6 c7 (by simp; omega) (wx.heap.size + 1) (by simp) ?_; intro g4 cap4 W4 hr4 hg4 hat4 hlt4; have hb4 := (HbO.out.alloc (.cells #[.int .i64 a, .int .i64 b, .int .i64 c'] 61)).grown hg4 (fun e => own_blk_ne hrTa HbO.out (by decide) e.symm); obtain ⟨l4, -, -, p4, q4⟩ := hb4.two; have Hb4 := Lib.hid hb4; clear hb4)
              go_roundw
              case measure => simp [intOf]; omega
              case rel =>
                have hgS : W4.grownBy (W4.setCell ⟨wr.heap.size, 1, none⟩ (.slice (some ⟨g4, 0, none⟩) (t0.length + 1) cap4)) (some wr.heap.size) := gStR (World.grownBy.refl _ _)
                have hra := hrTa.alloc (.cells #[.int .i64 a, .int .i64 b, .int .i64 c'] 61)
                have ma := HMP.out.alloc (.cells #[.int .i64 a, .int .i64 b, .int .i64 c'] 61)
                have m2 := (ma.kept hg4 (map_row_ne hra ma.obj)).kept hgS (by simp)
                have oa := HRO.out.alloc (.cells #[.int .i64 a, .int .i64 b, .int .i64 c'] 61)
                have ob := oa.kept hg4 (own_own_ne oa hra (by decide))
                have o2 := ob.kept hgS (.inr (own_blk_ne ob Hb4.out (by decide)))
                have t2 := hr4.kept hgS (.inr (own_blk_ne hr4 Hb4.out (by decide)))
                have s2 := Hb4.out.set_ 1 (.slice (some ⟨g4, 0, none⟩) (t0.length + 1) cap4)
                have hB4 := ((HBB.out.alloc (by omega) (.cells #[.int .i64 a, .int .i64 b, .int .i64 c'] 61)).grown hg4 (by simp; omega) (fun j e => (hrTa.lt j e).1)).setCell (p := ⟨wr.heap.size, 1, none⟩) (Nat.le_refl _) (.slice (some ⟨g4, 0, none⟩) (t0.length + 1) cap4)
                refine ⟨k + 1, _, _, rfl, by omega, by go_num, by simpa using s2, ?_, ?_, ?_, hB4⟩
                · rw [Hst3.out]
                  simpa [ws3_snoc] using t2
                · rw [Hst3.out]
                  exact m2
                · rw [Hst3.out]
                  exact o2
        · obtain rfl : k = i := by omega
          rw [List.take_of_length_le (by rw [HLen.out]; exact Nat.le_refl _)] at hrT hmp hrO
          have hrl := HRL.out
          have hrtn : rtN T c = numL T L ([], []) := by unfold rtN; rw [hrl]
          rw [← hrtn] at hrT hrO
          have hszr := HST.out.bel.size
          have hszq := hB.size
          obtain ⟨mT, hmT⟩ : ∃ mT, (rtN T c).2.length = mT := ⟨_, rfl⟩
          rw [hmT] at hrT
          have HMT := Lib.hid hmT
          clear hmT
          obtain ⟨aT, cT, rfl⟩ := ownsRow_slice hrT
          obtain ⟨lO, hlO⟩ : ∃ lO, (rtN T c).1.length = lO := ⟨_, rfl⟩
          rw [hlO] at hrO
          have HLO := Lib.hid hlO
          obtain ⟨aO, cO, rfl⟩ := ownsRow_slice hrO
          obtain ⟨lo, p0, q0, p1, q1⟩ := hbo.two
          have HbO := Lib.hid hbo
          have HRT := Lib.hid hrT
          have HRO := Lib.hid hrO
          have Hq := Lib.hid hq
          have HBL := Lib.hid (HST.out.bel.trans (hB.mono HST.out.bel.size))
          have HRN := Lib.hid hrl
          have hbr := fun (u : Value) => ((hbo.set_ 0 u))
          obtain ⟨lb, b0, b0', b1, b1'⟩ := hq.bo.two
          have hwr : w.heap.size + 1 ≠ wr.heap.size := fun e => by
            have := HST.out.bo.lt
            omega
          clear hrT hmp hrO hbo hq hlt hrl hrtn
          go_wp2
          go_region
          all_goals
            go_wp2
            have bo3 : Blk ((((wq.setCell ⟨wr.heap.size, 0, none⟩ (.int .i64 (lO : Int))).setCell ⟨w.heap.size + 1, 0, none⟩ (.int .i64 (lO : Int))).setCell ⟨w.heap.size + 1, 1, none⟩ (.slice aT mT cT)).drew) (w.heap.size + 1) 24 #[.int .i64 (lO : Int), (.slice aT mT cT)] := by
              simpa using (((Hq.out.bo.far (p := ⟨wr.heap.size, 0, none⟩) hwr (.int .i64 (lO : Int))).set_ 0 (.int .i64 (lO : Int))).set_ 1 (.slice aT mT cT)).drew
            obtain ⟨-, r0, -, r1, -⟩ := bo3.two
            have hbS := HST.out.bel.size
            have hup : ∀ {e' : TypeId} {s' n' : Nat} {v' : Value} {xs' : List Value}, e' ≠ 24 → wq.ownsRow w.heap.size e' s' v' n' xs' → ((((wq.setCell ⟨wr.heap.size, 0, none⟩ (.int .i64 (lO : Int))).setCell ⟨w.heap.size + 1, 0, none⟩ (.int .i64 (lO : Int))).setCell ⟨w.heap.size + 1, 1, none⟩ (.slice aT mT cT)).drew).ownsRow w.heap.size e' s' v' n' xs' := fun hne h =>
              (h.kept (gStR (World.grownBy.refl _ _)) (.inr (own_blk_ne h HbO.out hne))).kept (gDrew (gStR (gStR (World.grownBy.refl _ _)))) (.inr (own_blk_ne h Hq.out.bo hne))
            refine bodyPost_ret (v := .tuple #[.agg #[.int .i64 lO, (.slice aT mT cT)], .slice aO lO cO, .slice a8 k c8]) (by simp [results, Try.results28, go_sem, r0, r1]) rfl ⟨_, _, _, by rw [HLO.out], ?_, ?_, ?_, ?_⟩
            · rw [HMT.out]
              exact hup (by decide) (own_lower HRT.out hbS)
            · rw [HLO.out]
              exact hup (by decide) (own_lower HRO.out hbS)
            · have := Hq.out.row
              rw [HRN.out]
              rw [HLen.out] at this ⊢
              exact hup (by decide) this
            · exact (((HBL.out.setCell (p := ⟨wr.heap.size, 0, none⟩) hbS _).setCell (p := ⟨w.heap.size + 1, 0, none⟩) (by simp) _).setCell (p := ⟨w.heap.size + 1, 1, none⟩) (by simp) _).drew
end Go.Proofs.Ytpnkhgjjlionnaa
namespace Go.Proofs.Ytpnkhgjjlionnaa
open Go.RowKit

/-- The record in block x: the row R, the soup (n, vT), the paint P', the sides K', the old numbers vO; all that was there at w1 is as it was. -/
structure FrSt (w1 W : World) (x : Nat) (n : Int) (vT vO : Value) (R : List Int) (P' : List Tr) (K' : List Int) (vR vP vK : Value) : Prop where
  bx : Blk W x 142 #[vR, .int .i64 n, vT, vP, vK, vO]
  rR : W.ownsRow w1.heap.size 3 1 vR R.length (intsV R)
  rP : W.ownsRow w1.heap.size 162 3 vP P'.length (ws3 P')
  rK : W.ownsRow w1.heap.size 3 1 vK K'.length (intsV K')
  ne : ∀ j, vR.ownBlock = some j → vK.ownBlock ≠ some j
  bel : Below w1.heap.size w1 W
  xle : w1.heap.size ≤ x
section
variable {w1 W W' w4 : World} {x : Nat} {n : Int} {vT vO : Value} {R : List Int} {P' : List Tr} {K' : List Int} {vR vP vK : Value} {tmp : Obj}
theorem FrSt.below (h : FrSt w1 W x n vT vO R P' K' vR vP vK) (hb : Below W.heap.size W W') : FrSt w1 W' x n vT vO R P' K' vR vP vK :=
  ⟨h.bx.below hb h.bx.lt, own_below h.rR hb, own_below h.rP hb, own_below h.rK hb, h.ne, h.bel.trans (hb.mono h.bel.size), h.xle⟩
theorem FrSt.alloc (h : FrSt w1 W x n vT vO R P' K' vR vP vK) (o : Obj) : FrSt w1 (W.alloc o) x n vT vO R P' K' vR vP vK := h.below ((Below.refl _ _).alloc (Nat.le_refl _) _)
theorem FrSt.drew (h : FrSt w1 W x n vT vO R P' K' vR vP vK) : FrSt w1 W.drew x n vT vO R P' K' vR vP vK := h.below (Below.refl _ _).drew
/-- Behind an append to the row. -/
theorem FrSt.appR (h : FrSt w1 W x n vT vO R P' K' vR vP vK) (hg : W.grownBy w4 vR.ownBlock) {v4 : Value} {R4 : List Int} {g4 k4 c4 : Nat} (hv : v4 = .slice (some ⟨g4, 0, none⟩) k4 c4) (hr : w4.ownsRow w1.heap.size 3 1 v4 R4.length (intsV R4)) (hat : vR.ownBlock = some g4 ∨ W.heap.size ≤ g4) :
    Blk w4 x 142 #[vR, .int .i64 n, vT, vP, vK, vO] ∧ FrSt w1 (w4.setCell ⟨x, 0, none⟩ v4) x n vT vO R4 P' K' v4 vP vK := by
  have b4 := h.bx.grown hg (fun e => own_blk_ne h.rR h.bx (by decide) e.symm)
  have hS : w4.grownBy (w4.setCell ⟨x, 0, none⟩ v4) (some x) := gStR (World.grownBy.refl _ _)
  have p4 := h.rP.kept hg (own_own_ne h.rP h.rR (by decide))
  have k4' := h.rK.kept hg (by
    rcases hK : vK.ownBlock with _ | j
    · exact .inl rfl
    · refine .inr (fun e => h.ne j (by rw [← e]) hK))
  refine ⟨b4, ⟨by simpa using b4.set_ 0 v4, hr.kept hS (.inr (own_blk_ne hr b4 (by decide))), p4.kept hS (.inr (own_blk_ne p4 b4 (by decide))), k4'.kept hS (.inr (own_blk_ne k4' b4 (by decide))), ?_, ?_, h.xle⟩⟩
  · intro j ej ek
    subst hv
    have : g4 = j := by simpa [Value.ownBlock] using ej
    subst this
    rcases hat with e | hge
    · exact h.ne _ e ek
    · have := (h.rK.lt _ ek).2
      omega
  · exact (h.bel.grown hg h.bel.size (fun j e => (h.rR.lt j e).1)).setCell h.xle _
/-- Behind an append to the paint. -/
theorem FrSt.appP (h : FrSt w1 W x n vT vO R P' K' vR vP vK) (hg : W.grownBy w4 vP.ownBlock) {v4 : Value} {P4 : List Tr} (hr : w4.ownsRow w1.heap.size 162 3 v4 P4.length (ws3 P4)) :
    Blk w4 x 142 #[vR, .int .i64 n, vT, vP, vK, vO] ∧ FrSt w1 (w4.setCell ⟨x, 3, none⟩ v4) x n vT vO R P4 K' vR v4 vK := by
  have b4 := h.bx.grown hg (fun e => own_blk_ne h.rP h.bx (by decide) e.symm)
  have hS : w4.grownBy (w4.setCell ⟨x, 3, none⟩ v4) (some x) := gStR (World.grownBy.refl _ _)
  have r4 := h.rR.kept hg (own_own_ne h.rR h.rP (by decide))
  have k4 := h.rK.kept hg (own_own_ne h.rK h.rP (by decide))
  exact ⟨b4, ⟨by simpa using b4.set_ 3 v4, r4.kept hS (.inr (own_blk_ne r4 b4 (by decide))), hr.kept hS (.inr (own_blk_ne hr b4 (by decide))), k4.kept hS (.inr (own_blk_ne k4 b4 (by decide))), h.ne, (h.bel.grown hg h.bel.size (fun j e => (h.rP.lt j e).1)).setCell h.xle _, h.xle⟩⟩
/-- Behind an append to the sides. -/
theorem FrSt.appK (h : FrSt w1 W x n vT vO R P' K' vR vP vK) (hg : W.grownBy w4 vK.ownBlock) {v4 : Value} {K4 : List Int} {g4 k4 c4 : Nat} (hv : v4 = .slice (some ⟨g4, 0, none⟩) k4 c4) (hr : w4.ownsRow w1.heap.size 3 1 v4 K4.length (intsV K4)) (hat : vK.ownBlock = some g4 ∨ W.heap.size ≤ g4) :
    Blk w4 x 142 #[vR, .int .i64 n, vT, vP, vK, vO] ∧ FrSt w1 (w4.setCell ⟨x, 4, none⟩ v4) x n vT vO R P' K4 vR vP v4 := by
  have b4 := h.bx.grown hg (fun e => own_blk_ne h.rK h.bx (by decide) e.symm)
  have hS : w4.grownBy (w4.setCell ⟨x, 4, none⟩ v4) (some x) := gStR (World.grownBy.refl _ _)
  have p4 := h.rP.kept hg (own_own_ne h.rP h.rK (by decide))
  have r4 := h.rR.kept hg (by
    rcases hR : vR.ownBlock with _ | j
    · exact .inl rfl
    · exact .inr (fun e => h.ne j hR e.symm))
  refine ⟨b4, ⟨by simpa using b4.set_ 4 v4, r4.kept hS (.inr (own_blk_ne r4 b4 (by decide))), p4.kept hS (.inr (own_blk_ne p4 b4 (by decide))), hr.kept hS (.inr (own_blk_ne hr b4 (by decide))), ?_, ?_, h.xle⟩⟩
  · intro j ej ek
    subst hv
    have : g4 = j := by simpa [Value.ownBlock] using ek
    subst this
    rcases hat with e | hge
    · exact h.ne _ ej e
    · have := (h.rR.lt _ ej).2
      omega
  · exact (h.bel.grown hg h.bel.size (fun j e => (h.rK.lt j e).1)).setCell h.xle _
end
/-- Six cells of a record of canon's, whose rows lie at 'base' or behind: what is meant. -/
def RecOwn (w : World) (base : Nat) (cs : Array Value) (r : RecM) : Prop := ∃ vR vT vP vK vO, cs = #[vR, .int .i64 r.N, vT, vP, vK, vO] ∧ w.ownsRow base 3 1 vR r.row.length (intsV r.row) ∧ w.ownsRow base 61 3 vT r.T.length (ws3 r.T) ∧ w.ownsRow base 162 3 vP r.P.length (ws3 r.P) ∧ w.ownsRow base 3 1 vK r.K.length (intsV r.K) ∧ w.ownsRow base 3 1 vO r.old.length (intsV r.old)
theorem RecOwn.below {w w' : World} {base : Nat} {cs : Array Value} {r : RecM} (h : RecOwn w base cs r) (hb : Below w.heap.size w w') : RecOwn w' base cs r := by
  obtain ⟨vR, vT, vP, vK, vO, e, h1, h2, h3, h4, h5⟩ := h
  exact ⟨vR, vT, vP, vK, vO, e, own_below h1 hb, own_below h2 hb, own_below h3 hb, own_below h4 hb, own_below h5 hb⟩
theorem RecOwn.lower {w : World} {base base' : Nat} {cs : Array Value} {r : RecM} (h : RecOwn w base cs r) (hb : base' ≤ base) : RecOwn w base' cs r := by
  obtain ⟨vR, vT, vP, vK, vO, e, h1, h2, h3, h4, h5⟩ := h
  exact ⟨vR, vT, vP, vK, vO, e, own_lower h1 hb, own_lower h2 hb, own_lower h3 hb, own_lower h4 hb, own_lower h5 hb⟩
end Go.Proofs.Ytpnkhgjjlionnaa
namespace Go.Proofs.Ytpnkhgjjlionnaa
open Go.RowKit Go.Sort

/-- A record as it lies, and what is meant. -/
structure RcV where
  vR : Value
  N : Int
  vT : Value
  vP : Value
  vK : Value
  vO : Value
  m : RecM
def RcV.enc (x : RcV) : List Value := [x.vR, .int .i64 x.N, x.vT, x.vP, x.vK, x.vO]
/-- Records in a block, one behind the other. -/
def Recs (W : World) (base b : Nat) (l : List RecM) : Prop := base ≤ b ∧ l.length * 6 ≤ maxLen ∧ ∃ xs : List RcV, xs.map (·.m) = l ∧ (∀ x ∈ xs, RecOwn W base x.enc.toArray x.m) ∧ Blk W b 142 (xs.flatMap RcV.enc).toArray
theorem own_one {w : World} {base n s : Nat} {e : TypeId} {v : Value} {xs : List Value} (h : w.ownsRow base e s v n xs) : v.oneCell' = true := by
  obtain ⟨a, c, rfl⟩ := ownsRow_slice h
  rfl
theorem RecOwn.one {w : World} {base : Nat} {x : RcV} (h : RecOwn w base x.enc.toArray x.m) : ∀ v ∈ x.enc, v.oneCell' = true := by
  obtain ⟨vR, vT, vP, vK, vO, e, h1, h2, h3, h4, h5⟩ := h
  have e2 : x.enc = [vR, .int .i64 x.m.N, vT, vP, vK, vO] := by simpa using congrArg Array.toList e
  rw [e2]
  intro v hv
  simp only [List.mem_cons, List.not_mem_nil, or_false] at hv
  rcases hv with rfl | rfl | rfl | rfl | rfl | rfl
  · exact own_one h1
  · rfl
  · exact own_one h2
  · exact own_one h3
  · exact own_one h4
  · exact own_one h5
theorem blk_owns {W : World} {b base n : Nat} {xs : List Value} (h : Blk W b 142 xs.toArray) (hb : base ≤ b) (hn : n ≤ maxLen) (hl : xs.length = n * 6) : W.ownsRow base 142 6 (.slice (some ⟨b, 0, none⟩) n n) n xs :=
  ⟨hl, .inr ⟨b, n, xs.toArray, rfl, hb, h, Nat.le_refl _, hn, by simpa using hl, by rw [← hl]; simp⟩⟩
theorem owns_blk {W : World} {b base n : Nat} {xs : List Value} (h : W.ownsRow base 142 6 (.slice (some ⟨b, 0, none⟩) n n) n xs) : Blk W b 142 xs.toArray := by
  rcases h.2 with ⟨e, _⟩ | ⟨g, cap, cur, e, hb, hg, h1, h2, h3, h4⟩
  · cases e
  · injection e with e1 e2 e3
    injection e1 with e1
    injection e1 with e1
    subst e1
    subst e3
    have : xs.toArray = cur := by
      apply Array.ext'
      rw [← h4, List.take_of_length_le (by simp [h3])]
    unfold Blk
    rw [this]
    exact hg
theorem enc_len (x : RcV) : x.enc.length = 6 := rfl
theorem isAggRc (w : World) : (isAgg 142).run Try.prog w = .ok true w := by kernel_rfl
theorem sizeRc (w : World) : (Go.sizeOf 142).run Try.prog w = .ok 6 w := by kernel_rfl
set_option maxRecDepth 100000 in
theorem cmpRc_any (x y : RcV) (base : Nat) (w : World) (hx : RecOwn w base x.enc.toArray x.m) (hy : RecOwn w base y.enc.toArray y.m) (_lx : x.m.row.length ≤ 1000000) (_ly : y.m.row.length ≤ 1000000) :
    Calls Try.prog 86 #[.agg x.enc.toArray, .agg y.enc.toArray] w fun e w' => e = .returned (.int .i64 (cmpL x.m.row y.m.row)) ∧ w' = (w.alloc (.cells x.enc.toArray 142)).alloc (.cells y.enc.toArray 142) := by
  obtain ⟨vR, vT, vP, vK, vO, e, h1, h2, h3, h4, h5⟩ := hx
  obtain ⟨uR, uT, uP, uK, uO, e', g1, g2, g3, g4, g5⟩ := hy
  rw [e, e']
  have b1 := (Blk.new w 142 #[vR, .int .i64 x.m.N, vT, vP, vK, vO]).alloc (.cells #[uR, .int .i64 y.m.N, uT, uP, uK, uO] 142)
  have b2 : Blk ((w.alloc (.cells #[vR, .int .i64 x.m.N, vT, vP, vK, vO] 142)).alloc (.cells #[uR, .int .i64 y.m.N, uT, uP, uK, uO] 142)) (w.heap.size + 1) 142 #[uR, .int .i64 y.m.N, uT, uP, uK, uO] := blk_new_at (by simp)
  have hB : Below w.heap.size w ((w.alloc (.cells #[vR, .int .i64 x.m.N, vT, vP, vK, vO] 142)).alloc (.cells #[uR, .int .i64 y.m.N, uT, uP, uK, uO] 142)) := ((Below.refl _ _).alloc (Nat.le_refl _) _).alloc (by simp) _
  have HC := Lib.hid (compareL_any vR uR x.m.row y.m.row _ (IntsRd.of_row (own_below h1 hB) rfl) (IntsRd.of_row (own_below g1 hB) rfl))
  have l0 := b1.lt
  have l1 := b2.lt
  have x0 : _ = some vR := b1.cell 0
  have y0 : _ = some uR := b2.cell 0
  clear b1 b2 hB h1 h2 h3 h4 h5 g1 g2 g3 g4 g5
  go_enter Try.func86, Try.ntmps86
  go_wp2_with (go_at_call 60; refine HC.out.mono ?_; rintro e w' ⟨rfl, rfl⟩)
  go_ret
  exact ⟨rfl, rfl⟩
theorem RecOwn.kept {W V : World} {base b : Nat} {cs ds : Array Value} {r : RecM} (h : RecOwn W base cs r) (hb : Blk W b 142 ds) (hg : W.grownBy V (some b)) : RecOwn V base cs r := by
  obtain ⟨vR, vT, vP, vK, vO, e, h1, h2, h3, h4, h5⟩ := h
  exact ⟨vR, vT, vP, vK, vO, e, h1.kept hg (.inr (own_blk_ne h1 hb (by decide))), h2.kept hg (.inr (own_blk_ne h2 hb (by decide))), h3.kept hg (.inr (own_blk_ne h3 hb (by decide))), h4.kept hg (.inr (own_blk_ne h4 hb (by decide))), h5.kept hg (.inr (own_blk_ne h5 hb (by decide)))⟩
/-- Records that are as meant, in a world. -/
def RcA (W : World) (base : Nat) : Type := {x : RcV // RecOwn W base x.enc.toArray x.m ∧ x.m.row.length ≤ 1000000}
def encA {W : World} {base : Nat} (x : RcA W base) : List Value := x.1.enc
def cfA {W : World} {base : Nat} (x y : RcA W base) : Int := cmpL x.1.m.row y.1.m.row
theorem encA_len {W : World} {base : Nat} (x : RcA W base) : (encA x).length = 6 := rfl
section
variable {W V : World} {base b n : Nat} {cs : Array Value} [Inhabited (RcA W base)]
theorem lays_any (hB : Blk W b 142 cs) (hg : W.grownBy V (some b)) {d : Array (RcA W base)} (hd : d.size = n) (hown : V.ownsRow base 142 6 (.slice (some ⟨b, 0, none⟩) n n) n (d.toList.flatMap encA)) :
    CmpLays Try.prog 86 #[] (encA (W := W) (base := base)) 6 cfA b 0 n V := by
  intro m os dk hdk x y
  have h2 := (ownsRow_sortedK (enc := encA) encA_len (by decide) hown (d' := dk) (m := m) (os := os) (by omega)).2
  have hG := hg.trans h2
  refine (cmpRc_any x.1 y.1 base _ (x.2.1.kept hB hG) (y.2.1.kept hB hG) x.2.2 y.2.2).mono ?_
  rintro e w' ⟨rfl, rfl⟩
  refine ⟨rfl, 0, #[.cells x.1.enc.toArray 142, .cells y.1.enc.toArray 142], ?_⟩
  rw [alloc_eq_grow, alloc_eq_grow, grow_grow]
  rfl
theorem ins_any (hB : Blk W b 142 cs) (hg : W.grownBy V (some b)) {d : Array (RcA W base)} (hd : d.size = n) (hn : n ≤ 1000) (hown : V.ownsRow base 142 6 (.slice (some ⟨b, 0, none⟩) n n) n (d.toList.flatMap encA)) (p q : Nat) (hpq : p ≤ q) (hq : q ≤ n) (hs : (insertionSort (ltOf cfA) d p q).size = d.size) :
    Calls Try.prog 127 #[.slice (some ⟨b, 0, none⟩) n n, .int .i64 (p : Int), .int .i64 (q : Int), .func (.func 86) #[] #[]] V fun e w' =>
      e = .returned (.tuple #[]) ∧ w'.ownsRow base 142 6 (.slice (some ⟨b, 0, none⟩) n n) n ((insertionSort (ltOf cfA) d p q).toList.flatMap encA) ∧ W.grownBy w' (some b) := by
  subst hd
  have hlt : b < V.heap.size := Nat.lt_of_lt_of_le hB.lt hg.size
  have h := Try.insertionSortCmpFunc_f127 (α := RcA W base) 6 isAggRc sizeRc encA encA_len (fun x => x.2.1.one) cfA 86 #[] b 0 d.size p q d V (fun _ _ => by kernel_rfl) (lays_any hB hg rfl hown) (holdsK_of_own encA_len (by decide) hown) hlt hpq hq (by omega)
  refine h.mono ?_
  rintro e w' ⟨rfl, m, os, rfl⟩
  have h2 := ownsRow_sortedK (enc := encA) encA_len (by decide) hown (d' := insertionSort (ltOf cfA) d p q) (m := m) (os := os) hs
  exact ⟨rfl, h2.1, hg.trans h2.2⟩
end
theorem insB_map {α β : Type} {lt : α → α → Bool} {lt' : β → β → Bool} {f : α → β} (h : ∀ x y, lt' (f x) (f y) = lt x y) (l : List α) (x : α) : (insB lt l x).map f = insB lt' (l.map f) (f x) := by
  unfold insB
  have e : lt' (f x) ∘ f = lt x := funext fun y => h x y
  simp only [List.map_append, List.map_cons, ← List.map_reverse, List.dropWhile_map, List.takeWhile_map, e]
theorem sortB_map {α β : Type} {lt : α → α → Bool} {lt' : β → β → Bool} {f : α → β} (h : ∀ x y, lt' (f x) (f y) = lt x y) (l : List α) : (sortB lt l).map f = sortB lt' (l.map f) := by
  unfold sortB
  have key : ∀ (l m : List α), (l.foldl (insB lt) m).map f = (l.map f).foldl (insB lt') (m.map f) := by
    intro l
    induction l with
    | nil => intro m; rfl
    | cons a r ih =>
      intro m
      rw [List.foldl_cons, ih, insB_map h]
      rfl
  exact key l []
theorem exists_sub {α : Type} {p : α → Prop} : ∀ (xs : List α), (∀ x ∈ xs, p x) → ∃ ds : List {x // p x}, ds.map Subtype.val = xs
  | [], _ => ⟨[], rfl⟩
  | a :: r, h => by
    obtain ⟨ds, hd⟩ := exists_sub r (fun x hx => h x (List.mem_cons_of_mem _ hx))
    exact ⟨⟨a, h a (List.mem_cons_self ..)⟩ :: ds, by rw [List.map_cons, hd]⟩
set_option maxRecDepth 100000 in
set_option maxHeartbeats 1000000 in
theorem stable_any (W : World) (base b n : Nat) (l : List RecM) (h : Recs W base b l) (hl : l.length = n) (hn : n ≤ 20) (h0 : 0 < n) (hr : ∀ r ∈ l, r.row.length ≤ 1000000) :
    Calls Try.prog 85 #[.slice (some ⟨b, 0, none⟩) n n, .func (.func 86) #[] #[]] W fun e w' => e = .returned (.tuple #[]) ∧ Recs w' base b (sortB ltR l) ∧ W.grownBy w' (some b) := by
  obtain ⟨hb, hm, xs, hxl, hx, hB⟩ := h
  have hxr : ∀ x ∈ xs, RecOwn W base x.enc.toArray x.m ∧ x.m.row.length ≤ 1000000 := fun x hxm => ⟨hx x hxm, hr _ (by rw [← hxl]; exact List.mem_map.2 ⟨x, hxm, rfl⟩)⟩
  obtain ⟨ds, hds⟩ : ∃ ds : List (RcA W base), ds.map (·.1) = xs := exists_sub xs hxr
  have hdl : ds.length = n := by rw [← hl, ← hxl, ← hds]; simp
  obtain ⟨d0, hd0⟩ : ∃ x, x ∈ ds := by
    cases ds with
    | nil => simp at hdl; omega
    | cons a r => exact ⟨a, List.mem_cons_self ..⟩
  haveI : Inhabited (RcA W base) := ⟨d0⟩
  have hfl : ∀ es : List (RcA W base), es.flatMap encA = (es.map (·.1)).flatMap RcV.enc := fun es => by rw [List.flatMap_map]; rfl
  have hxn : (xs.flatMap RcV.enc).length = n * 6 := by rw [flatMap_len enc_len, ← hds]; simp [hdl]
  have hmn : n ≤ maxLen := by rw [hl] at hm; omega
  have hown : W.ownsRow base 142 6 (.slice (some ⟨b, 0, none⟩) n n) n (ds.toArray.toList.flatMap encA) := by
    rw [List.toList_toArray, hfl, hds]
    exact blk_owns hB hb hmn hxn
  have hsz : ds.toArray.size = n := by simpa using hdl
  have hlist := insertionSort_list (ltOf (cfA (W := W) (base := base))) ds.toArray
  rw [hsz] at hlist
  have hs1 : (insertionSort (ltOf cfA) ds.toArray 0 n).size = n := by
    have := congrArg List.length hlist
    rw [sortB_len] at this
    simpa [hdl] using this
  have H1 := Lib.hid (show Calls _ _ #[_, .int .i64 0, .int .i64 (n : Int), _] W _ from ins_any hB (World.grownBy.refl _ _) hsz (by omega) hown 0 n (Nat.zero_le _) (Nat.le_refl _) (by rw [hs1, hsz]))
  have hdone : insertionSort (ltOf cfA) (insertionSort (ltOf cfA) ds.toArray 0 n) n n = insertionSort (ltOf (cfA (W := W) (base := base))) ds.toArray 0 n := insOuter_done _ _ _
  have H2 := Lib.hid (fun (V : World) (hg : W.grownBy V (some b)) (ho : V.ownsRow base 142 6 (.slice (some ⟨b, 0, none⟩) n n) n ((insertionSort (ltOf cfA) ds.toArray 0 n).toList.flatMap encA)) => ins_any hB hg hs1 (by omega) ho n n (Nat.le_refl _) (Nat.le_refl _) (by rw [hdone]))
  rw [hdone] at H2
  have HF := Lib.hid (fun (V : World) (hg : W.grownBy V (some b)) (ho : V.ownsRow base 142 6 (.slice (some ⟨b, 0, none⟩) n n) n ((insertionSort (ltOf cfA) ds.toArray 0 n).toList.flatMap encA)) => show Recs V base b (sortB ltR l) from by
    rw [hlist, List.toList_toArray, hfl] at ho
    refine ⟨hb, by rw [sortB_len]; exact hm, (sortB (ltOf cfA) ds).map (·.1), ?_, ?_, owns_blk ho⟩
    · rw [List.map_map, ← hxl, ← hds, List.map_map]
      exact sortB_map (lt := ltOf cfA) (lt' := ltR) (f := fun x : RcA W base => x.1.m) (fun x y => rfl) ds
    · intro x hxm
      obtain ⟨y, hy, rfl⟩ := List.mem_map.1 hxm
      exact y.2.1.kept hB hg)
  have hni : (n : Int) ≤ 20 := by omega
  clear hlist hs1 hdone hown hsz hfl hxn hd0 hdl hds hxr hx hxl hr hB
  have HS : Hid (Calls Try.prog 109 #[.slice (some ⟨b, 0, none⟩) n n, .int .i64 (n : Int), .func (.func 86) #[] #[]] W fun e w' => e = .returned (.tuple #[]) ∧ Recs w' base b (sortB ltR l) ∧ W.grownBy w' (some b)) := by
    refine Lib.hid ?_
    obtain ⟨R, hR⟩ : ∃ R, R = (insertionSort (ltOf cfA) ds.toArray 0 n).toList.flatMap encA := ⟨_, rfl⟩
    rw [← hR] at H1 H2 HF
    clear hR
    go_enter Try.func109, Try.ntmps109
    go_wp2
    go_loopw [7, 8] (fun a c wr => (a = .int .i64 0 ∧ c = .int .i64 20 ∧ wr = W) ∨ ((n : Int) = 20 ∧ a = .int .i64 (n : Int) ∧ c = .int .i64 40 ∧ wr.ownsRow base 142 6 (.slice (some ⟨b, 0, none⟩) n n) n R ∧ W.grownBy wr (some b))) (fun _ c _ => 40 - (intOf c).toNat)
    case atStart => exact .inl ⟨rfl, rfl, rfl⟩
    case round =>
      rename World => wr
      rcases hrel with ⟨rfl, rfl, rfl⟩ | ⟨hn20, rfl, rfl, ho, hg⟩
      · by_cases h20 : (n : Int) = 20
        · have hd : decide ((20 : Int) ≤ (n : Int)) = true := by simp; omega
          have H1' := Lib.hid (show Calls Try.prog 127 #[.slice (some ⟨b, 0, none⟩) n n, .int .i64 0, .int .i64 20, .func (.func 86) #[] #[]] wr _ from by have := H1.out; rw [h20] at this; exact this)
          have H20 := Lib.hid h20
          clear h20
          go_wp2_with (go_at_call 127; refine H1'.out.mono ?_; rintro e w' ⟨rfl, ho, hg⟩)
          go_roundw
          case measure => simp [intOf]
          case rel => exact .inr ⟨H20.out, by rw [H20.out], by go_num, ho, hg⟩
        · have hd : decide ((20 : Int) ≤ (n : Int)) = false := by simp; omega
          go_wp2_with (go_at_call 127; refine H1.out.mono ?_; rintro e w' ⟨rfl, ho, hg⟩)
          go_loopw [6] (fun a wx => a = .int .i64 20 ∧ wx = w') (fun _ _ => 0)
          case atStart => exact ⟨rfl, rfl⟩
          case round =>
            obtain ⟨rfl, rfl⟩ := hrel
            have hd2 : decide ((20 : Int) < (n : Int)) = false := by simp; omega
            go_wp2
            refine bodyPost_end (results_none rfl _ _ _) rfl ?_
            exact ⟨rfl, HF.out _ hg ho, hg⟩
      · have hd : decide ((40 : Int) ≤ (n : Int)) = false := by simp; omega
        have hd2 : decide ((20 : Int) < (n : Int)) = false := by simp; omega
        have H2' := Lib.hid (H2.out wr hg ho)
        clear hg ho hn20
        go_wp2_with (go_at_call 127; refine H2'.out.mono ?_; rintro e w' ⟨rfl, ho, hg⟩)
        go_loopw [6] (fun a wx => a = .int .i64 20 ∧ wx = w') (fun _ _ => 0)
        case atStart => exact ⟨rfl, rfl⟩
        case round =>
          obtain ⟨rfl, rfl⟩ := hrel
          go_wp2
          refine bodyPost_end (results_none rfl _ _ _) rfl ?_
          exact ⟨rfl, HF.out _ hg ho, hg⟩
  go_enter Try.func85, Try.ntmps85
  go_wp2_with (go_at_call 109; refine HS.out.mono ?_; rintro e w' ⟨rfl, hrc, hg⟩)
  refine bodyPost_end (results_none rfl _ _ _) rfl ?_
  exact ⟨rfl, hrc, hg⟩
set_option maxRecDepth 100000 in
/-- Of none. -/
theorem stable_none (p : Option Addr) (c : Nat) (W : World) :
    Calls Try.prog 85 #[.slice p 0 c, .func (.func 86) #[] #[]] W fun e w' => e = .returned (.tuple #[]) ∧ w' = W := by
  have H1 := Lib.hid (Try.insertionSortCmpFunc_none_f127 (α := Nat) p c (.func (.func 86) #[] #[]) W)
  have HS : Hid (Calls Try.prog 109 #[.slice p 0 c, .int .i64 0, .func (.func 86) #[] #[]] W fun e w' => e = .returned (.tuple #[]) ∧ w' = W) := by
    refine Lib.hid ?_
    go_enter Try.func109, Try.ntmps109
    go_wp2
    go_loopw [7, 8] (fun a c wr => a = .int .i64 0 ∧ c = .int .i64 20 ∧ wr = W) (fun _ _ _ => 0)
    case atStart => exact ⟨rfl, rfl, rfl⟩
    case round =>
      rename World => wr
      obtain ⟨rfl, rfl, rfl⟩ := hrel
      go_wp2_with (go_at_call 127; refine H1.out.mono ?_; rintro e w' ⟨rfl, rfl⟩)
      go_loopw [6] (fun a wx => a = .int .i64 20 ∧ wx = w') (fun _ _ => 0)
      case atStart => exact ⟨rfl, rfl⟩
      case round =>
        obtain ⟨rfl, rfl⟩ := hrel
        go_wp2
        refine bodyPost_end (results_none rfl _ _ _) rfl ?_
        exact ⟨rfl, rfl⟩
  go_enter Try.func85, Try.ntmps85
  go_wp2_with (go_at_call 109; refine HS.out.mono ?_; rintro e w' ⟨rfl, rfl⟩)
  refine bodyPost_end (results_none rfl _ _ _) rfl ?_
  exact ⟨rfl, rfl⟩
end Go.Proofs.Ytpnkhgjjlionnaa
namespace Go.Proofs.Ytpnkhgjjlionnaa
open Go.RowKit Go.Maps

theorem infoTriJ : (Try.prog.info? 61).map (fun i => (i.zero, i.size, i.bytes)) = some (some (.agg #[.int .i64 0, .int .i64 0, .int .i64 0]), 3, 24) := by kernel_rfl
/-- Soups that can be read. -/
def SoupsRd (w : World) (v : Value) (l : List (Int × List Tr)) : Prop := ∃ a c, v = .slice a l.length c ∧ ∀ (k : Nat) (N : Int) (T : List Tr), l[k]? = some (N, T) → ∃ b o vT, a = some ⟨b, o, none⟩ ∧ b < w.heap.size ∧ w.cell? ⟨b, o + k * 2, none⟩ = some (.int .i64 N) ∧ w.cell? ⟨b, o + k * 2 + 1, none⟩ = some vT ∧ TrisRd w vT T
theorem SoupsRd.below {w w' : World} {v : Value} {l : List (Int × List Tr)} (h : SoupsRd w v l) (hb : Below w.heap.size w w') : SoupsRd w' v l := by
  obtain ⟨a, c, rfl, h3⟩ := h
  refine ⟨a, c, rfl, fun k N T hk => ?_⟩
  obtain ⟨b, o, vT, rfl, hl, s0, s1, s2⟩ := h3 k N T hk
  exact ⟨b, o, vT, rfl, Nat.lt_of_lt_of_le hl hb.size, (hb.cell (p := ⟨b, _, none⟩) hl).trans s0, (hb.cell (p := ⟨b, _, none⟩) hl).trans s1, s2.below hb⟩
structure JnSt (w W : World) (b2 b4 : Nat) (N : Int) (T : List Tr) (vT : Value) : Prop where
  k2 : Blk W b2 24 #[.int .i64 0, .slice none 0 0]
  k4 : Blk W b4 24 #[.int .i64 N, vT]
  rT : W.ownsRow w.heap.size 61 3 vT T.length (ws3 T)
  bel : Below w.heap.size w W
  l2 : w.heap.size ≤ b2
  l4 : w.heap.size ≤ b4
  ne : b2 ≠ b4
section
variable {w W W' w4 : World} {b2 b4 : Nat} {N N' : Int} {T : List Tr} {vT : Value}
theorem JnSt.below (h : JnSt w W b2 b4 N T vT) (hb : Below W.heap.size W W') : JnSt w W' b2 b4 N T vT :=
  ⟨h.k2.below hb h.k2.lt, h.k4.below hb h.k4.lt, own_below h.rT hb, h.bel.trans (hb.mono h.bel.size), h.l2, h.l4, h.ne⟩
theorem JnSt.alloc (h : JnSt w W b2 b4 N T vT) (o : Obj) : JnSt w (W.alloc o) b2 b4 N T vT := h.below ((Below.refl _ _).alloc (Nat.le_refl _) _)
theorem JnSt.app (h : JnSt w W b2 b4 N T vT) (hg : W.grownBy w4 vT.ownBlock) {v4 : Value} {T4 : List Tr} (hr : w4.ownsRow w.heap.size 61 3 v4 T4.length (ws3 T4)) :
    Blk w4 b4 24 #[.int .i64 N, vT] ∧ JnSt w (w4.setCell ⟨b4, 1, none⟩ v4) b2 b4 N T4 v4 := by
  have c4 := h.k4.grown hg (fun e => own_blk_ne h.rT h.k4 (by decide) e.symm)
  have c2 := h.k2.grown hg (fun e => own_blk_ne h.rT h.k2 (by decide) e.symm)
  have hS : w4.grownBy (w4.setCell ⟨b4, 1, none⟩ v4) (some b4) := gStR (World.grownBy.refl _ _)
  exact ⟨c4, ⟨c2.far (p := ⟨b4, 1, none⟩) h.ne v4, by simpa using c4.set_ 1 v4, hr.kept hS (.inr (own_blk_ne hr c4 (by decide))), (h.bel.grown hg h.bel.size (fun j e => (h.rT.lt j e).1)).setCell h.l4 _, h.l2, h.l4, h.ne⟩⟩
theorem JnSt.setN (h : JnSt w W b2 b4 N T vT) : JnSt w (W.setCell ⟨b4, 0, none⟩ (.int .i64 N')) b2 b4 N' T vT :=
  ⟨h.k2.far (p := ⟨b4, 0, none⟩) h.ne _, by simpa using h.k4.set_ 0 (.int .i64 N'), own_alloc_st h.rT h.k4 (by decide), h.bel.setCell h.l4 _, h.l2, h.l4, h.ne⟩
end
theorem fitsS_n {N : Int} {T : List Tr} (h : fitsS N T = true) : 0 ≤ N ∧ N ≤ 4096 ∧ T.length ≤ 8192 := by
  unfold fitsS at h
  rw [Bool.and_eq_true] at h
  exact of_decide_eq_true h.1
theorem fitsS_t {N : Int} {T : List Tr} (h : fitsS N T = true) : ∀ t ∈ T, fitsM t N := by
  unfold fitsS at h
  rw [Bool.and_eq_true, Bool.not_eq_true', List.any_eq_false] at h
  intro t ht
  have := h.2 t ht
  simpa using this
set_option maxRecDepth 100000 in
set_option maxHeartbeats 4000000 in
theorem join_any (v : Value) (l : List (Int × List Tr)) (w : World) (hv : SoupsRd w v l) (hl : l.length ≤ 100000) (hfit : ∀ x ∈ l, fitsS x.1 x.2 = true) (h1 : (joinM l).1 ≤ 4096) (h2 : (joinM l).2.length ≤ 8192) :
    Calls Try.prog 10 #[v] w fun e w' => ∃ vT, e = .returned (.tuple #[.agg #[.int .i64 (joinM l).1, vT], .int .i64 0]) ∧ w'.ownsRow w.heap.size 61 3 vT (joinM l).2.length (ws3 (joinM l).2) ∧ Below w.heap.size w w' := by
  have HV := Lib.hid (fun (W : World) (hW : Below w.heap.size w W) => hv.below hW)
  have HV0 := Lib.hid hv
  obtain ⟨aL, cL, rfl, hrd⟩ := hv
  obtain ⟨n, hn⟩ : ∃ n, l.length = n := ⟨_, rfl⟩
  obtain ⟨i0, hi, hz0, hz1, hz2⟩ := info_parts infoTriJ
  have HFt := Lib.hid (fun (k : Nat) (N : Int) (T : List Tr) (hk : l[k]? = some (N, T)) => hfit _ (List.mem_of_getElem? hk))
  have HBd := Lib.hid (fun k => joinM_bd (l := l) (fun x hx => (fitsS_n (hfit x hx)).1) k)
  have HNn := Lib.hid (fun k => joinM_nn (l := l.take k) (fun x hx => (fitsS_n (hfit x (List.mem_of_mem_take hx))).1))
  have hI0 : JnSt w ((w.alloc (.cells #[.int .i64 0, .slice none 0 0] 24)).alloc (.cells #[.int .i64 0, .slice none 0 0] 24)) w.heap.size (w.heap.size + 1) 0 [] (.slice none 0 0) :=
    ⟨(Blk.new w _ _).alloc _, blk_new_at (by simp), World.ownsRow_nil _ _ _ _, ((Below.refl _ _).alloc (Nat.le_refl _) _).alloc (by simp) _, Nat.le_refl _, by omega, by omega⟩
  have HI0 := Lib.hid hI0
  have Hn := Lib.hid hn
  rw [hn] at hl ⊢
  clear hI0 hrd hfit hn
  go_enter Try.func10, Try.ntmps10
  go_wp2
  go_loopw [13] (fun i wr => ∃ k : Nat, k ≤ n ∧ i = .int .i64 k ∧ JnSt w wr w.heap.size (w.heap.size + 1) 0 [] (.slice none 0 0)) (fun i _ => n - (intOf i).toNat)
  case atStart => exact ⟨0, Nat.zero_le _, rfl, HI0.out⟩
  case round =>
    rename World => wr
    obtain ⟨k, hk, rfl, hI⟩ := hrel
    by_cases hlt : k < n
    · have hkl : k < l.length := by rw [Hn.out]; exact hlt
      obtain ⟨⟨N, T⟩, hx⟩ : ∃ x, l[k]? = some x := ⟨l[k], List.getElem?_eq_getElem hkl⟩
      have hv := HV.out wr hI.bel
      obtain ⟨a', c', e', hr⟩ := hv
      rw [Hn.out] at e'
      cases e'
      obtain ⟨b, o, vT, rfl, hb, s0, s1, hT⟩ := hr k N T hx
      have hf := HFt.out k N T hx
      have HTr := Lib.hid (fun (W : World) (hW : Below wr.heap.size wr W) => (soupFits_any N vT T W (hT.below hW) (by have := fitsS_n hf; omega)).mono (fun e w' h => by rw [hf] at h; exact h))
      obtain ⟨aT, cT, rfl, -⟩ := id hT
      have HI := Lib.hid hI
      have hki : (k : Int) < (n : Int) := by omega
      have HBa := Lib.hid ((Below.refl wr.heap.size wr).alloc (Nat.le_refl _) (.cells #[.int .i64 N, .slice aT T.length cT] 24))
      clear hI hT hr hf hx hkl
      go_upto_region 7 with (go_at_call 29; go_loud (refine (HTr.out _ HBa.out).mono ?_; rintro e wF ⟨rfl, hbF⟩))
      have HI' := Lib.hid ((HI.out.alloc (.cells #[.int .i64 N, .slice aT T.length cT] 24)).below hbF)
      clear hbF
      go_wp2
      go_roundw
      case measure => simp [intOf]; omega
      case rel => exact ⟨k + 1, by omega, by go_num, HI'.out⟩
    · obtain rfl : n = k := by omega
      have HI1 := Lib.hid hI
      clear hI
      go_wp2
      go_loopw [24] (fun i wr => ∃ k : Nat, k ≤ n ∧ i = .int .i64 k ∧ ∃ vT, JnSt w wr w.heap.size (w.heap.size + 1) (joinM (l.take k)).1 (joinM (l.take k)).2 vT) (fun i _ => n - (intOf i).toNat)
      case atStart => exact ⟨0, Nat.zero_le _, rfl, _, HI1.out⟩
      case round =>
        rename World => wr
        obtain ⟨k, hk, rfl, vS, hI⟩ := hrel
        by_cases hlt : k < n
        · have hkl : k < l.length := by rw [Hn.out]; exact hlt
          obtain ⟨⟨N, T⟩, hx⟩ : ∃ x, l[k]? = some x := ⟨l[k], List.getElem?_eq_getElem hkl⟩
          obtain ⟨a', c', e', hr⟩ := HV0.out
          rw [Hn.out] at e'
          cases e'
          obtain ⟨b, o, vT, rfl, hbw, s0w, s1w, hTw⟩ := hr k N T hx
          have s0 := (hI.bel.cell (p := ⟨b, o + k * 2, none⟩) hbw).trans s0w
          have s1 := (hI.bel.cell (p := ⟨b, o + k * 2 + 1, none⟩) hbw).trans s1w
          have HFm := Lib.hid (fitsS_t (HFt.out k N T hx))
          have hb := Nat.lt_of_lt_of_le hbw hI.bel.size
          clear s0w s1w
          have HS1 := Lib.hid (joinM_take hx)
          have hb1 := HBd.out (k + 1)
          have hn1 := HNn.out k
          rw [HS1.out] at hb1
          obtain ⟨SN, hSN⟩ : ∃ SN, (joinM (l.take k)).1 = SN := ⟨_, rfl⟩
          obtain ⟨ST, hST⟩ : ∃ ST, (joinM (l.take k)).2 = ST := ⟨_, rfl⟩
          have hJ : joinS (joinM (l.take k)) (N, T) = (SN + N, ST ++ T.map (shT SN)) := by unfold joinS; rw [hSN, hST]
          rw [hJ] at hb1
          rw [hSN, hST] at hI
          rw [hSN] at hn1
          have HJ := Lib.hid hJ
          have hf := fitsS_n (HFt.out k N T hx)
          obtain ⟨aT, cT, rfl, hcT, hcT2, -⟩ := id hTw
          obtain ⟨aS, cS, rfl⟩ := ownsRow_slice hI.rT
          obtain ⟨nT, hnT⟩ : ∃ nT, T.length = nT := ⟨_, rfl⟩
          obtain ⟨nS, hnS⟩ : ∃ nS, ST.length = nS := ⟨_, rfl⟩
          have hlen : nS + nT ≤ 8192 ∧ SN + N ≤ 4096 := by
            have e1 : (ST ++ T.map (shT SN)).length = nS + nT := by simp [hnS, hnT]
            simp only [e1] at hb1
            omega
          have HRd := Lib.hid (fun (W : World) (hW : Below w.heap.size w W) => hTw.below hW)
          rw [hnT] at s1 HRd hcT
          rw [hnS] at hI
          have d1 : decide (4096 < SN + N) = false := by simp; omega
          have d2 : decide ((8192 : Int) < (nS : Int) + (nT : Int)) = false := by simp; omega
          have HI := Lib.hid hI
          obtain ⟨l4, y0, f0, y1, f1⟩ := hI.k4.two
          have hki : (k : Int) < (n : Int) := by omega
          have HnT := Lib.hid hnT
          have HnS := Lib.hid hnS
          obtain ⟨hle1, hle2⟩ := hlen
          have hN0 := hf.1
          have hzr := hI.bel.size
          have hB : Blk (wr.alloc (.cells #[.int .i64 N, .slice aT nT cT] 24)) wr.heap.size 24 #[.int .i64 N, .slice aT nT cT] := Blk.new _ _ _
          have HB8 := Lib.hid hB
          clear hI hTw hr hx hkl hJ hb1 hf hnT hnS hSN hST hB
          go_upto_region 13 with fail
          have HIa := Lib.hid (HI.out.alloc (.cells #[.int .i64 N, .slice aT nT cT] 24))
          obtain ⟨q, hq⟩ : ∃ q, wr.heap.size = q := ⟨_, rfl⟩
          have hq4 : q ≠ w.heap.size + 1 := by omega
          rw [hq] at HB8 ⊢
          generalize hWa : wr.alloc (.cells #[.int .i64 N, .slice aT nT cT] 24) = wa at *
          clear hWa y0 f0 y1 f1 s0 s1
          obtain ⟨lq, x0, g0, x1, g1⟩ := HB8.out.two
          go_wp2
          clear x0 g0 x1 g1
          go_loopw [48] (fun i wx => ∃ j : Nat, j ≤ nT ∧ i = .int .i64 j ∧ ∃ vS, JnSt w wx w.heap.size (w.heap.size + 1) SN (ST ++ (T.take j).map (shT SN)) vS ∧ Blk wx q 24 #[.int .i64 N, .slice aT nT cT]) (fun i _ => nT - (intOf i).toNat)
          case atStart => exact ⟨0, Nat.zero_le _, rfl, _, by simpa using HIa.out, HB8.out⟩
          case round =>
            rename World => wx
            obtain ⟨j, hj, rfl, vS', hI', hb8⟩ := hrel
            by_cases hlj : j < nT
            · have hjT : j < T.length := by rw [HnT.out]; exact hlj
              obtain ⟨⟨px, py, pz⟩, hp⟩ : ∃ t, T[j]? = some t := ⟨T[j], List.getElem?_eq_getElem hjT⟩
              have hrd := HRd.out wx hI'.bel
              obtain ⟨a', c', e', -, -, hr⟩ := hrd
              rw [HnT.out] at e'
              cases e'
              obtain ⟨bT, oT, rfl, hbT, s0, s1, s2⟩ := hr j px py pz hp
              obtain ⟨⟨p0, p1⟩, ⟨p2, p3⟩, ⟨p4, p5⟩, -⟩ := HFm.out _ (List.mem_of_getElem? hp)
              simp only at p0 p1 p2 p3 p4 p5
              obtain ⟨S9, hS9⟩ : ∃ S9, ST ++ (T.take j).map (shT SN) = S9 := ⟨_, rfl⟩
              have hl9 : S9.length ≤ 8191 := by
                rw [← hS9, List.length_append, List.length_map, List.length_take, HnS.out]
                omega
              have HS9 := Lib.hid (show ST ++ (T.take (j + 1)).map (shT SN) = S9 ++ [(px + SN, py + SN, pz + SN)] from by
                rw [← hS9, List.take_succ_eq_append_getElem hjT, List.map_append, ← List.append_assoc]
                congr 1
                have : T[j] = (px, py, pz) := by rw [List.getElem?_eq_getElem hjT] at hp; exact Option.some.inj hp
                rw [this]
                rfl)
              rw [hS9] at hI'
              have hzx := hI'.bel.size
              obtain ⟨l4', y0, f0, y1, f1⟩ := hI'.k4.two
              have HI' := Lib.hid hI'
              have HB9 := Lib.hid hb8
              have c9 : S9.length + 1 ≤ maxLen := by unfold maxLen; omega
              have c8 : (S9.length + 1) * 24 ≤ 140737488355328 := by omega
              have hlj9 : (j : Int) < (nT : Int) := by omega
              clear hI' hb8 hS9 hr hp hjT
              go_upto_region 17 with (at_builtin; go_loud (refine wpList_append_lies _ rfl (.tmp 53) (.tmp 70) 22 rfl w.heap.size 61 i0 _ 3 24 Try.underlying22 hi hz0 hz1 hz2 rfl (by decide) vS' S9.length (ws3 S9) rfl ((HI'.out.alloc (.cells #[.int .i64 px, .int .i64 py, .int .i64 pz] 61)).alloc (.cells #[.int .i64 (px + SN), .int .i64 (py + SN), .int .i64 (pz + SN)] 61)).rT ⟨wx.heap.size + 1, 0, none⟩ 1 1 [.int .i64 (px + SN), .int .i64 (py + SN), .int .i64 (pz + SN)] rfl rfl (World.news_of_block (blk_new_at (by simp))) (by simp [Value.oneCell']) (by decide) c9 c8 (by simp; omega) (wx.heap.size + 1 + 1) (by simp) ?_); go_loud (intro g8 cap8 W8 hr8 hg8 hat8 hlt8; have h9 := ((HI'.out.alloc (.cells #[.int .i64 px, .int .i64 py, .int .i64 pz] 61)).alloc (.cells #[.int .i64 (px + SN), .int .i64 (py + SN), .int .i64 (pz + SN)] 61)).app hg8 (T4 := S9 ++ [(px + SN, py + SN, pz + SN)]) (v4 := .slice (some ⟨g8, 0, none⟩) (S9.length + 1) cap8) (by rw [ws3_snoc, List.length_append]; exact hr8); have hq8 := ((HB9.out.alloc (.cells #[.int .i64 px, .int .i64 py, .int .i64 pz] 61)).alloc (.cells #[.int .i64 (px + SN), .int .i64 (py + SN), .int .i64 (pz + SN)] 61)).grown hg8 (fun e => own_blk_ne ((HI'.out.alloc (.cells #[.int .i64 px, .int .i64 py, .int .i64 pz] 61)).alloc (.cells #[.int .i64 (px + SN), .int .i64 (py + SN), .int .i64 (pz + SN)] 61)).rT ((HB9.out.alloc _).alloc _) (by decide) e.symm); obtain ⟨lx8, z0, q0, z1, q1⟩ := h9.1.two; have HF8 := Lib.hid h9.2; have HQ8 := Lib.hid (hq8.far (p := ⟨w.heap.size + 1, 1, none⟩) hq4 (.slice (some ⟨g8, 0, none⟩) (S9.length + 1) cap8)); clear hr8 hg8 hat8 hlt8 h9 hq8))
              go_wp2
              go_roundw
              case measure => simp [intOf]; omega
              case rel => exact ⟨j + 1, by omega, by go_num, _, by rw [HS9.out]; exact HF8.out, HQ8.out⟩
            · obtain rfl : j = nT := by omega
              have hI2 := (show JnSt w wx w.heap.size (w.heap.size + 1) SN (ST ++ T.map (shT SN)) vS' from by
                rw [List.take_of_length_le (by rw [HnT.out]; exact Nat.le_refl _)] at hI'
                exact hI')
              have hb2 := hb8
              clear hI' hb8
              obtain ⟨l4', y0, f0, y1, f1⟩ := hI2.k4.two
              obtain ⟨lq', x0', g0', x1', g1'⟩ := hb2.two
              have HI2 := Lib.hid (hI2.setN (N' := SN + N))
              clear hI2 hb2 HIa HB8 HI HRd
              go_wp2
              go_roundw
              case measure => simp [intOf]; omega
              case rel => exact ⟨k + 1, by omega, by go_num, _, by rw [HS1.out, HJ.out]; exact HI2.out⟩
        · obtain rfl : k = n := by omega
          have hI : JnSt w wr w.heap.size (w.heap.size + 1) (joinM l).1 (joinM l).2 vS := by
            rw [List.take_of_length_le (by rw [Hn.out]; exact Nat.le_refl _)] at hI
            exact hI
          obtain ⟨aS, cS, rfl⟩ := ownsRow_slice hI.rT
          have HI := Lib.hid hI
          obtain ⟨l4, y0, f0, y1, f1⟩ := hI.k4.two
          obtain ⟨l2, z0, q0, z1, q1⟩ := hI.k2.two
          have hB2 := (hI.k2.set_ 0 (.int .i64 (joinM l).1)).set_ 1 (.slice aS (joinM l).2.length cS)
          have HF := Lib.hid (And.intro (show Blk _ w.heap.size 24 #[.int .i64 (joinM l).1, .slice aS (joinM l).2.length cS] from by simpa using hB2) (And.intro (own_alloc_st (i := 1) (u := .slice aS (joinM l).2.length cS) (own_alloc_st (i := 0) (u := .int .i64 (joinM l).1) hI.rT hI.k2 (by decide)) (hI.k2.set_ 0 (.int .i64 (joinM l).1)) (by decide)) ((hI.bel.setCell (p := ⟨w.heap.size, 0, none⟩) (Nat.le_refl _) (.int .i64 (joinM l).1)).setCell (p := ⟨w.heap.size, 1, none⟩) (Nat.le_refl _) (.slice aS (joinM l).2.length cS))))
          clear hI hB2
          go_wp2
          obtain ⟨hb2, hr2, hbel⟩ := HF.out
          obtain ⟨-, p0, -, p1, -⟩ := hb2.two
          refine bodyPost_ret (v := .tuple #[.agg #[.int .i64 (joinM l).1, .slice aS (joinM l).2.length cS], .int .i64 0]) (by simp [results, Try.results10, go_sem, p0, p1]) rfl ?_
          exact ⟨_, rfl, hr2, hbel⟩
end Go.Proofs.Ytpnkhgjjlionnaa
namespace Go.Proofs.Ytpnkhgjjlionnaa
open Go.RowKit Go.Sort

def encO : Option RcV → List Value
  | none => [.slice none 0 0, .int .i64 0, .slice none 0 0, .slice none 0 0, .slice none 0 0, .slice none 0 0]
  | some x => x.enc
theorem encO_len (o : Option RcV) : (encO o).length = 6 := by cases o <;> rfl
theorem made_rc (n : Nat) : (madeCells (Value.agg #[.slice none 0 0, .int .i64 0, .slice none 0 0, .slice none 0 0, .slice none 0 0, .slice none 0 0]).cells (n * 6)).toList = (List.replicate n (none : Option RcV)).flatMap encO := by
  apply List.ext_getElem?
  intro j
  by_cases hj : j < n * 6
  · rw [flatMap_at encO_len (by decide) _ j (by simpa using hj)]
    have h3 : j / 6 < n := by omega
    have e : (List.replicate n (none : Option RcV))[j / 6]! = none := by rw [getElem!_pos _ _ (by simpa using h3)]; simp
    rw [e]
    have hz : (Value.agg #[.slice none 0 0, .int .i64 0, .slice none 0 0, .slice none 0 0, .slice none 0 0, .slice none 0 0]).cells = #[.slice none 0 0, .int .i64 0, .slice none 0 0, .slice none 0 0, .slice none 0 0, .slice none 0 0] := rfl
    rw [hz]
    unfold madeCells
    simp only [Array.getElem?_toList, Array.getElem?_map, Array.getElem?_range, hj, if_true, Option.map_some]
    show some (_[j % 6]!) = _
    rcases (by omega : j % 6 = 0 ∨ j % 6 = 1 ∨ j % 6 = 2 ∨ j % 6 = 3 ∨ j % 6 = 4 ∨ j % 6 = 5) with e | e | e | e | e | e <;> rw [e] <;> rfl
  · rw [List.getElem?_eq_none (by rw [Array.length_toList, size_madeCells]; omega), List.getElem?_eq_none (by rw [flatMap_len encO_len]; simp; omega)]
/-- Six cells behind one another are stored. -/
def set6a (w : World) (b i : Nat) (y0 y1 y2 y3 y4 y5 : Value) : World := (((((w.setCell ⟨b, i, none⟩ y0).setCell ⟨b, i + 1, none⟩ y1).setCell ⟨b, i + 2, none⟩ y2).setCell ⟨b, i + 3, none⟩ y3).setCell ⟨b, i + 4, none⟩ y4).setCell ⟨b, i + 5, none⟩ y5
theorem flat_set {xs : List (Option RcV)} {n : Nat} (hn : n < xs.length) (x : RcV) :
    ((((((xs.flatMap encO).set (n * 6) x.vR).set (n * 6 + 1) (.int .i64 x.N)).set (n * 6 + 2) x.vT).set (n * 6 + 3) x.vP).set (n * 6 + 4) x.vK).set (n * 6 + 5) x.vO = (xs.set n (some x)).flatMap encO := by
  obtain ⟨a, ha⟩ : ∃ a, xs[n] = a := ⟨_, rfl⟩
  have e1 : xs = xs.take n ++ a :: xs.drop (n + 1) := by
    rw [← ha, List.getElem_cons_drop, List.take_append_drop]
  have e2 : xs.set n (some x) = xs.take n ++ some x :: xs.drop (n + 1) := by rw [List.set_eq_take_append_cons_drop, if_pos hn]
  have hA : ((xs.take n).flatMap encO).length = n * 6 := by rw [flatMap_len encO_len, List.length_take]; congr 1; omega
  rw [e2]
  conv => lhs; rw [e1]
  simp only [List.flatMap_append, List.flatMap_cons]
  generalize (xs.take n).flatMap encO = A at *
  generalize (xs.drop (n + 1)).flatMap encO = B at *
  obtain ⟨a0, a1, a2, a3, a4, a5, he⟩ : ∃ a0 a1 a2 a3 a4 a5, encO a = [a0, a1, a2, a3, a4, a5] := by
    cases a with
    | none => exact ⟨_, _, _, _, _, _, rfl⟩
    | some y => exact ⟨_, _, _, _, _, _, rfl⟩
  rw [he, ← hA]
  have hx : encO (some x) = [x.vR, .int .i64 x.N, x.vT, x.vP, x.vK, x.vO] := rfl
  rw [hx]
  rw [List.set_append_right _ _ (by omega), List.set_append_right _ _ (by omega), List.set_append_right _ _ (by omega), List.set_append_right _ _ (by omega), List.set_append_right _ _ (by omega), List.set_append_right _ _ (by omega)]
  simp [Nat.add_sub_cancel_left]
theorem blk_set6a {W : World} {b : Nat} {xs : List (Option RcV)} (h : Blk W b 142 (xs.flatMap encO).toArray) {n : Nat} (hn : n < xs.length) (x : RcV) : Blk (set6a W b (n * 6) x.vR (.int .i64 x.N) x.vT x.vP x.vK x.vO) b 142 ((xs.set n (some x)).flatMap encO).toArray := by
  have h2 := (((((h.set_ (n * 6) x.vR).set_ (n * 6 + 1) (.int .i64 x.N)).set_ (n * 6 + 2) x.vT).set_ (n * 6 + 3) x.vP).set_ (n * 6 + 4) x.vK).set_ (n * 6 + 5) x.vO
  rw [← flat_set hn x]
  unfold set6a
  simpa using h2
theorem grown_set6a (W : World) (b i : Nat) (y0 y1 y2 y3 y4 y5 : Value) : W.grownBy (set6a W b i y0 y1 y2 y3 y4 y5) (some b) :=
  gStR (gStR (gStR (gStR (gStR (gStR (World.grownBy.refl _ _))))))
/-- Records, some of them none yet. -/
def BestO (W : World) (base b : Nat) (l : List (Option RecM)) : Prop := ∃ xs : List (Option RcV), xs.map (Option.map (·.m)) = l ∧ (∀ x, some x ∈ xs → RecOwn W base x.enc.toArray x.m) ∧ Blk W b 142 (xs.flatMap encO).toArray
structure StF (w1 W : World) (b : Nat) (vO : Value) (out : List Int) (l : List (Option RecM)) : Prop where
  best : BestO W w1.heap.size b l
  row : W.ownsRow w1.heap.size 3 1 vO out.length (intsV out)
  bel : Below w1.heap.size w1 W
  le : w1.heap.size ≤ b
section
variable {w1 W W' : World} {b : Nat} {vO : Value} {out : List Int} {l : List (Option RecM)}
theorem StF.below (h : StF w1 W b vO out l) (hb : Below W.heap.size W W') : StF w1 W' b vO out l := by
  obtain ⟨xs, h1, h2, h3⟩ := h.best
  exact ⟨⟨xs, h1, fun x hx => (h2 x hx).below hb, h3.below hb h3.lt⟩, own_below h.row hb, h.bel.trans (hb.mono h.bel.size), h.le⟩
theorem StF.put (h : StF w1 W b vO out l) {n : Nat} (hn : n < l.length) {x : RcV} (hx : RecOwn W w1.heap.size x.enc.toArray x.m) : StF w1 (set6a W b (n * 6) x.vR (.int .i64 x.N) x.vT x.vP x.vK x.vO) b vO out (l.set n (some x.m)) := by
  obtain ⟨xs, h1, h2, h3⟩ := h.best
  have hl : n < xs.length := by rw [← h1] at hn; simpa using hn
  have hg := grown_set6a W b (n * 6) x.vR (.int .i64 x.N) x.vT x.vP x.vK x.vO
  refine ⟨⟨xs.set n (some x), ?_, ?_, blk_set6a h3 hl x⟩, h.row.kept hg (.inr (own_blk_ne h.row h3 (by decide))), h.bel.grown hg h.bel.size (fun j e => by cases e; exact h.le), h.le⟩
  · rw [List.map_set, h1]
    rfl
  · intro y hy
    rcases List.mem_or_eq_of_mem_set hy with hy | hy
    · exact (h2 y hy).kept h3 hg
    · rw [Option.some.inj hy]
      exact hx.kept h3 hg
/-- What is read of the n-th: its row; its cells can be written. -/
theorem StF.get (h : StF w1 W b vO out l) {n : Nat} {o : Option RecM} (hn : l[n]? = some o) : (∀ i, W.frozen? ⟨b, i, none⟩ = false) ∧ (∀ i, i < 6 → ∃ u, W.cell? ⟨b, n * 6 + i, none⟩ = some u) ∧ (match o with
    | none => W.cell? ⟨b, n * 6, none⟩ = some (.slice none 0 0)
    | some r => ∃ a c, W.cell? ⟨b, n * 6, none⟩ = some (.slice a r.row.length c) ∧ W.ownsRow w1.heap.size 3 1 (.slice a r.row.length c) r.row.length (intsV r.row)) := by
  obtain ⟨xs, h1, h2, h3⟩ := h.best
  rw [← h1, List.getElem?_map] at hn
  obtain ⟨y, hy, hyo⟩ := Option.map_eq_some_iff.1 hn
  have hl : n < xs.length := (List.getElem?_eq_some_iff.1 hy).1
  have hc : ∀ i, i < 6 → W.cell? ⟨b, n * 6 + i, none⟩ = some (encO y)[i]! := by
    intro i hi
    rw [h3.cell]
    rw [List.getElem?_toArray, flatMap_at encO_len (by decide) xs (n * 6 + i) (by omega)]
    have e1 : (n * 6 + i) / 6 = n := by omega
    have e2 : (n * 6 + i) % 6 = i := by omega
    rw [e1, e2, getElem!_pos xs n hl]
    rw [List.getElem?_eq_getElem hl] at hy
    rw [Option.some.inj hy]
  refine ⟨fun i => h3.frozen i, fun i hi => ⟨_, hc i hi⟩, ?_⟩
  subst hyo
  have h0 := hc 0 (by decide)
  rw [Nat.add_zero] at h0
  cases y with
  | none => exact h0
  | some x =>
    obtain ⟨vR, vT, vP, vK, vO', e, g1, -⟩ := h2 x (List.mem_of_getElem? hy)
    obtain ⟨a, c, rfl⟩ := ownsRow_slice g1
    have e2 : x.enc = [.slice a x.m.row.length c, .int .i64 x.m.N, vT, vP, vK, vO'] := by simpa using congrArg Array.toList e
    refine ⟨a, c, ?_, g1⟩
    rw [h0]
    show some ((x.enc)[0]!) = _
    rw [e2]
    rfl
theorem StF.all (h : StF w1 W b vO out l) {rs : List RecM} (hl : l = rs.map some) (hm : rs.length * 6 ≤ maxLen) : Recs W w1.heap.size b rs := by
  obtain ⟨xs, h1, h2, h3⟩ := h.best
  subst hl
  have key : ∀ (xs : List (Option RcV)) (rs : List RecM), xs.map (Option.map (·.m)) = rs.map some → ∃ ys : List RcV, xs = ys.map some ∧ ys.map (·.m) = rs := by
    intro xs
    induction xs with
    | nil =>
      intro rs e
      cases rs with
      | nil => exact ⟨[], rfl, rfl⟩
      | cons r s => simp at e
    | cons a t ih =>
      intro rs e
      cases rs with
      | nil => simp at e
      | cons r s =>
        simp only [List.map_cons, List.cons.injEq] at e
        obtain ⟨ys, e1, e2⟩ := ih s e.2
        obtain ⟨x, hx, hx2⟩ := Option.map_eq_some_iff.1 e.1
        exact ⟨x :: ys, by rw [hx, e1]; rfl, by rw [List.map_cons, hx2, e2]⟩
  obtain ⟨ys, rfl, e2⟩ := key xs rs h1
  refine ⟨h.le, hm, ys, e2, fun x hx => h2 x (List.mem_map.2 ⟨x, hx, rfl⟩), ?_⟩
  rw [List.flatMap_map] at h3
  exact h3
end
theorem StF.first {w1 W : World} {b m : Nat} {vO : Value} {out : List Int} (hb : W.ownsRow w1.heap.size 142 6 (.slice (some ⟨b, 0, none⟩) m m) m ((List.replicate m (none : Option RcV)).flatMap encO)) (hr : W.ownsRow w1.heap.size 3 1 vO out.length (intsV out)) (hbel : Below w1.heap.size w1 W) : StF w1 W b vO out (List.replicate m none) :=
  ⟨⟨List.replicate m none, by simp, fun x hx => absurd (List.eq_of_mem_replicate hx) (by simp), owns_blk hb⟩, hr, hbel, (hb.lt b rfl).1⟩

/-- While it appends: the body's block, the soups, the paint, the sides, the old numbers. -/
structure AcF (w5 W : World) (bx : Nat) (ys : List RcV) (P : List Tr) (K O : List Int) (vA vP vK vO : Value) : Prop where
  kx : Blk W bx 98 #[.int .i64 0, .slice none 0 0, vP, vK]
  rA : W.ownsRow w5.heap.size 24 2 vA ys.length (ys.flatMap fun x => [.int .i64 x.N, x.vT])
  rP : W.ownsRow w5.heap.size 162 3 vP P.length (ws3 P)
  rK : W.ownsRow w5.heap.size 3 1 vK K.length (intsV K)
  rO : W.ownsRow w5.heap.size 3 1 vO O.length (intsV O)
  ne : ∀ j, vK.ownBlock = some j → vO.ownBlock ≠ some j
  bel : Below w5.heap.size w5 W
  le : w5.heap.size ≤ bx
section
variable {w5 W W' w4 : World} {bx : Nat} {ys : List RcV} {P : List Tr} {K O : List Int} {vA vP vK vO v4 : Value}
theorem AcF.below (h : AcF w5 W bx ys P K O vA vP vK vO) (hb : Below W.heap.size W W') : AcF w5 W' bx ys P K O vA vP vK vO :=
  ⟨h.kx.below hb h.kx.lt, own_below h.rA hb, own_below h.rP hb, own_below h.rK hb, own_below h.rO hb, h.ne, h.bel.trans (hb.mono h.bel.size), h.le⟩
theorem AcF.alloc (h : AcF w5 W bx ys P K O vA vP vK vO) (o : Obj) : AcF w5 (W.alloc o) bx ys P K O vA vP vK vO := h.below ((Below.refl _ _).alloc (Nat.le_refl _) _)
theorem AcF.appA (h : AcF w5 W bx ys P K O vA vP vK vO) (hg : W.grownBy w4 vA.ownBlock) {ys4 : List RcV} (hr : w4.ownsRow w5.heap.size 24 2 v4 ys4.length (ys4.flatMap fun x => [.int .i64 x.N, x.vT])) : AcF w5 w4 bx ys4 P K O v4 vP vK vO :=
  ⟨h.kx.grown hg (fun e => own_blk_ne h.rA h.kx (by decide) e.symm), hr, h.rP.kept hg (own_own_ne h.rP h.rA (by decide)), h.rK.kept hg (own_own_ne h.rK h.rA (by decide)), h.rO.kept hg (own_own_ne h.rO h.rA (by decide)), h.ne, h.bel.grown hg h.bel.size (fun j e => (h.rA.lt j e).1), h.le⟩
theorem AcF.appP (h : AcF w5 W bx ys P K O vA vP vK vO) (hg : W.grownBy w4 vP.ownBlock) {P4 : List Tr} (hr : w4.ownsRow w5.heap.size 162 3 v4 P4.length (ws3 P4)) :
    Blk w4 bx 98 #[.int .i64 0, .slice none 0 0, vP, vK] ∧ AcF w5 (w4.setCell ⟨bx, 2, none⟩ v4) bx ys P4 K O vA v4 vK vO := by
  have c := h.kx.grown hg (fun e => own_blk_ne h.rP h.kx (by decide) e.symm)
  have hS : w4.grownBy (w4.setCell ⟨bx, 2, none⟩ v4) (some bx) := gStR (World.grownBy.refl _ _)
  have a4 := h.rA.kept hg (own_own_ne h.rA h.rP (by decide))
  have k4 := h.rK.kept hg (own_own_ne h.rK h.rP (by decide))
  have o4 := h.rO.kept hg (own_own_ne h.rO h.rP (by decide))
  exact ⟨c, ⟨by simpa using c.set_ 2 v4, a4.kept hS (.inr (own_blk_ne a4 c (by decide))), hr.kept hS (.inr (own_blk_ne hr c (by decide))), k4.kept hS (.inr (own_blk_ne k4 c (by decide))), o4.kept hS (.inr (own_blk_ne o4 c (by decide))), h.ne, (h.bel.grown hg h.bel.size (fun j e => (h.rP.lt j e).1)).setCell h.le _, h.le⟩⟩
theorem AcF.appK (h : AcF w5 W bx ys P K O vA vP vK vO) (hg : W.grownBy w4 vK.ownBlock) {K4 : List Int} (hr : w4.ownsRow w5.heap.size 3 1 v4 K4.length (intsV K4)) (hat : v4.ownBlock = vK.ownBlock ∨ v4.ownBlock = some W.heap.size) :
    Blk w4 bx 98 #[.int .i64 0, .slice none 0 0, vP, vK] ∧ AcF w5 (w4.setCell ⟨bx, 3, none⟩ v4) bx ys P K4 O vA vP v4 vO := by
  have c := h.kx.grown hg (fun e => own_blk_ne h.rK h.kx (by decide) e.symm)
  have hS : w4.grownBy (w4.setCell ⟨bx, 3, none⟩ v4) (some bx) := gStR (World.grownBy.refl _ _)
  have a4 := h.rA.kept hg (own_own_ne h.rA h.rK (by decide))
  have p4 := h.rP.kept hg (own_own_ne h.rP h.rK (by decide))
  have o4 := h.rO.kept hg (by
    rcases hO : vO.ownBlock with _ | j
    · exact .inl rfl
    · exact .inr (fun e => h.ne j e.symm hO))
  refine ⟨c, ⟨by simpa using c.set_ 3 v4, a4.kept hS (.inr (own_blk_ne a4 c (by decide))), p4.kept hS (.inr (own_blk_ne p4 c (by decide))), hr.kept hS (.inr (own_blk_ne hr c (by decide))), o4.kept hS (.inr (own_blk_ne o4 c (by decide))), ?_, (h.bel.grown hg h.bel.size (fun j e => (h.rK.lt j e).1)).setCell h.le _, h.le⟩⟩
  intro j e e2
  rcases hat with h1 | h1
  · exact h.ne j (by rw [← h1]; exact e) e2
  · rw [h1] at e
    cases e
    have := (h.rO.lt _ e2).2
    omega
theorem AcF.appO (h : AcF w5 W bx ys P K O vA vP vK vO) (hg : W.grownBy w4 vO.ownBlock) {O4 : List Int} (hr : w4.ownsRow w5.heap.size 3 1 v4 O4.length (intsV O4)) (hat : v4.ownBlock = vO.ownBlock ∨ v4.ownBlock = some W.heap.size) : AcF w5 w4 bx ys P K O4 vA vP vK v4 := by
  refine ⟨h.kx.grown hg (fun e => own_blk_ne h.rO h.kx (by decide) e.symm), h.rA.kept hg (own_own_ne h.rA h.rO (by decide)), h.rP.kept hg (own_own_ne h.rP h.rO (by decide)), h.rK.kept hg (by
    rcases hK : vK.ownBlock with _ | j
    · exact .inl rfl
    · exact .inr (fun e => h.ne j hK e.symm)), hr, ?_, h.bel.grown hg h.bel.size (fun j e => (h.rO.lt j e).1), h.le⟩
  intro j e e2
  rcases hat with h1 | h1
  · exact h.ne j e (by rw [← h1]; exact e2)
  · rw [h1] at e2
    cases e2
    have := (h.rK.lt _ e).2
    omega
end
end Go.Proofs.Ytpnkhgjjlionnaa
