/-
  Texts joined by program: Eul EulB WkT BrdM Same10 SoupS Fits FitsS FoN FoP RtC.
-/
import Derived.Test.YtghlnknncahkgaaGreatF4
import Derived.Test.YtghlnknncahkgaaGreatF1
import Derived.Test.YtghlnknncahkgaaGreatShelf
import Derived.Deep.RegionWith
/-
  The Euler number of a closed surface whose triangles all turn one way is even: rounds of a permutation, split and joined by exchanges.
-/
namespace Go.Proofs.YtghlnknncahkgaaGreat
namespace Jor

def Rot (π : Nat → Nat) (C : List Nat) : Prop := ∃ c r, C = c :: r ∧ C.map π = r ++ [c]
theorem Rot.turn {π : Nat → Nat} {x y : List Nat} (h : Rot π (x ++ y)) : Rot π (y ++ x) := by
  cases y with
  | nil => simpa using h
  | cons d y' =>
    cases x with
    | nil => simpa using h
    | cons c x' =>
      obtain ⟨c', r, e, hm⟩ := h
      simp only [List.cons_append, List.cons.injEq] at e
      obtain ⟨rfl, rfl⟩ := e
      have hm' : (c :: x').map π ++ (d :: y').map π = (x' ++ [d]) ++ (y' ++ [c]) := by
        rw [← List.map_append]
        simpa using hm
      obtain ⟨h1, h2⟩ := List.append_inj hm' (by simp)
      exact ⟨d, y' ++ c :: x', rfl, by rw [List.map_append, h1, h2]; simp⟩
/-- A round whose last one is a. -/
theorem Rot.last {π : Nat → Nat} {C : List Nat} (h : Rot π C) {a : Nat} (ha : a ∈ C) : ∃ p, Rot π (p ++ [a]) ∧ (p ++ [a]).Perm C := by
  obtain ⟨x, y, rfl⟩ := List.append_of_mem ha
  have h' : Rot π ((x ++ [a]) ++ y) := by simpa using h
  refine ⟨y ++ x, by simpa using h'.turn, ?_⟩
  have : (y ++ (x ++ [a])).Perm ((x ++ [a]) ++ y) := List.perm_append_comm
  simpa using this
/-- Two, one behind the other, at b and at a: apart, where the images of a and b are exchanged. -/
def swp2 (π : Nat → Nat) (a b : Nat) : Nat → Nat := fun x => if x = a then π b else if x = b then π a else π x
theorem swp2_off {π : Nat → Nat} {a b : Nat} {l : List Nat} (ha : a ∉ l) (hb : b ∉ l) : l.map (swp2 π a b) = l.map π := by
  refine List.map_congr_left fun x hx => ?_
  unfold swp2
  rw [if_neg (fun e => ha (by rw [← e]; exact hx)), if_neg (fun e => hb (by rw [← e]; exact hx))]
theorem swp2_a (π : Nat → Nat) (a b : Nat) : swp2 π a b a = π b := by simp [swp2]
theorem swp2_b (π : Nat → Nat) (a b : Nat) : swp2 π a b b = π a := by
  unfold swp2
  by_cases e : b = a
  · rw [if_pos e, e]
  · rw [if_neg e, if_pos rfl]
/-- What a list that ends in a is made of. -/
theorem snoc_head (p : List Nat) (a : Nat) : ∃ c r, p ++ [a] = c :: r := by
  cases p with
  | nil => exact ⟨a, [], rfl⟩
  | cons c r => exact ⟨c, r ++ [a], rfl⟩
theorem Rot.snoc {π : Nat → Nat} {p : List Nat} {a c : Nat} {r : List Nat} (e : p ++ [a] = c :: r) : Rot π (p ++ [a]) ↔ p.map π ++ [π a] = r ++ [c] := by
  constructor
  · rintro ⟨c', r', e', h⟩
    rw [e] at e'
    injection e' with e1 e2
    subst e1
    subst e2
    simpa using h
  · intro h
    exact ⟨c, r, e, by simpa using h⟩
theorem Rot.snoc2 {π : Nat → Nat} {p q : List Nat} {a b c d : Nat} {r s : List Nat} (e : p ++ [a] = c :: r) (f : q ++ [b] = d :: s) : Rot π ((p ++ [a]) ++ (q ++ [b])) ↔ p.map π ++ [π a] = r ++ [d] ∧ q.map π ++ [π b] = s ++ [c] := by
  have hr : p.length = r.length := by have := congrArg List.length e; simpa using this
  constructor
  · rintro ⟨c', r', e', h⟩
    rw [e, f] at e'
    simp only [List.cons_append, List.cons.injEq] at e'
    obtain ⟨rfl, rfl⟩ := e'
    have h' : (p.map π ++ [π a]) ++ (q.map π ++ [π b]) = (r ++ [d]) ++ (s ++ [c]) := by simpa using h
    exact List.append_inj h' (by simp [hr])
  · rintro ⟨h1, h2⟩
    refine ⟨c, r ++ d :: s, by rw [e, f]; rfl, ?_⟩
    have : ((p ++ [a]) ++ (q ++ [b])).map π = (p.map π ++ [π a]) ++ (q.map π ++ [π b]) := by simp
    rw [this, h1, h2]
    simp
theorem Rot.split {π : Nat → Nat} {p q : List Nat} {a b : Nat} (hn : ((p ++ [b]) ++ (q ++ [a])).Nodup) (h : Rot π ((p ++ [b]) ++ (q ++ [a]))) : Rot (swp2 π a b) (p ++ [b]) ∧ Rot (swp2 π a b) (q ++ [a]) := by
  obtain ⟨c, r, e⟩ := snoc_head p b
  obtain ⟨d, s, f⟩ := snoc_head q a
  obtain ⟨h1, h2⟩ := (Rot.snoc2 e f).1 h
  simp only [List.nodup_append, List.mem_append, List.mem_singleton, List.append_assoc] at hn
  have u1 : a ∉ p ∧ b ∉ p ∧ a ∉ q ∧ b ∉ q := by grind
  have hp : p.map π = r := (List.append_inj' h1 rfl).1
  have hb : π b = d := by simpa using (List.append_inj' h1 rfl).2
  have hq : q.map π = s := (List.append_inj' h2 rfl).1
  have ha : π a = c := by simpa using (List.append_inj' h2 rfl).2
  refine ⟨(Rot.snoc e).2 ?_, (Rot.snoc f).2 ?_⟩
  · rw [swp2_off u1.1 u1.2.1, swp2_b, hp, ha]
  · rw [swp2_off u1.2.2.1 u1.2.2.2, swp2_a, hq, hb]
theorem Rot.join {π : Nat → Nat} {p q : List Nat} {a b : Nat} (hn : ((p ++ [a]) ++ (q ++ [b])).Nodup) (h : Rot π (p ++ [a])) (h' : Rot π (q ++ [b])) : Rot (swp2 π a b) ((p ++ [a]) ++ (q ++ [b])) := by
  obtain ⟨c, r, e⟩ := snoc_head p a
  obtain ⟨d, s, f⟩ := snoc_head q b
  have h1 := (Rot.snoc e).1 h
  have h2 := (Rot.snoc f).1 h'
  simp only [List.nodup_append, List.mem_append, List.mem_singleton, List.append_assoc] at hn
  have u1 : a ∉ p ∧ b ∉ p ∧ a ∉ q ∧ b ∉ q := by grind
  have hp : p.map π = r := (List.append_inj' h1 rfl).1
  have ha : π a = c := by simpa using (List.append_inj' h1 rfl).2
  have hq : q.map π = s := (List.append_inj' h2 rfl).1
  have hb : π b = d := by simpa using (List.append_inj' h2 rfl).2
  refine (Rot.snoc2 e f).2 ⟨?_, ?_⟩
  · rw [swp2_off u1.1 u1.2.1, swp2_a, hp, hb]
  · rw [swp2_off u1.2.2.1 u1.2.2.2, swp2_b, hq, ha]
theorem Rot.other {π : Nat → Nat} {C : List Nat} {a b : Nat} (ha : a ∉ C) (hb : b ∉ C) (h : Rot π C) : Rot (swp2 π a b) C := by
  obtain ⟨c, r, e, hm⟩ := h
  exact ⟨c, r, e, by rw [swp2_off ha hb]; exact hm⟩
/-- All rounds of a permutation of the first n. -/
structure Rounds (π : Nat → Nat) (n : Nat) (Cs : List (List Nat)) : Prop where
  rot : ∀ C ∈ Cs, Rot π C
  nd : Cs.flatten.Nodup
  all : ∀ x, x ∈ Cs.flatten ↔ x < n
theorem Rounds.perm {π : Nat → Nat} {n : Nat} {Cs Ds : List (List Nat)} (h : Rounds π n Cs) (rot : ∀ C ∈ Ds, Rot π C) (p : Ds.flatten.Perm Cs.flatten) : Rounds π n Ds :=
  ⟨rot, p.nodup_iff.2 h.nd, fun x => (p.mem_iff).trans (h.all x)⟩
theorem flatten_perm {Cs Ds : List (List Nat)} (h : Cs.Perm Ds) : Cs.flatten.Perm Ds.flatten := by
  induction h with
  | nil => exact List.Perm.refl _
  | cons x _ ih => simpa using ih.append_left x
  | swap x y l =>
    simp only [List.flatten_cons, ← List.append_assoc]
    exact List.Perm.append_right _ List.perm_append_comm
  | trans _ _ i1 i2 => exact i1.trans i2
/-- One round ahead, turned so that a is its last one. -/
theorem Rounds.front {π : Nat → Nat} {n : Nat} {Cs : List (List Nat)} (h : Rounds π n Cs) {a : Nat} (ha : a < n) : ∃ p Ds, Rounds π n ((p ++ [a]) :: Ds) ∧ Ds.length + 1 = Cs.length := by
  obtain ⟨C, hC, haC⟩ := List.mem_flatten.1 ((h.all a).2 ha)
  obtain ⟨s, t, rfl⟩ := List.append_of_mem hC
  obtain ⟨p, hp1, hp2⟩ := (h.rot C hC).last haC
  refine ⟨p, s ++ t, h.perm ?_ ?_, by simp; omega⟩
  · intro X hX
    rcases List.mem_cons.1 hX with rfl | hX
    · exact hp1
    · refine h.rot X ?_
      rcases List.mem_append.1 hX with hX | hX
      · exact List.mem_append_left _ hX
      · exact List.mem_append_right _ (List.mem_cons_of_mem _ hX)
  · have p1 : ((p ++ [a]) :: (s ++ t)).flatten.Perm (C :: (s ++ t)).flatten := by
      simp only [List.flatten_cons]
      exact hp2.append_right _
    exact p1.trans (flatten_perm List.perm_middle.symm)
/-- An exchange splits a round, or joins two. -/
theorem Rounds.swap {π : Nat → Nat} {n : Nat} {Cs : List (List Nat)} (h : Rounds π n Cs) {a b : Nat} (ha : a < n) (hb : b < n) (hab : a ≠ b) : ∃ Ds, Rounds (swp2 π a b) n Ds ∧ (Ds.length + Cs.length) % 2 = 1 := by
  obtain ⟨p, Ds, hD, hl⟩ := h.front ha
  have hnd := hD.nd
  rw [List.flatten_cons] at hnd
  by_cases hbp : b ∈ p
  · obtain ⟨x, y, rfl⟩ := List.append_of_mem hbp
    have hr := hD.rot _ (List.mem_cons_self ..)
    have e1 : (x ++ b :: y) ++ [a] = (x ++ [b]) ++ (y ++ [a]) := by simp
    have hn1 : ((x ++ [b]) ++ (y ++ [a])).Nodup := by rw [← e1]; exact (List.nodup_append.1 hnd).1
    rw [e1] at hr
    obtain ⟨s1, s2⟩ := Rot.split hn1 hr
    refine ⟨(x ++ [b]) :: (y ++ [a]) :: Ds, ⟨?_, ?_, ?_⟩, by simp only [List.length_cons]; omega⟩
    · intro X hX
      rcases List.mem_cons.1 hX with rfl | hX
      · exact s1
      · rcases List.mem_cons.1 hX with rfl | hX
        · exact s2
        · have hx : ∀ z ∈ X, z ∉ (x ++ b :: y) ++ [a] := fun z hz hm => (List.nodup_append.1 hnd).2.2 z hm z (List.mem_flatten.2 ⟨X, hX, hz⟩) rfl
          exact Rot.other (fun m => hx a m (by simp)) (fun m => hx b m (by simp)) (hD.rot X (List.mem_cons_of_mem _ hX))
    · simpa using hnd
    · intro z
      rw [← hD.all z]
      simp
  · have hbD : b ∈ Ds.flatten := by
      have := (hD.all b).2 hb
      rw [List.flatten_cons, List.mem_append, List.mem_append, List.mem_singleton] at this
      rcases this with (h1 | h1) | h1
      · exact absurd h1 hbp
      · exact absurd h1.symm hab
      · exact h1
    obtain ⟨C, hC, hbC⟩ := List.mem_flatten.1 hbD
    obtain ⟨s, t, rfl⟩ := List.append_of_mem hC
    obtain ⟨q, hq1, hq2⟩ := (hD.rot C (List.mem_cons_of_mem _ hC)).last hbC
    have pm : (((p ++ [a]) ++ (q ++ [b])) :: (s ++ t)).flatten.Perm ((p ++ [a]) :: (s ++ C :: t)).flatten := by
      simp only [List.flatten_cons, List.append_assoc]
      refine List.Perm.append_left p (List.Perm.append_left [a] ?_)
      have p1 : (q ++ ([b] ++ (s ++ t).flatten)).Perm (C :: (s ++ t)).flatten := by
        rw [List.flatten_cons, ← List.append_assoc]
        exact hq2.append_right _
      exact p1.trans (flatten_perm List.perm_middle.symm)
    have hnd2 : (((p ++ [a]) ++ (q ++ [b])) :: (s ++ t)).flatten.Nodup := pm.nodup_iff.2 hD.nd
    rw [List.flatten_cons] at hnd2
    refine ⟨((p ++ [a]) ++ (q ++ [b])) :: (s ++ t), ⟨?_, by rw [List.flatten_cons]; exact hnd2, fun z => pm.mem_iff.trans (hD.all z)⟩, by simp only [List.length_cons, List.length_append] at hl ⊢; omega⟩
    intro X hX
    rcases List.mem_cons.1 hX with rfl | hX
    · exact Rot.join (List.nodup_append.1 hnd2).1 (hD.rot _ (List.mem_cons_self ..)) hq1
    · have hx : ∀ z ∈ X, z ∉ (p ++ [a]) ++ (q ++ [b]) := fun z hz hm => (List.nodup_append.1 hnd2).2.2 z hm z (List.mem_flatten.2 ⟨X, hX, hz⟩) rfl
      refine Rot.other (fun m => hx a m (by simp)) (fun m => hx b m (by simp)) (hD.rot X (List.mem_cons_of_mem _ ?_))
      rcases List.mem_append.1 hX with hX | hX
      · exact List.mem_append_left _ hX
      · exact List.mem_append_right _ (List.mem_cons_of_mem _ hX)
theorem Rounds.congr {π ρ : Nat → Nat} {n : Nat} {Cs : List (List Nat)} (h : Rounds π n Cs) (e : ∀ x, x < n → ρ x = π x) : Rounds ρ n Cs :=
  ⟨fun C hC => by
    obtain ⟨c, r, e1, hm⟩ := h.rot C hC
    refine ⟨c, r, e1, ?_⟩
    rw [← hm]
    exact List.map_congr_left fun x hx => e x ((h.all x).1 (List.mem_flatten.2 ⟨C, hC, hx⟩)), h.nd, h.all⟩
end Jor
end Go.Proofs.YtghlnknncahkgaaGreat
/-
  The Euler number of a closed surface whose triangles all turn one way is even.
-/
namespace Go.Proofs.YtghlnknncahkgaaGreat
namespace Jor
section
variable {F N : Nat} {opp vert : Nat → Nat}

theorem faces_rounds : ∀ F, Rounds pv (3 * F) ((List.range F).map fun i => [3 * i, 3 * i + 2, 3 * i + 1]) := by
  intro F
  have all : ∀ F x, x ∈ ((List.range F).map fun i => [3 * i, 3 * i + 2, 3 * i + 1]).flatten ↔ x < 3 * F := by
    intro F x
    simp only [List.mem_flatten, List.mem_map, List.mem_range]
    constructor
    · rintro ⟨_, ⟨i, hi, rfl⟩, hx⟩
      simp only [List.mem_cons, List.not_mem_nil, or_false] at hx
      omega
    · intro h
      refine ⟨_, ⟨x / 3, by omega, rfl⟩, ?_⟩
      simp only [List.mem_cons, List.not_mem_nil, or_false]
      omega
  refine ⟨?_, ?_, all F⟩
  · intro C hC
    obtain ⟨i, hi, rfl⟩ := List.mem_map.1 hC
    refine ⟨_, _, rfl, ?_⟩
    simp only [List.map_cons, List.map_nil, List.cons_append, List.nil_append, List.cons.injEq, and_true]
    unfold pv
    omega
  · induction F with
    | zero => simp
    | succ F ih =>
      rw [List.range_succ, List.map_append, List.flatten_append, List.nodup_append]
      refine ⟨ih, by simp, ?_⟩
      intro a ha b hb
      have := (all F a).1 ha
      simp only [List.map_cons, List.map_nil, List.flatten_cons, List.flatten_nil, List.append_nil, List.mem_cons, List.not_mem_nil, or_false] at hb
      omega
/-- Over some edges one goes on across, over the others one turns back in the triangle. -/
noncomputable def halfway (opp : Nat → Nat) (L : List Nat) : Nat → Nat := fun x => if x ∈ both opp L then pv (opp x) else pv x
theorem halfway_rounds (K : Closed F N opp vert) : ∀ L : List Nat, (∀ c ∈ L, c < 3 * F) → (both opp L).Nodup → ∃ Cs, Rounds (halfway opp L) (3 * F) Cs ∧ (Cs.length + F + L.length) % 2 = 0
  | [], _, _ => ⟨_, (faces_rounds F).congr (fun x _ => by simp [halfway, both]), by simp; omega⟩
  | a :: L, hl, hn => by
    have ha := hl a (List.mem_cons_self ..)
    have hb := K.lt a ha
    have e : both opp (a :: L) = a :: (L ++ opp a :: L.map opp) := by simp [both]
    have hp : (a :: (L ++ opp a :: L.map opp)).Perm (a :: opp a :: both opp L) := List.Perm.cons _ List.perm_middle
    rw [e] at hn
    have hn2 := hp.nodup_iff.1 hn
    simp only [List.nodup_cons, List.mem_cons, not_or] at hn2
    obtain ⟨Cs, h1, h2⟩ := halfway_rounds K L (fun c hc => hl c (List.mem_cons_of_mem _ hc)) hn2.2.2
    obtain ⟨Ds, h3, h4⟩ := h1.swap ha hb hn2.1.1
    refine ⟨Ds, h3.congr ?_, by simp only [List.length_cons]; omega⟩
    intro x _
    unfold halfway swp2
    simp only []
    have hm : x ∈ both opp (a :: L) ↔ x = a ∨ x = opp a ∨ x ∈ both opp L := by
      rw [e, hp.mem_iff]
      simp
    by_cases h5 : x = a
    · subst h5
      rw [if_pos (hm.2 (.inl rfl)), if_pos rfl, if_neg hn2.2.1]
    · by_cases h6 : x = opp a
      · subst h6
        rw [if_pos (hm.2 (.inr (.inl rfl))), if_neg h5, if_pos rfl, if_neg hn2.1.2, K.inv a ha]
      · rw [if_neg h5, if_neg h6]
        by_cases h7 : x ∈ both opp L
        · rw [if_pos (hm.2 (.inr (.inr h7))), if_pos h7]
        · rw [if_neg (fun h => by rcases hm.1 h with h | h | h; exact h5 h; exact h6 h; exact h7 h), if_neg h7]
/-- One corner of each edge. -/
def reps (F : Nat) (opp : Nat → Nat) : List Nat := (List.range (3 * F)).filter fun c => decide (c < opp c)
theorem reps_ok (K : Closed F N opp vert) : (∀ c ∈ reps F opp, c < 3 * F) ∧ (both opp (reps F opp)).Nodup ∧ ∀ x, x < 3 * F → x ∈ both opp (reps F opp) := by
  have h1 : ∀ c, c ∈ reps F opp ↔ c < 3 * F ∧ c < opp c := by simp [reps]
  refine ⟨fun c hc => ((h1 c).1 hc).1, ?_, ?_⟩
  · unfold both
    rw [List.nodup_append]
    refine ⟨List.nodup_range.filter _, ?_, ?_⟩
    · refine List.pairwise_map.2 ?_
      refine List.Pairwise.imp_of_mem ?_ (List.nodup_range.filter _ : (reps F opp).Nodup)
      intro a b ha hb hab e
      exact hab (by rw [← K.inv a ((h1 a).1 ha).1, e, K.inv b ((h1 b).1 hb).1])
    · rintro a ha b hb rfl
      obtain ⟨c, hc, rfl⟩ := List.mem_map.1 hb
      have h2 := (h1 _).1 ha
      have h3 := (h1 _).1 hc
      rw [K.inv c h3.1] at h2
      omega
  · intro x hx
    rw [both_mem]
    rcases Nat.lt_trichotomy x (opp x) with h | h | h
    · exact .inl ((h1 x).2 ⟨hx, h⟩)
    · exact absurd (by rw [← h]) (K.apart x hx)
    · exact .inr ⟨opp x, (h1 _).2 ⟨K.lt x hx, by rw [K.inv x hx]; exact h⟩, K.inv x hx⟩
theorem reps_len (K : Closed F N opp vert) : 2 * (reps F opp).length = 3 * F := by
  obtain ⟨h1, h2, h3⟩ := reps_ok K
  have a := nodup_le (m := List.range (3 * F)) h2 (fun x hx => by
    rw [List.mem_range]
    rcases both_mem.1 hx with h | ⟨b, hb, rfl⟩
    · exact h1 x h
    · exact K.lt b (h1 b hb))
  have b := nodup_le (l := List.range (3 * F)) (m := both opp (reps F opp)) List.nodup_range (fun x hx => h3 x (List.mem_range.1 hx))
  rw [both_length] at a b
  simp only [List.length_range] at a b
  omega
theorem one_corner (K : Closed F N opp vert) {c d : Nat} (hc : c < 3 * F) (e : c / 3 = d / 3) (hv : vert c = vert d) : c = d := by
  have h0 := K.simple c hc
  have h1 := K.simple (pv c) (pv_lt hc)
  rw [nx_pv] at h1
  have : d = c ∨ d = nx c ∨ d = pv c := by unfold nx pv; omega
  rcases this with rfl | rfl | rfl
  · rfl
  · exact absurd hv.symm h0
  · exact absurd hv h1
/-- Rounds at vertices are as many as vertices. -/
theorem rounds_verts (K : Closed F N opp vert)
    (ar : ∀ (v : Nat) (S : Nat → Prop), (∃ c, c < 3 * F ∧ vert c = v ∧ S (c / 3)) → (∀ c, c < 3 * F → vert c = v → S (c / 3) → S (opp (nx c) / 3) ∧ S (opp (pv c) / 3)) → ∀ c, c < 3 * F → vert c = v → S (c / 3))
    {Cs : List (List Nat)} (h : Rounds (fun x => pv (opp x)) (3 * F) Cs) : Cs.length = N := by
  have hlt : ∀ C ∈ Cs, ∀ x ∈ C, x < 3 * F := fun C hC x hx => (h.all x).1 (List.mem_flatten.2 ⟨C, hC, hx⟩)
  -- closed under the step, forward and backward
  have fwd : ∀ C ∈ Cs, ∀ x ∈ C, pv (opp x) ∈ C := by
    intro C hC x hx
    obtain ⟨c, r, rfl, hm⟩ := h.rot C hC
    have : pv (opp x) ∈ (c :: r).map (fun x => pv (opp x)) := List.mem_map_of_mem hx
    rw [hm] at this
    simpa [or_comm] using this
  have bwd : ∀ C ∈ Cs, ∀ x, x < 3 * F → pv (opp x) ∈ C → x ∈ C := by
    intro C hC x hx hp
    obtain ⟨c, r, rfl, hm⟩ := h.rot C hC
    have : pv (opp x) ∈ (c :: r).map (fun x => pv (opp x)) := by
      rw [hm]
      simpa [or_comm] using hp
    obtain ⟨y, hy, e⟩ := List.mem_map.1 this
    have hyl := hlt _ hC y hy
    have e2 : opp y = opp x := by rw [← nx_pv (opp y), e, nx_pv]
    rw [← K.inv x hx, ← e2, K.inv y hyl]
    exact hy
  have key : ∀ C ∈ Cs, ∀ x ∈ C, ∀ y, y < 3 * F → vert (pv y) = vert (pv x) → y ∈ C := by
    intro C hC x hx y hy e
    have hS := ar (vert (pv x)) (fun t => ∃ c, c < 3 * F ∧ c / 3 = t ∧ vert c = vert (pv x) ∧ nx c ∈ C)
      ⟨pv x, pv_lt (hlt C hC x hx), rfl, pv x, pv_lt (hlt C hC x hx), rfl, rfl, by rw [nx_pv]; exact hx⟩
      (fun c hc hv hS => by
        obtain ⟨c2, h1, h2, h3, h4⟩ := hS
        have e0 : c2 = c := one_corner K h1 h2 (h3.trans hv.symm)
        subst e0
        have hn := nx_lt hc
        have hp := pv_lt hc
        refine ⟨⟨nx (opp (nx c2)), nx_lt (K.lt _ hn), nx_div _, ?_, ?_⟩, ⟨pv (opp (pv c2)), pv_lt (K.lt _ hp), pv_div _, ?_, ?_⟩⟩
        · rw [K.vn _ hn, pv_nx]
          exact hv
        · rw [nx_nx]
          exact fwd C hC _ h4
        · rw [K.vp _ hp, nx_pv]
          exact hv
        · rw [nx_pv]
          refine bwd C hC _ (K.lt _ hp) ?_
          rw [K.inv _ hp, pv_pv]
          exact h4) (pv y) (pv_lt hy) e
    obtain ⟨c2, h1, h2, h3, h4⟩ := hS
    have e0 : c2 = pv y := one_corner K h1 h2 (h3.trans e.symm)
    subst e0
    rwa [nx_pv] at h4
  -- the vertex of each round
  have hne : ∀ C ∈ Cs, ∃ x, C.head? = some x ∧ x ∈ C := fun C hC => by
    obtain ⟨c, r, rfl, _⟩ := h.rot C hC
    exact ⟨c, rfl, List.mem_cons_self ..⟩
  have vnd : (Cs.map fun C => vert (pv (C.head?.getD 0))).Nodup := by
    have gen : ∀ Ds : List (List Nat), (∀ D ∈ Ds, D ∈ Cs) → Ds.flatten.Nodup → (Ds.map fun C => vert (pv (C.head?.getD 0))).Nodup := by
      intro Ds
      induction Ds with
      | nil => intros; simp
      | cons D r ih =>
        intro hs hn
        rw [List.flatten_cons, List.nodup_append] at hn
        rw [List.map_cons, List.nodup_cons]
        refine ⟨fun hm => ?_, ih (fun D hD => hs D (List.mem_cons_of_mem _ hD)) hn.2.1⟩
        obtain ⟨C, hC, e⟩ := List.mem_map.1 hm
        obtain ⟨x, hx, hxm⟩ := hne C (hs C (List.mem_cons_of_mem _ hC))
        obtain ⟨y, hy, hym⟩ := hne D (hs D (List.mem_cons_self ..))
        rw [hx, hy] at e
        simp only [Option.getD_some] at e
        have hxD := key D (hs D (List.mem_cons_self ..)) y hym x (hlt C (hs C (List.mem_cons_of_mem _ hC)) x hxm) e
        exact hn.2.2 x hxD x (List.mem_flatten.2 ⟨C, hC, hxm⟩) rfl
    exact gen Cs (fun D hD => hD) h.nd
  have a := nodup_le (m := List.range N) vnd (fun v hv => by
    obtain ⟨C, hC, rfl⟩ := List.mem_map.1 hv
    obtain ⟨x, hx, hxm⟩ := hne C hC
    rw [hx, List.mem_range]
    exact K.vlt _ (pv_lt (hlt C hC x hxm)))
  have b := nodup_le (l := List.range N) (m := Cs.map fun C => vert (pv (C.head?.getD 0))) List.nodup_range (fun v hv => by
    obtain ⟨c, hc, hv⟩ := K.all v (List.mem_range.1 hv)
    obtain ⟨C, hC, hm⟩ := List.mem_flatten.1 ((h.all (nx c)).2 (nx_lt hc))
    obtain ⟨x, hx, hxm⟩ := hne C hC
    refine List.mem_map.2 ⟨C, hC, ?_⟩
    rw [hx]
    -- the head has the vertex of all
    have const : ∀ l : List Nat, (∀ y ∈ l, y < 3 * F) → ∀ c0 r, l = c0 :: r → l.map (fun x => pv (opp x)) = r ++ [c0] → ∀ y ∈ l, vert (pv y) = vert (pv c0) := by
      intro l hl c0 r e hm y hy
      have step : ∀ y ∈ l, vert (pv (pv (opp y))) = vert (pv y) := fun y hy => by
        rw [pv_pv]
        exact K.vn y (hl y hy)
      subst e
      have all : ∀ (r : List Nat) (c1 : Nat) (z : List Nat), (c1 :: r).map (fun x => pv (opp x)) = r ++ z → (∀ y ∈ c1 :: r, vert (pv (pv (opp y))) = vert (pv y)) → ∀ y ∈ c1 :: r, vert (pv y) = vert (pv c1) := by
        intro r
        induction r with
        | nil =>
          intro c1 z _ _ y hy
          rw [List.mem_singleton.1 hy]
        | cons d r ih =>
          intro c1 z hm hst y hy
          simp only [List.map_cons, List.cons_append, List.cons.injEq] at hm
          have hd : vert (pv d) = vert (pv c1) := by
            rw [← hm.1]
            exact hst c1 (List.mem_cons_self ..)
          rcases List.mem_cons.1 hy with rfl | hy
          · rfl
          · rw [← hd]
            exact ih d z (by simpa using hm.2) (fun y hy => hst y (List.mem_cons_of_mem _ hy)) y hy
      exact all r c0 [c0] hm step y hy
    obtain ⟨c0, r, rfl, hm2⟩ := h.rot C hC
    simp only [List.head?_cons, Option.some.injEq] at hx
    subst hx
    have := const _ (hlt _ hC) c0 r rfl hm2 (nx c) hm
    rw [pv_nx, hv] at this
    exact this.symm)
  simp only [List.length_map, List.length_range] at a b
  omega
theorem euler_even (K : Closed F N opp vert)
    (ar : ∀ (v : Nat) (S : Nat → Prop), (∃ c, c < 3 * F ∧ vert c = v ∧ S (c / 3)) → (∀ c, c < 3 * F → vert c = v → S (c / 3) → S (opp (nx c) / 3) ∧ S (opp (pv c) / 3)) → ∀ c, c < 3 * F → vert c = v → S (c / 3)) :
    ∃ m, F = 2 * m ∧ (N + m) % 2 = 0 := by
  obtain ⟨h1, h2, h3⟩ := reps_ok K
  have hl := reps_len K
  obtain ⟨Cs, hc, he⟩ := halfway_rounds K _ h1 h2
  have hv := rounds_verts K ar (hc.congr (ρ := fun x => pv (opp x)) (fun x hx => by unfold halfway; rw [if_pos (h3 x hx)]))
  exact ⟨F / 2, by omega, by omega⟩
end
end Jor
end Go.Proofs.YtghlnknncahkgaaGreat
/-
  A closed surface of one part and of Euler number 2 is one that is walked over; its Euler number is even in any case.
-/
namespace Go.Proofs.YtghlnknncahkgaaGreat
open Go.RowKit

def oppN (T : List Tr) (c : Nat) : Nat := (oppI T (c : Int)).toNat
def verN (T : List Tr) (c : Nat) : Nat := (vertN T c).toNat
/-- No edge of the border. -/
def ClosedT (T : List Tr) : Prop := ∀ c : Nat, c < 3 * T.length → 0 ≤ oppI T (c : Int)
theorem ClosedT.opp {T : List Tr} (h : ClosedT T) {c : Nat} (hc : c < 3 * T.length) : oppI T (c : Int) = (oppN T c : Int) := by
  have := h c hc
  unfold oppN
  omega
theorem triAt_get {T : List Tr} {c : Nat} (hc : c < 3 * T.length) : ∃ t, T[c / 3]? = some t ∧ triAt T c = t ∧ t ∈ T := by
  have hk : c / 3 < T.length := by omega
  exact ⟨T[c / 3], List.getElem?_eq_getElem hk, by simp [triAt, List.getElem?_eq_getElem hk], List.getElem_mem _⟩
theorem triAt_nx (T : List Tr) (c : Nat) : triAt T (Jor.nx c) = triAt T c := by unfold triAt; rw [Jor.nx_div]
theorem triAt_pv (T : List Tr) (c : Nat) : triAt T (Jor.pv c) = triAt T c := by unfold triAt; rw [Jor.pv_div]
/-- A triangle's three corners, from any of them on. -/
theorem vert_turn (T : List Tr) (c : Nat) : (vertN T c, vertN T (Jor.nx c), vertN T (Jor.pv c)) = ((triAt T c).1, (triAt T c).2.1, (triAt T c).2.2) ∨ (vertN T c, vertN T (Jor.nx c), vertN T (Jor.pv c)) = ((triAt T c).2.1, (triAt T c).2.2, (triAt T c).1) ∨ (vertN T c, vertN T (Jor.nx c), vertN T (Jor.pv c)) = ((triAt T c).2.2, (triAt T c).1, (triAt T c).2.1) := by
  unfold vertN
  rw [triAt_nx, triAt_pv]
  have m1 : Jor.nx c % 3 = (c + 1) % 3 := by unfold Jor.nx; omega
  have m2 : Jor.pv c % 3 = (c + 2) % 3 := by unfold Jor.pv; omega
  have : c % 3 = 0 ∨ c % 3 = 1 ∨ c % 3 = 2 := by omega
  rcases this with e | e | e
  · exact .inl (by simp [e, m1, m2, show (c + 1) % 3 = 1 from by omega, show (c + 2) % 3 = 2 from by omega])
  · exact .inr (.inl (by simp [e, m1, m2, show (c + 1) % 3 = 2 from by omega, show (c + 2) % 3 = 0 from by omega]))
  · exact .inr (.inr (by simp [e, m1, m2, show (c + 1) % 3 = 0 from by omega, show (c + 2) % 3 = 1 from by omega]))
theorem vert_ne {T : List Tr} (hs : ∀ t ∈ T, simple3 t) {c : Nat} (hc : c < 3 * T.length) : vertN T (Jor.nx c) ≠ vertN T c ∧ vertN T (Jor.pv c) ≠ vertN T c ∧ vertN T (Jor.nx c) ≠ vertN T (Jor.pv c) := by
  obtain ⟨t, _, ht, hm⟩ := triAt_get hc
  obtain ⟨s1, s2, s3⟩ := hs t hm
  have := vert_turn T c
  rw [ht] at this
  simp only [Prod.mk.injEq] at this
  rcases this with ⟨a, b, d⟩ | ⟨a, b, d⟩ | ⟨a, b, d⟩ <;> rw [a, b, d]
  · exact ⟨s1.symm, s3, s2⟩
  · exact ⟨s2.symm, s1, s3⟩
  · exact ⟨s3.symm, s2, s1⟩
theorem vert_has {T : List Tr} {i : Nat} {t : Tr} (ht : T[i]? = some t) {x : Int} : hasV t x ↔ ∃ c, c < 3 * T.length ∧ c / 3 = i ∧ vertN T c = x := by
  have hi := (List.getElem?_eq_some_iff.1 ht).1
  have e0 : triAt T (3 * i) = t := by unfold triAt; rw [show 3 * i / 3 = i from by omega, ht]; rfl
  have e1 : triAt T (3 * i + 1) = t := by unfold triAt; rw [show (3 * i + 1) / 3 = i from by omega, ht]; rfl
  have e2 : triAt T (3 * i + 2) = t := by unfold triAt; rw [show (3 * i + 2) / 3 = i from by omega, ht]; rfl
  have v0 : vertN T (3 * i) = t.1 := by unfold vertN; rw [if_pos (by omega), e0]
  have v1 : vertN T (3 * i + 1) = t.2.1 := by unfold vertN; rw [if_neg (by omega), if_pos (by omega), e1]
  have v2 : vertN T (3 * i + 2) = t.2.2 := by unfold vertN; rw [if_neg (by omega), if_neg (by omega), e2]
  constructor
  · rintro (h | h | h)
    · exact ⟨3 * i, by omega, by omega, by rw [v0, h]⟩
    · exact ⟨3 * i + 1, by omega, by omega, by rw [v1, h]⟩
    · exact ⟨3 * i + 2, by omega, by omega, by rw [v2, h]⟩
  · rintro ⟨c, hc, h3, rfl⟩
    have : c = 3 * i ∨ c = 3 * i + 1 ∨ c = 3 * i + 2 := by omega
    rcases this with rfl | rfl | rfl
    · exact .inl v0
    · exact .inr (.inl v1)
    · exact .inr (.inr v2)
theorem atV_corner {T : List Tr} {v : Int} {i : Nat} : i ∈ atV T v ↔ ∃ c, c < 3 * T.length ∧ c / 3 = i ∧ vertN T c = v := by
  unfold atV
  rw [sieve_mem]
  unfold preT
  rw [List.mem_flatMap]
  constructor
  · rintro ⟨k, hk, hm⟩
    rw [List.mem_range] at hk
    have ht : T[k]? = some T[k] := List.getElem?_eq_getElem hk
    rw [ht] at hm
    simp only [three, Option.getD_some, List.mem_cons, Prod.mk.injEq, List.not_mem_nil, or_false] at hm
    have hik : i = k := by rcases hm with h | h | h <;> exact h.2
    subst hik
    exact (vert_has ht).1 (by rcases hm with h | h | h; exact .inl h.1; exact .inr (.inl h.1); exact .inr (.inr h.1))
  · rintro ⟨c, hc, rfl, hv⟩
    have hk : c / 3 < T.length := by omega
    have ht : T[c / 3]? = some T[c / 3] := List.getElem?_eq_getElem hk
    refine ⟨c / 3, List.mem_range.2 hk, ?_⟩
    rw [ht]
    have := (vert_has ht (x := v)).2 ⟨c, hc, rfl, hv⟩
    simp only [three, Option.getD_some, List.mem_cons, Prod.mk.injEq, List.not_mem_nil, or_false]
    rcases this with h | h | h
    · exact .inl ⟨h, trivial⟩
    · exact .inr (.inl ⟨h, trivial⟩)
    · exact .inr (.inr ⟨h, trivial⟩)
theorem edge_pv (T : List Tr) (c : Nat) : edgeN T (Jor.pv c) = (vertN T c, vertN T (Jor.nx c)) := by unfold edgeN; rw [Jor.nx_pv, Jor.pv_pv]
theorem edge_nx (T : List Tr) (c : Nat) : edgeN T (Jor.nx c) = (vertN T (Jor.pv c), vertN T c) := by unfold edgeN; rw [Jor.nx_nx, Jor.pv_nx]
theorem opp_is {T : List Tr} (hu : (T.flatMap edges3).Nodup) {c d : Nat} (hc : c < 3 * T.length) (hd : d < 3 * T.length) (h : edgeN T d = ((edgeN T c).2, (edgeN T c).1)) : oppN T c = d := by
  unfold oppN oppI
  rw [edgeI_nat hc, ← h, facI_of hu hd]
  rfl
/-- Round a vertex one comes to all its triangles. -/
theorem around {N : Int} {T : List Tr} (hS : Surf N T) {v : Int} (hv : inR N v) (S : Nat → Prop) (h0 : ∃ c, c < 3 * T.length ∧ vertN T c = v ∧ S (c / 3))
    (hs : ∀ c, c < 3 * T.length → vertN T c = v → S (c / 3) → S (oppN T (Jor.nx c) / 3) ∧ S (oppN T (Jor.pv c) / 3)) : ∀ c, c < 3 * T.length → vertN T c = v → S (c / 3) := by
  have hl := hS.pinch v hv
  have cl : ∀ i ∈ atV T v, ∀ k ∈ atV T v, S i → adjV T v i k → S k := by
    intro i hi k hk hSi hadj
    obtain ⟨c, hc, rfl, hcv⟩ := atV_corner.1 hi
    obtain ⟨d, hd, rfl, hdv⟩ := atV_corner.1 hk
    obtain ⟨a, b, x, ha, hb, hx, hax, hbx⟩ := hadj
    obtain ⟨c', hc', e1, hcx⟩ := (vert_has ha).1 hax
    obtain ⟨d', hd', e2, hdx⟩ := (vert_has hb).1 hbx
    have hc3 : c' = Jor.nx c ∨ c' = Jor.pv c := by
      have : c' = c ∨ c' = Jor.nx c ∨ c' = Jor.pv c := by unfold Jor.nx Jor.pv; omega
      rcases this with rfl | h
      · exact absurd (hcx.symm.trans hcv) hx
      · exact h
    have hd3 : d' = Jor.nx d ∨ d' = Jor.pv d := by
      have : d' = d ∨ d' = Jor.nx d ∨ d' = Jor.pv d := by unfold Jor.nx Jor.pv; omega
      rcases this with rfl | h
      · exact absurd (hdx.symm.trans hdv) hx
      · exact h
    have hst := hs c hc hcv hSi
    have hpc : Jor.pv c < 3 * T.length := Jor.pv_lt hc
    have hnc : Jor.nx c < 3 * T.length := Jor.nx_lt hc
    have hpd : Jor.pv d < 3 * T.length := Jor.pv_lt hd
    have hnd : Jor.nx d < 3 * T.length := Jor.nx_lt hd
    rcases hc3 with rfl | rfl
    · rcases hd3 with rfl | rfl
      · have e := edge_inj hS.twice hpc hpd (by rw [edge_pv, edge_pv, hcv, hdv, hcx, hdx])
        have : c / 3 = d / 3 := by rw [← Jor.pv_div c, e, Jor.pv_div]
        rw [← this]
        exact hSi
      · have e := opp_is hS.twice hpc hnd (by rw [edge_pv, edge_nx, hcv, hdv, hcx, hdx])
        rw [← Jor.nx_div d, ← e]
        exact hst.2
    · rcases hd3 with rfl | rfl
      · have e := opp_is hS.twice hnc hpd (by rw [edge_pv, edge_nx, hcv, hdv, hcx, hdx])
        rw [← Jor.pv_div d, ← e]
        exact hst.1
      · have e := edge_inj hS.twice hnc hnd (by rw [edge_nx, edge_nx, hcv, hdv, hcx, hdx])
        have : c / 3 = d / 3 := by rw [← Jor.nx_div c, e, Jor.nx_div]
        rw [← this]
        exact hSi
  have sym : ∀ i k, adjV T v i k → adjV T v k i := fun i k ⟨a, b, x, h1, h2, h3, h4, h5⟩ => ⟨b, a, x, h2, h1, h3, h5, h4⟩
  obtain ⟨c0, hc0, hv0, hS0⟩ := h0
  have hm0 : c0 / 3 ∈ atV T v := atV_corner.2 ⟨c0, hc0, rfl, hv0⟩
  intro c hc hcv
  have hm : c / 3 ∈ atV T v := atV_corner.2 ⟨c, hc, rfl, hcv⟩
  cases hh : (atV T v).head? with
  | none =>
    rw [List.head?_eq_none_iff] at hh
    rw [hh] at hm
    cases hm
  | some i0 =>
    by_cases hi : S i0
    · exact hl S (fun i e => by rw [hh] at e; cases e; exact hi) (fun i hi k hk h1 h2 => cl i hi k hk h1 h2) _ hm
    · exfalso
      exact hl (fun k => ¬ S k) (fun i e => by rw [hh] at e; cases e; exact hi) (fun i hi k hk h1 h2 h3 => h1 (cl k hk i hi h3 (sym _ _ h2))) _ hm0 hS0
theorem vert_rng {N : Int} {T : List Tr} (hS : Surf N T) {c : Nat} (hc : c < 3 * T.length) : 0 ≤ vertN T c ∧ vertN T c < N :=
  vertN_in (fun t ht => by
    obtain ⟨⟨a, b⟩, ⟨d, e⟩, f, g⟩ := hS.inr t ht
    exact ⟨a, b, d, e, f, g⟩) hc
theorem verN_eq {N : Int} {T : List Tr} (hS : Surf N T) {c d : Nat} (hc : c < 3 * T.length) (hd : d < 3 * T.length) : verN T c = verN T d ↔ vertN T c = vertN T d := by
  have h1 := (vert_rng hS hc).1
  have h2 := (vert_rng hS hd).1
  unfold verN
  omega
theorem closed_of {N : Int} {T : List Tr} (hS : Surf N T) (hc : ClosedT T) (hconn : ∀ S : Nat → Prop, S 0 → (∀ c, c < 3 * T.length → S (c / 3) → S (oppN T c / 3)) → ∀ t, t < T.length → S t) : Jor.Closed T.length N.toNat (oppN T) (verN T) where
  lt := fun c h => (opp_some h (hc.opp h)).1
  inv := fun c h => by
    have h1 := opp_back hS.twice h (hc.opp h)
    unfold oppN at h1 ⊢
    rw [h1]
    rfl
  apart := fun c h e => by
    obtain ⟨h1, h2⟩ := opp_some h (hc.opp h)
    have hv := vert_ne hS.simple h
    have : oppN T c = c ∨ oppN T c = Jor.nx c ∨ oppN T c = Jor.pv c := by unfold Jor.nx Jor.pv; omega
    rcases this with e | e | e
    · rw [e] at h2
      unfold edgeN at h2
      simp only [Prod.mk.injEq] at h2
      exact hv.2.2 h2.1
    · rw [e, edge_nx] at h2
      unfold edgeN at h2
      simp only [Prod.mk.injEq] at h2
      exact hv.1 h2.2.symm
    · rw [e, edge_pv] at h2
      unfold edgeN at h2
      simp only [Prod.mk.injEq] at h2
      exact hv.2.1 h2.1.symm
  vn := fun c h => by
    obtain ⟨_, h2⟩ := opp_some h (hc.opp h)
    have := congrArg Prod.fst h2
    simp only [edgeN] at this
    unfold verN
    rw [this]
  vp := fun c h => by
    obtain ⟨_, h2⟩ := opp_some h (hc.opp h)
    have := congrArg Prod.snd h2
    simp only [edgeN] at this
    unfold verN
    rw [this]
  simple := fun c h e => (vert_ne hS.simple h).1 ((verN_eq hS (Jor.nx_lt h) h).1 e)
  vlt := fun c h => by
    have := vert_rng hS h
    unfold verN
    omega
  all := fun v hv => by
    have hm := hS.lonely (v : Int) ⟨by omega, by omega⟩
    unfold flatT at hm
    obtain ⟨t, ht, hx⟩ := List.mem_flatMap.1 hm
    obtain ⟨i, hi, hit⟩ := List.getElem_of_mem ht
    have hti : T[i]? = some t := by rw [List.getElem?_eq_getElem hi, hit]
    simp only [List.mem_cons, List.not_mem_nil, or_false] at hx
    obtain ⟨c, h1, _, h3⟩ := (vert_has hti (x := (v : Int))).1 hx
    exact ⟨c, h1, by unfold verN; rw [h3]; rfl⟩
  conn := hconn
theorem ar_of {N : Int} {T : List Tr} (hS : Surf N T) (v : Nat) (S : Nat → Prop) (h0 : ∃ c, c < 3 * T.length ∧ verN T c = v ∧ S (c / 3)) (hs : ∀ c, c < 3 * T.length → verN T c = v → S (c / 3) → S (oppN T (Jor.nx c) / 3) ∧ S (oppN T (Jor.pv c) / 3)) : ∀ c, c < 3 * T.length → verN T c = v → S (c / 3) := by
  obtain ⟨c0, hc0, hv0, hS0⟩ := h0
  have key : ∀ c, c < 3 * T.length → (verN T c = v ↔ vertN T c = vertN T c0) := fun c hc => by
    rw [← hv0]
    exact verN_eq hS hc hc0
  intro c hc hv
  exact around hS (v := vertN T c0) (vert_rng hS hc0) S ⟨c0, hc0, rfl, hS0⟩ (fun d hd hdv => hs d hd ((key d hd).2 hdv)) c hc ((key c hc).1 hv)
theorem walks_of {N : Int} {T : List Tr} (hS : Surf N T) (hc : ClosedT T) (hconn : ∀ S : Nat → Prop, S 0 → (∀ c, c < 3 * T.length → S (c / 3) → S (oppN T c / 3)) → ∀ t, t < T.length → S t) (hT : 0 < T.length) (hE : 2 * N = T.length + 4) : Jor.Walks T.length N.toNat (oppN T) (verN T) where
  toClosed := closed_of hS hc hconn
  euler := by omega
  pos := hT
  ei := fun c d h1 h2 e1 e2 => edge_inj hS.twice h1 h2 (by
    unfold edgeN
    rw [(verN_eq hS (Jor.nx_lt h1) (Jor.nx_lt h2)).1 e1, (verN_eq hS (Jor.pv_lt h1) (Jor.pv_lt h2)).1 e2])
  ar := ar_of hS
theorem even_of {N : Int} {T : List Tr} (hS : Surf N T) (hc : ClosedT T) (hconn : ∀ S : Nat → Prop, S 0 → (∀ c, c < 3 * T.length → S (c / 3) → S (oppN T c / 3)) → ∀ t, t < T.length → S t) : ∃ m : Nat, T.length = 2 * m ∧ (N.toNat + m) % 2 = 0 :=
  Jor.euler_even (closed_of hS hc hconn) (ar_of hS)
/-- One part alone. -/
theorem conn_of {T : List Tr} {out : List Int} (h : Shl T out) (hc : ClosedT T) (h0 : ∀ j, j < T.length → at_ out j = 0) (S : Nat → Prop) (s0 : S 0) (hs : ∀ c, c < 3 * T.length → S (c / 3) → S (oppN T c / 3)) : ∀ t, t < T.length → S t := by
  intro t
  induction t using Nat.strongRecOn with
  | ind t ih =>
    intro ht
    rcases h.new t ht with ⟨i, hi, _, hr⟩ | ⟨h1, _⟩
    · exact hr S (ih i hi (by omega)) (fun c o hcl ho hSc => by
        have := hs c hcl hSc
        rw [hc.opp hcl] at ho
        rwa [show oppN T c = o from by omega] at this)
    · by_cases e : t = 0
      · rw [e]
        exact s0
      · have := h1 0 (by omega)
        rw [h0 0 (by omega), h0 t ht] at this
        omega
end Go.Proofs.YtghlnknncahkgaaGreat
/-
  A surface's border, in plain words: round each vertex one fan at most begins and ends; who comes behind whom is one to one, and leads back.
-/
namespace Go.Proofs.YtghlnknncahkgaaGreat
open Go.RowKit Go.Maps

theorem opp_isI {T : List Tr} (hu : (T.flatMap edges3).Nodup) {c d : Nat} (hc : c < 3 * T.length) (hd : d < 3 * T.length) (h : edgeN T d = ((edgeN T c).2, (edgeN T c).1)) : oppI T (c : Int) = (d : Int) := by
  unfold oppI
  rw [edgeI_nat hc, ← h, facI_of hu hd]
/-- Round a vertex one comes to all its triangles. -/
theorem aroundB {N : Int} {T : List Tr} (hS : Surf N T) {v : Int} (hv : inR N v) (S : Nat → Prop) (h0 : ∃ c, c < 3 * T.length ∧ vertN T c = v ∧ S (c / 3))
    (hs : ∀ c, c < 3 * T.length → vertN T c = v → S (c / 3) → (∀ o : Nat, oppI T ((Jor.nx c : Nat) : Int) = (o : Int) → S (o / 3)) ∧ (∀ o : Nat, oppI T ((Jor.pv c : Nat) : Int) = (o : Int) → S (o / 3))) : ∀ c, c < 3 * T.length → vertN T c = v → S (c / 3) := by
  have hl := hS.pinch v hv
  have cl : ∀ i ∈ atV T v, ∀ k ∈ atV T v, S i → adjV T v i k → S k := by
    intro i hi k hk hSi hadj
    obtain ⟨c, hc, rfl, hcv⟩ := atV_corner.1 hi
    obtain ⟨d, hd, rfl, hdv⟩ := atV_corner.1 hk
    obtain ⟨a, b, x, ha, hb, hx, hax, hbx⟩ := hadj
    obtain ⟨c', hc', e1, hcx⟩ := (vert_has ha).1 hax
    obtain ⟨d', hd', e2, hdx⟩ := (vert_has hb).1 hbx
    have hc3 : c' = Jor.nx c ∨ c' = Jor.pv c := by
      have : c' = c ∨ c' = Jor.nx c ∨ c' = Jor.pv c := by unfold Jor.nx Jor.pv; omega
      rcases this with rfl | h
      · exact absurd (hcx.symm.trans hcv) hx
      · exact h
    have hd3 : d' = Jor.nx d ∨ d' = Jor.pv d := by
      have : d' = d ∨ d' = Jor.nx d ∨ d' = Jor.pv d := by unfold Jor.nx Jor.pv; omega
      rcases this with rfl | h
      · exact absurd (hdx.symm.trans hdv) hx
      · exact h
    have hst := hs c hc hcv hSi
    have hpc : Jor.pv c < 3 * T.length := Jor.pv_lt hc
    have hnc : Jor.nx c < 3 * T.length := Jor.nx_lt hc
    have hpd : Jor.pv d < 3 * T.length := Jor.pv_lt hd
    have hnd : Jor.nx d < 3 * T.length := Jor.nx_lt hd
    rcases hc3 with rfl | rfl
    · rcases hd3 with rfl | rfl
      · have e := edge_inj hS.twice hpc hpd (by rw [edge_pv, edge_pv, hcv, hdv, hcx, hdx])
        have : c / 3 = d / 3 := by rw [← Jor.pv_div c, e, Jor.pv_div]
        rw [← this]
        exact hSi
      · have e := opp_isI hS.twice hpc hnd (by rw [edge_pv, edge_nx, hcv, hdv, hcx, hdx])
        rw [← Jor.nx_div d]
        exact hst.2 _ e
    · rcases hd3 with rfl | rfl
      · have e := opp_isI hS.twice hnc hpd (by rw [edge_pv, edge_nx, hcv, hdv, hcx, hdx])
        rw [← Jor.pv_div d]
        exact hst.1 _ e
      · have e := edge_inj hS.twice hnc hnd (by rw [edge_nx, edge_nx, hcv, hdv, hcx, hdx])
        have : c / 3 = d / 3 := by rw [← Jor.nx_div c, e, Jor.nx_div]
        rw [← this]
        exact hSi
  have sym : ∀ i k, adjV T v i k → adjV T v k i := fun i k ⟨a, b, x, h1, h2, h3, h4, h5⟩ => ⟨b, a, x, h2, h1, h3, h5, h4⟩
  obtain ⟨c0, hc0, hv0, hS0⟩ := h0
  have hm0 : c0 / 3 ∈ atV T v := atV_corner.2 ⟨c0, hc0, rfl, hv0⟩
  intro c hc hcv
  have hm : c / 3 ∈ atV T v := atV_corner.2 ⟨c, hc, rfl, hcv⟩
  cases hh : (atV T v).head? with
  | none =>
    rw [List.head?_eq_none_iff] at hh
    rw [hh] at hm
    cases hm
  | some i0 =>
    by_cases hi : S i0
    · exact hl S (fun i e => by rw [hh] at e; cases e; exact hi) (fun i hi k hk h1 h2 => cl i hi k hk h1 h2) _ hm
    · exfalso
      exact hl (fun k => ¬ S k) (fun i e => by rw [hh] at e; cases e; exact hi) (fun i hi k hk h1 h2 h3 => h1 (cl k hk i hi h3 (sym _ _ h2))) _ hm0 hS0

/-- A fan ends: the edge into the vertex is a border edge. -/
def EndC (T : List Tr) (c : Nat) : Prop := c < 3 * T.length ∧ oppI T ((Jor.nx c : Nat) : Int) = -1
/-- A fan begins: the edge out of the vertex is a border edge. -/
def StaC (T : List Tr) (c : Nat) : Prop := c < 3 * T.length ∧ oppI T ((Jor.pv c : Nat) : Int) = -1
section
variable {N : Int} {T : List Tr}
/-- From corner to corner round a vertex, over the edge behind. -/
theorem turn_nx (hS : Surf N T) {c o : Nat} (hc : c < 3 * T.length) (h : oppI T ((Jor.nx c : Nat) : Int) = (o : Int)) : Jor.nx o < 3 * T.length ∧ vertN T (Jor.nx o) = vertN T c ∧ oppI T ((Jor.pv (Jor.nx o) : Nat) : Int) = ((Jor.nx c : Nat) : Int) := by
  have h1 := opp_some (Jor.nx_lt hc) h
  rw [edge_nx] at h1
  have h2 : vertN T (Jor.nx o) = vertN T c := congrArg Prod.fst h1.2
  refine ⟨Jor.nx_lt h1.1, h2, ?_⟩
  rw [Jor.pv_nx]
  exact opp_back hS.twice (Jor.nx_lt hc) h
theorem turn_pv (hS : Surf N T) {c o : Nat} (hc : c < 3 * T.length) (h : oppI T ((Jor.pv c : Nat) : Int) = (o : Int)) : Jor.pv o < 3 * T.length ∧ vertN T (Jor.pv o) = vertN T c ∧ oppI T ((Jor.nx (Jor.pv o) : Nat) : Int) = ((Jor.pv c : Nat) : Int) := by
  have h1 := opp_some (Jor.pv_lt hc) h
  rw [edge_pv] at h1
  have h2 : vertN T (Jor.pv o) = vertN T c := congrArg Prod.snd h1.2
  refine ⟨Jor.pv_lt h1.1, h2, ?_⟩
  rw [Jor.nx_pv]
  exact opp_back hS.twice (Jor.pv_lt hc) h
theorem nx_inj {a b : Nat} (h : Jor.nx a = Jor.nx b) : a = b := by rw [← Jor.pv_nx a, h, Jor.pv_nx]
theorem pv_inj {a b : Nat} (h : Jor.pv a = Jor.pv b) : a = b := by rw [← Jor.nx_pv a, h, Jor.nx_pv]
open Classical in
/-- Where a fan begins one ends. -/
theorem sta_end (hS : Surf N T) {d : Nat} (hd : StaC T d) : ∃ c, EndC T c ∧ vertN T c = vertN T d := by
  refine Classical.byContradiction fun hno => ?_
  have tot : ∀ c, c < 3 * T.length → vertN T c = vertN T d → ∃ o : Nat, oppI T ((Jor.nx c : Nat) : Int) = (o : Int) := fun c hc hv => by
    rcases opp_cases T ((Jor.nx c : Nat) : Int) with h | ⟨o, h, -⟩
    · exact absurd ⟨c, ⟨hc, h⟩, hv⟩ hno
    · exact ⟨o, h⟩
  let l := (List.range (3 * T.length)).filter fun c => decide (vertN T c = vertN T d)
  let f : Nat → Nat := fun c => Jor.nx (oppI T ((Jor.nx c : Nat) : Int)).toNat
  have hl : ∀ c, c ∈ l ↔ c < 3 * T.length ∧ vertN T c = vertN T d := fun c => by
    show c ∈ (List.range (3 * T.length)).filter _ ↔ _
    rw [List.mem_filter, List.mem_range]
    simp
  have hln : l.Nodup := List.Pairwise.filter _ List.nodup_range
  have hin : ∀ x ∈ d :: l.map f, x ∈ l := by
    intro x hx
    rcases List.mem_cons.1 hx with rfl | hx
    · exact (hl x).2 ⟨hd.1, rfl⟩
    · obtain ⟨c, hc, rfl⟩ := List.mem_map.1 hx
      obtain ⟨h1, h2⟩ := (hl c).1 hc
      obtain ⟨o, ho⟩ := tot c h1 h2
      have := turn_nx hS h1 ho
      refine (hl _).2 ?_
      show Jor.nx (oppI T ((Jor.nx c : Nat) : Int)).toNat < _ ∧ vertN T (Jor.nx (oppI T ((Jor.nx c : Nat) : Int)).toNat) = _
      rw [ho, Int.toNat_natCast]
      exact ⟨this.1, by rw [this.2.1, h2]⟩
  have hfn : (l.map f).Nodup := by
    refine List.pairwise_map.2 (List.Pairwise.imp_of_mem (fun {a b} ha hb hab => ?_) hln)
    obtain ⟨h1, h2⟩ := (hl a).1 ha
    obtain ⟨k1, k2⟩ := (hl b).1 hb
    obtain ⟨o, ho⟩ := tot a h1 h2
    obtain ⟨p, hp⟩ := tot b k1 k2
    intro e
    have e' : Jor.nx (oppI T ((Jor.nx a : Nat) : Int)).toNat = Jor.nx (oppI T ((Jor.nx b : Nat) : Int)).toNat := e
    rw [ho, hp, Int.toNat_natCast, Int.toNat_natCast] at e'
    have e2 := nx_inj e'
    subst e2
    have b1 := opp_back hS.twice (Jor.nx_lt h1) ho
    have b2 := opp_back hS.twice (Jor.nx_lt k1) hp
    rw [b1] at b2
    exact hab (nx_inj (by omega))
  have hdn : d ∉ l.map f := fun hm => by
    obtain ⟨c, hc, he⟩ := List.mem_map.1 hm
    obtain ⟨h1, h2⟩ := (hl c).1 hc
    obtain ⟨o, ho⟩ := tot c h1 h2
    have h3 := (turn_nx hS h1 ho).2.2
    have he' : Jor.nx (oppI T ((Jor.nx c : Nat) : Int)).toNat = d := he
    rw [ho, Int.toNat_natCast] at he'
    rw [he', hd.2] at h3
    omega
  have := Jor.nodup_le (List.nodup_cons.2 ⟨hdn, hfn⟩) hin
  rw [List.length_cons, List.length_map] at this
  omega
/-- Round a vertex one fan begins at most. -/
theorem sta_one (hS : Surf N T) {d e : Nat} (hd : StaC T d) (he : StaC T e) (hv : vertN T d = vertN T e) : d = e := by
  refine Classical.byContradiction fun hne => ?_
  -- who is come to from d, turn by turn
  let R : Nat → Prop := fun x => ∀ P : Nat → Prop, P d → (∀ c o : Nat, c < 3 * T.length → vertN T c = vertN T d → P c → oppI T ((Jor.nx c : Nat) : Int) = (o : Int) → P (Jor.nx o)) → P x
  have hRd : R d := fun P h _ => h
  have hRs : ∀ c o : Nat, c < 3 * T.length → vertN T c = vertN T d → R c → oppI T ((Jor.nx c : Nat) : Int) = (o : Int) → R (Jor.nx o) := fun c o hc hcv h ho P h0 hs => hs c o hc hcv (h P h0 hs) ho
  have hRv : ∀ x, R x → x < 3 * T.length ∧ vertN T x = vertN T d ∧ (x = d ∨ ∃ c o : Nat, c < 3 * T.length ∧ vertN T c = vertN T d ∧ R c ∧ oppI T ((Jor.nx c : Nat) : Int) = (o : Int) ∧ x = Jor.nx o) := fun x hx => hx (fun x => x < 3 * T.length ∧ vertN T x = vertN T d ∧ (x = d ∨ ∃ c o : Nat, c < 3 * T.length ∧ vertN T c = vertN T d ∧ R c ∧ oppI T ((Jor.nx c : Nat) : Int) = (o : Int) ∧ x = Jor.nx o)) ⟨hd.1, rfl, .inl rfl⟩ (fun c o hc hcv hp ho => by
    have := turn_nx hS hc ho
    refine ⟨this.1, by rw [this.2.1, hcv], .inr ⟨c, o, hc, hcv, ?_, ho, rfl⟩⟩
    rcases hp.2.2 with rfl | ⟨c2, o2, h1, h2, h3, h4, rfl⟩
    · exact hRd
    · exact hRs c2 o2 h1 h2 h3 h4)
  have corner : ∀ x y : Nat, x < 3 * T.length → y < 3 * T.length → vertN T x = vertN T y → x / 3 = y / 3 → x = y := fun x y hx hy h1 h2 => by
    have h3 := vert_ne hS.simple hx
    have : y = x ∨ y = Jor.nx x ∨ y = Jor.pv x := by unfold Jor.nx Jor.pv; omega
    rcases this with rfl | rfl | rfl
    · rfl
    · exact absurd h1.symm h3.1
    · exact absurd h1.symm h3.2.1
  have all := aroundB hS (v := vertN T d) (vert_rng hS hd.1) (fun t => ∃ x, R x ∧ x / 3 = t) ⟨d, hd.1, rfl, d, hRd, rfl⟩ (fun c hc hcv ⟨x, hx, hxt⟩ => by
    have hxv := hRv x hx
    obtain rfl := corner x c hxv.1 hc (by rw [hxv.2.1, hcv]) hxt
    refine ⟨fun o ho => ⟨Jor.nx o, hRs x o hc hcv hx ho, Jor.nx_div o⟩, fun o ho => ?_⟩
    rcases hxv.2.2 with rfl | ⟨c2, o2, h1, h2, h3, h4, rfl⟩
    · rw [hd.2] at ho; omega
    · have h5 := (turn_nx hS h1 h4).2.2
      rw [ho] at h5
      have h6 : o = Jor.nx c2 := by omega
      exact ⟨c2, h3, by rw [h6, Jor.nx_div]⟩)
  obtain ⟨x, hx, hxt⟩ := all e he.1 hv.symm
  have hxv := hRv x hx
  obtain rfl := corner x e hxv.1 he.1 (by rw [hxv.2.1, hv]) hxt
  rcases hxv.2.2 with rfl | ⟨c2, o2, h1, h2, h3, h4, rfl⟩
  · exact hne rfl
  · have h5 := (turn_nx hS h1 h4).2.2
    rw [he.2] at h5
    omega
/-- Who comes behind whom on the border. -/
def Nxt (T : List Tr) (v u : Int) : Prop := ∃ c, EndC T c ∧ vertN T c = v ∧ vertN T (Jor.pv c) = u
theorem EndC.sta {c : Nat} (h : EndC T c) : StaC T (Jor.pv c) := ⟨Jor.pv_lt h.1, by rw [Jor.pv_pv]; exact h.2⟩
theorem Nxt.on (hS : Surf N T) {v u : Int} (h : Nxt T v u) : ∃ z, Nxt T u z := by
  obtain ⟨c, h1, -, h3⟩ := h
  obtain ⟨d, h4, h5⟩ := sta_end hS h1.sta
  exact ⟨_, d, h4, by rw [h5, h3], rfl⟩
theorem Nxt.inj (hS : Surf N T) {v v' u : Int} (h : Nxt T v u) (h' : Nxt T v' u) : v = v' := by
  obtain ⟨c, h1, h2, h3⟩ := h
  obtain ⟨d, k1, k2, k3⟩ := h'
  have := pv_inj (sta_one hS h1.sta k1.sta (by rw [h3, k3]))
  subst this
  rw [← h2, ← k2]
theorem Nxt.rng (hS : Surf N T) {v u : Int} (h : Nxt T v u) : (0 ≤ v ∧ v < N) ∧ 0 ≤ u ∧ u < N := by
  obtain ⟨c, h1, rfl, rfl⟩ := h
  exact ⟨vert_rng hS h1.1, vert_rng hS (Jor.pv_lt h1.1)⟩
end
end Go.Proofs.YtghlnknncahkgaaGreat
/-
  gypsumref10.Same, by walking its text.
-/
namespace Go.Proofs.YtghlnknncahkgaaGreat
open Go.RowKit

theorem ordM_anti (N1 : Int) (T1 : List Tr) (N2 : Int) (T2 : List Tr) : ordM N2 T2 N1 T1 = -ordM N1 T1 N2 T2 := cmpL_anti _ _
theorem ordM_self (N : Int) (T : List Tr) : ordM N T N T = 0 := cmpL_self _
theorem TrisRd.three {w : World} {a : Option Addr} {m c : Nat} {T : List Tr} (h : TrisRd w (.slice a m c) T) {t : Nat} {x y z : Int} (ht : T[t]? = some (x, y, z)) :
    ∃ b o, a = some ⟨b, o, none⟩ ∧ b < w.heap.size ∧ w.cell? ⟨b, o + t * 3, none⟩ = some (.int .i64 x) ∧ w.cell? ⟨b, o + t * 3 + 1, none⟩ = some (.int .i64 y) ∧ w.cell? ⟨b, o + t * 3 + 2, none⟩ = some (.int .i64 z) := by
  obtain ⟨a', c', e, -, -, hr⟩ := h
  cases e
  exact hr t x y z ht
theorem triEq (a b c a' b' c' : Int) (w : World) :
    (Op.equalIn 10000 72 (.agg #[.int .i64 a, .int .i64 b, .int .i64 c]) (.agg #[.int .i64 a', .int .i64 b', .int .i64 c'])).run Tryz.prog w = .ok (decide ((a, b, c) = (a', b', c'))) w := by
  have e : decide ((a, b, c) = (a', b', c')) = (a == a' && (b == b' && c == c')) := by
    simp only [Prod.mk.injEq]
    by_cases h1 : a = a' <;> by_cases h2 : b = b' <;> by_cases h3 : c = c' <;> simp [h1, h2, h3]
  rw [e]
  show (Op.equalIn (9998 + 2) _ _ _).run _ _ = _
  rw [Op.equalIn]
  simp [run_underlying Tryz.underlying72, List.range'_succ, part, go_sem]
  repeat' split
  all_goals simp_all
set_option maxRecDepth 100000 in
set_option maxHeartbeats 2000000 in
theorem same_any (N1 N2 : Int) (v1 v2 : Value) (T1 T2 : List Tr) (w : World) (h1 : TrisRd w v1 T1) (h2 : TrisRd w v2 T2) (l1 : T1.length ≤ 100000) (_l2 : T2.length ≤ 100000) :
    Calls Tryz.prog 15 #[.agg #[.int .i64 N1, v1], .agg #[.int .i64 N2, v2]] w fun e w' => e = .returned (.bool (decide (N1 = N2 ∧ T1 = T2))) ∧ Below w.heap.size w w' := by
  obtain ⟨a1, c1, rfl, g1, -, -⟩ := id h1
  obtain ⟨a2, c2, rfl, g2, -, -⟩ := id h2
  have b1 := (Blk.new w 24 #[.int .i64 N1, .slice a1 T1.length c1]).alloc (.cells #[.int .i64 N2, .slice a2 T2.length c2] 24)
  have b2 : Blk ((w.alloc (.cells #[.int .i64 N1, .slice a1 T1.length c1] 24)).alloc (.cells #[.int .i64 N2, .slice a2 T2.length c2] 24)) (w.heap.size + 1) 24 #[.int .i64 N2, .slice a2 T2.length c2] := by
    have := Blk.new (w.alloc (.cells #[.int .i64 N1, .slice a1 T1.length c1] 24)) 24 #[.int .i64 N2, .slice a2 T2.length c2]
    rwa [size_alloc'] at this
  have hB : Below w.heap.size w ((w.alloc (.cells #[.int .i64 N1, .slice a1 T1.length c1] 24)).alloc (.cells #[.int .i64 N2, .slice a2 T2.length c2] 24)) := ((Below.refl _ _).alloc (Nat.le_refl _) _).alloc (by simp) _
  obtain ⟨p0, x0, -, x1, -⟩ := b1.two
  obtain ⟨q0, y0, -, y1, -⟩ := b2.two
  have t1 := h1.below hB
  have t2 := h2.below hB
  clear h1 h2
  by_cases hN : N1 = N2
  · subst hN
    have bN : (N1 != N1) = false := by simp
    by_cases hL : T1.length = T2.length
    · have bL : ((T1.length : Int) != (T2.length : Int)) = false := by simp; omega
      have HL := Lib.hid hL
      clear hL
      go_enter Tryz.func15, Tryz.ntmps15
      go_wp2
      generalize (w.alloc (.cells #[.int .i64 N1, .slice a1 T1.length c1] 24)).alloc (.cells #[.int .i64 N1, .slice a2 T2.length c2] 24) = W0 at *
      have HX := Lib.hid (fun (W : World) (hW : Below W0.heap.size W0 W) => And.intro ((hW.cell (p := ⟨w.heap.size, 0, none⟩) p0).trans x0) (And.intro ((hW.cell (p := ⟨w.heap.size, 1, none⟩) p0).trans x1) (And.intro ((hW.cell (p := ⟨w.heap.size + 1, 0, none⟩) q0).trans y0) ((hW.cell (p := ⟨w.heap.size + 1, 1, none⟩) q0).trans y1))))
      have HT1 := Lib.hid t1
      have HT2 := Lib.hid t2
      have HB := Lib.hid hB
      clear x0 x1 y0 y1 b1 b2 t1 t2 hB
      go_loopw [5] (fun i5 wx => ∃ t : Nat, i5 = .int .i64 t ∧ t ≤ T1.length ∧ T1.take t = T2.take t ∧ Below W0.heap.size W0 wx) (fun i5 _ => T1.length - (intOf i5).toNat)
      case atStart => exact ⟨0, rfl, Nat.zero_le _, rfl, Below.refl _ _⟩
      case round =>
        rename World => wx
        obtain ⟨t, rfl, htl, he, hbx⟩ := hrel
        obtain ⟨x0, x1, y0, y1⟩ := HX.out _ hbx
        have HE := Lib.hid he
        have HBX := Lib.hid hbx
        by_cases hlt : t < T1.length
        · have hlt3 : (t : Int) < (T1.length : Int) := by omega
          have hlt4 : (t : Int) < (T2.length : Int) := by have := HL.out; omega
          have ht0 : (0 : Int) ≤ (t : Int) := by omega
          obtain ⟨⟨x, y, z⟩, hx⟩ : ∃ q, T1[t]? = some q := ⟨T1[t], List.getElem?_eq_getElem _⟩
          obtain ⟨⟨x', y', z'⟩, hx'⟩ : ∃ q, T2[t]? = some q := ⟨T2[t]'(by omega), List.getElem?_eq_getElem _⟩
          obtain ⟨b, o, rfl, hb, s0, s1, s2⟩ := HT1.out.three hx
          obtain ⟨b', o', rfl, hb', s0', s1', s2'⟩ := HT2.out.three hx'
          have u0 := (hbx.cell (p := ⟨b, _, none⟩) hb).trans s0
          have u1 := (hbx.cell (p := ⟨b, _, none⟩) hb).trans s1
          have u2 := (hbx.cell (p := ⟨b, _, none⟩) hb).trans s2
          have u0' := (hbx.cell (p := ⟨b', _, none⟩) hb').trans s0'
          have u1' := (hbx.cell (p := ⟨b', _, none⟩) hb').trans s1'
          have u2' := (hbx.cell (p := ⟨b', _, none⟩) hb').trans s2'
          by_cases hq : (x, y, z) = (x', y', z')
          · have qe := fun W : World => triEq x y z x' y' z' W
            rw [decide_eq_true hq] at qe
            obtain ⟨rfl, rfl, rfl⟩ : x = x' ∧ y = y' ∧ z = z' := by simpa using hq
            have HE3 := Lib.hid (show T1.take (t + 1) = T2.take (t + 1) from by rw [List.take_add_one, List.take_add_one, he, hx, hx'])
            clear he hbx hx hx' s0 s1 s2 s0' s1' s2' hb hb' hq
            go_wp2
            go_region
            all_goals
              go_wp2
              go_roundw
              case measure => simp [intOf]; omega
              case rel => exact ⟨t + 1, by go_num, by omega, HE3.out, HBX.out.drew⟩
          · have qe := fun W : World => triEq x y z x' y' z' W
            rw [decide_eq_false hq] at qe
            have HZ := Lib.hid (show (decide (N1 = N1 ∧ T1 = T2)) = false from by
              simp only [true_and, decide_eq_false_iff_not]
              intro e
              rw [e, hx'] at hx
              exact hq (Option.some.inj hx).symm)
            clear he hbx hx hx' s0 s1 s2 s0' s1' s2' hb hb' hq
            go_wp2
            go_region
            all_goals
              go_wp2
              go_ret
              exact ⟨by have h := HZ.out; simp only [true_and] at h ⊢; rw [h]; rfl, HB.out.trans ((HBX.out.drew).mono HB.out.size)⟩
        · obtain rfl : t = T1.length := by omega
          have HZ := Lib.hid (show decide (N1 = N1 ∧ T1 = T2) = true from by
            have h := HE.out
            have := HL.out
            rw [List.take_of_length_le (by omega), List.take_of_length_le (by omega)] at h
            simp [h])
          clear he hbx
          go_wp2
          go_ret
          exact ⟨by have h := HZ.out; simp only [true_and] at h ⊢; rw [h]; rfl, HB.out.trans (HBX.out.mono HB.out.size)⟩
    · have hz : decide (N1 = N1 ∧ T1 = T2) = false := by
        simp only [true_and, decide_eq_false_iff_not]
        intro e
        exact hL (by rw [e])
      rw [hz]
      have bL : ((T1.length : Int) != (T2.length : Int)) = true := by simp; omega
      have HB := Lib.hid hB
      clear hB t1 t2 b1 b2 hz hL
      go_enter Tryz.func15, Tryz.ntmps15
      go_wp2
      go_ret
      exact ⟨rfl, HB.out⟩
  · have hz : decide (N1 = N2 ∧ T1 = T2) = false := by simp [hN]
    have bN : (N1 != N2) = true := by simpa using hN
    have HB := Lib.hid hB
    rw [hz]
    clear hB t1 t2 b1 b2 hz hN
    go_enter Tryz.func15, Tryz.ntmps15
    go_wp2
    go_ret
    exact ⟨rfl, HB.out⟩
end Go.Proofs.YtghlnknncahkgaaGreat
/-
  slices.Equal of triangles, soup.Same, by walking their texts.
-/
namespace Go.Proofs.YtghlnknncahkgaaGreat
open Go.RowKit

set_option maxRecDepth 100000 in
set_option maxHeartbeats 2000000 in
theorem equalT_any (v1 v2 : Value) (T1 T2 : List Tr) (w : World) (h1 : TrisRd w v1 T1) (h2 : TrisRd w v2 T2) (l1 : T1.length ≤ 100000) (_l2 : T2.length ≤ 100000) :
    Calls Tryz.prog 88 #[v1, v2] w fun e w' => e = .returned (.bool (decide (T1 = T2))) ∧ Below w.heap.size w w' := by
  obtain ⟨a1, c1, rfl, g1, -, -⟩ := id h1
  obtain ⟨a2, c2, rfl, g2, -, -⟩ := id h2
  by_cases hL : T1.length = T2.length
  · have bL : ((T1.length : Int) != (T2.length : Int)) = false := by simp; omega
    have HL := Lib.hid hL
    have HT1 := Lib.hid h1
    have HT2 := Lib.hid h2
    clear hL h1 h2
    go_enter Tryz.func88, Tryz.ntmps88
    go_wp2
    go_loopw [13] (fun i5 wx => ∃ t : Nat, i5 = .int .i64 t ∧ t ≤ T1.length ∧ T1.take t = T2.take t ∧ Below w.heap.size w wx) (fun i5 _ => T1.length - (intOf i5).toNat)
    case atStart => exact ⟨0, rfl, Nat.zero_le _, rfl, Below.refl _ _⟩
    case round =>
      rename World => wx
      obtain ⟨t, rfl, htl, he, hbx⟩ := hrel
      have HE := Lib.hid he
      have HBX := Lib.hid hbx
      by_cases hlt : t < T1.length
      · have hlt3 : (t : Int) < (T1.length : Int) := by omega
        have hlt4 : (t : Int) < (T2.length : Int) := by have := HL.out; omega
        have ht0 : (0 : Int) ≤ (t : Int) := by omega
        obtain ⟨⟨x, y, z⟩, hx⟩ : ∃ q, T1[t]? = some q := ⟨T1[t], List.getElem?_eq_getElem _⟩
        obtain ⟨⟨x', y', z'⟩, hx'⟩ : ∃ q, T2[t]? = some q := ⟨T2[t]'(by omega), List.getElem?_eq_getElem _⟩
        obtain ⟨b, o, rfl, hb, s0, s1, s2⟩ := HT1.out.three hx
        obtain ⟨b', o', rfl, hb', s0', s1', s2'⟩ := HT2.out.three hx'
        have u0 := (hbx.cell (p := ⟨b, _, none⟩) hb).trans s0
        have u1 := (hbx.cell (p := ⟨b, _, none⟩) hb).trans s1
        have u2 := (hbx.cell (p := ⟨b, _, none⟩) hb).trans s2
        have u0' := (hbx.cell (p := ⟨b', _, none⟩) hb').trans s0'
        have u1' := (hbx.cell (p := ⟨b', _, none⟩) hb').trans s1'
        have u2' := (hbx.cell (p := ⟨b', _, none⟩) hb').trans s2'
        by_cases hq : (x, y, z) = (x', y', z')
        · have qe := fun W : World => triEq x y z x' y' z' W
          rw [decide_eq_true hq] at qe
          obtain ⟨rfl, rfl, rfl⟩ : x = x' ∧ y = y' ∧ z = z' := by simpa using hq
          have HE3 := Lib.hid (show T1.take (t + 1) = T2.take (t + 1) from by rw [List.take_add_one, List.take_add_one, he, hx, hx'])
          clear he hbx hx hx' s0 s1 s2 s0' s1' s2' hb hb' hq
          go_wp2
          go_region
          all_goals
            go_wp2
            go_roundw
            case measure => simp [intOf]; omega
            case rel => exact ⟨t + 1, by go_num, by omega, HE3.out, HBX.out.drew⟩
        · have qe := fun W : World => triEq x y z x' y' z' W
          rw [decide_eq_false hq] at qe
          have HZ := Lib.hid (show decide (T1 = T2) = false from by
            simp only [decide_eq_false_iff_not]
            intro e
            rw [e, hx'] at hx
            exact hq (Option.some.inj hx).symm)
          clear he hbx hx hx' s0 s1 s2 s0' s1' s2' hb hb' hq
          go_wp2
          go_region
          all_goals
            go_wp2
            go_ret
            exact ⟨by rw [HZ.out]; rfl, HBX.out.drew⟩
      · obtain rfl : t = T1.length := by omega
        have HZ := Lib.hid (show decide (T1 = T2) = true from by
          have h := HE.out
          have := HL.out
          rw [List.take_of_length_le (by omega), List.take_of_length_le (by omega)] at h
          simp [h])
        clear he hbx
        go_wp2
        go_ret
        exact ⟨by rw [HZ.out]; rfl, HBX.out⟩
  · have hz : decide (T1 = T2) = false := by
      simp only [decide_eq_false_iff_not]
      intro e
      exact hL (by rw [e])
    rw [hz]
    have bL : ((T1.length : Int) != (T2.length : Int)) = true := by simp; omega
    clear hz hL h1 h2
    go_enter Tryz.func88, Tryz.ntmps88
    go_wp2
    go_ret
    exact ⟨rfl, Below.refl _ _⟩
set_option maxRecDepth 100000 in
set_option maxHeartbeats 2000000 in
theorem soupSame_any (N1 N2 : Int) (v1 v2 : Value) (T1 T2 : List Tr) (w : World) (h1 : TrisRd w v1 T1) (h2 : TrisRd w v2 T2) (l1 : T1.length ≤ 100000) (l2 : T2.length ≤ 100000) :
    Calls Tryz.prog 66 #[.agg #[.int .i64 N1, v1], .agg #[.int .i64 N2, v2]] w fun e w' => e = .returned (.bool (decide (N1 = N2 ∧ T1 = T2))) ∧ Below w.heap.size w w' := by
  obtain ⟨a1, c1, rfl, g1, -, -⟩ := id h1
  obtain ⟨a2, c2, rfl, g2, -, -⟩ := id h2
  have b1 := (Blk.new w 24 #[.int .i64 N1, .slice a1 T1.length c1]).alloc (.cells #[.int .i64 N2, .slice a2 T2.length c2] 24)
  have b2 : Blk ((w.alloc (.cells #[.int .i64 N1, .slice a1 T1.length c1] 24)).alloc (.cells #[.int .i64 N2, .slice a2 T2.length c2] 24)) (w.heap.size + 1) 24 #[.int .i64 N2, .slice a2 T2.length c2] := by
    have := Blk.new (w.alloc (.cells #[.int .i64 N1, .slice a1 T1.length c1] 24)) 24 #[.int .i64 N2, .slice a2 T2.length c2]
    rwa [size_alloc'] at this
  have hB : Below w.heap.size w ((w.alloc (.cells #[.int .i64 N1, .slice a1 T1.length c1] 24)).alloc (.cells #[.int .i64 N2, .slice a2 T2.length c2] 24)) := ((Below.refl _ _).alloc (Nat.le_refl _) _).alloc (by simp) _
  obtain ⟨p0, x0, -, x1, -⟩ := b1.two
  obtain ⟨q0, y0, -, y1, -⟩ := b2.two
  have HQ := Lib.hid (equalT_any _ _ T1 T2 _ (h1.below hB) (h2.below hB) l1 l2)
  have HB := Lib.hid hB
  clear h1 h2
  by_cases hN : N1 = N2
  · subst hN
    have bN : (N1 == N1) = true := by simp
    have HZ := Lib.hid (show decide (N1 = N1 ∧ T1 = T2) = decide (T1 = T2) from by simp)
    rw [HZ.out]
    obtain ⟨q, hq⟩ : ∃ q, decide (T1 = T2) = q := ⟨_, rfl⟩
    rw [hq] at HQ ⊢
    clear hB b1 b2 hq HZ
    go_enter Tryz.func66, Tryz.ntmps66
    go_wp2_with (go_at_call 88; refine HQ.out.mono ?_; rintro e w' ⟨rfl, hb⟩)
    go_ret
    exact ⟨rfl, HB.out.trans (hb.mono HB.out.size)⟩
  · have hz : decide (N1 = N2 ∧ T1 = T2) = false := by simp [hN]
    have bN : (N1 == N2) = false := by simpa using hN
    rw [hz]
    clear hB b1 b2 hz hN
    go_enter Tryz.func66, Tryz.ntmps66
    go_wp2
    go_ret
    exact ⟨rfl, HB.out⟩
end Go.Proofs.YtghlnknncahkgaaGreat
/-
  soup.fits, by walking its text.
-/
namespace Go.Proofs.YtghlnknncahkgaaGreat
open Go.RowKit

/-- A triangle whose corners are vertices of n, no two the same. -/
def fitsM (t : Tr) (n : Int) : Prop := (0 ≤ t.1 ∧ t.1 < n) ∧ (0 ≤ t.2.1 ∧ t.2.1 < n) ∧ (0 ≤ t.2.2 ∧ t.2.2 < n) ∧ t.1 ≠ t.2.1 ∧ t.2.1 ≠ t.2.2 ∧ t.2.2 ≠ t.1
instance (t : Tr) (n : Int) : Decidable (fitsM t n) := by unfold fitsM; infer_instance
theorem fitsM_f {x y z n : Int} (h : ¬ (0 ≤ x ∧ x < n) ∨ ¬ (0 ≤ y ∧ y < n) ∨ ¬ (0 ≤ z ∧ z < n)) : decide (fitsM (x, y, z) n) = false := by
  refine decide_eq_false (fun hm => ?_)
  obtain ⟨a, b, c, -⟩ := hm
  rcases h with h | h | h
  · exact h a
  · exact h b
  · exact h c
theorem fitsM_t {x y z n : Int} (hx : 0 ≤ x ∧ x < n) (hy : 0 ≤ y ∧ y < n) (hz : 0 ≤ z ∧ z < n) : decide (fitsM (x, y, z) n) = ((x != y) && ((y != z) && (z != x))) := by
  have e : fitsM (x, y, z) n ↔ (x ≠ y ∧ y ≠ z ∧ z ≠ x) := ⟨fun h => h.2.2.2, fun h => ⟨hx, hy, hz, h⟩⟩
  have e2 : decide (fitsM (x, y, z) n) = decide (x ≠ y ∧ y ≠ z ∧ z ≠ x) := decide_eq_decide.2 e
  rw [e2]
  simp [bne]
  rfl
set_option maxRecDepth 100000 in
set_option maxHeartbeats 2000000 in
theorem fits_any (x y z n : Int) (w : World) : Calls Tryz.prog 118 #[.agg #[.int .i64 x, .int .i64 y, .int .i64 z], .int .i64 n] w fun e w' => e = .returned (.bool (decide (fitsM (x, y, z) n))) ∧ Below w.heap.size w w' := by
  have q0 := @index_t0
  have q1 := @index_t1
  have q2 := @index_t2
  have b1 := Blk.new w 72 #[.int .i64 x, .int .i64 y, .int .i64 z]
  have hB : Below w.heap.size w (w.alloc (.cells #[.int .i64 x, .int .i64 y, .int .i64 z] 72)) := (Below.refl _ _).alloc (Nat.le_refl _) _
  obtain ⟨p0, x0, -, x1, -, x2, -⟩ := b1.three
  have HB := Lib.hid hB
  obtain ⟨r, hr⟩ : ∃ r, decide (fitsM (x, y, z) n) = r := ⟨_, rfl⟩
  rw [hr]
  have HR := Lib.hid hr
  clear hB b1 hr
  go_enter Tryz.func118, Tryz.ntmps118
  go_wp2
  generalize w.alloc (.cells #[.int .i64 x, .int .i64 y, .int .i64 z] 72) = W0 at *
  go_loopw [8] (fun i8 wx => ∃ k : Nat, i8 = .int .i64 k ∧ k ≤ 3 ∧ (0 < k → 0 ≤ x ∧ x < n) ∧ (1 < k → 0 ≤ y ∧ y < n) ∧ (2 < k → 0 ≤ z ∧ z < n) ∧ wx = W0) (fun i8 _ => 3 - (intOf i8).toNat)
  case atStart => exact ⟨0, rfl, by omega, by omega, by omega, by omega, rfl⟩
  case round =>
    obtain ⟨k, rfl, hk, f0, f1, f2, rfl⟩ := hrel
    have : k = 0 ∨ k = 1 ∨ k = 2 ∨ k = 3 := by omega
    rcases this with rfl | rfl | rfl | rfl
    · by_cases h0 : x < 0
      · have d0 : decide (x < 0) = true := by simpa using h0
        have hf : r = false := by rw [← HR.out]; exact fitsM_f (by omega)
        subst hf
        clear f0 f1 f2 hk h0
        go_wp2
        go_ret
        exact ⟨rfl, HB.out⟩
      · have d0 : decide (x < 0) = false := by simpa using h0
        by_cases h1 : n ≤ x
        · have d1 : decide (n ≤ x) = true := by simpa using h1
          have hf : r = false := by rw [← HR.out]; exact fitsM_f (by omega)
          subst hf
          clear f0 f1 f2 hk h0 h1
          go_wp2
          go_ret
          exact ⟨rfl, HB.out⟩
        · have d1 : decide (n ≤ x) = false := by simpa using h1
          have H := Lib.hid (show 0 ≤ x ∧ x < n by omega)
          clear f0 f1 f2 hk h0 h1
          go_wp2
          go_roundw
          case measure => simp [intOf]
          case rel => exact ⟨1, by go_num, by omega, fun _ => H.out, fun h => absurd h (by omega), fun h => absurd h (by omega), by first | rfl | trivial⟩
    · have H0 := Lib.hid (f0 (by omega))
      by_cases h0 : y < 0
      · have d0 : decide (y < 0) = true := by simpa using h0
        have hf : r = false := by rw [← HR.out]; exact fitsM_f (by omega)
        subst hf
        clear f0 f1 f2 hk h0
        go_wp2
        go_ret
        exact ⟨rfl, HB.out⟩
      · have d0 : decide (y < 0) = false := by simpa using h0
        by_cases h1 : n ≤ y
        · have d1 : decide (n ≤ y) = true := by simpa using h1
          have hf : r = false := by rw [← HR.out]; exact fitsM_f (by omega)
          subst hf
          clear f0 f1 f2 hk h0 h1
          go_wp2
          go_ret
          exact ⟨rfl, HB.out⟩
        · have d1 : decide (n ≤ y) = false := by simpa using h1
          have H := Lib.hid (show 0 ≤ y ∧ y < n by omega)
          clear f0 f1 f2 hk h0 h1
          go_wp2
          go_roundw
          case measure => simp [intOf]
          case rel => exact ⟨2, by go_num, by omega, fun _ => H0.out, fun _ => H.out, fun h => absurd h (by omega), by first | rfl | trivial⟩
    · have H0 := Lib.hid (f0 (by omega))
      have H1 := Lib.hid (f1 (by omega))
      by_cases h0 : z < 0
      · have d0 : decide (z < 0) = true := by simpa using h0
        have hf : r = false := by rw [← HR.out]; exact fitsM_f (by omega)
        subst hf
        clear f0 f1 f2 hk h0
        go_wp2
        go_ret
        exact ⟨rfl, HB.out⟩
      · have d0 : decide (z < 0) = false := by simpa using h0
        by_cases h1 : n ≤ z
        · have d1 : decide (n ≤ z) = true := by simpa using h1
          have hf : r = false := by rw [← HR.out]; exact fitsM_f (by omega)
          subst hf
          clear f0 f1 f2 hk h0 h1
          go_wp2
          go_ret
          exact ⟨rfl, HB.out⟩
        · have d1 : decide (n ≤ z) = false := by simpa using h1
          have H := Lib.hid (show 0 ≤ z ∧ z < n by omega)
          clear f0 f1 f2 hk h0 h1
          go_wp2
          go_roundw
          case measure => simp [intOf]
          case rel => exact ⟨3, by go_num, by omega, fun _ => H0.out, fun _ => H1.out, fun _ => H.out, by first | rfl | trivial⟩
    · have g0 := f0 (by omega)
      have g1 := f1 (by omega)
      have g2 := f2 (by omega)
      have hf : r = ((x != y) && ((y != z) && (z != x))) := by rw [← HR.out]; exact fitsM_t g0 g1 g2
      clear f0 f1 f2 hk g0 g1 g2
      by_cases e1 : x = y
      · have d1 : (x != y) = false := by simpa using e1
        rw [d1] at hf
        simp only [Bool.false_and] at hf
        subst hf
        clear e1
        go_wp2
        go_ret
        exact ⟨rfl, HB.out⟩
      · have d1 : (x != y) = true := by simpa using e1
        by_cases e2 : y = z
        · have d2 : (y != z) = false := by simpa using e2
          rw [d1, d2] at hf
          simp only [Bool.false_and, Bool.true_and] at hf
          subst hf
          clear e1 e2
          go_wp2
          go_ret
          exact ⟨rfl, HB.out⟩
        · have d2 : (y != z) = true := by simpa using e2
          rw [d1, d2] at hf
          simp only [Bool.true_and] at hf
          clear e1 e2
          subst hf
          go_wp2
          go_ret
          exact ⟨rfl, HB.out⟩
end Go.Proofs.YtghlnknncahkgaaGreat
/-
  soup.Fits, by walking its text.
-/
namespace Go.Proofs.YtghlnknncahkgaaGreat
open Go.RowKit

def triC (t : Tr) : List Value := [.int .i64 t.1, .int .i64 t.2.1, .int .i64 t.2.2]
set_option maxRecDepth 100000 in
theorem fitsC_any (s : Nat) (N : Int) (t : Tr) (w : World) (h0 : w.cell? ⟨s, 0, none⟩ = some (.int .i64 N)) (hs : s < w.heap.size) :
    Calls Tryz.prog 117 #[.agg (triC t).toArray, .pointer (some ⟨s, 0, none⟩)] w fun e w' => e = .returned (.bool (!decide (fitsM t N))) ∧ Below w.heap.size w w' := by
  obtain ⟨x, y, z⟩ := t
  show Calls _ _ #[.agg #[.int .i64 x, .int .i64 y, .int .i64 z], .pointer (some ⟨s, 0, none⟩)] w _
  have b1 := Blk.new w 72 #[.int .i64 x, .int .i64 y, .int .i64 z]
  have hB : Below w.heap.size w (w.alloc (.cells #[.int .i64 x, .int .i64 y, .int .i64 z] 72)) := (Below.refl _ _).alloc (Nat.le_refl _) _
  obtain ⟨p0, x0, -, x1, -, x2, -⟩ := b1.three
  have y0 := (hB.cell (p := ⟨s, 0, none⟩) hs).trans h0
  have HF := Lib.hid (fits_any x y z N (w.alloc (.cells #[.int .i64 x, .int .i64 y, .int .i64 z] 72)))
  have HB := Lib.hid hB
  obtain ⟨r, hr⟩ : ∃ r, decide (fitsM (x, y, z) N) = r := ⟨_, rfl⟩
  rw [hr] at HF ⊢
  clear hB b1 hr h0
  go_enter Tryz.func117, Tryz.ntmps117
  go_wp2_with (go_at_call 118; refine HF.out.mono ?_; rintro e w' ⟨rfl, hb⟩)
  go_ret
  exact ⟨rfl, HB.out.trans (hb.mono HB.out.size)⟩
set_option maxRecDepth 100000 in
theorem index_none (a : Option Addr) (c : Nat) (f : Value) (w : World) : Calls Tryz.prog 131 #[.slice a 0 c, f] w fun e w' => e = .returned (.int .i64 (-1)) ∧ w' = w := by
  go_enter Tryz.func131, Tryz.ntmps131
  go_wp2
  go_loopw [8] (fun i wx => i = .int .i64 0 ∧ wx = w) (fun _ _ => 0)
  case atStart => exact ⟨rfl, rfl⟩
  case round =>
    obtain ⟨rfl, rfl⟩ := hrel
    go_wp2
    go_ret
    exact ⟨rfl, rfl⟩
set_option maxRecDepth 100000 in
theorem cont_none (a : Option Addr) (c : Nat) (f : Value) (w : World) : Calls Tryz.prog 116 #[.slice a 0 c, f] w fun e w' => e = .returned (.bool false) ∧ w' = w := by
  have H := Lib.hid (index_none a c f w)
  go_enter Tryz.func116, Tryz.ntmps116
  go_wp2_with (go_at_call 131; refine H.out.mono ?_; rintro e w' ⟨rfl, rfl⟩)
  go_ret
  exact ⟨rfl, rfl⟩
theorem isAggTri (w : World) : (isAgg 72).run Tryz.prog w = .ok true w := by kernel_rfl
theorem sizeTri (w : World) : (Go.sizeOf 72).run Tryz.prog w = .ok 3 w := by kernel_rfl
/-- slices.ContainsFunc over a list of triangles, empty or not. -/
theorem cont_any (v : Value) (T : List Tr) (p : Tr → Bool) (lb : Array Value) (w : World) (h : TrisRd w v T)
    (hp : PredBelow Tryz.prog 117 lb (fun x => .agg (triC x).toArray) p w) :
    Calls Tryz.prog 116 #[v, .func (.func 117) #[] lb] w fun e w' => e = .returned (.bool (T.any p)) ∧ Below w.heap.size w w' := by
  obtain ⟨a, c, rfl, hc1, hc2, hr⟩ := h
  by_cases hT : T = []
  · subst hT
    refine (cont_none a c _ w).mono ?_
    rintro e w' ⟨rfl, rfl⟩
    exact ⟨rfl, Below.refl _ _⟩
  · obtain ⟨⟨x, y, z⟩, hx⟩ : ∃ q, T[0]? = some q := by
      cases T with
      | nil => exact absurd rfl hT
      | cons q r => exact ⟨q, rfl⟩
    obtain ⟨b, o, rfl, hb, -⟩ := hr 0 x y z hx
    have hcells : ∀ j, j < T.length → ∀ i v, (triC T[j]!)[i]? = some v → w.cell? ⟨b, o + j * 3 + i, none⟩ = some v := by
      intro j hj i v hv
      obtain ⟨b', o', e, -, s0, s1, s2⟩ := hr j T[j].1 T[j].2.1 T[j].2.2 (by rw [List.getElem?_eq_getElem hj])
      cases e
      rw [getElem!_pos T j hj] at hv
      have hi : i = 0 ∨ i = 1 ∨ i = 2 ∨ 3 ≤ i := by omega
      rcases hi with rfl | rfl | rfl | hi
      · cases hv; exact s0
      · cases hv; exact s1
      · cases hv; exact s2
      · rw [List.getElem?_eq_none (by simpa [triC] using hi)] at hv
        cases hv
    have := Tryz.slices_ContainsFunc (α := Tr) 3 isAggTri sizeTri triC (fun _ => rfl) p 117 lb (fun _ _ => by kernel_rfl) b o T.length c T w hp (Nat.le_refl _) (by omega) hb hcells
    rw [List.take_length] at this
    exact this
/-- Does it fit: are there not too many vertices and triangles, and is each triangle of vertices that there are, no two the same. -/
def fitsS (N : Int) (T : List Tr) : Bool := decide (0 ≤ N ∧ N ≤ 4096 ∧ T.length ≤ 8192) && !(T.any fun t => !decide (fitsM t N))
set_option maxRecDepth 100000 in
set_option maxHeartbeats 1000000 in
theorem soupFits_any (N : Int) (v : Value) (T : List Tr) (w : World) (h : TrisRd w v T) (hl : T.length ≤ 100000) :
    Calls Tryz.prog 93 #[.agg #[.int .i64 N, v]] w fun e w' => e = .returned (.bool (fitsS N T)) ∧ Below w.heap.size w w' := by
  obtain ⟨a, c, rfl, hc1, hc2, -⟩ := id h
  have b1 := Blk.new w 24 #[.int .i64 N, .slice a T.length c]
  have hB : Below w.heap.size w (w.alloc (.cells #[.int .i64 N, .slice a T.length c] 24)) := (Below.refl _ _).alloc (Nat.le_refl _) _
  obtain ⟨p0, x0, -, x1, -⟩ := b1.two
  have HC := Lib.hid (cont_any _ T (fun t => !decide (fitsM t N)) #[.pointer (some ⟨w.heap.size, 0, none⟩)] _ (h.below hB) (fun W t hW => (fitsC_any w.heap.size N t W ((hW.cell (p := ⟨w.heap.size, 0, none⟩) p0).trans x0) (Nat.lt_of_lt_of_le p0 hW.size)).mono (fun _ _ ⟨he, hb⟩ => ⟨he, hW.trans (hb.mono hW.size)⟩)))
  have HB := Lib.hid hB
  have HF : fitsS N T = (decide (0 ≤ N ∧ N ≤ 4096 ∧ T.length ≤ 8192) && !(T.any fun t => !decide (fitsM t N))) := rfl
  rw [HF]
  obtain ⟨q, hq⟩ : ∃ q, (T.any fun t => !decide (fitsM t N)) = q := ⟨_, rfl⟩
  rw [hq] at HC ⊢
  clear HF hq hB b1 h
  by_cases h0 : N < 0
  · have d0 : decide (N < 0) = true := by simpa using h0
    rw [decide_eq_false (show ¬ (0 ≤ N ∧ N ≤ 4096 ∧ T.length ≤ 8192) by omega)]
    clear h0
    go_enter Tryz.func93, Tryz.ntmps93
    go_wp2
    go_ret
    exact ⟨rfl, HB.out⟩
  · have d0 : decide (N < 0) = false := by simpa using h0
    by_cases h1 : 4096 < N
    · have d1 : decide (4096 < N) = true := by simpa using h1
      rw [decide_eq_false (show ¬ (0 ≤ N ∧ N ≤ 4096 ∧ T.length ≤ 8192) by omega)]
      clear h0 h1
      go_enter Tryz.func93, Tryz.ntmps93
      go_wp2
      go_ret
      exact ⟨rfl, HB.out⟩
    · have d1 : decide (4096 < N) = false := by simpa using h1
      by_cases h2 : 8192 < T.length
      · have d2 : decide (8192 < (T.length : Int)) = true := by simp; omega
        rw [decide_eq_false (show ¬ (0 ≤ N ∧ N ≤ 4096 ∧ T.length ≤ 8192) by omega)]
        clear h0 h1 h2
        go_enter Tryz.func93, Tryz.ntmps93
        go_wp2
        go_ret
        exact ⟨rfl, HB.out⟩
      · have d2 : decide (8192 < (T.length : Int)) = false := by simp; omega
        rw [decide_eq_true (show (0 ≤ N ∧ N ≤ 4096 ∧ T.length ≤ 8192) by omega)]
        clear h0 h1 h2
        go_enter Tryz.func93, Tryz.ntmps93
        go_wp2_with (go_at_call 116; refine HC.out.mono ?_; rintro e w' ⟨rfl, hb⟩)
        go_ret
        exact ⟨by simp, HB.out.trans (hb.mono HB.out.size)⟩
end Go.Proofs.YtghlnknncahkgaaGreat
/-
  The form of a surface, in plain words: parts have vertices and triangles of their own; numbered triangles fit; soups joined.
-/
namespace Go.Proofs.YtghlnknncahkgaaGreat
open Go.RowKit

/-! Parts have vertices of their own. -/
theorem vert_inr {N : Int} {T : List Tr} (hS : Surf N T) {c : Nat} (hc : c < 3 * T.length) : inR N (vertN T c) := by
  have h := vertN_in (N := N) (fun t ht => by
    obtain ⟨⟨a, b⟩, ⟨c, d⟩, e, f⟩ := hS.inr t ht
    exact ⟨a, b, c, d, e, f⟩) hc
  exact h
theorem shl_vert {N : Int} {T : List Tr} {out : List Int} (hS : Surf N T) (h : Shl T out) {c d : Nat} (hc : c < 3 * T.length) (hd : d < 3 * T.length) (e : vertN T d = vertN T c) : at_ out (d / 3) = at_ out (c / 3) :=
  aroundB hS (v := vertN T c) (vert_inr hS hc) (fun j => at_ out j = at_ out (c / 3)) ⟨c, hc, rfl, rfl⟩
    (fun x hx _ hs => ⟨fun o ho => by
      have := h.adj (Jor.nx x) o (Jor.nx_lt hx) ho
      rw [Jor.nx_div] at this
      exact this.trans hs, fun o ho => by
      have := h.adj (Jor.pv x) o (Jor.pv_lt hx) ho
      rw [Jor.pv_div] at this
      exact this.trans hs⟩) d hd e
theorem vert_own {T : List Tr} (hs : ∀ t ∈ T, simple3 t) {c d : Nat} (hc : c < 3 * T.length) (e3 : c / 3 = d / 3) (e : vertN T c = vertN T d) : c = d := by
  have hk : c / 3 < T.length := by omega
  have ht : T[c / 3]? = some T[c / 3] := List.getElem?_eq_getElem hk
  have h1 : triAt T c = T[c / 3] := by unfold triAt; rw [ht]; rfl
  have h2 : triAt T d = T[c / 3] := by unfold triAt; rw [← e3, ht]; rfl
  have h3 := hs _ (List.getElem_mem hk)
  unfold vertN at e
  rw [h1, h2] at e
  generalize T[c / 3] = t at *
  obtain ⟨x, y, z⟩ := t
  obtain ⟨n1, n2, n3⟩ := h3
  simp only at n1 n2 n3 e
  have hc3 : c % 3 = 0 ∨ c % 3 = 1 ∨ c % 3 = 2 := by omega
  have hd3 : d % 3 = 0 ∨ d % 3 = 1 ∨ d % 3 = 2 := by omega
  rcases hc3 with a | a | a <;> rcases hd3 with b | b | b <;> simp [a, b] at e <;> first | omega | (exfalso; first | exact n1 e | exact n1 e.symm | exact n2 e | exact n2 e.symm | exact n3 e | exact n3 e.symm)
theorem parts_le {N : Int} {T : List Tr} {out : List Int} (hS : Surf N T) (h : Shl T out) {m : Nat} (f : Nat → Nat) (hf : ∀ n, n < m → f n < T.length ∧ at_ out (f n) = (n : Int)) : 3 * m ≤ N.toNat := by
  have hlt : ∀ a, a < 3 * m → 3 * f (a / 3) + a % 3 < 3 * T.length := fun a ha => by
    have := (hf (a / 3) (by omega)).1
    omega
  have hn : ((List.range (3 * m)).map fun a => (vertN T (3 * f (a / 3) + a % 3)).toNat).Nodup := by
    rw [List.nodup_iff_pairwise_ne, List.pairwise_iff_getElem]
    intro i j hi hj hij e
    simp only [List.length_map, List.length_range] at hi hj
    simp only [List.getElem_map, List.getElem_range] at e
    have h1 := vert_inr hS (hlt i hi)
    have h2 := vert_inr hS (hlt j hj)
    have e2 : vertN T (3 * f (i / 3) + i % 3) = vertN T (3 * f (j / 3) + j % 3) := by
      have a1 := h1.1
      have a2 := h2.1
      omega
    have e3 := shl_vert hS h (hlt j hj) (hlt i hi) e2
    rw [show (3 * f (i / 3) + i % 3) / 3 = f (i / 3) from by omega, show (3 * f (j / 3) + j % 3) / 3 = f (j / 3) from by omega, (hf (i / 3) (by omega)).2, (hf (j / 3) (by omega)).2] at e3
    have e4 : i / 3 = j / 3 := by omega
    rw [e4] at e2
    have := vert_own hS.simple (hlt j hj |> fun h => (by rw [← e4]; exact hlt i hi : 3 * f (j / 3) + i % 3 < 3 * T.length)) (by omega) e2
    omega
  have hle := Jor.nodup_le (m := List.range N.toNat) hn (fun x hx => by
    rw [List.mem_map] at hx
    obtain ⟨a, ha, rfl⟩ := hx
    have h1 := vert_inr hS (hlt a (List.mem_range.1 ha))
    rw [List.mem_range]
    have a1 := h1.1
    have a2 := h1.2
    omega)
  simpa using hle

/-! Corners come to are of one part. -/
theorem ovr_part {T : List Tr} {out : List Int} (h : Shl T out) {L : List Nat} {n : Int} (hL : ∀ d ∈ L, at_ out (d / 3) = n) {c : Nat} (hc : c < 3 * T.length) (hcn : at_ out (c / 3) = n) : ∀ d ∈ ovr T L (c : Int), at_ out (d / 3) = n := by
  intro d hd
  unfold ovr at hd
  split at hd
  · rename_i hh
    rcases List.mem_append.1 hd with hd | hd
    · exact hL d hd
    · rw [List.mem_singleton] at hd
      subst hd
      rcases opp_cases T (c : Int) with e | ⟨o, e, -⟩
      · rw [e] at hh
        omega
      · rw [e]
        simp only [Int.toNat_natCast]
        rw [h.adj c o hc e, hcn]
  · exact hL d hd
theorem rtF_part {T : List Tr} {out : List Int} (h : Shl T out) {n : Int} : ∀ (k i : Nat) {L : List Nat}, LOk T L → (∀ d ∈ L, at_ out (d / 3) = n) → ∀ d ∈ rtF T k i L, at_ out (d / 3) = n
  | 0, _, _, _, hL => hL
  | k + 1, i, L, hO, hL => by
    unfold rtF
    cases hd : L[i]? with
    | none => exact hL
    | some d =>
      have hm := List.mem_of_getElem? hd
      have hdl := hO.lt d hm
      have h1 := ovr_part h hL (c := Jor.nx d) (Jor.nx_lt hdl) (by rw [Jor.nx_div]; exact hL d hm)
      have h2 := ovr_part h h1 (c := Jor.pv d) (Jor.pv_lt hdl) (by rw [Jor.pv_div]; exact hL d hm)
      exact rtF_part h k (i + 1) ((hO.ovr _).ovr _) h2
theorem rtL_part {T : List Tr} {out : List Int} (h : Shl T out) {c : Nat} (hc : c < 3 * T.length) : ∀ d ∈ rtL T c, at_ out (d / 3) = at_ out (c / 3) :=
  rtF_part h _ _ ((LOk.one hc).ovr _) (ovr_part h (fun d hd => by rw [List.mem_singleton.1 hd]) hc rfl)
theorem rtL_sum {T : List Tr} {out : List Int} (h : Shl T out) {m : Nat} (f : Nat → Nat) (hf : ∀ n, n < m → f n < 3 * T.length ∧ at_ out (f n / 3) = (n : Int)) : ((List.range m).flatMap fun n => trisOf (rtL T (f n))).length ≤ T.length := by
  have hn : ((List.range m).flatMap fun n => trisOf (rtL T (f n))).Nodup := by
    rw [List.nodup_iff_pairwise_ne, List.pairwise_flatMap]
    refine ⟨fun n hn => List.nodup_iff_pairwise_ne.1 (LOk.rtL (hf n (List.mem_range.1 hn)).1).nd, ?_⟩
    rw [List.pairwise_iff_getElem]
    intro i j hi hj hij x hx y hy e
    simp only [List.length_range] at hi hj
    simp only [List.getElem_range] at hx hy
    unfold trisOf at hx hy
    rw [List.mem_map] at hx hy
    obtain ⟨a, ha, rfl⟩ := hx
    obtain ⟨b, hb, rfl⟩ := hy
    have e1 := rtL_part h (hf i hi).1 a ha
    have e2 := rtL_part h (hf j hj).1 b hb
    rw [e, e2, (hf i hi).2, (hf j hj).2] at e1
    omega
  have := Jor.nodup_le (m := List.range T.length) hn (fun x hx => by
    rw [List.mem_flatMap] at hx
    obtain ⟨n, hn, hx⟩ := hx
    unfold trisOf at hx
    rw [List.mem_map] at hx
    obtain ⟨a, ha, rfl⟩ := hx
    have := (LOk.rtL (hf n (List.mem_range.1 hn)).1).lt a ha
    rw [List.mem_range]
    omega)
  simpa using this

/-! Numbered triangles. -/
theorem spot_at {F : List Int} {v : Int} (h : v ∈ F) : F[spot F v]? = some v := by
  induction F with
  | nil => cases h
  | cons a l ih =>
    simp only [spot]
    by_cases e : a = v
    · rw [if_pos e, e]
      rfl
    · rw [if_neg e, List.getElem?_cons_succ]
      exact ih (by rcases List.mem_cons.1 h with e2 | h; exact absurd e2.symm e; exact h)
theorem spot_inj {F : List Int} {a b : Int} (ha : a ∈ F) (hb : b ∈ F) (e : spot F a = spot F b) : a = b := by
  have h1 := spot_at ha
  rw [e, spot_at hb] at h1
  exact (Option.some.inj h1).symm
theorem addV_ext (old : List Int) (v : Int) : ∃ m, addV old v = old ++ m := by
  unfold addV
  split
  · exact ⟨[], by simp⟩
  · exact ⟨[v], rfl⟩
theorem numT_ext (T : List Tr) (old : List Int) (d : Nat) : ∃ m, numT T old d = old ++ m := by
  obtain ⟨a, ha⟩ := addV_ext old (vertN T d)
  obtain ⟨b, hb⟩ := addV_ext (old ++ a) (vertN T (Jor.nx d))
  obtain ⟨c, hc⟩ := addV_ext (old ++ a ++ b) (vertN T (Jor.pv d))
  exact ⟨a ++ b ++ c, by unfold numT; rw [ha, hb, hc]; simp⟩
theorem numL_ext (T : List Tr) : ∀ (L : List Nat) (s : List Int × List Tr), ∃ m, (numL T L s).1 = s.1 ++ m
  | [], s => ⟨[], by simp [numL]⟩
  | d :: r, s => by
    obtain ⟨a, ha⟩ := numT_ext T s.1 d
    obtain ⟨b, hb⟩ := numL_ext T r (numT T s.1 d, s.2 ++ [triT T s.1 d])
    exact ⟨a ++ b, by unfold numL; rw [hb, ha]; simp⟩
theorem numT_mem (T : List Tr) (old : List Int) (d : Nat) : vertN T d ∈ numT T old d ∧ vertN T (Jor.nx d) ∈ numT T old d ∧ vertN T (Jor.pv d) ∈ numT T old d := by
  obtain ⟨b, hb⟩ := addV_ext (addV old (vertN T d)) (vertN T (Jor.nx d))
  obtain ⟨c, hc⟩ := addV_ext (addV (addV old (vertN T d)) (vertN T (Jor.nx d))) (vertN T (Jor.pv d))
  have h1 : vertN T d ∈ addV old (vertN T d) := addV_mem
  have h2 : vertN T (Jor.nx d) ∈ addV (addV old (vertN T d)) (vertN T (Jor.nx d)) := addV_mem
  refine ⟨?_, ?_, addV_mem⟩
  · unfold numT
    rw [hc, hb]
    simp [h1]
  · unfold numT
    rw [hc]
    simp [h2]
/-- A corner's triangle in the numbers of F. -/
def spotT (F : List Int) (T : List Tr) (d : Nat) : Tr := ((spot F (vertN T d) : Nat), (spot F (vertN T (Jor.nx d)) : Nat), (spot F (vertN T (Jor.pv d)) : Nat))
theorem triT_spot (T : List Tr) (old : List Int) (d : Nat) (m : List Int) : triT T old d = spotT (numT T old d ++ m) T d := by
  obtain ⟨b, hb⟩ := addV_ext (addV old (vertN T d)) (vertN T (Jor.nx d))
  obtain ⟨c, hc⟩ := addV_ext (addV (addV old (vertN T d)) (vertN T (Jor.nx d))) (vertN T (Jor.pv d))
  have h1 : vertN T d ∈ addV old (vertN T d) := addV_mem
  have h2 : vertN T (Jor.nx d) ∈ addV (addV old (vertN T d)) (vertN T (Jor.nx d)) := addV_mem
  have h3 := (numT_mem T old d).2.2
  have e1 : spot (numT T old d ++ m) (vertN T d) = spot (addV old (vertN T d)) (vertN T d) := by
    have : numT T old d ++ m = addV old (vertN T d) ++ (b ++ c ++ m) := by unfold numT; rw [hc, hb]; simp
    rw [this, spot_mem _ h1]
  have e2 : spot (numT T old d ++ m) (vertN T (Jor.nx d)) = spot (addV (addV old (vertN T d)) (vertN T (Jor.nx d))) (vertN T (Jor.nx d)) := by
    have : numT T old d ++ m = addV (addV old (vertN T d)) (vertN T (Jor.nx d)) ++ (c ++ m) := by unfold numT; rw [hc]; simp
    rw [this, spot_mem _ h2]
  have e3 : spot (numT T old d ++ m) (vertN T (Jor.pv d)) = spot (numT T old d) (vertN T (Jor.pv d)) := spot_mem _ h3
  unfold triT spotT
  rw [e1, e2, e3]
theorem numL_spot (T : List Tr) : ∀ (L : List Nat) (s : List Int × List Tr), (numL T L s).2 = s.2 ++ L.map (spotT (numL T L s).1 T)
  | [], s => by simp [numL]
  | d :: r, s => by
    have ih := numL_spot T r (numT T s.1 d, s.2 ++ [triT T s.1 d])
    obtain ⟨m, hm⟩ := numL_ext T r (numT T s.1 d, s.2 ++ [triT T s.1 d])
    simp only at hm
    have e : numL T (d :: r) s = numL T r (numT T s.1 d, s.2 ++ [triT T s.1 d]) := rfl
    have h := triT_spot T s.1 d m
    rw [← hm] at h
    rw [e, ih]
    generalize (numL T r (numT T s.1 d, s.2 ++ [triT T s.1 d])).1 = F at *
    simp [h]
theorem numL_mem (T : List Tr) : ∀ (L : List Nat) (s : List Int × List Tr), ∀ d ∈ L, vertN T d ∈ (numL T L s).1 ∧ vertN T (Jor.nx d) ∈ (numL T L s).1 ∧ vertN T (Jor.pv d) ∈ (numL T L s).1
  | [], _, _, h => by cases h
  | e :: r, s, d, h => by
    have e0 : numL T (e :: r) s = numL T r (numT T s.1 e, s.2 ++ [triT T s.1 e]) := rfl
    rw [e0]
    rcases List.mem_cons.1 h with rfl | h
    · obtain ⟨m, hm⟩ := numL_ext T r (numT T s.1 d, s.2 ++ [triT T s.1 d])
      simp only at hm
      obtain ⟨h1, h2, h3⟩ := numT_mem T s.1 d
      rw [hm]
      exact ⟨List.mem_append_left _ h1, List.mem_append_left _ h2, List.mem_append_left _ h3⟩
    · exact numL_mem T r _ d h
theorem rtN_spot (T : List Tr) (c : Nat) : (rtN T c).2 = (rtL T c).map (spotT (rtN T c).1 T) := by
  have := numL_spot T (rtL T c) ([], [])
  simpa [rtN] using this
theorem rtN_mem {T : List Tr} {c d : Nat} (h : d ∈ rtL T c) : vertN T d ∈ (rtN T c).1 ∧ vertN T (Jor.nx d) ∈ (rtN T c).1 ∧ vertN T (Jor.pv d) ∈ (rtN T c).1 := numL_mem T _ _ d h
theorem rtN_nodup (T : List Tr) (c : Nat) : (rtN T c).1.Nodup := numL_nodup T _ _ List.nodup_nil
theorem rtN_fitsM {T : List Tr} (hs : ∀ t ∈ T, simple3 t) {c : Nat} (hc : c < 3 * T.length) : ∀ t ∈ (rtN T c).2, fitsM t (rtN T c).1.length := by
  intro t ht
  rw [rtN_spot, List.mem_map] at ht
  obtain ⟨d, hd, rfl⟩ := ht
  obtain ⟨m1, m2, m3⟩ := rtN_mem hd
  have hdl := (LOk.rtL hc).lt d hd
  have l1 := spot_lt m1
  have l2 := spot_lt m2
  have l3 := spot_lt m3
  have n1 : d ≠ Jor.nx d := by unfold Jor.nx; omega
  have n2 : Jor.nx d ≠ Jor.pv d := by unfold Jor.nx Jor.pv; omega
  have n3 : Jor.pv d ≠ d := by unfold Jor.pv; omega
  refine ⟨⟨by simp [spotT], by simp only [spotT]; omega⟩, ⟨by simp [spotT], by simp only [spotT]; omega⟩, ⟨by simp [spotT], by simp only [spotT]; omega⟩, ?_, ?_, ?_⟩
  · intro e
    simp only [spotT] at e
    exact n1 (vert_own hs hdl (by rw [Jor.nx_div]) (spot_inj m1 m2 (by omega)))
  · intro e
    simp only [spotT] at e
    exact n2 (vert_own hs (Jor.nx_lt hdl) (by rw [Jor.nx_div, Jor.pv_div]) (spot_inj m2 m3 (by omega)))
  · intro e
    simp only [spotT] at e
    exact n3 (vert_own hs (Jor.pv_lt hdl) (by rw [Jor.pv_div]) (spot_inj m3 m1 (by omega)))
theorem fitsS_of {N : Int} {T : List Tr} (h0 : 0 ≤ N) (h1 : N ≤ 4096) (h2 : T.length ≤ 8192) (h : ∀ t ∈ T, fitsM t N) : fitsS N T = true := by
  unfold fitsS
  rw [decide_eq_true ⟨h0, h1, h2⟩, Bool.true_and, Bool.not_eq_true', List.any_eq_false]
  intro t ht
  simp [h t ht]
theorem rtN_fits {T : List Tr} (hs : ∀ t ∈ T, simple3 t) {c : Nat} (hc : c < 3 * T.length) (hl : T.length ≤ 1000) : fitsS ((rtN T c).1.length : Int) (rtN T c).2 = true := by
  obtain ⟨a, b, d⟩ := rtN_lens hc
  exact fitsS_of (by omega) (by omega) (by omega) (rtN_fitsM hs hc)

/-! Soups, joined. -/
def shT (n : Int) (t : Tr) : Tr := (t.1 + n, t.2.1 + n, t.2.2 + n)
def joinS (s x : Int × List Tr) : Int × List Tr := (s.1 + x.1, s.2 ++ x.2.map (shT s.1))
def joinM (l : List (Int × List Tr)) : Int × List Tr := l.foldl joinS (0, [])
theorem joinM_take {l : List (Int × List Tr)} {k : Nat} {x : Int × List Tr} (h : l[k]? = some x) : joinM (l.take (k + 1)) = joinS (joinM (l.take k)) x := by
  obtain ⟨hk, he⟩ := List.getElem?_eq_some_iff.1 h
  rw [List.take_succ_eq_append_getElem hk, he]
  simp [joinM]
theorem joinF_bd : ∀ (l : List (Int × List Tr)) (s : Int × List Tr), (∀ x ∈ l, 0 ≤ x.1) → s.1 ≤ (l.foldl joinS s).1 ∧ s.2.length ≤ (l.foldl joinS s).2.length
  | [], _, _ => ⟨Int.le_refl _, Nat.le_refl _⟩
  | x :: r, s, h => by
    have ih := joinF_bd r (joinS s x) (fun y hy => h y (List.mem_cons_of_mem _ hy))
    have h0 := h x (List.mem_cons_self ..)
    have e1 : (joinS s x).1 = s.1 + x.1 := rfl
    have e2 : (joinS s x).2.length = s.2.length + x.2.length := by simp [joinS]
    rw [List.foldl_cons]
    omega
theorem joinM_bd {l : List (Int × List Tr)} (h : ∀ x ∈ l, 0 ≤ x.1) (k : Nat) : (joinM (l.take k)).1 ≤ (joinM l).1 ∧ (joinM (l.take k)).2.length ≤ (joinM l).2.length := by
  have e : joinM l = (l.drop k).foldl joinS (joinM (l.take k)) := by
    unfold joinM
    rw [← List.foldl_append, List.take_append_drop]
  rw [e]
  exact joinF_bd _ _ (fun x hx => h x (List.mem_of_mem_drop hx))
theorem joinM_nn {l : List (Int × List Tr)} (h : ∀ x ∈ l, 0 ≤ x.1) : 0 ≤ (joinM l).1 := (joinF_bd l (0, []) h).1
theorem joinF_sum : ∀ (l : List (Int × List Tr)) (s : Int × List Tr), (l.foldl joinS s).1 = s.1 + (l.map (·.1)).sum ∧ (l.foldl joinS s).2.length = s.2.length + (l.map (·.2.length)).sum
  | [], s => by simp
  | x :: r, s => by
    obtain ⟨a, b⟩ := joinF_sum r (joinS s x)
    have e1 : (joinS s x).1 = s.1 + x.1 := rfl
    have e2 : (joinS s x).2.length = s.2.length + x.2.length := by simp [joinS]
    rw [List.foldl_cons, a, b, e1, e2]
    simp only [List.map_cons, List.sum_cons]
    omega
end Go.Proofs.YtghlnknncahkgaaGreat
/-
  The form of a body whose soup is a surface, in plain words: the parts' least records, in order, joined.
-/
namespace Go.Proofs.YtghlnknncahkgaaGreat
open Go.RowKit

def rowC (T P : List Tr) (K : List Int) (c : Nat) : List Int := (fromM T P K c).row
def ltR (x y : RecM) : Bool := decide (cmpL x.row y.row < 0)
def bestC (T P : List Tr) (K out : List Int) (n : Nat) : Nat := (bestN (rowC T P K) out n (3 * T.length)).getD 0
def recsM (T P : List Tr) (K out : List Int) (m : Nat) : List RecM := (List.range m).map fun n => fromM T P K (bestC T P K out n)
def sortM (T P : List Tr) (K out : List Int) (m : Nat) : List RecM := sortB ltR (recsM T P K out m)
def soupsM (l : List RecM) : List (Int × List Tr) := l.map fun r => (r.N, r.T)
/-- Each part, up to m, has a triangle. -/
def HasP (T : List Tr) (out : List Int) (m : Nat) : Prop := ∀ n, n < m → ∃ j, j < T.length ∧ at_ out j = (n : Int)
theorem bestC_ok {T P : List Tr} {K out : List Int} {m n : Nat} (h : HasP T out m) (hn : n < m) : bestN (rowC T P K) out n (3 * T.length) = some (bestC T P K out n) ∧ bestC T P K out n < 3 * T.length ∧ at_ out (bestC T P K out n / 3) = (n : Int) := by
  obtain ⟨j, hj, e⟩ := h n hn
  have h1 := bestN_isSome (rw_ := rowC T P K) (out := out) (n := n) (k := 3 * T.length) (c := 3 * j) (by omega) (by rw [show 3 * j / 3 = j from by omega]; exact e)
  obtain ⟨d, hd⟩ := Option.isSome_iff_exists.1 h1
  have h2 := bestN_some hd
  unfold bestC
  rw [hd]
  exact ⟨rfl, h2⟩
theorem Shl.hasP {T : List Tr} {out : List Int} (h : Shl T out) {m : Nat} (hm : (m : Int) = cntL out) : HasP T out m := by
  intro n hn
  obtain ⟨j, hj, hge⟩ : ∃ j, j < T.length ∧ (n : Int) ≤ at_ out j := by
    refine Classical.byContradiction fun hno => ?_
    have h1 := cntL_bd (out := out) (m := (n : Int)) (fun j hj => Int.not_le.1 (fun hge => hno ⟨j, by rw [← h.len]; exact hj, hge⟩)) (by omega) out.length (Nat.le_refl _)
    rw [List.take_length] at h1
    omega
  obtain ⟨i, hi, e⟩ := h.hit hj hge
  exact ⟨i, by omega, e⟩
theorem HasP.le {N : Int} {T : List Tr} {out : List Int} (hS : Surf N T) (h : Shl T out) {m : Nat} (hm : HasP T out m) : 3 * m ≤ N.toNat := by
  refine parts_le hS h (fun n => if hn : n < m then Classical.choose (hm n hn) else 0) (fun n hn => ?_)
  rw [dif_pos hn]
  exact Classical.choose_spec (hm n hn)
theorem from_len (T P : List Tr) (K : List Int) {c : Nat} (_hc : c < 3 * T.length) : (fromM T P K c).T.length = (rtL T c).length ∧ (fromM T P K c).N = ((fromM T P K c).old.length : Int) ∧ (fromM T P K c).old.length ≤ 3 * (rtL T c).length ∧ (fromM T P K c).P.length ≤ (fromM T P K c).old.length ∧ (fromM T P K c).K.length ≤ 3 * (rtL T c).length := by
  have h := numL_len T (rtL T c) ([], [])
  simp only [List.length_nil] at h
  have e : numL T (rtL T c) ([], []) = rtN T c := rfl
  rw [e] at h
  refine ⟨by show (rtN T c).2.length = _; omega, rfl, by show (rtN T c).1.length ≤ _; omega, ?_, ?_⟩
  · show (paintL P (rtN T c).1).length ≤ (rtN T c).1.length
    unfold paintL
    split
    · exact Nat.zero_le _
    · rw [paintF_len]
      exact Nat.le_refl _
  · show (sideL K (rtL T c)).length ≤ _
    unfold sideL
    split
    · exact Nat.zero_le _
    · rw [sideF_len]
      exact Nat.le_refl _
theorem recs_sum {T P : List Tr} {K out : List Int} {m : Nat} (h : Shl T out) (hm : HasP T out m) : ((recsM T P K out m).map fun r => r.T.length).sum ≤ T.length := by
  have h1 := rtL_sum h (m := m) (bestC T P K out) (fun n hn => (bestC_ok hm hn).2)
  rw [List.length_flatMap] at h1
  refine Nat.le_trans (Nat.le_of_eq ?_) h1
  unfold recsM
  rw [List.map_map]
  congr 1
  refine List.map_congr_left (fun n hn => ?_)
  have := (bestC_ok (P := P) (K := K) hm (List.mem_range.1 hn)).2.1
  show (fromM T P K (bestC T P K out n)).T.length = _
  rw [(from_len T P K this).1, trisOf, List.length_map]
theorem sort_sum (T P : List Tr) (K out : List Int) (m : Nat) : ((sortM T P K out m).map fun r => r.T.length).sum = ((recsM T P K out m).map fun r => r.T.length).sum :=
  ((sortB_perm ltR (recsM T P K out m)).map fun r => r.T.length).sum_nat
theorem sort_mem {T P : List Tr} {K out : List Int} {m : Nat} (hm : HasP T out m) {r : RecM} (h : r ∈ sortM T P K out m) : ∃ c, c < 3 * T.length ∧ r = fromM T P K c := by
  have h1 := (sortB_perm ltR (recsM T P K out m)).mem_iff.1 h
  unfold recsM at h1
  rw [List.mem_map] at h1
  obtain ⟨n, hn, rfl⟩ := h1
  exact ⟨_, (bestC_ok hm (List.mem_range.1 hn)).2.1, rfl⟩
theorem sort_len (T P : List Tr) (K out : List Int) (m : Nat) : (sortM T P K out m).length = m := by
  unfold sortM
  rw [sortB_len]
  simp [recsM]
/-- What is joined is not too much. -/
theorem soups_bd {T P : List Tr} {K out : List Int} {m : Nat} (h : Shl T out) (hm : HasP T out m) : (joinM (soupsM (sortM T P K out m))).1 ≤ 3 * T.length ∧ (joinM (soupsM (sortM T P K out m))).2.length ≤ T.length := by
  have hs := sort_sum T P K out m
  have hr := recs_sum (P := P) (K := K) h hm
  have key : ∀ l : List RecM, (∀ r ∈ l, r ∈ sortM T P K out m) → ((soupsM l).map (·.1)).sum ≤ 3 * ((l.map fun r => r.T.length).sum : Nat) ∧ ((soupsM l).map (·.2.length)).sum = (l.map fun r => r.T.length).sum := by
    intro l
    induction l with
    | nil => intro _; simp [soupsM]
    | cons r s ih =>
      intro hl
      obtain ⟨a, b⟩ := ih (fun x hx => hl x (List.mem_cons_of_mem _ hx))
      obtain ⟨c, hc, e⟩ := sort_mem hm (hl r (List.mem_cons_self ..))
      obtain ⟨f1, f2, f3, -⟩ := from_len T P K hc
      rw [← e] at f1 f2 f3
      have e1 : soupsM (r :: s) = (r.N, r.T) :: soupsM s := rfl
      rw [e1]
      simp only [List.map_cons, List.sum_cons]
      omega
  obtain ⟨a, b⟩ := key _ (fun r hr => hr)
  obtain ⟨c, d⟩ := joinF_sum (soupsM (sortM T P K out m)) (0, [])
  unfold joinM
  simp only [List.length_nil] at c d
  omega
theorem sum_take_le (l : List Nat) : ∀ k, (l.take k).sum ≤ l.sum := by
  induction l with
  | nil => intro k; simp
  | cons a r ih =>
    intro k
    cases k with
    | zero => simp
    | succ k =>
      rw [List.take_succ_cons, List.sum_cons, List.sum_cons]
      have := ih k
      omega
theorem flat_le {T P : List Tr} {K out : List Int} {m : Nat} (h : Shl T out) (hm : HasP T out m) {β : Type} (f : RecM → List β) (hf : ∀ c, c < 3 * T.length → (f (fromM T P K c)).length ≤ 3 * (fromM T P K c).T.length) (k : Nat) : (((sortM T P K out m).take k).flatMap f).length ≤ 3 * T.length := by
  have hs := sort_sum T P K out m
  have hr := recs_sum (P := P) (K := K) h hm
  rw [List.length_flatMap]
  have key : ∀ l : List RecM, (∀ r ∈ l, r ∈ sortM T P K out m) → (l.map fun a => (f a).length).sum ≤ 3 * (l.map fun r => r.T.length).sum := by
    intro l
    induction l with
    | nil => intro _; simp
    | cons r s ih =>
      intro hl
      have a := ih (fun x hx => hl x (List.mem_cons_of_mem _ hx))
      obtain ⟨c, hc, e⟩ := sort_mem hm (hl r (List.mem_cons_self ..))
      have b := hf c hc
      rw [← e] at b
      simp only [List.map_cons, List.sum_cons]
      omega
  have h1 := key ((sortM T P K out m).take k) (fun r hr => List.mem_of_mem_take hr)
  have h2 := sum_take_le ((sortM T P K out m).map fun r => r.T.length) k
  rw [← List.map_take] at h2
  omega
theorem flat_P {T P : List Tr} {K out : List Int} {m : Nat} (h : Shl T out) (hm : HasP T out m) (k : Nat) : (((sortM T P K out m).take k).flatMap (·.P)).length ≤ 3 * T.length :=
  flat_le h hm _ (fun c hc => by obtain ⟨a, b, d, e, f⟩ := from_len T P K hc; omega) k
theorem flat_K {T P : List Tr} {K out : List Int} {m : Nat} (h : Shl T out) (hm : HasP T out m) (k : Nat) : (((sortM T P K out m).take k).flatMap (·.K)).length ≤ 3 * T.length :=
  flat_le h hm _ (fun c hc => by obtain ⟨a, b, d, e, f⟩ := from_len T P K hc; omega) k
theorem flat_O {T P : List Tr} {K out : List Int} {m : Nat} (h : Shl T out) (hm : HasP T out m) (k : Nat) : (((sortM T P K out m).take k).flatMap (·.old)).length ≤ 3 * T.length :=
  flat_le h hm _ (fun c hc => by obtain ⟨a, b, d, e, f⟩ := from_len T P K hc; omega) k
theorem flat_snoc {α β : Type} {l : List α} {k : Nat} {r : α} (h : l[k]? = some r) (f : α → List β) : (l.take (k + 1)).flatMap f = (l.take k).flatMap f ++ f r := by
  obtain ⟨hk, he⟩ := List.getElem?_eq_some_iff.1 h
  rw [List.take_succ_eq_append_getElem hk, he]
  simp
theorem sort_fits {T P : List Tr} {K out : List Int} {m : Nat} (hs : ∀ t ∈ T, simple3 t) (hl : T.length ≤ 1000) (hm : HasP T out m) : ∀ x ∈ soupsM (sortM T P K out m), fitsS x.1 x.2 = true := by
  intro x hx
  unfold soupsM at hx
  rw [List.mem_map] at hx
  obtain ⟨r, hr, rfl⟩ := hx
  obtain ⟨c, hc, rfl⟩ := sort_mem hm hr
  exact rtN_fits hs hc hl
end Go.Proofs.YtghlnknncahkgaaGreat
/-
  canon.Rooted: its closure, by walking its text.
-/
namespace Go.Proofs.YtghlnknncahkgaaGreat
open Go.RowKit Go.Maps

def keysL (L : List Nat) : List Value := intsV (nats (trisOf L))
/-- What Rooted holds while it goes over the corners. -/
structure RtSt (W0 w : World) (g : Nat) (L : List Nat) (v8 : Value) : Prop where
  b2 : Blk w W0.heap.size 26 #[.pointer (some ⟨g, 0, none⟩)]
  bo : Blk w (W0.heap.size + 1) 24 #[.int .i64 0, .slice none 0 0]
  km : KSet Tryz.prog 3 w (W0.heap.size + 2) (keysL L)
  b7 : Blk w (W0.heap.size + 3) 59 #[.map (some (W0.heap.size + 2))]
  b8 : Blk w (W0.heap.size + 5) 28 #[v8]
  row : w.ownsRow W0.heap.size 3 1 v8 L.length (intsV (nats L))
  bel : Below W0.heap.size W0 w
section
variable {W0 w : World} {g : Nat} {L : List Nat} {v8 : Value}
theorem RtSt.below {w' : World} (h : RtSt W0 w g L v8) (hb : Below w.heap.size w w') : RtSt W0 w' g L v8 :=
  ⟨h.b2.below hb h.b2.lt, h.bo.below hb h.bo.lt, h.km.kept (grown_of_below hb none) (by simp), h.b7.below hb h.b7.lt, h.b8.below hb h.b8.lt, own_below h.row hb, h.bel.trans (hb.mono h.bel.size)⟩
theorem RtSt.drew (h : RtSt W0 w g L v8) : RtSt W0 w.drew g L v8 := h.below (Below.refl _ _).drew
end
theorem keysL_mem {L : List Nat} {t : Nat} : (Value.int .i64 (t : Int)) ∈ keysL L ↔ t ∈ trisOf L := mem_keys
theorem keysL_add (L : List Nat) (o t : Nat) (h : o / 3 = t) : keysL (L ++ [o]) = keysL L ++ [.int .i64 (t : Int)] := by
  subst h
  simp [keysL, intsV, nats, trisOf]

set_option maxRecDepth 100000 in
set_option maxHeartbeats 1000000 in
theorem over_any (g : Nat) (N : Int) (T : List Tr) (W0 w : World) (L : List Nat) (v8 : Value) (c : Int) (hT : Tab W0 g N T) (hL : LOk T L) (h : RtSt W0 w g L v8) :
    Calls Tryz.prog 37 #[.int .i64 c, .pointer (some ⟨W0.heap.size, 0, none⟩), .pointer (some ⟨W0.heap.size + 3, 0, none⟩), .pointer (some ⟨W0.heap.size + 5, 0, none⟩)] w fun e w' => e = .returned (.tuple #[]) ∧ ∃ v8', RtSt W0 w' g (ovr T L c) v8' ∧ w.heap.size ≤ w'.heap.size := by
  obtain ⟨i2, hj', hz0, hz1, hz2⟩ := info_parts infoInt
  have hTl := hT.len
  have HO := Lib.hid (opp_any g N c T w (hT.below h.bel))
  have hLl := hL.len
  have hsz0 := h.bel.size
  have HH := Lib.hid h
  obtain ⟨l2, x2, -⟩ := h.b2.one
  clear h hT
  rcases opp_cases T c with ho | ⟨o, ho, hol⟩
  · rw [ovr_none ho]
    rw [ho] at HO
    have hd : decide (0 ≤ (-1 : Int)) = false := by decide
    clear ho
    go_enter Tryz.func37, Tryz.ntmps37
    go_wp2_with fail
    refine HO.out.mono ?_
    rintro e w1 ⟨rfl, hb⟩
    have HB := Lib.hid hb
    clear x2 hb
    go_wp2
    go_end0
    exact ⟨rfl, v8, HH.out.below HB.out, HB.out.size⟩
  · obtain ⟨t, ht⟩ : ∃ t, o / 3 = t := ⟨_, rfl⟩
    have e1 : (o : Int) / 3 = (t : Int) := by omega
    have hkey := keyOf_int_mk (P := Tryz.prog) (k := 3) (q := .i64) Tryz.underlying3 (wfS (x := (t : Int)) ⟨by omega, by omega⟩)
    have ho0 : (0 : Int) ≤ (o : Int) := by omega
    have ho1 : (o : Int) ≤ 100000 := by omega
    have hd0 : decide (0 ≤ (o : Int)) = true := by simp
    by_cases hm : o / 3 ∈ trisOf L
    · rw [ovr_had ho hm]
      rw [ho] at HO
      rw [ht] at hm
      have Hm := Lib.hid (keysL_mem.2 hm)
      clear ho ht hm
      go_enter Tryz.func37, Tryz.ntmps37
      go_wp2_with fail
      refine HO.out.mono ?_
      rintro e w1 ⟨rfl, hb⟩
      have hs := HH.out.below hb
      obtain ⟨l7, x7, -⟩ := hs.b7.one
      have hkm := hs.km
      have HS := Lib.hid hs
      have hsz := hb.size
      obtain ⟨r, hrun, hir⟩ := hkm.look (t := 59) (int_keyed Tryz.underlying3) Tryz.underlying59 (zero_bool _) hkey
      obtain rfl : r = true := hir.2 Hm.out
      clear x2 hb hs hir
      go_wp2
      go_end0
      exact ⟨rfl, v8, HS.out, hsz⟩
    · rw [ovr_add ho hm]
      have hL2 := hL.ovr c
      rw [ovr_add ho hm] at hL2
      have hl2 := hL2.len
      rw [List.length_append, List.length_singleton] at hl2
      rw [ho] at HO
      rw [ht] at hm
      have Hm := Lib.hid (fun e => hm (keysL_mem.1 e))
      have Hadd := Lib.hid (keysL_add L o t ht)
      have c6 : L.length + 1 ≤ maxLen := by unfold maxLen; omega
      have c7 : (L.length + 1) * 8 ≤ 140737488355328 := by omega
      clear ho ht hm hL2
      go_enter Tryz.func37, Tryz.ntmps37
      go_wp2_with fail
      refine HO.out.mono ?_
      rintro e w1 ⟨rfl, hb⟩
      have hs := HH.out.below hb
      obtain ⟨l7, x7, -⟩ := hs.b7.one
      obtain ⟨l8, x8, f8⟩ := hs.b8.one
      have hkm := hs.km
      have HS := Lib.hid hs
      have hsz := hb.size
      have hbs := hs.bel.size
      obtain ⟨es, ck, hob⟩ := hkm.obj
      have n7 : W0.heap.size + 3 ≠ W0.heap.size + 2 := by omega
      have n8 : W0.heap.size + 5 ≠ W0.heap.size + 2 := by omega
      obtain ⟨r, hrun, hir⟩ := hkm.look (t := 59) (int_keyed Tryz.underlying3) Tryz.underlying59 (zero_bool _) hkey
      obtain rfl : r = false := (by cases r; rfl; exact absurd (hir.1 rfl) Hm.out)
      clear x2 hb hs hob hir
      go_wp2_with (first
        | (at_mapUpdate; refine wpList_storeK hkm rfl _ _ _ 59 (.inl rfl) (int_keyed Tryz.underlying3) Tryz.underlying59 rfl (.int .i64 t) rfl rfl hkey Hm.out ?_; intro w6 hk6 hg6 hs6; clear hs6; have hs6 := hg6.size; have b86 := HS.out.b8.grown hg6 (by simp); obtain ⟨m8, y8, g8⟩ := b86.one; have hr6 := HS.out.row.kept hg6 (row_map_ne HS.out.row HS.out.km.obj))
        | (at_builtin; refine wpList_append_lies _ rfl (.tmp 21) (.tmp 23) 28 rfl W0.heap.size 3 i2 _ 1 8 Tryz.underlying28 hj' hz0 hz1 hz2 rfl (by decide) v8 L.length (intsV (nats L)) rfl (hr6.alloc _) ⟨w6.heap.size, 0, none⟩ 1 1 [.int .i64 o] rfl rfl (World.news_of_block (heap_alloc_new _ _)) (by simp [Value.oneCell']) (by decide) c6 c7 (by rw [size_alloc']; omega) (w6.heap.size + 1) (by simp) ?_; intro g4 cap4 W4 hr4 hg4 hat4 _; have b84 := (b86.alloc (.cells #[.int .i64 (o : Int)] 3)).grown hg4 (fun e => own_blk_ne hr6 b86 (by decide) e.symm); obtain ⟨p8, q8, s8⟩ := b84.one))
      go_end0
      have all : ∀ {b : Nat} {t : TypeId} {cs : Array Value}, Blk w1 b t cs → b ≠ W0.heap.size + 2 → 3 ≠ t → Blk W4 b t cs := fun {b t cs} hb hne ht => by
        have h6 := hb.grown hg6 (by simpa using hne)
        exact (h6.alloc (.cells #[.int .i64 (o : Int)] 3)).grown hg4 (fun e => own_blk_ne hr6 h6 ht e.symm)
      have hgS : W4.grownBy (W4.setCell ⟨W0.heap.size + 5, 0, none⟩ (.slice (some ⟨g4, 0, none⟩) (L.length + 1) cap4)) (some (W0.heap.size + 5)) := gStR (World.grownBy.refl _ _)
      have hk4 := (hk6.alloc (.cells #[.int .i64 (o : Int)] 3)).kept hg4 (map_row_ne hr6 hk6.obj)
      have hB4 := ((HS.out.bel.grown hg6 hbs (fun j e => by cases e; omega)).alloc (by omega) (.cells #[.int .i64 (o : Int)] 3)).grown hg4 (by rw [size_alloc']; omega) (fun j e => (hr6.lt j e).1)
      refine ⟨rfl, .slice (some ⟨g4, 0, none⟩) (L.length + 1) cap4, ⟨(all HS.out.b2 (by omega) (by decide)).far (by simp) _, (all HS.out.bo (by omega) (by decide)).far (by simp) _, ?_, (all HS.out.b7 (by omega) (by decide)).far (by simp) _, b84.set1 _, ?_, hB4.setCell (by simp) _⟩, ?_⟩
      · rw [Hadd.out]
        exact hk4.kept hgS (by simp)
      · have := own_alloc_st (i := 0) (u := .slice (some ⟨g4, 0, none⟩) (L.length + 1) cap4) hr4 b84 (by decide)
        rw [List.length_append]
        simpa [intsV, nats] using this
      · have := hg4.size
        rw [size_alloc'] at this
        simp
        omega
end Go.Proofs.YtghlnknncahkgaaGreat
