/-
  Texts joined by program: EulB WkT Gen Kept Sep.
-/
import Derived.Test.YtghlnknncahkgaaGreatK6
import Derived.Test.YtghlnknncahkgaaGreatK2
import Derived.Deep.RegionHeld3
import Derived.Test.YtghlnknncahkgaaGreatK1
import Derived.RangeFuncNested
import Derived.RangeFuncCalls
/-
  The Euler number of a closed surface whose triangles all turn one way is even.
-/
namespace Go.Proofs.YtghlnknncahkgaaGreat
namespace Jor
section
variable {F N : Nat} {opp vert : Nat → Nat}

theorem faces_rounds : ∀ F, Rounds pv (3 * F) ((List.range F).map fun i => [3 * i, 3 * i + 2, 3 * i + 1]) := by
  intro F
  have all : ∀ F x, x ∈ ((List.range F).map fun i => [3 * i, 3 * i + 2, 3 * i + 1]).flatten ↔ x < 3 * F := by
    intro F x
    simp only [List.mem_flatten, List.mem_map, List.mem_range]
    constructor
    · rintro ⟨_, ⟨i, hi, rfl⟩, hx⟩
      simp only [List.mem_cons, List.not_mem_nil, or_false] at hx
      omega
    · intro h
      refine ⟨_, ⟨x / 3, by omega, rfl⟩, ?_⟩
      simp only [List.mem_cons, List.not_mem_nil, or_false]
      omega
  refine ⟨?_, ?_, all F⟩
  · intro C hC
    obtain ⟨i, hi, rfl⟩ := List.mem_map.1 hC
    refine ⟨_, _, rfl, ?_⟩
    simp only [List.map_cons, List.map_nil, List.cons_append, List.nil_append, List.cons.injEq, and_true]
    unfold pv
    omega
  · induction F with
    | zero => simp
    | succ F ih =>
      rw [List.range_succ, List.map_append, List.flatten_append, List.nodup_append]
      refine ⟨ih, by simp, ?_⟩
      intro a ha b hb
      have := (all F a).1 ha
      simp only [List.map_cons, List.map_nil, List.flatten_cons, List.flatten_nil, List.append_nil, List.mem_cons, List.not_mem_nil, or_false] at hb
      omega
/-- Over some edges one goes on across, over the others one turns back in the triangle. -/
noncomputable def halfway (opp : Nat → Nat) (L : List Nat) : Nat → Nat := fun x => if x ∈ both opp L then pv (opp x) else pv x
theorem halfway_rounds (K : Closed F N opp vert) : ∀ L : List Nat, (∀ c ∈ L, c < 3 * F) → (both opp L).Nodup → ∃ Cs, Rounds (halfway opp L) (3 * F) Cs ∧ (Cs.length + F + L.length) % 2 = 0
  | [], _, _ => ⟨_, (faces_rounds F).congr (fun x _ => by simp [halfway, both]), by simp; omega⟩
  | a :: L, hl, hn => by
    have ha := hl a (List.mem_cons_self ..)
    have hb := K.lt a ha
    have e : both opp (a :: L) = a :: (L ++ opp a :: L.map opp) := by simp [both]
    have hp : (a :: (L ++ opp a :: L.map opp)).Perm (a :: opp a :: both opp L) := List.Perm.cons _ List.perm_middle
    rw [e] at hn
    have hn2 := hp.nodup_iff.1 hn
    simp only [List.nodup_cons, List.mem_cons, not_or] at hn2
    obtain ⟨Cs, h1, h2⟩ := halfway_rounds K L (fun c hc => hl c (List.mem_cons_of_mem _ hc)) hn2.2.2
    obtain ⟨Ds, h3, h4⟩ := h1.swap ha hb hn2.1.1
    refine ⟨Ds, h3.congr ?_, by simp only [List.length_cons]; omega⟩
    intro x _
    unfold halfway swp2
    simp only []
    have hm : x ∈ both opp (a :: L) ↔ x = a ∨ x = opp a ∨ x ∈ both opp L := by
      rw [e, hp.mem_iff]
      simp
    by_cases h5 : x = a
    · subst h5
      rw [if_pos (hm.2 (.inl rfl)), if_pos rfl, if_neg hn2.2.1]
    · by_cases h6 : x = opp a
      · subst h6
        rw [if_pos (hm.2 (.inr (.inl rfl))), if_neg h5, if_pos rfl, if_neg hn2.1.2, K.inv a ha]
      · rw [if_neg h5, if_neg h6]
        by_cases h7 : x ∈ both opp L
        · rw [if_pos (hm.2 (.inr (.inr h7))), if_pos h7]
        · rw [if_neg (fun h => by rcases hm.1 h with h | h | h; exact h5 h; exact h6 h; exact h7 h), if_neg h7]
/-- One corner of each edge. -/
def reps (F : Nat) (opp : Nat → Nat) : List Nat := (List.range (3 * F)).filter fun c => decide (c < opp c)
theorem reps_ok (K : Closed F N opp vert) : (∀ c ∈ reps F opp, c < 3 * F) ∧ (both opp (reps F opp)).Nodup ∧ ∀ x, x < 3 * F → x ∈ both opp (reps F opp) := by
  have h1 : ∀ c, c ∈ reps F opp ↔ c < 3 * F ∧ c < opp c := by simp [reps]
  refine ⟨fun c hc => ((h1 c).1 hc).1, ?_, ?_⟩
  · unfold both
    rw [List.nodup_append]
    refine ⟨List.nodup_range.filter _, ?_, ?_⟩
    · refine List.pairwise_map.2 ?_
      refine List.Pairwise.imp_of_mem ?_ (List.nodup_range.filter _ : (reps F opp).Nodup)
      intro a b ha hb hab e
      exact hab (by rw [← K.inv a ((h1 a).1 ha).1, e, K.inv b ((h1 b).1 hb).1])
    · rintro a ha b hb rfl
      obtain ⟨c, hc, rfl⟩ := List.mem_map.1 hb
      have h2 := (h1 _).1 ha
      have h3 := (h1 _).1 hc
      rw [K.inv c h3.1] at h2
      omega
  · intro x hx
    rw [both_mem]
    rcases Nat.lt_trichotomy x (opp x) with h | h | h
    · exact .inl ((h1 x).2 ⟨hx, h⟩)
    · exact absurd (by rw [← h]) (K.apart x hx)
    · exact .inr ⟨opp x, (h1 _).2 ⟨K.lt x hx, by rw [K.inv x hx]; exact h⟩, K.inv x hx⟩
theorem reps_len (K : Closed F N opp vert) : 2 * (reps F opp).length = 3 * F := by
  obtain ⟨h1, h2, h3⟩ := reps_ok K
  have a := nodup_le (m := List.range (3 * F)) h2 (fun x hx => by
    rw [List.mem_range]
    rcases both_mem.1 hx with h | ⟨b, hb, rfl⟩
    · exact h1 x h
    · exact K.lt b (h1 b hb))
  have b := nodup_le (l := List.range (3 * F)) (m := both opp (reps F opp)) List.nodup_range (fun x hx => h3 x (List.mem_range.1 hx))
  rw [both_length] at a b
  simp only [List.length_range] at a b
  omega
theorem one_corner (K : Closed F N opp vert) {c d : Nat} (hc : c < 3 * F) (e : c / 3 = d / 3) (hv : vert c = vert d) : c = d := by
  have h0 := K.simple c hc
  have h1 := K.simple (pv c) (pv_lt hc)
  rw [nx_pv] at h1
  have : d = c ∨ d = nx c ∨ d = pv c := by unfold nx pv; omega
  rcases this with rfl | rfl | rfl
  · rfl
  · exact absurd hv.symm h0
  · exact absurd hv h1
/-- Rounds at vertices are as many as vertices. -/
theorem rounds_verts (K : Closed F N opp vert)
    (ar : ∀ (v : Nat) (S : Nat → Prop), (∃ c, c < 3 * F ∧ vert c = v ∧ S (c / 3)) → (∀ c, c < 3 * F → vert c = v → S (c / 3) → S (opp (nx c) / 3) ∧ S (opp (pv c) / 3)) → ∀ c, c < 3 * F → vert c = v → S (c / 3))
    {Cs : List (List Nat)} (h : Rounds (fun x => pv (opp x)) (3 * F) Cs) : Cs.length = N := by
  have hlt : ∀ C ∈ Cs, ∀ x ∈ C, x < 3 * F := fun C hC x hx => (h.all x).1 (List.mem_flatten.2 ⟨C, hC, hx⟩)
  -- closed under the step, forward and backward
  have fwd : ∀ C ∈ Cs, ∀ x ∈ C, pv (opp x) ∈ C := by
    intro C hC x hx
    obtain ⟨c, r, rfl, hm⟩ := h.rot C hC
    have : pv (opp x) ∈ (c :: r).map (fun x => pv (opp x)) := List.mem_map_of_mem hx
    rw [hm] at this
    simpa [or_comm] using this
  have bwd : ∀ C ∈ Cs, ∀ x, x < 3 * F → pv (opp x) ∈ C → x ∈ C := by
    intro C hC x hx hp
    obtain ⟨c, r, rfl, hm⟩ := h.rot C hC
    have : pv (opp x) ∈ (c :: r).map (fun x => pv (opp x)) := by
      rw [hm]
      simpa [or_comm] using hp
    obtain ⟨y, hy, e⟩ := List.mem_map.1 this
    have hyl := hlt _ hC y hy
    have e2 : opp y = opp x := by rw [← nx_pv (opp y), e, nx_pv]
    rw [← K.inv x hx, ← e2, K.inv y hyl]
    exact hy
  have key : ∀ C ∈ Cs, ∀ x ∈ C, ∀ y, y < 3 * F → vert (pv y) = vert (pv x) → y ∈ C := by
    intro C hC x hx y hy e
    have hS := ar (vert (pv x)) (fun t => ∃ c, c < 3 * F ∧ c / 3 = t ∧ vert c = vert (pv x) ∧ nx c ∈ C)
      ⟨pv x, pv_lt (hlt C hC x hx), rfl, pv x, pv_lt (hlt C hC x hx), rfl, rfl, by rw [nx_pv]; exact hx⟩
      (fun c hc hv hS => by
        obtain ⟨c2, h1, h2, h3, h4⟩ := hS
        have e0 : c2 = c := one_corner K h1 h2 (h3.trans hv.symm)
        subst e0
        have hn := nx_lt hc
        have hp := pv_lt hc
        refine ⟨⟨nx (opp (nx c2)), nx_lt (K.lt _ hn), nx_div _, ?_, ?_⟩, ⟨pv (opp (pv c2)), pv_lt (K.lt _ hp), pv_div _, ?_, ?_⟩⟩
        · rw [K.vn _ hn, pv_nx]
          exact hv
        · rw [nx_nx]
          exact fwd C hC _ h4
        · rw [K.vp _ hp, nx_pv]
          exact hv
        · rw [nx_pv]
          refine bwd C hC _ (K.lt _ hp) ?_
          rw [K.inv _ hp, pv_pv]
          exact h4) (pv y) (pv_lt hy) e
    obtain ⟨c2, h1, h2, h3, h4⟩ := hS
    have e0 : c2 = pv y := one_corner K h1 h2 (h3.trans e.symm)
    subst e0
    rwa [nx_pv] at h4
  -- the vertex of each round
  have hne : ∀ C ∈ Cs, ∃ x, C.head? = some x ∧ x ∈ C := fun C hC => by
    obtain ⟨c, r, rfl, _⟩ := h.rot C hC
    exact ⟨c, rfl, List.mem_cons_self ..⟩
  have vnd : (Cs.map fun C => vert (pv (C.head?.getD 0))).Nodup := by
    have gen : ∀ Ds : List (List Nat), (∀ D ∈ Ds, D ∈ Cs) → Ds.flatten.Nodup → (Ds.map fun C => vert (pv (C.head?.getD 0))).Nodup := by
      intro Ds
      induction Ds with
      | nil => intros; simp
      | cons D r ih =>
        intro hs hn
        rw [List.flatten_cons, List.nodup_append] at hn
        rw [List.map_cons, List.nodup_cons]
        refine ⟨fun hm => ?_, ih (fun D hD => hs D (List.mem_cons_of_mem _ hD)) hn.2.1⟩
        obtain ⟨C, hC, e⟩ := List.mem_map.1 hm
        obtain ⟨x, hx, hxm⟩ := hne C (hs C (List.mem_cons_of_mem _ hC))
        obtain ⟨y, hy, hym⟩ := hne D (hs D (List.mem_cons_self ..))
        rw [hx, hy] at e
        simp only [Option.getD_some] at e
        have hxD := key D (hs D (List.mem_cons_self ..)) y hym x (hlt C (hs C (List.mem_cons_of_mem _ hC)) x hxm) e
        exact hn.2.2 x hxD x (List.mem_flatten.2 ⟨C, hC, hxm⟩) rfl
    exact gen Cs (fun D hD => hD) h.nd
  have a := nodup_le (m := List.range N) vnd (fun v hv => by
    obtain ⟨C, hC, rfl⟩ := List.mem_map.1 hv
    obtain ⟨x, hx, hxm⟩ := hne C hC
    rw [hx, List.mem_range]
    exact K.vlt _ (pv_lt (hlt C hC x hxm)))
  have b := nodup_le (l := List.range N) (m := Cs.map fun C => vert (pv (C.head?.getD 0))) List.nodup_range (fun v hv => by
    obtain ⟨c, hc, hv⟩ := K.all v (List.mem_range.1 hv)
    obtain ⟨C, hC, hm⟩ := List.mem_flatten.1 ((h.all (nx c)).2 (nx_lt hc))
    obtain ⟨x, hx, hxm⟩ := hne C hC
    refine List.mem_map.2 ⟨C, hC, ?_⟩
    rw [hx]
    -- the head has the vertex of all
    have const : ∀ l : List Nat, (∀ y ∈ l, y < 3 * F) → ∀ c0 r, l = c0 :: r → l.map (fun x => pv (opp x)) = r ++ [c0] → ∀ y ∈ l, vert (pv y) = vert (pv c0) := by
      intro l hl c0 r e hm y hy
      have step : ∀ y ∈ l, vert (pv (pv (opp y))) = vert (pv y) := fun y hy => by
        rw [pv_pv]
        exact K.vn y (hl y hy)
      subst e
      have all : ∀ (r : List Nat) (c1 : Nat) (z : List Nat), (c1 :: r).map (fun x => pv (opp x)) = r ++ z → (∀ y ∈ c1 :: r, vert (pv (pv (opp y))) = vert (pv y)) → ∀ y ∈ c1 :: r, vert (pv y) = vert (pv c1) := by
        intro r
        induction r with
        | nil =>
          intro c1 z _ _ y hy
          rw [List.mem_singleton.1 hy]
        | cons d r ih =>
          intro c1 z hm hst y hy
          simp only [List.map_cons, List.cons_append, List.cons.injEq] at hm
          have hd : vert (pv d) = vert (pv c1) := by
            rw [← hm.1]
            exact hst c1 (List.mem_cons_self ..)
          rcases List.mem_cons.1 hy with rfl | hy
          · rfl
          · rw [← hd]
            exact ih d z (by simpa using hm.2) (fun y hy => hst y (List.mem_cons_of_mem _ hy)) y hy
      exact all r c0 [c0] hm step y hy
    obtain ⟨c0, r, rfl, hm2⟩ := h.rot C hC
    simp only [List.head?_cons, Option.some.injEq] at hx
    subst hx
    have := const _ (hlt _ hC) c0 r rfl hm2 (nx c) hm
    rw [pv_nx, hv] at this
    exact this.symm)
  simp only [List.length_map, List.length_range] at a b
  omega
theorem euler_even (K : Closed F N opp vert)
    (ar : ∀ (v : Nat) (S : Nat → Prop), (∃ c, c < 3 * F ∧ vert c = v ∧ S (c / 3)) → (∀ c, c < 3 * F → vert c = v → S (c / 3) → S (opp (nx c) / 3) ∧ S (opp (pv c) / 3)) → ∀ c, c < 3 * F → vert c = v → S (c / 3)) :
    ∃ m, F = 2 * m ∧ (N + m) % 2 = 0 := by
  obtain ⟨h1, h2, h3⟩ := reps_ok K
  have hl := reps_len K
  obtain ⟨Cs, hc, he⟩ := halfway_rounds K _ h1 h2
  have hv := rounds_verts K ar (hc.congr (ρ := fun x => pv (opp x)) (fun x hx => by unfold halfway; rw [if_pos (h3 x hx)]))
  exact ⟨F / 2, by omega, by omega⟩
end
end Jor
end Go.Proofs.YtghlnknncahkgaaGreat
/-
  A closed surface of one part and of Euler number 2 is one that is walked over; its Euler number is even in any case.
-/
namespace Go.Proofs.YtghlnknncahkgaaGreat
open Go.RowKit

def oppN (T : List Tr) (c : Nat) : Nat := (oppI T (c : Int)).toNat
def verN (T : List Tr) (c : Nat) : Nat := (vertN T c).toNat
/-- No edge of the border. -/
def ClosedT (T : List Tr) : Prop := ∀ c : Nat, c < 3 * T.length → 0 ≤ oppI T (c : Int)
theorem ClosedT.opp {T : List Tr} (h : ClosedT T) {c : Nat} (hc : c < 3 * T.length) : oppI T (c : Int) = (oppN T c : Int) := by
  have := h c hc
  unfold oppN
  omega
theorem triAt_get {T : List Tr} {c : Nat} (hc : c < 3 * T.length) : ∃ t, T[c / 3]? = some t ∧ triAt T c = t ∧ t ∈ T := by
  have hk : c / 3 < T.length := by omega
  exact ⟨T[c / 3], List.getElem?_eq_getElem hk, by simp [triAt, List.getElem?_eq_getElem hk], List.getElem_mem _⟩
theorem triAt_nx (T : List Tr) (c : Nat) : triAt T (Jor.nx c) = triAt T c := by unfold triAt; rw [Jor.nx_div]
theorem triAt_pv (T : List Tr) (c : Nat) : triAt T (Jor.pv c) = triAt T c := by unfold triAt; rw [Jor.pv_div]
/-- A triangle's three corners, from any of them on. -/
theorem vert_turn (T : List Tr) (c : Nat) : (vertN T c, vertN T (Jor.nx c), vertN T (Jor.pv c)) = ((triAt T c).1, (triAt T c).2.1, (triAt T c).2.2) ∨ (vertN T c, vertN T (Jor.nx c), vertN T (Jor.pv c)) = ((triAt T c).2.1, (triAt T c).2.2, (triAt T c).1) ∨ (vertN T c, vertN T (Jor.nx c), vertN T (Jor.pv c)) = ((triAt T c).2.2, (triAt T c).1, (triAt T c).2.1) := by
  unfold vertN
  rw [triAt_nx, triAt_pv]
  have m1 : Jor.nx c % 3 = (c + 1) % 3 := by unfold Jor.nx; omega
  have m2 : Jor.pv c % 3 = (c + 2) % 3 := by unfold Jor.pv; omega
  have : c % 3 = 0 ∨ c % 3 = 1 ∨ c % 3 = 2 := by omega
  rcases this with e | e | e
  · exact .inl (by simp [e, m1, m2, show (c + 1) % 3 = 1 from by omega, show (c + 2) % 3 = 2 from by omega])
  · exact .inr (.inl (by simp [e, m1, m2, show (c + 1) % 3 = 2 from by omega, show (c + 2) % 3 = 0 from by omega]))
  · exact .inr (.inr (by simp [e, m1, m2, show (c + 1) % 3 = 0 from by omega, show (c + 2) % 3 = 1 from by omega]))
theorem vert_ne {T : List Tr} (hs : ∀ t ∈ T, simple3 t) {c : Nat} (hc : c < 3 * T.length) : vertN T (Jor.nx c) ≠ vertN T c ∧ vertN T (Jor.pv c) ≠ vertN T c ∧ vertN T (Jor.nx c) ≠ vertN T (Jor.pv c) := by
  obtain ⟨t, _, ht, hm⟩ := triAt_get hc
  obtain ⟨s1, s2, s3⟩ := hs t hm
  have := vert_turn T c
  rw [ht] at this
  simp only [Prod.mk.injEq] at this
  rcases this with ⟨a, b, d⟩ | ⟨a, b, d⟩ | ⟨a, b, d⟩ <;> rw [a, b, d]
  · exact ⟨s1.symm, s3, s2⟩
  · exact ⟨s2.symm, s1, s3⟩
  · exact ⟨s3.symm, s2, s1⟩
theorem vert_has {T : List Tr} {i : Nat} {t : Tr} (ht : T[i]? = some t) {x : Int} : hasV t x ↔ ∃ c, c < 3 * T.length ∧ c / 3 = i ∧ vertN T c = x := by
  have hi := (List.getElem?_eq_some_iff.1 ht).1
  have e0 : triAt T (3 * i) = t := by unfold triAt; rw [show 3 * i / 3 = i from by omega, ht]; rfl
  have e1 : triAt T (3 * i + 1) = t := by unfold triAt; rw [show (3 * i + 1) / 3 = i from by omega, ht]; rfl
  have e2 : triAt T (3 * i + 2) = t := by unfold triAt; rw [show (3 * i + 2) / 3 = i from by omega, ht]; rfl
  have v0 : vertN T (3 * i) = t.1 := by unfold vertN; rw [if_pos (by omega), e0]
  have v1 : vertN T (3 * i + 1) = t.2.1 := by unfold vertN; rw [if_neg (by omega), if_pos (by omega), e1]
  have v2 : vertN T (3 * i + 2) = t.2.2 := by unfold vertN; rw [if_neg (by omega), if_neg (by omega), e2]
  constructor
  · rintro (h | h | h)
    · exact ⟨3 * i, by omega, by omega, by rw [v0, h]⟩
    · exact ⟨3 * i + 1, by omega, by omega, by rw [v1, h]⟩
    · exact ⟨3 * i + 2, by omega, by omega, by rw [v2, h]⟩
  · rintro ⟨c, hc, h3, rfl⟩
    have : c = 3 * i ∨ c = 3 * i + 1 ∨ c = 3 * i + 2 := by omega
    rcases this with rfl | rfl | rfl
    · exact .inl v0
    · exact .inr (.inl v1)
    · exact .inr (.inr v2)
theorem atV_corner {T : List Tr} {v : Int} {i : Nat} : i ∈ atV T v ↔ ∃ c, c < 3 * T.length ∧ c / 3 = i ∧ vertN T c = v := by
  unfold atV
  rw [sieve_mem]
  unfold preT
  rw [List.mem_flatMap]
  constructor
  · rintro ⟨k, hk, hm⟩
    rw [List.mem_range] at hk
    have ht : T[k]? = some T[k] := List.getElem?_eq_getElem hk
    rw [ht] at hm
    simp only [three, Option.getD_some, List.mem_cons, Prod.mk.injEq, List.not_mem_nil, or_false] at hm
    have hik : i = k := by rcases hm with h | h | h <;> exact h.2
    subst hik
    exact (vert_has ht).1 (by rcases hm with h | h | h; exact .inl h.1; exact .inr (.inl h.1); exact .inr (.inr h.1))
  · rintro ⟨c, hc, rfl, hv⟩
    have hk : c / 3 < T.length := by omega
    have ht : T[c / 3]? = some T[c / 3] := List.getElem?_eq_getElem hk
    refine ⟨c / 3, List.mem_range.2 hk, ?_⟩
    rw [ht]
    have := (vert_has ht (x := v)).2 ⟨c, hc, rfl, hv⟩
    simp only [three, Option.getD_some, List.mem_cons, Prod.mk.injEq, List.not_mem_nil, or_false]
    rcases this with h | h | h
    · exact .inl ⟨h, trivial⟩
    · exact .inr (.inl ⟨h, trivial⟩)
    · exact .inr (.inr ⟨h, trivial⟩)
theorem edge_pv (T : List Tr) (c : Nat) : edgeN T (Jor.pv c) = (vertN T c, vertN T (Jor.nx c)) := by unfold edgeN; rw [Jor.nx_pv, Jor.pv_pv]
theorem edge_nx (T : List Tr) (c : Nat) : edgeN T (Jor.nx c) = (vertN T (Jor.pv c), vertN T c) := by unfold edgeN; rw [Jor.nx_nx, Jor.pv_nx]
theorem opp_is {T : List Tr} (hu : (T.flatMap edges3).Nodup) {c d : Nat} (hc : c < 3 * T.length) (hd : d < 3 * T.length) (h : edgeN T d = ((edgeN T c).2, (edgeN T c).1)) : oppN T c = d := by
  unfold oppN oppI
  rw [edgeI_nat hc, ← h, facI_of hu hd]
  rfl
/-- Round a vertex one comes to all its triangles. -/
theorem around {N : Int} {T : List Tr} (hS : Surf N T) {v : Int} (hv : inR N v) (S : Nat → Prop) (h0 : ∃ c, c < 3 * T.length ∧ vertN T c = v ∧ S (c / 3))
    (hs : ∀ c, c < 3 * T.length → vertN T c = v → S (c / 3) → S (oppN T (Jor.nx c) / 3) ∧ S (oppN T (Jor.pv c) / 3)) : ∀ c, c < 3 * T.length → vertN T c = v → S (c / 3) := by
  have hl := hS.pinch v hv
  have cl : ∀ i ∈ atV T v, ∀ k ∈ atV T v, S i → adjV T v i k → S k := by
    intro i hi k hk hSi hadj
    obtain ⟨c, hc, rfl, hcv⟩ := atV_corner.1 hi
    obtain ⟨d, hd, rfl, hdv⟩ := atV_corner.1 hk
    obtain ⟨a, b, x, ha, hb, hx, hax, hbx⟩ := hadj
    obtain ⟨c', hc', e1, hcx⟩ := (vert_has ha).1 hax
    obtain ⟨d', hd', e2, hdx⟩ := (vert_has hb).1 hbx
    have hc3 : c' = Jor.nx c ∨ c' = Jor.pv c := by
      have : c' = c ∨ c' = Jor.nx c ∨ c' = Jor.pv c := by unfold Jor.nx Jor.pv; omega
      rcases this with rfl | h
      · exact absurd (hcx.symm.trans hcv) hx
      · exact h
    have hd3 : d' = Jor.nx d ∨ d' = Jor.pv d := by
      have : d' = d ∨ d' = Jor.nx d ∨ d' = Jor.pv d := by unfold Jor.nx Jor.pv; omega
      rcases this with rfl | h
      · exact absurd (hdx.symm.trans hdv) hx
      · exact h
    have hst := hs c hc hcv hSi
    have hpc : Jor.pv c < 3 * T.length := Jor.pv_lt hc
    have hnc : Jor.nx c < 3 * T.length := Jor.nx_lt hc
    have hpd : Jor.pv d < 3 * T.length := Jor.pv_lt hd
    have hnd : Jor.nx d < 3 * T.length := Jor.nx_lt hd
    rcases hc3 with rfl | rfl
    · rcases hd3 with rfl | rfl
      · have e := edge_inj hS.twice hpc hpd (by rw [edge_pv, edge_pv, hcv, hdv, hcx, hdx])
        have : c / 3 = d / 3 := by rw [← Jor.pv_div c, e, Jor.pv_div]
        rw [← this]
        exact hSi
      · have e := opp_is hS.twice hpc hnd (by rw [edge_pv, edge_nx, hcv, hdv, hcx, hdx])
        rw [← Jor.nx_div d, ← e]
        exact hst.2
    · rcases hd3 with rfl | rfl
      · have e := opp_is hS.twice hnc hpd (by rw [edge_pv, edge_nx, hcv, hdv, hcx, hdx])
        rw [← Jor.pv_div d, ← e]
        exact hst.1
      · have e := edge_inj hS.twice hnc hnd (by rw [edge_nx, edge_nx, hcv, hdv, hcx, hdx])
        have : c / 3 = d / 3 := by rw [← Jor.nx_div c, e, Jor.nx_div]
        rw [← this]
        exact hSi
  have sym : ∀ i k, adjV T v i k → adjV T v k i := fun i k ⟨a, b, x, h1, h2, h3, h4, h5⟩ => ⟨b, a, x, h2, h1, h3, h5, h4⟩
  obtain ⟨c0, hc0, hv0, hS0⟩ := h0
  have hm0 : c0 / 3 ∈ atV T v := atV_corner.2 ⟨c0, hc0, rfl, hv0⟩
  intro c hc hcv
  have hm : c / 3 ∈ atV T v := atV_corner.2 ⟨c, hc, rfl, hcv⟩
  cases hh : (atV T v).head? with
  | none =>
    rw [List.head?_eq_none_iff] at hh
    rw [hh] at hm
    cases hm
  | some i0 =>
    by_cases hi : S i0
    · exact hl S (fun i e => by rw [hh] at e; cases e; exact hi) (fun i hi k hk h1 h2 => cl i hi k hk h1 h2) _ hm
    · exfalso
      exact hl (fun k => ¬ S k) (fun i e => by rw [hh] at e; cases e; exact hi) (fun i hi k hk h1 h2 h3 => h1 (cl k hk i hi h3 (sym _ _ h2))) _ hm0 hS0
theorem vert_rng {N : Int} {T : List Tr} (hS : Surf N T) {c : Nat} (hc : c < 3 * T.length) : 0 ≤ vertN T c ∧ vertN T c < N :=
  vertN_in (fun t ht => by
    obtain ⟨⟨a, b⟩, ⟨d, e⟩, f, g⟩ := hS.inr t ht
    exact ⟨a, b, d, e, f, g⟩) hc
theorem verN_eq {N : Int} {T : List Tr} (hS : Surf N T) {c d : Nat} (hc : c < 3 * T.length) (hd : d < 3 * T.length) : verN T c = verN T d ↔ vertN T c = vertN T d := by
  have h1 := (vert_rng hS hc).1
  have h2 := (vert_rng hS hd).1
  unfold verN
  omega
theorem closed_of {N : Int} {T : List Tr} (hS : Surf N T) (hc : ClosedT T) (hconn : ∀ S : Nat → Prop, S 0 → (∀ c, c < 3 * T.length → S (c / 3) → S (oppN T c / 3)) → ∀ t, t < T.length → S t) : Jor.Closed T.length N.toNat (oppN T) (verN T) where
  lt := fun c h => (opp_some h (hc.opp h)).1
  inv := fun c h => by
    have h1 := opp_back hS.twice h (hc.opp h)
    unfold oppN at h1 ⊢
    rw [h1]
    rfl
  apart := fun c h e => by
    obtain ⟨h1, h2⟩ := opp_some h (hc.opp h)
    have hv := vert_ne hS.simple h
    have : oppN T c = c ∨ oppN T c = Jor.nx c ∨ oppN T c = Jor.pv c := by unfold Jor.nx Jor.pv; omega
    rcases this with e | e | e
    · rw [e] at h2
      unfold edgeN at h2
      simp only [Prod.mk.injEq] at h2
      exact hv.2.2 h2.1
    · rw [e, edge_nx] at h2
      unfold edgeN at h2
      simp only [Prod.mk.injEq] at h2
      exact hv.1 h2.2.symm
    · rw [e, edge_pv] at h2
      unfold edgeN at h2
      simp only [Prod.mk.injEq] at h2
      exact hv.2.1 h2.1.symm
  vn := fun c h => by
    obtain ⟨_, h2⟩ := opp_some h (hc.opp h)
    have := congrArg Prod.fst h2
    simp only [edgeN] at this
    unfold verN
    rw [this]
  vp := fun c h => by
    obtain ⟨_, h2⟩ := opp_some h (hc.opp h)
    have := congrArg Prod.snd h2
    simp only [edgeN] at this
    unfold verN
    rw [this]
  simple := fun c h e => (vert_ne hS.simple h).1 ((verN_eq hS (Jor.nx_lt h) h).1 e)
  vlt := fun c h => by
    have := vert_rng hS h
    unfold verN
    omega
  all := fun v hv => by
    have hm := hS.lonely (v : Int) ⟨by omega, by omega⟩
    unfold flatT at hm
    obtain ⟨t, ht, hx⟩ := List.mem_flatMap.1 hm
    obtain ⟨i, hi, hit⟩ := List.getElem_of_mem ht
    have hti : T[i]? = some t := by rw [List.getElem?_eq_getElem hi, hit]
    simp only [List.mem_cons, List.not_mem_nil, or_false] at hx
    obtain ⟨c, h1, _, h3⟩ := (vert_has hti (x := (v : Int))).1 hx
    exact ⟨c, h1, by unfold verN; rw [h3]; rfl⟩
  conn := hconn
theorem ar_of {N : Int} {T : List Tr} (hS : Surf N T) (v : Nat) (S : Nat → Prop) (h0 : ∃ c, c < 3 * T.length ∧ verN T c = v ∧ S (c / 3)) (hs : ∀ c, c < 3 * T.length → verN T c = v → S (c / 3) → S (oppN T (Jor.nx c) / 3) ∧ S (oppN T (Jor.pv c) / 3)) : ∀ c, c < 3 * T.length → verN T c = v → S (c / 3) := by
  obtain ⟨c0, hc0, hv0, hS0⟩ := h0
  have key : ∀ c, c < 3 * T.length → (verN T c = v ↔ vertN T c = vertN T c0) := fun c hc => by
    rw [← hv0]
    exact verN_eq hS hc hc0
  intro c hc hv
  exact around hS (v := vertN T c0) (vert_rng hS hc0) S ⟨c0, hc0, rfl, hS0⟩ (fun d hd hdv => hs d hd ((key d hd).2 hdv)) c hc ((key c hc).1 hv)
theorem walks_of {N : Int} {T : List Tr} (hS : Surf N T) (hc : ClosedT T) (hconn : ∀ S : Nat → Prop, S 0 → (∀ c, c < 3 * T.length → S (c / 3) → S (oppN T c / 3)) → ∀ t, t < T.length → S t) (hT : 0 < T.length) (hE : 2 * N = T.length + 4) : Jor.Walks T.length N.toNat (oppN T) (verN T) where
  toClosed := closed_of hS hc hconn
  euler := by omega
  pos := hT
  ei := fun c d h1 h2 e1 e2 => edge_inj hS.twice h1 h2 (by
    unfold edgeN
    rw [(verN_eq hS (Jor.nx_lt h1) (Jor.nx_lt h2)).1 e1, (verN_eq hS (Jor.pv_lt h1) (Jor.pv_lt h2)).1 e2])
  ar := ar_of hS
theorem even_of {N : Int} {T : List Tr} (hS : Surf N T) (hc : ClosedT T) (hconn : ∀ S : Nat → Prop, S 0 → (∀ c, c < 3 * T.length → S (c / 3) → S (oppN T c / 3)) → ∀ t, t < T.length → S t) : ∃ m : Nat, T.length = 2 * m ∧ (N.toNat + m) % 2 = 0 :=
  Jor.euler_even (closed_of hS hc hconn) (ar_of hS)
/-- One part alone. -/
theorem conn_of {T : List Tr} {out : List Int} (h : Shl T out) (hc : ClosedT T) (h0 : ∀ j, j < T.length → at_ out j = 0) (S : Nat → Prop) (s0 : S 0) (hs : ∀ c, c < 3 * T.length → S (c / 3) → S (oppN T c / 3)) : ∀ t, t < T.length → S t := by
  intro t
  induction t using Nat.strongRecOn with
  | ind t ih =>
    intro ht
    rcases h.new t ht with ⟨i, hi, _, hr⟩ | ⟨h1, _⟩
    · exact hr S (ih i hi (by omega)) (fun c o hcl ho hSc => by
        have := hs c hcl hSc
        rw [hc.opp hcl] at ho
        rwa [show oppN T c = o from by omega] at this)
    · by_cases e : t = 0
      · rw [e]
        exact s0
      · have := h1 0 (by omega)
        rw [h0 0 (by omega), h0 t ht] at this
        omega
end Go.Proofs.YtghlnknncahkgaaGreat
/-
  genus.Of, by walking its text.
-/
namespace Go.Proofs.YtghlnknncahkgaaGreat
open Go.RowKit Go.Maps

/-- The border's loops, as border.Loops hands them back. -/
def LoopsPost (n : Nat) (T : List Tr) (w : World) (e : Ending) (w' : World) : Prop :=
  ∃ v us, ∃ L : List (List Int), e = .returned v ∧ w'.ownsRow w.heap.size 28 1 v L.length us ∧ L.length ≤ n ∧
    (∀ (i : Nat) (u : Value) (r : List Int), us[i]? = some u → L[i]? = some r → w'.ownsRow w.heap.size 3 1 u r.length (intsV r) ∧ ∃ a r', r = a :: r' ∧ 0 ≤ a ∧ a < n) ∧ (L = [] ↔ ClosedT T) ∧ Below w.heap.size w w'
theorem own_base {w : World} {base base' n s : Nat} {e : TypeId} {v : Value} {xs : List Value} (h : w.ownsRow base e s v n xs) (hb : base' ≤ base) : w.ownsRow base' e s v n xs := by
  obtain ⟨h1, h2 | ⟨g, cap, cur, rfl, a1, a2⟩⟩ := h
  · exact ⟨h1, .inl h2⟩
  · exact ⟨h1, .inr ⟨g, cap, cur, rfl, Nat.le_trans hb a1, a2⟩⟩
theorem cnt_ge {out : List Int} : ∀ (k : Nat), k ≤ out.length → ∀ j, j < k → at_ out j + 1 ≤ cntL (out.take k)
  | 0, _, j, hj => by omega
  | k + 1, hk, j, hj => by
    rw [cntL_take (j := k) (out := out) (by omega)]
    rcases Nat.lt_or_ge j k with h | h
    · have := cnt_ge (out := out) k (by omega) j h
      omega
    · obtain rfl : j = k := by omega
      omega
theorem at_lt {out : List Int} {j : Nat} (hj : j < out.length) : at_ out j < cntL out := by
  have := cnt_ge (out := out) out.length (Nat.le_refl _) j hj
  rw [List.take_length] at this
  omega
/-- The numbers while they are counted: rows of the shells' numbers and of the ends of edges. -/
structure GI (W2 : World) (T : List Tr) (m : Nat) (vO vT : Value) (cs tw : List Int) (W : World) : Prop where
  below : Below W2.heap.size W2 W
  out : W.ownsRow W2.heap.size 142 6 vO m (intsV cs)
  two : W.ownsRow W2.heap.size 3 1 vT m (intsV tw)
  cl : cs.length = m * 6
  tl : tw.length = m
  cb : ∀ x ∈ cs, 0 ≤ x ∧ x ≤ 30000
  tb : ∀ x ∈ tw, 0 ≤ x ∧ x ≤ 60000
theorem at_mem {l : List Int} {j : Nat} (h : j < l.length) : at_ l j ∈ l := by
  unfold at_
  rw [List.getD_eq_getElem?_getD, List.getElem?_eq_getElem h]
  exact List.getElem_mem _
section
variable {W2 W W' : World} {T : List Tr} {m i : Nat} {vO vT : Value} {cs tw : List Int}
theorem GI.le (h : GI W2 T m vO vT cs tw W) (hb : Below W.heap.size W W') : GI W2 T m vO vT cs tw W' :=
  ⟨h.below.trans (hb.mono h.below.size), own_below h.out hb, own_below h.two hb, h.cl, h.tl, h.cb, h.tb⟩
theorem GI.putO {gO cO : Nat} (h : GI W2 T m (.slice (some ⟨gO, 0, none⟩) m cO) vT cs tw W) (j : Nat) (x : Int) (hx : 0 ≤ x ∧ x ≤ 30000) : GI W2 T m (.slice (some ⟨gO, 0, none⟩) m cO) vT (cs.set j x) tw (W.setCell ⟨gO, j, none⟩ (.int .i64 x)) := by
  obtain ⟨k1, k2⟩ := h.out.stored j (.int .i64 x)
  rw [intsV_set] at k1
  refine ⟨h.below.grown k2 h.below.size (fun k e => (h.out.lt k e).1), k1, h.two.kept k2 (own_own_ne h.two h.out (by decide)), by rw [List.length_set]; exact h.cl, h.tl, fun y hy => ?_, h.tb⟩
  rcases List.mem_or_eq_of_mem_set hy with hy | rfl
  · exact h.cb y hy
  · exact hx
theorem GI.putT {gT cT : Nat} (h : GI W2 T m vO (.slice (some ⟨gT, 0, none⟩) m cT) cs tw W) (j : Nat) (x : Int) (hx : 0 ≤ x ∧ x ≤ 60000) : GI W2 T m vO (.slice (some ⟨gT, 0, none⟩) m cT) cs (tw.set j x) (W.setCell ⟨gT, j, none⟩ (.int .i64 x)) := by
  obtain ⟨k1, k2⟩ := h.two.stored j (.int .i64 x)
  rw [intsV_set] at k1
  refine ⟨h.below.grown k2 h.below.size (fun k e => (h.two.lt k e).1), h.out.kept k2 (own_own_ne h.out h.two (by decide)), k1, h.cl, by rw [List.length_set]; exact h.tl, h.cb, fun y hy => ?_⟩
  rcases List.mem_or_eq_of_mem_set hy with hy | rfl
  · exact h.tb y hy
  · exact hx
theorem GI.cellO {gO cO : Nat} (h : GI W2 T m (.slice (some ⟨gO, 0, none⟩) m cO) vT cs tw W) (f : Nat) (hi : i < m) (hf : f < 6) : W.cell? ⟨gO, i * 6 + f, none⟩ = some (.int .i64 (at_ cs (i * 6 + f))) ∧ W.frozen? ⟨gO, i * 6 + f, none⟩ = false ∧ 0 ≤ at_ cs (i * 6 + f) ∧ at_ cs (i * 6 + f) ≤ 30000 ∧ gO < W.heap.size := by
  have hj : i * 6 + f < cs.length := by rw [h.cl]; omega
  refine ⟨by rw [h.out.cellAt _ (by omega)]; exact intsV_at hj, h.out.frozenAt _, ?_⟩
  have hm : at_ cs (i * 6 + f) ∈ cs := by
    unfold at_
    rw [List.getD_eq_getElem?_getD, List.getElem?_eq_getElem hj]
    exact List.getElem_mem _
  exact ⟨(h.cb _ hm).1, (h.cb _ hm).2, (h.out.lt gO rfl).2⟩
theorem GI.cellT {gT cT : Nat} (h : GI W2 T m vO (.slice (some ⟨gT, 0, none⟩) m cT) cs tw W) (hi : i < m) : W.cell? ⟨gT, i, none⟩ = some (.int .i64 (at_ tw i)) ∧ W.frozen? ⟨gT, i, none⟩ = false ∧ 0 ≤ at_ tw i ∧ at_ tw i ≤ 60000 ∧ gT < W.heap.size := by
  have hj : i < tw.length := by rw [h.tl]; omega
  refine ⟨by rw [h.two.cellAt _ (by omega)]; exact intsV_at hj, h.two.frozenAt _, ?_⟩
  have hm : at_ tw i ∈ tw := by
    unfold at_
    rw [List.getD_eq_getElem?_getD, List.getElem?_eq_getElem hj]
    exact List.getElem_mem _
  exact ⟨(h.tb _ hm).1, (h.tb _ hm).2, (h.two.lt gT rfl).2⟩
end

set_option maxRecDepth 100000 in
set_option maxHeartbeats 4000000 in
theorem genus_any (g n : Nat) (T : List Tr) (w : World) (hT : Tab w g n T) (hS : Surf n T) (hL : ∀ W, Below w.heap.size w W → Calls Tryz.prog 109 #[.pointer (some ⟨g, 0, none⟩)] W (LoopsPost n T W)) :
    Calls Tryz.prog 82 #[.pointer (some ⟨g, 0, none⟩)] w fun e w' => ∃ (v : Value) (out : List Int) (m : Nat) (cs : List Int), e = .returned v ∧ Shl T out ∧ cntL out = m ∧ w'.ownsRow w.heap.size 142 6 v m (intsV cs) ∧
      (m = 1 → ∃ E b : Int, cs = [(n : Int), E, T.length, b, n - E + T.length, (2 - b - (n - E + T.length)).tdiv 2] ∧ 0 ≤ b ∧ (b = 0 ↔ ClosedT T) ∧ (ClosedT T → E = 3 * (T.length : Int) / 2)) ∧ Below w.heap.size w w' := by
  have hl := hT.len
  have hn1 := hS.n1
  have b1 := Blk.new w 26 #[.pointer (some ⟨g, 0, none⟩)]
  have hB1 : Below w.heap.size w (w.alloc (.cells #[.pointer (some ⟨g, 0, none⟩)] 26)) := (Below.refl _ _).alloc (Nat.le_refl _) _
  have HOf := Lib.hid (of_any g n T _ (hT.below hB1) hS.twice)
  have HT := Lib.hid hT
  have HS := Lib.hid hS
  have HL := Lib.hid hL
  obtain ⟨F, hF⟩ : ∃ F, T.length = F := ⟨_, rfl⟩
  rw [hF] at hl HOf ⊢
  have HF := Lib.hid hF
  clear hF hT hS hL
  obtain ⟨i0, hi0, hx0, hx1, hx2⟩ := info_parts infoNums
  obtain ⟨i2, hi2, hy0, hy1, hy2⟩ := info_parts infoInt
  go_enter Tryz.func82, Tryz.ntmps82
  go_wp2_with fail
  refine HOf.out.mono ?_
  rintro e w1 ⟨v, out, rfl, hr, hSh, hlt, hB⟩
  obtain ⟨av, cv, rfl⟩ := ownsRow_slice hr
  have hz1 := hB.size
  have hB2 : Below w.heap.size w (w1.alloc (.cells #[.slice av F cv] 28)) := (hB1.trans (hB.mono hB1.size)).alloc (by have := hB1.size; omega) _
  have bt2 := (b1.below hB b1.lt).alloc (.cells #[.slice av F cv] 28)
  have bs2 := Blk.new w1 28 #[.slice av F cv]
  have hr2 := hr.alloc (.cells #[.slice av F cv] 28)
  have HB2 := Lib.hid hB2
  have HBt := Lib.hid bt2
  have HBs := Lib.hid bs2
  have HR2 := Lib.hid hr2
  have HSh := Lib.hid hSh
  have HLT := Lib.hid hlt
  clear hB hB1 hB2 b1 bt2 bs2 hr hr2 hSh hlt HOf
  go_upto_region 2 with fail
  generalize w1.alloc (.cells #[.slice av F cv] 28) = W2 at *
  have HTW := Lib.hid (fun (W : World) (hW : Below W2.heap.size W2 W) => HT.out.below (HB2.out.trans (hW.mono HB2.out.size)))
  have HCn := Lib.hid (count_any g n T W2 (HTW.out W2 (Below.refl _ _)) HS.out.twice)
  have hz2 := HB2.out.size
  obtain ⟨lt0, x0, -⟩ := HBt.out.one
  obtain ⟨ls0, y0, -⟩ := HBs.out.one
  go_wp2_with fail
  refine HCn.out.mono ?_
  rintro e w3 ⟨out', rfl, hSh', -, hB3⟩
  obtain rfl := HSh.out.one hSh'
  clear hSh' HCn
  have hol : out.length = F := by rw [HSh.out.len]; exact HF.out
  have HOL := Lib.hid hol
  have hcm0 : 0 ≤ cntL out ∧ cntL out ≤ F := by
    have := cntL_bd (out := out) (m := (F : Int)) (fun j hj => HLT.out j (by omega)) (by omega) out.length (Nat.le_refl _)
    rwa [List.take_length] at this
  obtain ⟨m, hm⟩ : ∃ m : Nat, cntL out = m := ⟨(cntL out).toNat, by omega⟩
  have HM := Lib.hid hm
  have hlm : ∀ j, j < F → 0 ≤ at_ out j ∧ at_ out j < m := fun j hj => ⟨HSh.out.nn j (by rw [HF.out]; exact hj), by rw [← hm]; exact at_lt (by rw [hol]; exact hj)⟩
  have HLM := Lib.hid hlm
  have hmF : m ≤ F := by omega
  rw [hm]
  clear hol hcm0 hm hlm
  go_upto_region 5 with (first
    | (at_make; refine wpList_make_full _ rfl (.tmp 17) (.tmp 17) 139 rfl W2.heap.size 142 i0 _ 6 Tryz.underlying139 hi0 hx0 hx1 .i64 .i64 _ _ m rfl rfl rfl rfl (by rw [hx2]; omega) (by unfold maxLen; omega) hB3.size ?_; intro w4 hr4 hg4)
    | (at_make; refine wpList_make_full _ rfl (.tmp 20) (.tmp 20) 28 rfl W2.heap.size 3 i2 _ 1 Tryz.underlying28 hi2 hy0 hy1 .i64 .i64 _ _ m rfl rfl rfl rfl (by rw [hy2]; omega) (by unfold maxLen; omega) (Nat.le_trans hB3.size hg4.size) ?_; intro w5 hr5 hg5))
  rw [made6] at hr4
  rw [made_ints] at hr5
  have hG0 : GI W2 T m (.slice (some ⟨w3.heap.size, 0, none⟩) m m) (.slice (some ⟨w4.heap.size, 0, none⟩) m m) (List.replicate (m * 6) 0) (List.replicate m 0) w5 :=
    ⟨(hB3.grown hg4 hB3.size (fun j e => by cases e)).grown hg5 (Nat.le_trans hB3.size hg4.size) (fun j e => by cases e), hr4.kept hg5 (.inr (by simp [Value.ownBlock])), by simpa [intsV] using hr5, by simp, by simp, fun x hx => by rw [List.eq_of_mem_replicate hx]; omega, fun x hx => by rw [List.eq_of_mem_replicate hx]; omega⟩
  have HG0 := Lib.hid hG0
  clear hr4 hg4 hr5 hg5 hB3 hG0 hi0 hx0 hx1 hx2 hi2 hy0 hy1 hy2
  generalize w3.heap.size = gO at *
  generalize w4.heap.size = gT at *
  rename World => wA
  have hBA := HG0.out.below
  have hzA := hBA.size
  have xA := (hBA.cell (p := ⟨w.heap.size, 0, none⟩) lt0).trans x0
  have yA := (hBA.cell (p := ⟨w1.heap.size, 0, none⟩) ls0).trans y0
  clear hBA
  go_wp2
  go_loopw [25] (fun ix wr => ∃ (k : Nat) (cs tw : List Int), k ≤ F ∧ ix = .int .i64 k ∧ GI W2 T m (.slice (some ⟨gO, 0, none⟩) m m) (.slice (some ⟨gT, 0, none⟩) m m) cs tw wr ∧ (∀ x ∈ cs, x ≤ k) ∧ (∀ x ∈ tw, x ≤ 6 * k) ∧ (m = 1 → cs = [0, 0, (k : Int), 0, 0, 0] ∧ (ClosedT T → tw = [3 * (k : Int)]))) (fun ix _ => F - (intOf ix).toNat)
  case atStart => exact ⟨0, _, _, Nat.zero_le _, rfl, HG0.out, fun x hx => by rw [List.eq_of_mem_replicate hx]; omega, fun x hx => by rw [List.eq_of_mem_replicate hx]; omega, fun h => by subst h; exact ⟨rfl, fun _ => rfl⟩⟩
  case round =>
    clear HG0 xA yA hzA
    rename World => wr
    obtain ⟨k, cs, tw, hk, rfl, hG, hc1, ht1, h1⟩ := hrel
    have hBr := hG.below
    have hzr := hBr.size
    have xr := (hBr.cell (p := ⟨w.heap.size, 0, none⟩) lt0).trans x0
    have yr := (hBr.cell (p := ⟨w1.heap.size, 0, none⟩) ls0).trans y0
    by_cases hlt : k < F
    · obtain ⟨g0, cap, e0, hg1, hg2⟩ := HR2.out.form (by omega)
      cases e0
      have hrc := (hBr.cell (p := ⟨g0, k, none⟩) hg2).trans (HR2.out.cellAt k (by omega))
      rw [intsV_at (by rw [HOL.out]; exact hlt)] at hrc
      obtain ⟨i, hi⟩ : ∃ i : Nat, at_ out k = i := ⟨(at_ out k).toNat, by have := HLM.out k hlt; omega⟩
      have him : i < m := by have := HLM.out k hlt; omega
      rw [hi] at hrc
      obtain ⟨o1, o2, o3, o4, o5⟩ := hG.cellO 2 him (by omega)
      have hmO : at_ cs (i * 6 + 2) ∈ cs := by
        have hj : i * 6 + 2 < cs.length := by rw [hG.cl]; omega
        unfold at_
        rw [List.getD_eq_getElem?_getD, List.getElem?_eq_getElem hj]
        exact List.getElem_mem _
      have o6 := hc1 _ hmO
      have hG2 := hG.putO (i * 6 + 2) (at_ cs (i * 6 + 2) + 1) (by omega)
      have hc2 : ∀ x ∈ cs.set (i * 6 + 2) (at_ cs (i * 6 + 2) + 1), x ≤ (k : Int) + 1 := fun x hx => by
        rcases List.mem_or_eq_of_mem_set hx with hx | rfl
        · have := hc1 x hx; omega
        · omega
      have h2 : m = 1 → cs.set (i * 6 + 2) (at_ cs (i * 6 + 2) + 1) = [0, 0, (k : Int) + 1, 0, 0, 0] := fun h => by
        obtain rfl : i = 0 := by omega
        rw [(h1 h).1]
        rfl
      have h3 : m = 1 → ClosedT T → tw = [3 * (k : Int)] := fun h hc => (h1 h).2 hc
      have k3 : (k : Int) < (F : Int) := by omega
      have i3 : (i : Int) < (m : Int) := by omega
      have HG2 := Lib.hid hG2
      have HC2 := Lib.hid hc2
      have HT1 := Lib.hid ht1
      have H2 := Lib.hid h2
      have H3 := Lib.hid h3
      have HI := Lib.hid hi
      generalize cs.set (i * 6 + 2) (at_ cs (i * 6 + 2) + 1) = cs2 at *
      generalize at_ cs (i * 6 + 2) = z at *
      clear hG hG2 hc1 hc2 ht1 h1 h2 h3 hmO hBr hi
      go_wp2
      generalize (wr.setCell ⟨gO, i * 6 + 2, none⟩ (.int .i64 (z + 1))) = wB at *
      go_loopw [9] (fun cq wq => ∃ (j : Nat) (tw2 : List Int), j ≤ 3 ∧ cq = .int .i64 (3 * (k : Int) + (j : Int)) ∧ GI W2 T m (.slice (some ⟨gO, 0, none⟩) m m) (.slice (some ⟨gT, 0, none⟩) m m) cs2 tw2 wq ∧ (∀ x ∈ tw2, x ≤ 6 * (k : Int) + 2 * (j : Int)) ∧ (m = 1 → ClosedT T → tw2 = [3 * (k : Int) + (j : Int)])) (fun cq _ => 3 * k + 3 - (intOf cq).toNat)
      case atStart => exact ⟨0, tw, by omega, by simp, HG2.out, fun x hx => by have := HT1.out x hx; omega, fun h hc => by rw [H3.out h hc]; simp⟩
      case round =>
        rename World => wq
        obtain ⟨j, tw2, hj, rfl, hG, ht2, h4⟩ := hrel
        clear HG2 H3 HT1
        have hBr := hG.below
        have hzr := hBr.size
        have xr := (hBr.cell (p := ⟨w.heap.size, 0, none⟩) lt0).trans x0
        by_cases hj3 : j < 3
        · obtain ⟨o1, o2, o3, o4, o5⟩ := hG.cellT him
          have o6 := ht2 _ (at_mem (l := tw2) (j := i) (by rw [hG.tl]; exact him))
          have hG3 := hG.putT i (at_ tw2 i + 1) (by omega)
          have ht3 : ∀ x ∈ tw2.set i (at_ tw2 i + 1), x ≤ 6 * (k : Int) + 2 * (j : Int) + 1 := fun x hx => by
            rcases List.mem_or_eq_of_mem_set hx with hx | rfl
            · have := ht2 x hx; omega
            · omega
          have h5 : m = 1 → ClosedT T → tw2.set i (at_ tw2 i + 1) = [3 * (k : Int) + (j : Int) + 1] := fun h hc => by
            obtain rfl : i = 0 := by omega
            rw [h4 h hc]
            rfl
          have HG3 := Lib.hid hG3
          have HT3 := Lib.hid ht3
          have H5 := Lib.hid h5
          have j3 : 3 * (k : Int) + (j : Int) < 3 * (k : Int) + 3 := by omega
          generalize tw2.set i (at_ tw2 i + 1) = tw3 at *
          generalize at_ tw2 i = y at *
          clear hG hG3 ht2 ht3 h4 h5 hBr
          go_upto_region 13 with fail
          generalize (wq.setCell ⟨gT, i, none⟩ (.int .i64 (y + 1))) = wC at *
          have hBC := HG3.out.below
          have xC := (hBC.cell (p := ⟨w.heap.size, 0, none⟩) lt0).trans x0
          have HOp := Lib.hid (opp_any g n (3 * (k : Int) + (j : Int)) T wC (HTW.out wC hBC))
          clear hBC
          go_wp2_with fail
          refine HOp.out.mono ?_
          rintro e wD ⟨rfl, hbD⟩
          have hG4 := HG3.out.le hbD
          have hcl : ClosedT T → 0 ≤ oppI T (3 * (k : Int) + (j : Int)) := fun hc => by
            have := hc (3 * k + j) (by rw [HF.out]; omega)
            have e : ((3 * k + j : Nat) : Int) = 3 * (k : Int) + (j : Int) := by omega
            rwa [e] at this
          have HCl := Lib.hid hcl
          clear hcl hbD xC
          by_cases hop : oppI T (3 * (k : Int) + (j : Int)) < 0
          · obtain ⟨p1, p2, p3, p4, p5⟩ := hG4.cellT him
            have p6 := HT3.out _ (at_mem (l := tw3) (j := i) (by rw [hG4.tl]; exact him))
            have hG5 := hG4.putT i (at_ tw3 i + 1) (by omega)
            have ht5 : ∀ x ∈ tw3.set i (at_ tw3 i + 1), x ≤ 6 * (k : Int) + 2 * ((j : Int) + 1) := fun x hx => by
              rcases List.mem_or_eq_of_mem_set hx with hx | rfl
              · have := HT3.out x hx; omega
              · omega
            have HG5 := Lib.hid hG5
            have HT5 := Lib.hid ht5
            generalize tw3.set i (at_ tw3 i + 1) = tw5 at *
            generalize at_ tw3 i = x at *
            clear hG4 hG5 ht5
            go_wp2
            go_roundw
            case measure => simp [intOf]; omega
            case rel => exact ⟨j + 1, tw5, by omega, by go_num, HG5.out, fun x hx => by have := HT5.out x hx; push_cast; omega, fun h hc => by have := HCl.out hc; omega⟩
          · have HG4 := Lib.hid hG4
            clear hG4
            go_wp2
            go_roundw
            case measure => simp [intOf]; omega
            case rel => exact ⟨j + 1, tw3, by omega, by go_num, HG4.out, fun x hx => by have := HT3.out x hx; push_cast; omega, fun h hc => by rw [H5.out h hc]; congr 1⟩
        · obtain rfl : j = 3 := by omega
          have HG := Lib.hid hG
          have HT2 := Lib.hid ht2
          have H4 := Lib.hid h4
          clear hG ht2 h4
          go_wp2
          go_roundw
          case measure => simp [intOf]; omega
          case rel => exact ⟨k + 1, cs2, tw2, by omega, by go_num, HG.out, fun x hx => by have := HC2.out x hx; push_cast; omega, fun x hx => by have := HT2.out x hx; push_cast; omega, fun h => ⟨by rw [H2.out h]; push_cast; rfl, fun hc => by rw [H4.out h hc]; congr 1⟩⟩
    · obtain rfl : F = k := by omega
      have HG := Lib.hid hG
      have HC1 := Lib.hid hc1
      have HT1 := Lib.hid ht1
      have H1 := Lib.hid h1
      have HVs := Lib.hid (vertices_any g n T wr (HTW.out wr hBr).toTabS)
      have hn : n ≤ 4096 := by omega
      have HAt := Lib.hid (fun (W : World) (hW : Below W2.heap.size W2 W) (v : Int) (hv : 0 ≤ v ∧ v < n) => (show Calls Tryz.prog 107 #[.int .i64 v, .pointer (some ⟨w1.heap.size, 0, none⟩), .pointer (some ⟨w.heap.size, 0, none⟩)] W fun e w' => ∃ q : Nat, e = .returned (.int .i64 (q : Int)) ∧ q < m ∧ Below W.heap.size W w' from by
        have hzW := hW.size
        have hrW := own_below HR2.out hW
        rw [← HF.out] at hrW
        refine (gat_any g w1.heap.size w.heap.size n v T out av cv _ W HS.out (HTW.out W hW) ((hW.cell (p := ⟨w1.heap.size, 0, none⟩) ls0).trans (by rw [HF.out]; exact y0)) ((hW.cell (p := ⟨w.heap.size, 0, none⟩) lt0).trans x0) (by omega) (by omega) hrW HSh.out.len hv).mono ?_
        rintro e w' ⟨i, rfl, hi, hb⟩
        rw [HF.out] at hi
        have := HLM.out i hi
        exact ⟨(at_ out i).toNat, by congr 2; omega, by omega, hb⟩))
      clear hG hc1 ht1 h1 yr hBr hzr
      go_wp2_with fail
      refine HVs.out.mono ?_
      rintro e wE ⟨rfl, rfl⟩
      clear HVs
      go_upto_region 17 with fail
      go_loopw [66] (fun ix wr => ∃ (v : Nat) (cs : List Int), v ≤ n ∧ ix = .int .i64 v ∧ GI W2 T m (.slice (some ⟨gO, 0, none⟩) m m) (.slice (some ⟨gT, 0, none⟩) m m) cs tw wr ∧ (∀ x ∈ cs, x ≤ (F : Int) + v) ∧ (m = 1 → cs = [(v : Int), 0, (F : Int), 0, 0, 0])) (fun ix _ => n - (intOf ix).toNat)
      case atStart => exact ⟨0, cs, Nat.zero_le _, rfl, HG.out, fun x hx => by have := HC1.out x hx; omega, fun h => (H1.out h).1⟩
      case round =>
        clear HG HC1 xr
        rename World => wq
        obtain ⟨v, cs3, hv, rfl, hG, hc1, h1⟩ := hrel
        by_cases hvn : v < n
        · have k3 : (v : Int) < (n : Int) := by omega
          have HAv := Lib.hid (HAt.out wq hG.below (v : Int) (by omega))
          have HG := Lib.hid hG
          clear hG
          go_wp2_with fail
          refine HAv.out.mono ?_
          rintro e wF ⟨q, rfl, hqm, hbF⟩
          have hG := HG.out.le hbF
          obtain ⟨o1, o2, o3, o4, o5⟩ := hG.cellO 0 hqm (by omega)
          simp only [Nat.add_zero] at o1 o2 o3 o4
          have o6 := hc1 _ (at_mem (l := cs3) (j := q * 6) (by rw [hG.cl]; omega))
          have hG2 := hG.putO (q * 6) (at_ cs3 (q * 6) + 1) (by omega)
          have hc2 : ∀ x ∈ cs3.set (q * 6) (at_ cs3 (q * 6) + 1), x ≤ (F : Int) + (v : Int) + 1 := fun x hx => by
            rcases List.mem_or_eq_of_mem_set hx with hx | rfl
            · have := hc1 x hx; omega
            · omega
          have h2 : m = 1 → cs3.set (q * 6) (at_ cs3 (q * 6) + 1) = [(v : Int) + 1, 0, (F : Int), 0, 0, 0] := fun h => by
            obtain rfl : q = 0 := by omega
            rw [h1 h]
            rfl
          have q3 : (q : Int) < (m : Int) := by omega
          have HG2 := Lib.hid hG2
          have HC2 := Lib.hid hc2
          have H2 := Lib.hid h2
          generalize cs3.set (q * 6) (at_ cs3 (q * 6) + 1) = cs4 at *
          generalize at_ cs3 (q * 6) = z at *
          clear hG hG2 hc1 hc2 h1 h2 hbF HG
          go_wp2
          go_roundw
          case measure => simp [intOf]; omega
          case rel => exact ⟨v + 1, cs4, by omega, by go_num, HG2.out, fun x hx => by have := HC2.out x hx; push_cast; omega, fun h => by rw [H2.out h]; push_cast; rfl⟩
        · obtain rfl : n = v := by omega
          have HG := Lib.hid hG
          have HC1 := Lib.hid hc1
          have H3 := Lib.hid h1
          have hBq := hG.below
          have xq := (hBq.cell (p := ⟨w.heap.size, 0, none⟩) lt0).trans x0
          have HLq := Lib.hid (HL.out wq (HB2.out.trans (hBq.mono HB2.out.size)))
          clear hG hc1 h1 hBq
          go_upto_region 21 with fail
          go_wp2_with fail
          refine HLq.out.mono ?_
          rintro e wG ⟨vL, us, L, rfl, hrL, hLn, hLr, hLc, hbG⟩
          obtain ⟨aL, cL, rfl⟩ := ownsRow_slice hrL
          have HG' := Lib.hid (HG.out.le hbG)
          have HLc := Lib.hid hLc
          obtain ⟨lL, hlL⟩ : ∃ l, L.length = l := ⟨_, rfl⟩
          rw [hlL] at hrL hLn
          have HRL := Lib.hid hrL
          have HLr := Lib.hid hLr
          have HlL := Lib.hid hlL
          rw [hlL]
          clear hrL hLr hLc hbG HLq HG hlL
          go_upto_region 22 with fail
          go_loopw [83] (fun ix wr => ∃ (k : Nat) (cs : List Int), k ≤ lL ∧ ix = .int .i64 k ∧ GI W2 T m (.slice (some ⟨gO, 0, none⟩) m m) (.slice (some ⟨gT, 0, none⟩) m m) cs tw wr ∧ (∀ x ∈ cs, x ≤ (F : Int) + n + k) ∧ (m = 1 → cs = [(n : Int), 0, (F : Int), (k : Int), 0, 0]) ∧
            wr.ownsRow wq.heap.size 28 1 (.slice aL lL cL) lL us ∧ (∀ (i : Nat) (u : Value) (r : List Int), us[i]? = some u → L[i]? = some r → wr.ownsRow wq.heap.size 3 1 u r.length (intsV r) ∧ ∃ a r', r = a :: r' ∧ 0 ≤ a ∧ a < n)) (fun ix _ => lL - (intOf ix).toNat)
          case atStart => exact ⟨0, cs3, Nat.zero_le _, rfl, HG'.out, fun x hx => by have := HC1.out x hx; omega, fun h => by rw [H3.out h]; rfl, HRL.out, HLr.out⟩
          case round =>
            clear HG' HC1 H3 HRL HLr xq
            rename World => wr
            obtain ⟨k, cs5, hk, rfl, hG, hc1, h1, hrL, hLr⟩ := hrel
            by_cases hkl : k < lL
            · have k3 : (k : Int) < (lL : Int) := by omega
              obtain ⟨gl, cl, e0, hg1, hg2⟩ := hrL.form (by omega)
              cases e0
              have hul : k < us.length := by have := hrL.1; omega
              have hLl : k < L.length := by rw [HlL.out]; exact hkl
              obtain ⟨hru, a, r', hra, ha0, han⟩ := hLr k us[k] L[k] (List.getElem?_eq_getElem hul) (List.getElem?_eq_getElem hLl)
              have hcu := hrL.cellAt k (by omega)
              rw [List.getElem?_eq_getElem hul] at hcu
              rw [hra] at hru
              obtain ⟨gu, cu, eu, hgu1, hgu2⟩ := hru.form (by simp)
              rw [eu] at hru hcu
              have hca := hru.cellAt 0 (by simp)
              have hca' : wr.cell? ⟨gu, 0, none⟩ = some (.int .i64 a) := hca
              obtain ⟨lr, hlr⟩ : ∃ l, (a :: r').length = l := ⟨_, rfl⟩
              have hlr0 : 0 < lr := by rw [← hlr]; simp
              rw [hlr] at hcu
              have lr3 : (0 : Int) < (lr : Int) := by omega
              have HAv := Lib.hid (HAt.out wr hG.below a ⟨ha0, han⟩)
              have HG := Lib.hid hG
              have HRL := Lib.hid hrL
              have HLr := Lib.hid hLr
              clear hG hrL hLr hru hca hra eu hlr
              go_wp2_with fail
              refine HAv.out.mono ?_
              rintro e wF ⟨q, rfl, hqm, hbF⟩
              have hG := HG.out.le hbF
              obtain ⟨o1, o2, o3, o4, o5⟩ := hG.cellO 3 hqm (by omega)
              have o6 := hc1 _ (at_mem (l := cs5) (j := q * 6 + 3) (by rw [hG.cl]; omega))
              have hG2 := hG.putO (q * 6 + 3) (at_ cs5 (q * 6 + 3) + 1) (by omega)
              have hc2 : ∀ x ∈ cs5.set (q * 6 + 3) (at_ cs5 (q * 6 + 3) + 1), x ≤ (F : Int) + (n : Int) + (k : Int) + 1 := fun x hx => by
                rcases List.mem_or_eq_of_mem_set hx with hx | rfl
                · have := hc1 x hx; omega
                · omega
              have h2 : m = 1 → cs5.set (q * 6 + 3) (at_ cs5 (q * 6 + 3) + 1) = [(n : Int), 0, (F : Int), (k : Int) + 1, 0, 0] := fun h => by
                obtain rfl : q = 0 := by omega
                rw [h1 h]
                rfl
              have q3 : (q : Int) < (m : Int) := by omega
              obtain ⟨st1, st2⟩ := hG.out.stored (q * 6 + 3) (.int .i64 (at_ cs5 (q * 6 + 3) + 1))
              have hrL2 := (own_below HRL.out hbF).kept st2 (own_own_ne (own_below HRL.out hbF) hG.out (by decide))
              have hLr2 : ∀ (i : Nat) (u : Value) (r : List Int), us[i]? = some u → L[i]? = some r → (wF.setCell ⟨gO, q * 6 + 3, none⟩ (.int .i64 (at_ cs5 (q * 6 + 3) + 1))).ownsRow wq.heap.size 3 1 u r.length (intsV r) ∧ ∃ a r', r = a :: r' ∧ 0 ≤ a ∧ a < n := fun i u r hu hr => by
                obtain ⟨b1, b2⟩ := HLr.out i u r hu hr
                exact ⟨(own_below b1 hbF).kept st2 (own_own_ne (own_below b1 hbF) hG.out (by decide)), b2⟩
              have HG2 := Lib.hid hG2
              have HC2 := Lib.hid hc2
              have H2 := Lib.hid h2
              have HRL2 := Lib.hid hrL2
              have HLr2 := Lib.hid hLr2
              generalize cs5.set (q * 6 + 3) (at_ cs5 (q * 6 + 3) + 1) = cs6 at *
              generalize at_ cs5 (q * 6 + 3) = z at *
              clear hG hG2 hc1 hc2 h1 h2 hbF HG st1 st2 hrL2 hLr2 HRL HLr
              go_wp2
              go_roundw
              case measure => simp [intOf]; omega
              case rel => exact ⟨k + 1, cs6, by omega, by go_num, HG2.out, fun x hx => by have := HC2.out x hx; push_cast; omega, fun h => by rw [H2.out h]; push_cast; rfl, HRL2.out, HLr2.out⟩
            · obtain rfl : lL = k := by omega
              have HG := Lib.hid hG
              have HC1 := Lib.hid hc1
              have H3 := Lib.hid h1
              clear hG hc1 h1 hrL hLr
              go_upto_region 27 with fail
              go_loopw [102] (fun ix wr => ∃ (k : Nat) (cs : List Int), k ≤ m ∧ ix = .int .i64 k ∧ Below W2.heap.size W2 wr ∧ wr.ownsRow W2.heap.size 142 6 (.slice (some ⟨gO, 0, none⟩) m m) m (intsV cs) ∧ wr.ownsRow W2.heap.size 3 1 (.slice (some ⟨gT, 0, none⟩) m m) m (intsV tw) ∧
                cs.length = m * 6 ∧ (∀ j, k * 6 ≤ j → at_ cs j = at_ cs5 j) ∧ (k = 0 → cs = cs5) ∧ (m = 1 → k = 1 → cs = [(n : Int), at_ tw 0 / 2, F, (lL : Int), n - at_ tw 0 / 2 + F, (2 - lL - (n - at_ tw 0 / 2 + F)).tdiv 2])) (fun ix _ => m - (intOf ix).toNat)
              case atStart => exact ⟨0, cs5, Nat.zero_le _, rfl, HG.out.below, HG.out.out, HG.out.two, HG.out.cl, fun j _ => rfl, fun _ => rfl, fun _ h => by omega⟩
              case round =>
                rename World => wz
                obtain ⟨k, cs7, hk, rfl, hB, hO, hT2, hcl, hsm, hz, h1⟩ := hrel
                have htl := HG.out.tl
                by_cases hkm : k < m
                · have k3 : (k : Int) < (m : Int) := by omega
                  have cellK : ∀ f, f < 6 → wz.cell? ⟨gO, k * 6 + f, none⟩ = some (.int .i64 (at_ cs5 (k * 6 + f))) := fun f hf => by
                    rw [hO.cellAt _ (by omega), intsV_at (by omega), hsm _ (by omega)]
                  have bdK : ∀ f, f < 6 → 0 ≤ at_ cs5 (k * 6 + f) ∧ at_ cs5 (k * 6 + f) ≤ 30000 := fun f hf => HG.out.cb _ (at_mem (by rw [HG.out.cl]; omega))
                  have tcell : wz.cell? ⟨gT, k, none⟩ = some (.int .i64 (at_ tw k)) := by rw [hT2.cellAt _ (by omega), intsV_at (by omega)]
                  have tbd := HG.out.tb _ (at_mem (l := tw) (j := k) (by omega))
                  have lgO := (hO.lt gO rfl).2
                  have HD := Lib.hid (fun (W : World) (hW : W.heap = wz.heap) => gdone_any gO (k * 6) (at_ cs5 (k * 6)) (at_ cs5 (k * 6 + 2)) (at_ cs5 (k * 6 + 3)) (at_ tw k) (at_ cs5 (k * 6 + 1)) (at_ cs5 (k * 6 + 4)) (at_ cs5 (k * 6 + 5)) W
                    (by unfold World.cell?; rw [hW]; exact cellK 0 (by omega)) (by unfold World.cell?; rw [hW]; exact cellK 1 (by omega)) (by unfold World.cell?; rw [hW]; exact cellK 2 (by omega)) (by unfold World.cell?; rw [hW]; exact cellK 3 (by omega)) (by unfold World.cell?; rw [hW]; exact cellK 4 (by omega)) (by unfold World.cell?; rw [hW]; exact cellK 5 (by omega))
                    (fun j => by unfold World.frozen?; rw [hW]; exact hO.frozenAt j) (by rw [hW]; exact lgO) (by have := bdK 0 (by omega); simp only [Nat.add_zero] at this; omega) (by have := bdK 2 (by omega); omega) (by have := bdK 3 (by omega); omega) (by omega))
                  go_upto_region 29 with fail
                  go_region_with (go_at_call 110; refine (HD.out wz.drew rfl).mono ?_; rintro e wY ⟨⟨vy, rfl⟩, rfl⟩)
                  obtain ⟨s1, s2⟩ := hO.stored (k * 6 + 1) (.int .i64 (at_ tw k / 2))
                  rw [intsV_set] at s1
                  obtain ⟨s3, s4⟩ := s1.stored (k * 6 + 4) (.int .i64 (at_ cs5 (k * 6) - at_ tw k / 2 + at_ cs5 (k * 6 + 2)))
                  rw [intsV_set] at s3
                  obtain ⟨s5, s6⟩ := s3.stored (k * 6 + 5) (.int .i64 ((2 - at_ cs5 (k * 6 + 3) - (at_ cs5 (k * 6) - at_ tw k / 2 + at_ cs5 (k * 6 + 2))).tdiv 2))
                  rw [intsV_set] at s5
                  have gB : ∀ j, some gO = some j → W2.heap.size ≤ j := fun j e => (hO.lt j (by rw [← e]; rfl)).1
                  have u1 := hT2.kept s2 (own_own_ne hT2 hO (by decide))
                  have u2 := u1.kept s4 (own_own_ne u1 s1 (by decide))
                  have u3 := u2.kept s6 (own_own_ne u2 s3 (by decide))
                  have d1 := hB.grown s2 hB.size gB
                  have d2 := d1.grown s4 d1.size gB
                  have d3 := d2.grown s6 d2.size gB
                  have hO3 : World.ownsRow ((((wz.setCell ⟨gO, k * 6 + 1, none⟩ (.int .i64 (at_ tw k / 2))).setCell ⟨gO, k * 6 + 4, none⟩ (.int .i64 (at_ cs5 (k * 6) - at_ tw k / 2 + at_ cs5 (k * 6 + 2)))).setCell ⟨gO, k * 6 + 5, none⟩ (.int .i64 ((2 - at_ cs5 (k * 6 + 3) - (at_ cs5 (k * 6) - at_ tw k / 2 + at_ cs5 (k * 6 + 2))).tdiv 2))).drew.drew.drew) W2.heap.size 142 6 (.slice (some ⟨gO, 0, none⟩) m m) m (intsV (((cs7.set (k * 6 + 1) (at_ tw k / 2)).set (k * 6 + 4) (at_ cs5 (k * 6) - at_ tw k / 2 + at_ cs5 (k * 6 + 2))).set (k * 6 + 5) ((2 - at_ cs5 (k * 6 + 3) - (at_ cs5 (k * 6) - at_ tw k / 2 + at_ cs5 (k * 6 + 2))).tdiv 2))) := s5
                  have hT3 : World.ownsRow ((((wz.setCell ⟨gO, k * 6 + 1, none⟩ (.int .i64 (at_ tw k / 2))).setCell ⟨gO, k * 6 + 4, none⟩ (.int .i64 (at_ cs5 (k * 6) - at_ tw k / 2 + at_ cs5 (k * 6 + 2)))).setCell ⟨gO, k * 6 + 5, none⟩ (.int .i64 ((2 - at_ cs5 (k * 6 + 3) - (at_ cs5 (k * 6) - at_ tw k / 2 + at_ cs5 (k * 6 + 2))).tdiv 2))).drew.drew.drew) W2.heap.size 3 1 (.slice (some ⟨gT, 0, none⟩) m m) m (intsV tw) := u3
                  have hB3 : Below W2.heap.size W2 ((((wz.setCell ⟨gO, k * 6 + 1, none⟩ (.int .i64 (at_ tw k / 2))).setCell ⟨gO, k * 6 + 4, none⟩ (.int .i64 (at_ cs5 (k * 6) - at_ tw k / 2 + at_ cs5 (k * 6 + 2)))).setCell ⟨gO, k * 6 + 5, none⟩ (.int .i64 ((2 - at_ cs5 (k * 6 + 3) - (at_ cs5 (k * 6) - at_ tw k / 2 + at_ cs5 (k * 6 + 2))).tdiv 2))).drew.drew.drew) := d3.drew.drew.drew
                  generalize ((((wz.setCell ⟨gO, k * 6 + 1, none⟩ (.int .i64 (at_ tw k / 2))).setCell ⟨gO, k * 6 + 4, none⟩ (.int .i64 (at_ cs5 (k * 6) - at_ tw k / 2 + at_ cs5 (k * 6 + 2)))).setCell ⟨gO, k * 6 + 5, none⟩ (.int .i64 ((2 - at_ cs5 (k * 6 + 3) - (at_ cs5 (k * 6) - at_ tw k / 2 + at_ cs5 (k * 6 + 2))).tdiv 2))).drew.drew.drew) = wX at *
                  have hcl3 : (((cs7.set (k * 6 + 1) (at_ tw k / 2)).set (k * 6 + 4) (at_ cs5 (k * 6) - at_ tw k / 2 + at_ cs5 (k * 6 + 2))).set (k * 6 + 5) ((2 - at_ cs5 (k * 6 + 3) - (at_ cs5 (k * 6) - at_ tw k / 2 + at_ cs5 (k * 6 + 2))).tdiv 2)).length = m * 6 := by simp [hcl]
                  have hsm3 : ∀ j, (k + 1) * 6 ≤ j → at_ (((cs7.set (k * 6 + 1) (at_ tw k / 2)).set (k * 6 + 4) (at_ cs5 (k * 6) - at_ tw k / 2 + at_ cs5 (k * 6 + 2))).set (k * 6 + 5) ((2 - at_ cs5 (k * 6 + 3) - (at_ cs5 (k * 6) - at_ tw k / 2 + at_ cs5 (k * 6 + 2))).tdiv 2)) j = at_ cs5 j := fun j hj => by
                    rw [← hsm j (by omega)]
                    unfold at_
                    simp only [List.getD_eq_getElem?_getD]
                    rw [List.getElem?_set_ne (by omega), List.getElem?_set_ne (by omega), List.getElem?_set_ne (by omega)]
                  have h5 : m = 1 → k + 1 = 1 → (((cs7.set (k * 6 + 1) (at_ tw k / 2)).set (k * 6 + 4) (at_ cs5 (k * 6) - at_ tw k / 2 + at_ cs5 (k * 6 + 2))).set (k * 6 + 5) ((2 - at_ cs5 (k * 6 + 3) - (at_ cs5 (k * 6) - at_ tw k / 2 + at_ cs5 (k * 6 + 2))).tdiv 2)) = [(n : Int), at_ tw 0 / 2, F, (lL : Int), n - at_ tw 0 / 2 + F, (2 - lL - (n - at_ tw 0 / 2 + F)).tdiv 2] := fun hm1 hk1 => by
                    obtain rfl : k = 0 := by omega
                    rw [hz rfl, H3.out hm1]
                    rfl
                  have HO3 := Lib.hid hO3
                  have HT3 := Lib.hid hT3
                  have HB3 := Lib.hid hB3
                  have HCL3 := Lib.hid hcl3
                  have HSM3 := Lib.hid hsm3
                  have H5 := Lib.hid h5
                  clear hO3 hT3 hB3 hcl3 hsm3 h5 s1 s2 s3 s4 s5 s6 u1 u2 u3 d1 d2 d3 hO hT2 hB hsm hz h1 hcl cellK bdK tcell HD
                  generalize ((cs7.set (k * 6 + 1) (at_ tw k / 2)).set (k * 6 + 4) (at_ cs5 (k * 6) - at_ tw k / 2 + at_ cs5 (k * 6 + 2))).set (k * 6 + 5) ((2 - at_ cs5 (k * 6 + 3) - (at_ cs5 (k * 6) - at_ tw k / 2 + at_ cs5 (k * 6 + 2))).tdiv 2) = cs8 at *
                  go_wp2
                  go_roundw
                  case measure => simp [intOf]; omega
                  case rel => exact ⟨k + 1, cs8, by omega, by go_num, HB3.out, HO3.out, HT3.out, HCL3.out, HSM3.out, fun h => by omega, H5.out⟩
                · obtain rfl : m = k := by omega
                  have HOz := Lib.hid (own_base hO HB2.out.size)
                  have HBz := Lib.hid (HB2.out.trans (hB.mono HB2.out.size))
                  have H6 := Lib.hid h1
                  clear hO hT2 hB hsm hz h1 hcl
                  go_wp2
                  go_ret
                  refine ⟨_, out, m, cs7, rfl, HSh.out, HM.out, HOz.out, fun hm1 => ⟨at_ tw 0 / 2, lL, H6.out hm1 hm1, by omega, ?_, fun hc => ?_⟩, HBz.out⟩
                  · rw [← HLc.out, ← HlL.out]
                    cases L <;> simp
                    omega
                  · rw [(H1.out hm1).2 hc]
                    rfl
end Go.Proofs.YtghlnknncahkgaaGreat
/-
  What a piece of code may change of what lay there: a set of blocks, and no others.
-/
namespace Go.Proofs.YtghlnknncahkgaaGreat
open Go.RowKit

/-- Of the blocks that lay there only those of S may be others now. -/
structure Kept (S : Nat → Prop) (w w' : World) : Prop where
  os : w'.os = w.os
  tape : w'.tape = w.tape
  output : w'.output = w.output
  size : w.heap.size ≤ w'.heap.size
  block : ∀ k, k < w.heap.size → ¬ S k → w'.heap[k]? = w.heap[k]?
section
variable {S S' : Nat → Prop} {a b c w w' : World}
theorem Kept.refl (S : Nat → Prop) (w : World) : Kept S w w := ⟨rfl, rfl, rfl, Nat.le_refl _, fun _ _ _ => rfl⟩
theorem Kept.trans (h : Kept S a b) (k : Kept S b c) : Kept S a c :=
  ⟨k.os.trans h.os, k.tape.trans h.tape, k.output.trans h.output, Nat.le_trans h.size k.size, fun i hi hs => (k.block i (Nat.lt_of_lt_of_le hi h.size) hs).trans (h.block i hi hs)⟩
theorem Kept.mono (h : Kept S w w') (hs : ∀ k, S k → S' k) : Kept S' w w' := ⟨h.os, h.tape, h.output, h.size, fun k hk hn => h.block k hk (fun x => hn (hs k x))⟩
theorem Kept.of (h : Below w.heap.size w w') : Kept S w w' := ⟨h.os, h.tape, h.output, h.size, fun k hk _ => h.block k hk⟩
theorem Kept.below {B : Nat} (h : Kept S w w') (hs : ∀ k, S k → B ≤ k) (hB : B ≤ w.heap.size) : Below B w w' := ⟨h.os, h.tape, h.output, h.size, fun k hk => h.block k (by omega) (fun x => by have := hs k x; omega)⟩
theorem Kept.drew (h : Kept S a w) : Kept S a w.drew := ⟨h.os, h.tape, h.output, h.size, h.block⟩
theorem Kept.alloc (h : Kept S a w) (o : Obj) : Kept S a (w.alloc o) :=
  ⟨h.os, h.tape, h.output, by rw [World.size_alloc]; have := h.size; omega, fun k hk hs => (Below.heap_alloc w o k (Nat.lt_of_lt_of_le hk h.size)).trans (h.block k hk hs)⟩
theorem Kept.setCell (h : Kept S a w) {p : Addr} (hp : S p.block ∨ a.heap.size ≤ p.block) (u : Value) : Kept S a (w.setCell p u) := by
  have hz : (w.setCell p u).heap.size = w.heap.size := by simp [World.setCell]
  exact ⟨h.os, h.tape, h.output, by rw [hz]; exact h.size, fun k hk hs => (Below.heap_setCell w p u k (fun e => by
    subst e
    rcases hp with hp | hp
    · exact hs hp
    · omega)).trans (h.block k hk hs)⟩
theorem Kept.grown (h : Kept S a w) {row : Option Nat} (hg : w.grownBy w' row) (hr : ∀ k, row = some k → S k ∨ a.heap.size ≤ k) : Kept S a w' :=
  ⟨hg.os.trans h.os, hg.tape.trans h.tape, hg.output.trans h.output, Nat.le_trans h.size hg.size, fun k hk hs => (hg.block k (Nat.lt_of_lt_of_le hk h.size) (fun e => by
    rcases hr k e.symm with x | x
    · exact hs x
    · omega)).trans (h.block k hk hs)⟩
theorem Kept.frown (h : Kept S a b) (k : Kept S' b c) (hs : ∀ k, S' k → S k ∨ a.heap.size ≤ k) : Kept S a c :=
  ⟨k.os.trans h.os, k.tape.trans h.tape, k.output.trans h.output, Nat.le_trans h.size k.size, fun i hi hn => (k.block i (Nat.lt_of_lt_of_le hi h.size) (fun x => by
    rcases hs i x with x | x
    · exact hn x
    · omega)).trans (h.block i hi hn)⟩
theorem own_same {base n s : Nat} {e : TypeId} {v : Value} {xs : List Value} (h : w.ownsRow base e s v n xs) (hs : ∀ k, v.ownBlock = some k → w'.heap[k]? = w.heap[k]?) : w'.ownsRow base e s v n xs := by
  obtain ⟨h1, h2 | ⟨g, cap, cur, rfl, a1, a2, a3⟩⟩ := h
  · exact ⟨h1, .inl h2⟩
  · exact ⟨h1, .inr ⟨g, cap, cur, rfl, a1, (hs g rfl).trans a2, a3⟩⟩
theorem blk_same {q : Nat} {t : TypeId} {cs : Array Value} (h : Blk w q t cs) (hs : w'.heap[q]? = w.heap[q]?) : Blk w' q t cs := hs.trans h
end
end Go.Proofs.YtghlnknncahkgaaGreat
/-
  A range over a function that has memory of its own: the iterator changes its own blocks alone, the rounds the caller's alone.
-/
namespace Go.Proofs.YtghlnknncahkgaaGreat
open Go.RowKit

/-- What speaks of the caller's blocks alone. -/
def Stable {α : Type} (B0 : Nat) (I : α → (Nat → Prop) → World → Prop) : Prop :=
  ∀ xs C A B, I xs C A → Below B0 A B → (∀ k, C k → B.heap[k]? = A.heap[k]?) → I xs C B
/-- A set of blocks is taken over: what is more was laid anew. -/
def Anew (C C' : Nat → Prop) (W W' : World) : Prop := ∀ k, C' k → C k ∨ (W.heap.size ≤ k ∧ k < W'.heap.size)
/-- The iterator's contract. -/
def SeqSep {α : Type} (F : Fence) (n : Nat) (P : Program) (g : Nat) (lb : Array Value) (encs : α → Array Value) (Fin Sp : List α → Prop) (N : Nat) (w0 : World) (R : Nat → Prop) (Pre : World → Prop) : Prop :=
  ∀ (l : Nat) (J Jx : List α → (Nat → Prop) → World → Prop) (W : World) (C : Nat → Prop), Below w0.heap.size w0 W → Pre W → (∀ k, R k → k < W.heap.size) → Stable w0.heap.size J → Stable w0.heap.size Jx →
    (∀ pre x C1 W1, J pre C1 W1 → pre.length < N → YieldAt F (n - 1) P l (encs x) W1 fun e W' =>
      Kept C1 W1 W' ∧ ∃ C', Anew C1 C' W1 W' ∧ ((e = .returned (.bool true) ∧ J (pre ++ [x]) C' W') ∨ (e = .returned (.bool false) ∧ Jx (pre ++ [x]) C' W'))) →
    J [] C W → (∀ k, C k → w0.heap.size ≤ k ∧ k < W.heap.size ∧ ¬ R k) →
    CallsIn F n P g (#[.func (.yield l) #[] #[]] ++ lb) W fun e W' => (∃ v, e = .returned v) ∧ ((∃ xs C', Fin xs ∧ J xs C' W') ∨ (∃ pre C', Sp pre ∧ Jx pre C' W'))
/-- How a round's body may be left. -/
def sepPost {α : Type} (I : List α → (Nat → Prop) → World → Prop) (Ix : Code → List α → (Nat → Prop) → World → Prop) (C : Nat → Prop) (xs : List α) (W : World) : Exit → Act → World → Prop
  | .normal, _, W' => Kept C W W' ∧ ∃ C', Anew C C' W W' ∧ I xs C' W'
  | .ret, _, W' => Kept C W W' ∧ ∃ C', Anew C C' W W' ∧ Ix .ret xs C' W'
  | .exit id, _, W' => Kept C W W' ∧ ∃ C', Anew C C' W W' ∧ Ix (.exit id) xs C' W'
  | .goto t, _, W' => Kept C W W' ∧ ∃ C', Anew C C' W W' ∧ Ix (.goto t) xs C' W'
  | .panic _, _, _ => False
  | .outgrown, _, _ => False

variable {F : Fence} {n : Nat} {P : Program} {w : World}
theorem putObj_below {B l : Nat} {W : World} {o : Obj} (h : B ≤ l) : Below B W (W.putObj l o) := ⟨rfl, rfl, rfl, by simp, fun k hk => World.putObj_heap_other (by omega)⟩
theorem putObj_kept {S : Nat → Prop} {l : Nat} {W : World} {o : Obj} (h : S l) : Kept S W (W.putObj l o) := ⟨rfl, rfl, rfl, by simp, fun k _ hn => World.putObj_heap_other (fun e => hn (by rw [e]; exact h))⟩

set_option maxHeartbeats 1000000 in
theorem wpIn_rangeFunc_sep {α : Type} {g : Operand} {ps : Array Tmp} {assign body : Code} {Q : Exit → Act → World → Prop} {a : Act} {w : World}
    (hro : F.round = none) (h1 : 1 ≤ n) {gf : Nat} {lb : Array Value} (hg : a.eval g = .func (.func gf) #[] lb) (hFg : F.fn gf) (eg : ∀ args w, (callFunc gf args).run P w = .ok (.enter gf args) w)
    {encs : α → Array Value} {Fin Sp : List α → Prop} {N : Nat} {w0 : World} {R : Nat → Prop} {Pre : World → Prop} (hseq : SeqSep F (n - 1) P gf lb encs Fin Sp N w0 R Pre) (hpre : ∀ W, Below w.heap.size w W → Pre W) (hR : ∀ k, R k → k < w.heap.size) (hb0 : Below w0.heap.size w0 w) (hps : ∀ x, (encs x).size = ps.size)
    (I : List α → (Nat → Prop) → World → Prop) (Ix : Code → List α → (Nat → Prop) → World → Prop) (hI : Stable w0.heap.size I) (hIx : ∀ c, Stable w0.heap.size (Ix c)) (C0 : Nat → Prop) (hC0 : ∀ k, C0 k → w0.heap.size ≤ k ∧ k < w.heap.size ∧ ¬ R k) (h0 : I [] C0 w)
    (hround : ∀ (l : Nat) (pre : List α) (x : α) (C : Nat → Prop) (W : World), w.heap.size ≤ l → l < W.heap.size → I pre C W → (∀ k, C k → w0.heap.size ≤ k ∧ k < W.heap.size) → pre.length < N →
      assign.wpIn (F.inRound l) (n - 1 - 1) P (Exit.then (fun a' W1 => Kept C W W1 ∧ I pre C W1 ∧ ∀ W2, Kept (fun k => k = l) W1 W2 → I pre C W2 → (∀ k, C k → w0.heap.size ≤ k ∧ k < W2.heap.size) → W2.heap.size = W1.heap.size → body.wpIn (F.inRound l) (n - 1 - 1) P (sepPost I Ix C (pre ++ [x]) W2) a' W2) (fun _ _ _ => False))
        { tmps := (ps.zip (encs x)).foldl (fun t (p, v) => t.setIfInBounds p v) a.tmps, defers := [] } W)
    (hdone : ∀ (D : Nat) (xs : List α) (C : Nat → Prop) (W : World), w.heap.size ≤ D → ¬ C D → Fin xs → I xs C W → W.heap[D]? = some (.deferred (some [])) → Q .normal { a with defers := { target := .collected D, args := #[] } :: a.defers } W)
    (hstop : ∀ (D : Nat) (c : Code) (pre : List α) (C : Nat → Prop) (W : World), w.heap.size ≤ D → ¬ C D → Sp pre → Ix c pre C W → W.heap[D]? = some (.deferred (some [])) → c.wpIn F n P Q { a with defers := { target := .collected D, args := #[] } :: a.defers } W) :
    (Code.rangeFunc g ps assign body).wpIn F n P Q a w := by
  refine wpIn_rangeFunc ?_
  intro fn hfn
  rw [hro]
  obtain ⟨rec, hrec⟩ : ∃ rec : LoopState → Option Code → Loop, rec = fun st pe => { state := st, pending := pe, fn, tmps := a.tmps, params := ps, assign, body, defers := w.heap.size } := ⟨_, rfl⟩
  obtain ⟨W1, hW1⟩ : ∃ W1, (w.alloc (.deferred (some []))).alloc (.loop (rec .ready none)) = W1 := ⟨_, rfl⟩
  have hL1 : W1.heap[w.heap.size + 1]? = some (.loop (rec .ready none)) := by
    rw [← hW1]; have := World.alloc_heap_new (w.alloc (.deferred (some []))) (.loop (rec .ready none)); rwa [World.size_alloc] at this
  have hK1 : W1.heap[w.heap.size]? = some (.deferred (some [])) := by
    rw [← hW1]; exact (Below.heap_alloc _ _ _ (by simp)).trans (World.alloc_heap_new w _)
  have hz1 : W1.heap.size = w.heap.size + 2 := by rw [← hW1]; simp
  have hbw : Below w.heap.size w W1 := by rw [← hW1]; exact ((Below.refl _ w).alloc (Nat.le_refl _) _).alloc (by simp) _
  have hz0 := hb0.size
  have hI1 : I [] C0 W1 := hI _ _ _ _ h0 (hbw.mono hz0) (fun k hk => hbw.block k (hC0 k hk).2.1)
  have hb1 : Below w0.heap.size w0 W1 := hb0.trans (hbw.mono hz0)
  -- the law's own set
  let J : (List α → (Nat → Prop) → World → Prop) → (World → Prop) → List α → (Nat → Prop) → World → Prop := fun I R pre C W => ∃ Cu, (∀ k, C k ↔ Cu k ∨ k = w.heap.size ∨ k = w.heap.size + 1) ∧ I pre Cu W ∧ (∀ k, Cu k → w0.heap.size ≤ k ∧ k < W.heap.size ∧ k ≠ w.heap.size ∧ k ≠ w.heap.size + 1) ∧ R W ∧ W.heap[w.heap.size]? = some (.deferred (some []))
  have hJ : ∀ (I : List α → (Nat → Prop) → World → Prop) (R : World → Prop), Stable w0.heap.size I → (∀ A B : World, R A → B.heap[w.heap.size + 1]? = A.heap[w.heap.size + 1]? → R B) → Stable w0.heap.size (J I R) := by
    rintro I R hI hR xs C A B ⟨Cu, hC, hi, hbd, hl, hd⟩ hbel hsame
    exact ⟨Cu, hC, hI _ _ _ _ hi hbel (fun k hk => hsame k ((hC k).2 (.inl hk))), fun k hk => by have := hbd k hk; have := hbel.size; omega, hR _ _ hl (hsame _ ((hC _).2 (.inr (.inr rfl)))), (hsame _ ((hC _).2 (.inr (.inl rfl)))).trans hd⟩
  refine ⟨w.heap.size + 1, [{ target := .collected w.heap.size, args := #[] }], W1, { target := .fn (.func gf) lb, args := #[.func (.yield (w.heap.size + 1)) #[] #[]] }, W1, gf,
    #[.func (.yield (w.heap.size + 1)) #[] #[]] ++ lb, W1, ?_, ?_, ?_, ?_, fun _ => h1, ?_⟩
  · rw [← hW1, hrec]; exact run_enterLoop_outer _ _ _ _ _
  · simp only [resolve, hg]
    simp [go_sem]
  · intro f' hf'; simp [Target.leads] at hf'; subst hf'; exact hFg
  · simp [invoke, go_sem, eg]
  · refine (hseq (w.heap.size + 1) (J I (fun W => W.heap[w.heap.size + 1]? = some (.loop (rec .ready none)))) (J (fun xs C W => ∃ c, Ix c xs C W ∧ W.heap[w.heap.size + 1]? = some (.loop (rec .done (some c)))) (fun _ => True)) W1
      (fun k => C0 k ∨ k = w.heap.size ∨ k = w.heap.size + 1) hb1 (hpre W1 hbw) (fun k hk => by have := hR k hk; omega) (hJ _ _ hI (fun A B h e => e.trans h)) ?_ ?_ ⟨C0, fun k => Iff.rfl, hI1, fun k hk => by have := hC0 k hk; omega, hL1, hK1⟩ (fun k hk => by
        have hR' := hR k
        rcases hk with hk | hk | hk
        · have := hC0 k hk; exact ⟨this.1, by omega, this.2.2⟩
        · exact ⟨by omega, by omega, fun h => by have := hR' h; omega⟩
        · exact ⟨by omega, by omega, fun h => by have := hR' h; omega⟩)).mono ?_
    · rintro xs C A B ⟨Cu, hC, ⟨c, hc, hl⟩, hbd, -, hd⟩ hbel hsame
      exact ⟨Cu, hC, ⟨c, hIx c _ _ _ _ hc hbel (fun k hk => hsame k ((hC k).2 (.inl hk))), (hsame _ ((hC _).2 (.inr (.inr rfl)))).trans hl⟩, fun k hk => by have := hbd k hk; have := hbel.size; omega, trivial, (hsame _ ((hC _).2 (.inr (.inl rfl)))).trans hd⟩
    · -- one round
      rintro pre x C W ⟨Cu, hC, hi, hbd, hl, hk⟩ hlen
      have hlt : w.heap.size + 1 < W.heap.size := (Array.getElem?_eq_some_iff.1 hl).1
      have hy := run_yield (P := P) (args := encs x) hl (by rw [hrec]; exact hps x)
      rw [hrec] at hy
      refine ⟨fn, _, assign, body, hy, roundIn_of_wpIn hfn (wpIn_mono (hround (w.heap.size + 1) pre x Cu W (by omega) hlt hi (fun k hk => ⟨(hbd k hk).1, (hbd k hk).2.1⟩) hlen) ?_)⟩
      clear hy
      intro e a' Wa hp
      cases e with
      | normal =>
        obtain ⟨hka, hia, hb⟩ := hp
        have hla := (hka.block _ hlt (fun h => (hbd _ h).2.2.2 rfl)).trans hl
        have hda := (hka.block _ (by omega) (fun h => (hbd _ h).2.2.1 rfl)).trans hk
        have hza := hka.size
        refine ⟨_, run_beginRound hla (by rw [hrec]), ?_⟩
        obtain ⟨W2, hW2⟩ : ∃ W2, Wa.putObj (w.heap.size + 1) (.loop { rec .ready none with state := .busy }) = W2 := ⟨_, rfl⟩
        have hl2 : W2.heap[w.heap.size + 1]? = some (.loop { rec .ready none with state := .busy }) := by rw [← hW2]; exact World.putObj_heap_same (by omega)
        have hd2 : W2.heap[w.heap.size]? = some (.deferred (some [])) := by rw [← hW2]; exact (World.putObj_heap_other (by omega)).trans hda
        have hz2 : W2.heap.size = Wa.heap.size := by rw [← hW2]; simp
        have hk2 : Kept (fun k => k = w.heap.size + 1) Wa W2 := by rw [← hW2]; exact putObj_kept rfl
        have hi2 : I pre Cu W2 := by
          refine hI _ _ _ _ hia ?_ (fun k hk => ?_)
          · rw [← hW2]; exact putObj_below (by omega)
          · rw [← hW2]; exact World.putObj_heap_other (hbd k hk).2.2.2
        rw [hW2]
        refine wpIn_mono (hb W2 hk2 hi2 (fun k hk => by have := hbd k hk; omega) hz2) ?_
        have fin : ∀ (jump : Option Code) (W3 : World) (C' : Nat → Prop), Kept Cu W2 W3 → Anew Cu C' W2 W3 →
            (Instr.endRound (w.heap.size + 1) jump).run P W3 = .ok (.bool jump.isNone) (W3.putObj (w.heap.size + 1) (.loop (rec (if jump.isNone then .ready else .done) jump))) ∧
            (W3.putObj (w.heap.size + 1) (.loop (rec (if jump.isNone then .ready else .done) jump))).heap[w.heap.size + 1]? = some (.loop (rec (if jump.isNone then .ready else .done) jump)) ∧
            (W3.putObj (w.heap.size + 1) (.loop (rec (if jump.isNone then .ready else .done) jump))).heap[w.heap.size]? = some (.deferred (some [])) ∧
            Kept C W (W3.putObj (w.heap.size + 1) (.loop (rec (if jump.isNone then .ready else .done) jump))) ∧
            Anew C (fun k => C' k ∨ k = w.heap.size ∨ k = w.heap.size + 1) W (W3.putObj (w.heap.size + 1) (.loop (rec (if jump.isNone then .ready else .done) jump))) ∧
            (∀ k, C' k → w0.heap.size ≤ k ∧ k < (W3.putObj (w.heap.size + 1) (.loop (rec (if jump.isNone then .ready else .done) jump))).heap.size ∧ k ≠ w.heap.size ∧ k ≠ w.heap.size + 1) := fun jump W3 C' hk3 hn3 => by
          have hl3 := (hk3.block _ (by omega) (fun h => (hbd _ h).2.2.2 rfl)).trans hl2
          have hd3 := (hk3.block _ (by omega) (fun h => (hbd _ h).2.2.1 rfl)).trans hd2
          have hz3 := hk3.size
          have := run_endRound (P := P) jump hl3
          rw [hrec] at this ⊢
          refine ⟨this, World.putObj_heap_same (by omega), (World.putObj_heap_other (by omega)).trans hd3, ?_, ?_, ?_⟩
          · have c1 : Kept C W Wa := hka.mono (fun k hk => (hC k).2 (.inl hk))
            have c2 : Kept C Wa W2 := hk2.mono (fun k hk => (hC k).2 (.inr (.inr hk)))
            have c3 : Kept C W2 W3 := hk3.mono (fun k hk => (hC k).2 (.inl hk))
            exact ((c1.trans c2).trans c3).trans (putObj_kept ((hC _).2 (.inr (.inr rfl))))
          · intro k hk
            rw [World.putObj_size]
            rcases hk with hk | hk | hk
            · rcases hn3 k hk with h | h
              · exact .inl ((hC k).2 (.inl h))
              · exact .inr (by omega)
            · exact .inl ((hC k).2 (.inr (.inl hk)))
            · exact .inl ((hC k).2 (.inr (.inr hk)))
          · intro k hk
            rw [World.putObj_size]
            rcases hn3 k hk with h | h
            · have := hbd k h
              omega
            · omega
        have put : ∀ {J : List α → (Nat → Prop) → World → Prop} (xs : List α) (C' : Nat → Prop) (W3 : World) (o : Obj), Stable w0.heap.size J → J xs C' W3 → (∀ k, C' k → k ≠ w.heap.size + 1) → J xs C' (W3.putObj (w.heap.size + 1) o) := fun xs C' W3 o hJ h hk => hJ _ _ _ _ h (putObj_below (by omega)) (fun k h' => World.putObj_heap_other (hk k h'))
        rintro e a3 W3 hp
        cases e with
        | normal =>
          obtain ⟨hk3, C', hn3, hi3⟩ := hp
          obtain ⟨hr, hl4, hd4, c4, n4, b4⟩ := fin none W3 C' hk3 hn3
          exact ⟨_, _, hr, c4, _, n4, .inl ⟨rfl, C', fun k => Iff.rfl, put _ _ _ _ hI hi3 (fun k h => (b4 k h).2.2.2), b4, hl4, hd4⟩⟩
        | ret =>
          obtain ⟨hk3, C', hn3, hi3⟩ := hp
          obtain ⟨hr, hl4, hd4, c4, n4, b4⟩ := fin (some .ret) W3 C' hk3 hn3
          exact ⟨_, _, hr, c4, _, n4, .inr ⟨rfl, C', fun k => Iff.rfl, ⟨.ret, put _ _ _ _ (hIx _) hi3 (fun k h => (b4 k h).2.2.2), hl4⟩, b4, trivial, hd4⟩⟩
        | exit id =>
          obtain ⟨hk3, C', hn3, hi3⟩ := hp
          obtain ⟨hr, hl4, hd4, c4, n4, b4⟩ := fin (some (.exit id)) W3 C' hk3 hn3
          exact ⟨_, _, hr, c4, _, n4, .inr ⟨rfl, C', fun k => Iff.rfl, ⟨.exit id, put _ _ _ _ (hIx _) hi3 (fun k h => (b4 k h).2.2.2), hl4⟩, b4, trivial, hd4⟩⟩
        | goto t =>
          obtain ⟨hk3, C', hn3, hi3⟩ := hp
          obtain ⟨hr, hl4, hd4, c4, n4, b4⟩ := fin (some (.goto t)) W3 C' hk3 hn3
          exact ⟨_, _, hr, c4, _, n4, .inr ⟨rfl, C', fun k => Iff.rfl, ⟨.goto t, put _ _ _ _ (hIx _) hi3 (fun k h => (b4 k h).2.2.2), hl4⟩, b4, trivial, hd4⟩⟩
        | panic ch => exact hp.elim
        | outgrown => exact hp.elim
      | ret => exact hp.elim
      | exit id => exact hp.elim
      | goto t => exact hp.elim
      | panic ch => exact hp.elim
      | outgrown => exact hp.elim
    · -- behind the iterator
      rintro e W2 ⟨⟨v, rfl⟩, (⟨xs, C', hS, Cu, hC, hi, hbd, hl, hd⟩ | ⟨pre, C', hSp, Cu, hC, ⟨c, hi, hl⟩, hbd, -, hd⟩)⟩
      · exact ⟨none, _, by have := run_endLoop (P := P) hl (by rw [hrec]; simp); rw [hrec] at this; exact this, hdone _ xs Cu _ (Nat.le_refl _) (fun h => (hbd _ h).2.2.1 rfl) hS (hI _ _ _ _ hi (putObj_below (by omega)) (fun k hk => World.putObj_heap_other (hbd k hk).2.2.2)) ((World.putObj_heap_other (by omega)).trans hd)⟩
      · exact ⟨some c, _, by have := run_endLoop (P := P) hl (by rw [hrec]; simp); rw [hrec] at this; exact this, hstop _ c pre Cu _ (Nat.le_refl _) (fun h => (hbd _ h).2.2.1 rfl) hSp (hIx c _ _ _ _ hi (putObj_below (by omega)) (fun k hk => World.putObj_heap_other (hbd k hk).2.2.2)) ((World.putObj_heap_other (by omega)).trans hd)⟩
end Go.Proofs.YtghlnknncahkgaaGreat
