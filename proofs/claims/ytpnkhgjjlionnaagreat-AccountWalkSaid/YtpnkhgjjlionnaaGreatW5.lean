/-
  Texts joined by program, what the law uses alone: EulB WkT BrdM WkM Ran Insert Kept Way StpC WayS StpL StpR.
-/
import Derived.Lib.Slices
import Derived.Lib.Hide
import Derived.Shelf.Spec.SlicesInsert
import Derived.Shelf.Spec.SlicesInsertGrow
import Derived.Lib.QuietBelow
import Derived.BigQuiet
import Derived.Deep.RegionHeld3
import Derived.Deep.AppendLies
import Derived.Deep.RegionLaw
import Derived.Test.YtpnkhgjjlionnaaGreatW4
import Derived.Test.YtpnkhgjjlionnaaGreatW1
import Derived.Test.YtpnkhgjjlionnaaGreatW2
import Derived.Test.YtpnkhgjjlionnaaGreatShelf
namespace Go.Proofs.YtpnkhgjjlionnaaGreat
namespace Jor
section
variable {F N : Nat} {opp vert : Nat → Nat}

theorem faces_rounds : ∀ F, Rounds pv (3 * F) ((List.range F).map fun i => [3 * i, 3 * i + 2, 3 * i + 1]) := by
  intro F
  have all : ∀ F x, x ∈ ((List.range F).map fun i => [3 * i, 3 * i + 2, 3 * i + 1]).flatten ↔ x < 3 * F := by
    intro F x
    simp only [List.mem_flatten, List.mem_map, List.mem_range]
    constructor
    · rintro ⟨_, ⟨i, hi, rfl⟩, hx⟩
      simp only [List.mem_cons, List.not_mem_nil, or_false] at hx
      omega
    · intro h
      refine ⟨_, ⟨x / 3, by omega, rfl⟩, ?_⟩
      simp only [List.mem_cons, List.not_mem_nil, or_false]
      omega
  refine ⟨?_, ?_, all F⟩
  · intro C hC
    obtain ⟨i, hi, rfl⟩ := List.mem_map.1 hC
    refine ⟨_, _, rfl, ?_⟩
    simp only [List.map_cons, List.map_nil, List.cons_append, List.nil_append, List.cons.injEq, and_true]
    unfold pv
    omega
  · induction F with
    | zero => simp
    | succ F ih =>
      rw [List.range_succ, List.map_append, List.flatten_append, List.nodup_append]
      refine ⟨ih, by simp, ?_⟩
      intro a ha b hb
      have := (all F a).1 ha
      simp only [List.map_cons, List.map_nil, List.flatten_cons, List.flatten_nil, List.append_nil, List.mem_cons, List.not_mem_nil, or_false] at hb
      omega
/-- Over some edges one goes on across, over the others one turns back in the triangle. -/
noncomputable def halfway (opp : Nat → Nat) (L : List Nat) : Nat → Nat := fun x => if x ∈ both opp L then pv (opp x) else pv x
theorem halfway_rounds (K : Closed F N opp vert) : ∀ L : List Nat, (∀ c ∈ L, c < 3 * F) → (both opp L).Nodup → ∃ Cs, Rounds (halfway opp L) (3 * F) Cs ∧ (Cs.length + F + L.length) % 2 = 0
  | [], _, _ => ⟨_, (faces_rounds F).congr (fun x _ => by simp [halfway, both]), by simp; omega⟩
  | a :: L, hl, hn => by
    have ha := hl a (List.mem_cons_self ..)
    have hb := K.lt a ha
    have e : both opp (a :: L) = a :: (L ++ opp a :: L.map opp) := by simp [both]
    have hp : (a :: (L ++ opp a :: L.map opp)).Perm (a :: opp a :: both opp L) := List.Perm.cons _ List.perm_middle
    rw [e] at hn
    have hn2 := hp.nodup_iff.1 hn
    simp only [List.nodup_cons, List.mem_cons, not_or] at hn2
    obtain ⟨Cs, h1, h2⟩ := halfway_rounds K L (fun c hc => hl c (List.mem_cons_of_mem _ hc)) hn2.2.2
    obtain ⟨Ds, h3, h4⟩ := h1.swap ha hb hn2.1.1
    refine ⟨Ds, h3.congr ?_, by simp only [List.length_cons]; omega⟩
    intro x _
    unfold halfway swp2
    simp only []
    have hm : x ∈ both opp (a :: L) ↔ x = a ∨ x = opp a ∨ x ∈ both opp L := by
      rw [e, hp.mem_iff]
      simp
    by_cases h5 : x = a
    · subst h5
      rw [if_pos (hm.2 (.inl rfl)), if_pos rfl, if_neg hn2.2.1]
    · by_cases h6 : x = opp a
      · subst h6
        rw [if_pos (hm.2 (.inr (.inl rfl))), if_neg h5, if_pos rfl, if_neg hn2.1.2, K.inv a ha]
      · rw [if_neg h5, if_neg h6]
        by_cases h7 : x ∈ both opp L
        · rw [if_pos (hm.2 (.inr (.inr h7))), if_pos h7]
        · rw [if_neg (fun h => by rcases hm.1 h with h | h | h; exact h5 h; exact h6 h; exact h7 h), if_neg h7]
/-- One corner of each edge. -/
def reps (F : Nat) (opp : Nat → Nat) : List Nat := (List.range (3 * F)).filter fun c => decide (c < opp c)
theorem reps_ok (K : Closed F N opp vert) : (∀ c ∈ reps F opp, c < 3 * F) ∧ (both opp (reps F opp)).Nodup ∧ ∀ x, x < 3 * F → x ∈ both opp (reps F opp) := by
  have h1 : ∀ c, c ∈ reps F opp ↔ c < 3 * F ∧ c < opp c := by simp [reps]
  refine ⟨fun c hc => ((h1 c).1 hc).1, ?_, ?_⟩
  · unfold both
    rw [List.nodup_append]
    refine ⟨List.nodup_range.filter _, ?_, ?_⟩
    · refine List.pairwise_map.2 ?_
      refine List.Pairwise.imp_of_mem ?_ (List.nodup_range.filter _ : (reps F opp).Nodup)
      intro a b ha hb hab e
      exact hab (by rw [← K.inv a ((h1 a).1 ha).1, e, K.inv b ((h1 b).1 hb).1])
    · rintro a ha b hb rfl
      obtain ⟨c, hc, rfl⟩ := List.mem_map.1 hb
      have h2 := (h1 _).1 ha
      have h3 := (h1 _).1 hc
      rw [K.inv c h3.1] at h2
      omega
  · intro x hx
    rw [both_mem]
    rcases Nat.lt_trichotomy x (opp x) with h | h | h
    · exact .inl ((h1 x).2 ⟨hx, h⟩)
    · exact absurd (by rw [← h]) (K.apart x hx)
    · exact .inr ⟨opp x, (h1 _).2 ⟨K.lt x hx, by rw [K.inv x hx]; exact h⟩, K.inv x hx⟩
theorem reps_len (K : Closed F N opp vert) : 2 * (reps F opp).length = 3 * F := by
  obtain ⟨h1, h2, h3⟩ := reps_ok K
  have a := nodup_le (m := List.range (3 * F)) h2 (fun x hx => by
    rw [List.mem_range]
    rcases both_mem.1 hx with h | ⟨b, hb, rfl⟩
    · exact h1 x h
    · exact K.lt b (h1 b hb))
  have b := nodup_le (l := List.range (3 * F)) (m := both opp (reps F opp)) List.nodup_range (fun x hx => h3 x (List.mem_range.1 hx))
  rw [both_length] at a b
  simp only [List.length_range] at a b
  omega
theorem one_corner (K : Closed F N opp vert) {c d : Nat} (hc : c < 3 * F) (e : c / 3 = d / 3) (hv : vert c = vert d) : c = d := by
  have h0 := K.simple c hc
  have h1 := K.simple (pv c) (pv_lt hc)
  rw [nx_pv] at h1
  have : d = c ∨ d = nx c ∨ d = pv c := by unfold nx pv; omega
  rcases this with rfl | rfl | rfl
  · rfl
  · exact absurd hv.symm h0
  · exact absurd hv h1
/-- Rounds at vertices are as many as vertices. -/
theorem rounds_verts (K : Closed F N opp vert)
    (ar : ∀ (v : Nat) (S : Nat → Prop), (∃ c, c < 3 * F ∧ vert c = v ∧ S (c / 3)) → (∀ c, c < 3 * F → vert c = v → S (c / 3) → S (opp (nx c) / 3) ∧ S (opp (pv c) / 3)) → ∀ c, c < 3 * F → vert c = v → S (c / 3))
    {Cs : List (List Nat)} (h : Rounds (fun x => pv (opp x)) (3 * F) Cs) : Cs.length = N := by
  have hlt : ∀ C ∈ Cs, ∀ x ∈ C, x < 3 * F := fun C hC x hx => (h.all x).1 (List.mem_flatten.2 ⟨C, hC, hx⟩)
  -- closed under the step, forward and backward
  have fwd : ∀ C ∈ Cs, ∀ x ∈ C, pv (opp x) ∈ C := by
    intro C hC x hx
    obtain ⟨c, r, rfl, hm⟩ := h.rot C hC
    have : pv (opp x) ∈ (c :: r).map (fun x => pv (opp x)) := List.mem_map_of_mem hx
    rw [hm] at this
    simpa [or_comm] using this
  have bwd : ∀ C ∈ Cs, ∀ x, x < 3 * F → pv (opp x) ∈ C → x ∈ C := by
    intro C hC x hx hp
    obtain ⟨c, r, rfl, hm⟩ := h.rot C hC
    have : pv (opp x) ∈ (c :: r).map (fun x => pv (opp x)) := by
      rw [hm]
      simpa [or_comm] using hp
    obtain ⟨y, hy, e⟩ := List.mem_map.1 this
    have hyl := hlt _ hC y hy
    have e2 : opp y = opp x := by rw [← nx_pv (opp y), e, nx_pv]
    rw [← K.inv x hx, ← e2, K.inv y hyl]
    exact hy
  have key : ∀ C ∈ Cs, ∀ x ∈ C, ∀ y, y < 3 * F → vert (pv y) = vert (pv x) → y ∈ C := by
    intro C hC x hx y hy e
    have hS := ar (vert (pv x)) (fun t => ∃ c, c < 3 * F ∧ c / 3 = t ∧ vert c = vert (pv x) ∧ nx c ∈ C)
      ⟨pv x, pv_lt (hlt C hC x hx), rfl, pv x, pv_lt (hlt C hC x hx), rfl, rfl, by rw [nx_pv]; exact hx⟩
      (fun c hc hv hS => by
        obtain ⟨c2, h1, h2, h3, h4⟩ := hS
        have e0 : c2 = c := one_corner K h1 h2 (h3.trans hv.symm)
        subst e0
        have hn := nx_lt hc
        have hp := pv_lt hc
        refine ⟨⟨nx (opp (nx c2)), nx_lt (K.lt _ hn), nx_div _, ?_, ?_⟩, ⟨pv (opp (pv c2)), pv_lt (K.lt _ hp), pv_div _, ?_, ?_⟩⟩
        · rw [K.vn _ hn, pv_nx]
          exact hv
        · rw [nx_nx]
          exact fwd C hC _ h4
        · rw [K.vp _ hp, nx_pv]
          exact hv
        · rw [nx_pv]
          refine bwd C hC _ (K.lt _ hp) ?_
          rw [K.inv _ hp, pv_pv]
          exact h4) (pv y) (pv_lt hy) e
    obtain ⟨c2, h1, h2, h3, h4⟩ := hS
    have e0 : c2 = pv y := one_corner K h1 h2 (h3.trans e.symm)
    subst e0
    rwa [nx_pv] at h4
  -- the vertex of each round
  have hne : ∀ C ∈ Cs, ∃ x, C.head? = some x ∧ x ∈ C := fun C hC => by
    obtain ⟨c, r, rfl, _⟩ := h.rot C hC
    exact ⟨c, rfl, List.mem_cons_self ..⟩
  have vnd : (Cs.map fun C => vert (pv (C.head?.getD 0))).Nodup := by
    have gen : ∀ Ds : List (List Nat), (∀ D ∈ Ds, D ∈ Cs) → Ds.flatten.Nodup → (Ds.map fun C => vert (pv (C.head?.getD 0))).Nodup := by
      intro Ds
      induction Ds with
      | nil => intros; simp
      | cons D r ih =>
        intro hs hn
        rw [List.flatten_cons, List.nodup_append] at hn
        rw [List.map_cons, List.nodup_cons]
        refine ⟨fun hm => ?_, ih (fun D hD => hs D (List.mem_cons_of_mem _ hD)) hn.2.1⟩
        obtain ⟨C, hC, e⟩ := List.mem_map.1 hm
        obtain ⟨x, hx, hxm⟩ := hne C (hs C (List.mem_cons_of_mem _ hC))
        obtain ⟨y, hy, hym⟩ := hne D (hs D (List.mem_cons_self ..))
        rw [hx, hy] at e
        simp only [Option.getD_some] at e
        have hxD := key D (hs D (List.mem_cons_self ..)) y hym x (hlt C (hs C (List.mem_cons_of_mem _ hC)) x hxm) e
        exact hn.2.2 x hxD x (List.mem_flatten.2 ⟨C, hC, hxm⟩) rfl
    exact gen Cs (fun D hD => hD) h.nd
  have a := nodup_le (m := List.range N) vnd (fun v hv => by
    obtain ⟨C, hC, rfl⟩ := List.mem_map.1 hv
    obtain ⟨x, hx, hxm⟩ := hne C hC
    rw [hx, List.mem_range]
    exact K.vlt _ (pv_lt (hlt C hC x hxm)))
  have b := nodup_le (l := List.range N) (m := Cs.map fun C => vert (pv (C.head?.getD 0))) List.nodup_range (fun v hv => by
    obtain ⟨c, hc, hv⟩ := K.all v (List.mem_range.1 hv)
    obtain ⟨C, hC, hm⟩ := List.mem_flatten.1 ((h.all (nx c)).2 (nx_lt hc))
    obtain ⟨x, hx, hxm⟩ := hne C hC
    refine List.mem_map.2 ⟨C, hC, ?_⟩
    rw [hx]
    -- the head has the vertex of all
    have const : ∀ l : List Nat, (∀ y ∈ l, y < 3 * F) → ∀ c0 r, l = c0 :: r → l.map (fun x => pv (opp x)) = r ++ [c0] → ∀ y ∈ l, vert (pv y) = vert (pv c0) := by
      intro l hl c0 r e hm y hy
      have step : ∀ y ∈ l, vert (pv (pv (opp y))) = vert (pv y) := fun y hy => by
        rw [pv_pv]
        exact K.vn y (hl y hy)
      subst e
      have all : ∀ (r : List Nat) (c1 : Nat) (z : List Nat), (c1 :: r).map (fun x => pv (opp x)) = r ++ z → (∀ y ∈ c1 :: r, vert (pv (pv (opp y))) = vert (pv y)) → ∀ y ∈ c1 :: r, vert (pv y) = vert (pv c1) := by
        intro r
        induction r with
        | nil =>
          intro c1 z _ _ y hy
          rw [List.mem_singleton.1 hy]
        | cons d r ih =>
          intro c1 z hm hst y hy
          simp only [List.map_cons, List.cons_append, List.cons.injEq] at hm
          have hd : vert (pv d) = vert (pv c1) := by
            rw [← hm.1]
            exact hst c1 (List.mem_cons_self ..)
          rcases List.mem_cons.1 hy with rfl | hy
          · rfl
          · rw [← hd]
            exact ih d z (by simpa using hm.2) (fun y hy => hst y (List.mem_cons_of_mem _ hy)) y hy
      exact all r c0 [c0] hm step y hy
    obtain ⟨c0, r, rfl, hm2⟩ := h.rot C hC
    simp only [List.head?_cons, Option.some.injEq] at hx
    subst hx
    have := const _ (hlt _ hC) c0 r rfl hm2 (nx c) hm
    rw [pv_nx, hv] at this
    exact this.symm)
  simp only [List.length_map, List.length_range] at a b
  omega
theorem euler_even (K : Closed F N opp vert)
    (ar : ∀ (v : Nat) (S : Nat → Prop), (∃ c, c < 3 * F ∧ vert c = v ∧ S (c / 3)) → (∀ c, c < 3 * F → vert c = v → S (c / 3) → S (opp (nx c) / 3) ∧ S (opp (pv c) / 3)) → ∀ c, c < 3 * F → vert c = v → S (c / 3)) :
    ∃ m, F = 2 * m ∧ (N + m) % 2 = 0 := by
  obtain ⟨h1, h2, h3⟩ := reps_ok K
  have hl := reps_len K
  obtain ⟨Cs, hc, he⟩ := halfway_rounds K _ h1 h2
  have hv := rounds_verts K ar (hc.congr (ρ := fun x => pv (opp x)) (fun x hx => by unfold halfway; rw [if_pos (h3 x hx)]))
  exact ⟨F / 2, by omega, by omega⟩
end
end Jor
end Go.Proofs.YtpnkhgjjlionnaaGreat
namespace Go.Proofs.YtpnkhgjjlionnaaGreat
open Go.RowKit

def oppN (T : List Tr) (c : Nat) : Nat := (oppI T (c : Int)).toNat
def verN (T : List Tr) (c : Nat) : Nat := (vertN T c).toNat
/-- No edge of the border. -/
def ClosedT (T : List Tr) : Prop := ∀ c : Nat, c < 3 * T.length → 0 ≤ oppI T (c : Int)
theorem ClosedT.opp {T : List Tr} (h : ClosedT T) {c : Nat} (hc : c < 3 * T.length) : oppI T (c : Int) = (oppN T c : Int) := by
  have := h c hc
  unfold oppN
  omega
theorem triAt_get {T : List Tr} {c : Nat} (hc : c < 3 * T.length) : ∃ t, T[c / 3]? = some t ∧ triAt T c = t ∧ t ∈ T := by
  have hk : c / 3 < T.length := by omega
  exact ⟨T[c / 3], List.getElem?_eq_getElem hk, by simp [triAt, List.getElem?_eq_getElem hk], List.getElem_mem _⟩
theorem triAt_nx (T : List Tr) (c : Nat) : triAt T (Jor.nx c) = triAt T c := by unfold triAt; rw [Jor.nx_div]
theorem triAt_pv (T : List Tr) (c : Nat) : triAt T (Jor.pv c) = triAt T c := by unfold triAt; rw [Jor.pv_div]
/-- A triangle's three corners, from any of them on. -/
theorem vert_turn (T : List Tr) (c : Nat) : (vertN T c, vertN T (Jor.nx c), vertN T (Jor.pv c)) = ((triAt T c).1, (triAt T c).2.1, (triAt T c).2.2) ∨ (vertN T c, vertN T (Jor.nx c), vertN T (Jor.pv c)) = ((triAt T c).2.1, (triAt T c).2.2, (triAt T c).1) ∨ (vertN T c, vertN T (Jor.nx c), vertN T (Jor.pv c)) = ((triAt T c).2.2, (triAt T c).1, (triAt T c).2.1) := by
  unfold vertN
  rw [triAt_nx, triAt_pv]
  have m1 : Jor.nx c % 3 = (c + 1) % 3 := by unfold Jor.nx; omega
  have m2 : Jor.pv c % 3 = (c + 2) % 3 := by unfold Jor.pv; omega
  have : c % 3 = 0 ∨ c % 3 = 1 ∨ c % 3 = 2 := by omega
  rcases this with e | e | e
  · exact .inl (by simp [e, m1, m2, show (c + 1) % 3 = 1 from by omega, show (c + 2) % 3 = 2 from by omega])
  · exact .inr (.inl (by simp [e, m1, m2, show (c + 1) % 3 = 2 from by omega, show (c + 2) % 3 = 0 from by omega]))
  · exact .inr (.inr (by simp [e, m1, m2, show (c + 1) % 3 = 0 from by omega, show (c + 2) % 3 = 1 from by omega]))
theorem vert_ne {T : List Tr} (hs : ∀ t ∈ T, simple3 t) {c : Nat} (hc : c < 3 * T.length) : vertN T (Jor.nx c) ≠ vertN T c ∧ vertN T (Jor.pv c) ≠ vertN T c ∧ vertN T (Jor.nx c) ≠ vertN T (Jor.pv c) := by
  obtain ⟨t, _, ht, hm⟩ := triAt_get hc
  obtain ⟨s1, s2, s3⟩ := hs t hm
  have := vert_turn T c
  rw [ht] at this
  simp only [Prod.mk.injEq] at this
  rcases this with ⟨a, b, d⟩ | ⟨a, b, d⟩ | ⟨a, b, d⟩ <;> rw [a, b, d]
  · exact ⟨s1.symm, s3, s2⟩
  · exact ⟨s2.symm, s1, s3⟩
  · exact ⟨s3.symm, s2, s1⟩
theorem vert_has {T : List Tr} {i : Nat} {t : Tr} (ht : T[i]? = some t) {x : Int} : hasV t x ↔ ∃ c, c < 3 * T.length ∧ c / 3 = i ∧ vertN T c = x := by
  have hi := (List.getElem?_eq_some_iff.1 ht).1
  have e0 : triAt T (3 * i) = t := by unfold triAt; rw [show 3 * i / 3 = i from by omega, ht]; rfl
  have e1 : triAt T (3 * i + 1) = t := by unfold triAt; rw [show (3 * i + 1) / 3 = i from by omega, ht]; rfl
  have e2 : triAt T (3 * i + 2) = t := by unfold triAt; rw [show (3 * i + 2) / 3 = i from by omega, ht]; rfl
  have v0 : vertN T (3 * i) = t.1 := by unfold vertN; rw [if_pos (by omega), e0]
  have v1 : vertN T (3 * i + 1) = t.2.1 := by unfold vertN; rw [if_neg (by omega), if_pos (by omega), e1]
  have v2 : vertN T (3 * i + 2) = t.2.2 := by unfold vertN; rw [if_neg (by omega), if_neg (by omega), e2]
  constructor
  · rintro (h | h | h)
    · exact ⟨3 * i, by omega, by omega, by rw [v0, h]⟩
    · exact ⟨3 * i + 1, by omega, by omega, by rw [v1, h]⟩
    · exact ⟨3 * i + 2, by omega, by omega, by rw [v2, h]⟩
  · rintro ⟨c, hc, h3, rfl⟩
    have : c = 3 * i ∨ c = 3 * i + 1 ∨ c = 3 * i + 2 := by omega
    rcases this with rfl | rfl | rfl
    · exact .inl v0
    · exact .inr (.inl v1)
    · exact .inr (.inr v2)
theorem atV_corner {T : List Tr} {v : Int} {i : Nat} : i ∈ atV T v ↔ ∃ c, c < 3 * T.length ∧ c / 3 = i ∧ vertN T c = v := by
  unfold atV
  rw [sieve_mem]
  unfold preT
  rw [List.mem_flatMap]
  constructor
  · rintro ⟨k, hk, hm⟩
    rw [List.mem_range] at hk
    have ht : T[k]? = some T[k] := List.getElem?_eq_getElem hk
    rw [ht] at hm
    simp only [three, Option.getD_some, List.mem_cons, Prod.mk.injEq, List.not_mem_nil, or_false] at hm
    have hik : i = k := by rcases hm with h | h | h <;> exact h.2
    subst hik
    exact (vert_has ht).1 (by rcases hm with h | h | h; exact .inl h.1; exact .inr (.inl h.1); exact .inr (.inr h.1))
  · rintro ⟨c, hc, rfl, hv⟩
    have hk : c / 3 < T.length := by omega
    have ht : T[c / 3]? = some T[c / 3] := List.getElem?_eq_getElem hk
    refine ⟨c / 3, List.mem_range.2 hk, ?_⟩
    rw [ht]
    have := (vert_has ht (x := v)).2 ⟨c, hc, rfl, hv⟩
    simp only [three, Option.getD_some, List.mem_cons, Prod.mk.injEq, List.not_mem_nil, or_false]
    rcases this with h | h | h
    · exact .inl ⟨h, trivial⟩
    · exact .inr (.inl ⟨h, trivial⟩)
    · exact .inr (.inr ⟨h, trivial⟩)
theorem edge_pv (T : List Tr) (c : Nat) : edgeN T (Jor.pv c) = (vertN T c, vertN T (Jor.nx c)) := by unfold edgeN; rw [Jor.nx_pv, Jor.pv_pv]
theorem edge_nx (T : List Tr) (c : Nat) : edgeN T (Jor.nx c) = (vertN T (Jor.pv c), vertN T c) := by unfold edgeN; rw [Jor.nx_nx, Jor.pv_nx]
theorem opp_is {T : List Tr} (hu : (T.flatMap edges3).Nodup) {c d : Nat} (hc : c < 3 * T.length) (hd : d < 3 * T.length) (h : edgeN T d = ((edgeN T c).2, (edgeN T c).1)) : oppN T c = d := by
  unfold oppN oppI
  rw [edgeI_nat hc, ← h, facI_of hu hd]
  rfl
/-- Round a vertex one comes to all its triangles. -/
theorem around {N : Int} {T : List Tr} (hS : Surf N T) {v : Int} (hv : inR N v) (S : Nat → Prop) (h0 : ∃ c, c < 3 * T.length ∧ vertN T c = v ∧ S (c / 3))
    (hs : ∀ c, c < 3 * T.length → vertN T c = v → S (c / 3) → S (oppN T (Jor.nx c) / 3) ∧ S (oppN T (Jor.pv c) / 3)) : ∀ c, c < 3 * T.length → vertN T c = v → S (c / 3) := by
  have hl := hS.pinch v hv
  have cl : ∀ i ∈ atV T v, ∀ k ∈ atV T v, S i → adjV T v i k → S k := by
    intro i hi k hk hSi hadj
    obtain ⟨c, hc, rfl, hcv⟩ := atV_corner.1 hi
    obtain ⟨d, hd, rfl, hdv⟩ := atV_corner.1 hk
    obtain ⟨a, b, x, ha, hb, hx, hax, hbx⟩ := hadj
    obtain ⟨c', hc', e1, hcx⟩ := (vert_has ha).1 hax
    obtain ⟨d', hd', e2, hdx⟩ := (vert_has hb).1 hbx
    have hc3 : c' = Jor.nx c ∨ c' = Jor.pv c := by
      have : c' = c ∨ c' = Jor.nx c ∨ c' = Jor.pv c := by unfold Jor.nx Jor.pv; omega
      rcases this with rfl | h
      · exact absurd (hcx.symm.trans hcv) hx
      · exact h
    have hd3 : d' = Jor.nx d ∨ d' = Jor.pv d := by
      have : d' = d ∨ d' = Jor.nx d ∨ d' = Jor.pv d := by unfold Jor.nx Jor.pv; omega
      rcases this with rfl | h
      · exact absurd (hdx.symm.trans hdv) hx
      · exact h
    have hst := hs c hc hcv hSi
    have hpc : Jor.pv c < 3 * T.length := Jor.pv_lt hc
    have hnc : Jor.nx c < 3 * T.length := Jor.nx_lt hc
    have hpd : Jor.pv d < 3 * T.length := Jor.pv_lt hd
    have hnd : Jor.nx d < 3 * T.length := Jor.nx_lt hd
    rcases hc3 with rfl | rfl
    · rcases hd3 with rfl | rfl
      · have e := edge_inj hS.twice hpc hpd (by rw [edge_pv, edge_pv, hcv, hdv, hcx, hdx])
        have : c / 3 = d / 3 := by rw [← Jor.pv_div c, e, Jor.pv_div]
        rw [← this]
        exact hSi
      · have e := opp_is hS.twice hpc hnd (by rw [edge_pv, edge_nx, hcv, hdv, hcx, hdx])
        rw [← Jor.nx_div d, ← e]
        exact hst.2
    · rcases hd3 with rfl | rfl
      · have e := opp_is hS.twice hnc hpd (by rw [edge_pv, edge_nx, hcv, hdv, hcx, hdx])
        rw [← Jor.pv_div d, ← e]
        exact hst.1
      · have e := edge_inj hS.twice hnc hnd (by rw [edge_nx, edge_nx, hcv, hdv, hcx, hdx])
        have : c / 3 = d / 3 := by rw [← Jor.nx_div c, e, Jor.nx_div]
        rw [← this]
        exact hSi
  have sym : ∀ i k, adjV T v i k → adjV T v k i := fun i k ⟨a, b, x, h1, h2, h3, h4, h5⟩ => ⟨b, a, x, h2, h1, h3, h5, h4⟩
  obtain ⟨c0, hc0, hv0, hS0⟩ := h0
  have hm0 : c0 / 3 ∈ atV T v := atV_corner.2 ⟨c0, hc0, rfl, hv0⟩
  intro c hc hcv
  have hm : c / 3 ∈ atV T v := atV_corner.2 ⟨c, hc, rfl, hcv⟩
  cases hh : (atV T v).head? with
  | none =>
    rw [List.head?_eq_none_iff] at hh
    rw [hh] at hm
    cases hm
  | some i0 =>
    by_cases hi : S i0
    · exact hl S (fun i e => by rw [hh] at e; cases e; exact hi) (fun i hi k hk h1 h2 => cl i hi k hk h1 h2) _ hm
    · exfalso
      exact hl (fun k => ¬ S k) (fun i e => by rw [hh] at e; cases e; exact hi) (fun i hi k hk h1 h2 h3 => h1 (cl k hk i hi h3 (sym _ _ h2))) _ hm0 hS0
theorem vert_rng {N : Int} {T : List Tr} (hS : Surf N T) {c : Nat} (hc : c < 3 * T.length) : 0 ≤ vertN T c ∧ vertN T c < N :=
  vertN_in (fun t ht => by
    obtain ⟨⟨a, b⟩, ⟨d, e⟩, f, g⟩ := hS.inr t ht
    exact ⟨a, b, d, e, f, g⟩) hc
theorem verN_eq {N : Int} {T : List Tr} (hS : Surf N T) {c d : Nat} (hc : c < 3 * T.length) (hd : d < 3 * T.length) : verN T c = verN T d ↔ vertN T c = vertN T d := by
  have h1 := (vert_rng hS hc).1
  have h2 := (vert_rng hS hd).1
  unfold verN
  omega
theorem closed_of {N : Int} {T : List Tr} (hS : Surf N T) (hc : ClosedT T) (hconn : ∀ S : Nat → Prop, S 0 → (∀ c, c < 3 * T.length → S (c / 3) → S (oppN T c / 3)) → ∀ t, t < T.length → S t) : Jor.Closed T.length N.toNat (oppN T) (verN T) where
  lt := fun c h => (opp_some h (hc.opp h)).1
  inv := fun c h => by
    have h1 := opp_back hS.twice h (hc.opp h)
    unfold oppN at h1 ⊢
    rw [h1]
    rfl
  apart := fun c h e => by
    obtain ⟨h1, h2⟩ := opp_some h (hc.opp h)
    have hv := vert_ne hS.simple h
    have : oppN T c = c ∨ oppN T c = Jor.nx c ∨ oppN T c = Jor.pv c := by unfold Jor.nx Jor.pv; omega
    rcases this with e | e | e
    · rw [e] at h2
      unfold edgeN at h2
      simp only [Prod.mk.injEq] at h2
      exact hv.2.2 h2.1
    · rw [e, edge_nx] at h2
      unfold edgeN at h2
      simp only [Prod.mk.injEq] at h2
      exact hv.1 h2.2.symm
    · rw [e, edge_pv] at h2
      unfold edgeN at h2
      simp only [Prod.mk.injEq] at h2
      exact hv.2.1 h2.1.symm
  vn := fun c h => by
    obtain ⟨_, h2⟩ := opp_some h (hc.opp h)
    have := congrArg Prod.fst h2
    simp only [edgeN] at this
    unfold verN
    rw [this]
  vp := fun c h => by
    obtain ⟨_, h2⟩ := opp_some h (hc.opp h)
    have := congrArg Prod.snd h2
    simp only [edgeN] at this
    unfold verN
    rw [this]
  simple := fun c h e => (vert_ne hS.simple h).1 ((verN_eq hS (Jor.nx_lt h) h).1 e)
  vlt := fun c h => by
    have := vert_rng hS h
    unfold verN
    omega
  all := fun v hv => by
    have hm := hS.lonely (v : Int) ⟨by omega, by omega⟩
    unfold flatT at hm
    obtain ⟨t, ht, hx⟩ := List.mem_flatMap.1 hm
    obtain ⟨i, hi, hit⟩ := List.getElem_of_mem ht
    have hti : T[i]? = some t := by rw [List.getElem?_eq_getElem hi, hit]
    simp only [List.mem_cons, List.not_mem_nil, or_false] at hx
    obtain ⟨c, h1, _, h3⟩ := (vert_has hti (x := (v : Int))).1 hx
    exact ⟨c, h1, by unfold verN; rw [h3]; rfl⟩
  conn := hconn
theorem ar_of {N : Int} {T : List Tr} (hS : Surf N T) (v : Nat) (S : Nat → Prop) (h0 : ∃ c, c < 3 * T.length ∧ verN T c = v ∧ S (c / 3)) (hs : ∀ c, c < 3 * T.length → verN T c = v → S (c / 3) → S (oppN T (Jor.nx c) / 3) ∧ S (oppN T (Jor.pv c) / 3)) : ∀ c, c < 3 * T.length → verN T c = v → S (c / 3) := by
  obtain ⟨c0, hc0, hv0, hS0⟩ := h0
  have key : ∀ c, c < 3 * T.length → (verN T c = v ↔ vertN T c = vertN T c0) := fun c hc => by
    rw [← hv0]
    exact verN_eq hS hc hc0
  intro c hc hv
  exact around hS (v := vertN T c0) (vert_rng hS hc0) S ⟨c0, hc0, rfl, hS0⟩ (fun d hd hdv => hs d hd ((key d hd).2 hdv)) c hc ((key c hc).1 hv)
theorem walks_of {N : Int} {T : List Tr} (hS : Surf N T) (hc : ClosedT T) (hconn : ∀ S : Nat → Prop, S 0 → (∀ c, c < 3 * T.length → S (c / 3) → S (oppN T c / 3)) → ∀ t, t < T.length → S t) (hT : 0 < T.length) (hE : 2 * N = T.length + 4) : Jor.Walks T.length N.toNat (oppN T) (verN T) where
  toClosed := closed_of hS hc hconn
  euler := by omega
  pos := hT
  ei := fun c d h1 h2 e1 e2 => edge_inj hS.twice h1 h2 (by
    unfold edgeN
    rw [(verN_eq hS (Jor.nx_lt h1) (Jor.nx_lt h2)).1 e1, (verN_eq hS (Jor.pv_lt h1) (Jor.pv_lt h2)).1 e2])
  ar := ar_of hS
theorem even_of {N : Int} {T : List Tr} (hS : Surf N T) (hc : ClosedT T) (hconn : ∀ S : Nat → Prop, S 0 → (∀ c, c < 3 * T.length → S (c / 3) → S (oppN T c / 3)) → ∀ t, t < T.length → S t) : ∃ m : Nat, T.length = 2 * m ∧ (N.toNat + m) % 2 = 0 :=
  Jor.euler_even (closed_of hS hc hconn) (ar_of hS)
/-- One part alone. -/
theorem conn_of {T : List Tr} {out : List Int} (h : Shl T out) (hc : ClosedT T) (h0 : ∀ j, j < T.length → at_ out j = 0) (S : Nat → Prop) (s0 : S 0) (hs : ∀ c, c < 3 * T.length → S (c / 3) → S (oppN T c / 3)) : ∀ t, t < T.length → S t := by
  intro t
  induction t using Nat.strongRecOn with
  | ind t ih =>
    intro ht
    rcases h.new t ht with ⟨i, hi, _, hr⟩ | ⟨h1, _⟩
    · exact hr S (ih i hi (by omega)) (fun c o hcl ho hSc => by
        have := hs c hcl hSc
        rw [hc.opp hcl] at ho
        rwa [show oppN T c = o from by omega] at this)
    · by_cases e : t = 0
      · rw [e]
        exact s0
      · have := h1 0 (by omega)
        rw [h0 0 (by omega), h0 t ht] at this
        omega
end Go.Proofs.YtpnkhgjjlionnaaGreat
namespace Go.Proofs.YtpnkhgjjlionnaaGreat
open Go.RowKit Go.Maps

theorem opp_isI {T : List Tr} (hu : (T.flatMap edges3).Nodup) {c d : Nat} (hc : c < 3 * T.length) (hd : d < 3 * T.length) (h : edgeN T d = ((edgeN T c).2, (edgeN T c).1)) : oppI T (c : Int) = (d : Int) := by
  unfold oppI
  rw [edgeI_nat hc, ← h, facI_of hu hd]
/-- Round a vertex one comes to all its triangles. -/
theorem aroundB {N : Int} {T : List Tr} (hS : Surf N T) {v : Int} (hv : inR N v) (S : Nat → Prop) (h0 : ∃ c, c < 3 * T.length ∧ vertN T c = v ∧ S (c / 3))
    (hs : ∀ c, c < 3 * T.length → vertN T c = v → S (c / 3) → (∀ o : Nat, oppI T ((Jor.nx c : Nat) : Int) = (o : Int) → S (o / 3)) ∧ (∀ o : Nat, oppI T ((Jor.pv c : Nat) : Int) = (o : Int) → S (o / 3))) : ∀ c, c < 3 * T.length → vertN T c = v → S (c / 3) := by
  have hl := hS.pinch v hv
  have cl : ∀ i ∈ atV T v, ∀ k ∈ atV T v, S i → adjV T v i k → S k := by
    intro i hi k hk hSi hadj
    obtain ⟨c, hc, rfl, hcv⟩ := atV_corner.1 hi
    obtain ⟨d, hd, rfl, hdv⟩ := atV_corner.1 hk
    obtain ⟨a, b, x, ha, hb, hx, hax, hbx⟩ := hadj
    obtain ⟨c', hc', e1, hcx⟩ := (vert_has ha).1 hax
    obtain ⟨d', hd', e2, hdx⟩ := (vert_has hb).1 hbx
    have hc3 : c' = Jor.nx c ∨ c' = Jor.pv c := by
      have : c' = c ∨ c' = Jor.nx c ∨ c' = Jor.pv c := by unfold Jor.nx Jor.pv; omega
      rcases this with rfl | h
      · exact absurd (hcx.symm.trans hcv) hx
      · exact h
    have hd3 : d' = Jor.nx d ∨ d' = Jor.pv d := by
      have : d' = d ∨ d' = Jor.nx d ∨ d' = Jor.pv d := by unfold Jor.nx Jor.pv; omega
      rcases this with rfl | h
      · exact absurd (hdx.symm.trans hdv) hx
      · exact h
    have hst := hs c hc hcv hSi
    have hpc : Jor.pv c < 3 * T.length := Jor.pv_lt hc
    have hnc : Jor.nx c < 3 * T.length := Jor.nx_lt hc
    have hpd : Jor.pv d < 3 * T.length := Jor.pv_lt hd
    have hnd : Jor.nx d < 3 * T.length := Jor.nx_lt hd
    rcases hc3 with rfl | rfl
    · rcases hd3 with rfl | rfl
      · have e := edge_inj hS.twice hpc hpd (by rw [edge_pv, edge_pv, hcv, hdv, hcx, hdx])
        have : c / 3 = d / 3 := by rw [← Jor.pv_div c, e, Jor.pv_div]
        rw [← this]
        exact hSi
      · have e := opp_isI hS.twice hpc hnd (by rw [edge_pv, edge_nx, hcv, hdv, hcx, hdx])
        rw [← Jor.nx_div d]
        exact hst.2 _ e
    · rcases hd3 with rfl | rfl
      · have e := opp_isI hS.twice hnc hpd (by rw [edge_pv, edge_nx, hcv, hdv, hcx, hdx])
        rw [← Jor.pv_div d]
        exact hst.1 _ e
      · have e := edge_inj hS.twice hnc hnd (by rw [edge_nx, edge_nx, hcv, hdv, hcx, hdx])
        have : c / 3 = d / 3 := by rw [← Jor.nx_div c, e, Jor.nx_div]
        rw [← this]
        exact hSi
  have sym : ∀ i k, adjV T v i k → adjV T v k i := fun i k ⟨a, b, x, h1, h2, h3, h4, h5⟩ => ⟨b, a, x, h2, h1, h3, h5, h4⟩
  obtain ⟨c0, hc0, hv0, hS0⟩ := h0
  have hm0 : c0 / 3 ∈ atV T v := atV_corner.2 ⟨c0, hc0, rfl, hv0⟩
  intro c hc hcv
  have hm : c / 3 ∈ atV T v := atV_corner.2 ⟨c, hc, rfl, hcv⟩
  cases hh : (atV T v).head? with
  | none =>
    rw [List.head?_eq_none_iff] at hh
    rw [hh] at hm
    cases hm
  | some i0 =>
    by_cases hi : S i0
    · exact hl S (fun i e => by rw [hh] at e; cases e; exact hi) (fun i hi k hk h1 h2 => cl i hi k hk h1 h2) _ hm
    · exfalso
      exact hl (fun k => ¬ S k) (fun i e => by rw [hh] at e; cases e; exact hi) (fun i hi k hk h1 h2 h3 => h1 (cl k hk i hi h3 (sym _ _ h2))) _ hm0 hS0

/-- A fan ends: the edge into the vertex is a border edge. -/
def EndC (T : List Tr) (c : Nat) : Prop := c < 3 * T.length ∧ oppI T ((Jor.nx c : Nat) : Int) = -1
/-- A fan begins: the edge out of the vertex is a border edge. -/
def StaC (T : List Tr) (c : Nat) : Prop := c < 3 * T.length ∧ oppI T ((Jor.pv c : Nat) : Int) = -1
section
variable {N : Int} {T : List Tr}
/-- From corner to corner round a vertex, over the edge behind. -/
theorem turn_nx (hS : Surf N T) {c o : Nat} (hc : c < 3 * T.length) (h : oppI T ((Jor.nx c : Nat) : Int) = (o : Int)) : Jor.nx o < 3 * T.length ∧ vertN T (Jor.nx o) = vertN T c ∧ oppI T ((Jor.pv (Jor.nx o) : Nat) : Int) = ((Jor.nx c : Nat) : Int) := by
  have h1 := opp_some (Jor.nx_lt hc) h
  rw [edge_nx] at h1
  have h2 : vertN T (Jor.nx o) = vertN T c := congrArg Prod.fst h1.2
  refine ⟨Jor.nx_lt h1.1, h2, ?_⟩
  rw [Jor.pv_nx]
  exact opp_back hS.twice (Jor.nx_lt hc) h
theorem nx_inj {a b : Nat} (h : Jor.nx a = Jor.nx b) : a = b := by rw [← Jor.pv_nx a, h, Jor.pv_nx]
theorem pv_inj {a b : Nat} (h : Jor.pv a = Jor.pv b) : a = b := by rw [← Jor.nx_pv a, h, Jor.nx_pv]
open Classical in
/-- Where a fan begins one ends. -/
theorem sta_end (hS : Surf N T) {d : Nat} (hd : StaC T d) : ∃ c, EndC T c ∧ vertN T c = vertN T d := by
  refine Classical.byContradiction fun hno => ?_
  have tot : ∀ c, c < 3 * T.length → vertN T c = vertN T d → ∃ o : Nat, oppI T ((Jor.nx c : Nat) : Int) = (o : Int) := fun c hc hv => by
    rcases opp_cases T ((Jor.nx c : Nat) : Int) with h | ⟨o, h, -⟩
    · exact absurd ⟨c, ⟨hc, h⟩, hv⟩ hno
    · exact ⟨o, h⟩
  let l := (List.range (3 * T.length)).filter fun c => decide (vertN T c = vertN T d)
  let f : Nat → Nat := fun c => Jor.nx (oppI T ((Jor.nx c : Nat) : Int)).toNat
  have hl : ∀ c, c ∈ l ↔ c < 3 * T.length ∧ vertN T c = vertN T d := fun c => by
    show c ∈ (List.range (3 * T.length)).filter _ ↔ _
    rw [List.mem_filter, List.mem_range]
    simp
  have hln : l.Nodup := List.Pairwise.filter _ List.nodup_range
  have hin : ∀ x ∈ d :: l.map f, x ∈ l := by
    intro x hx
    rcases List.mem_cons.1 hx with rfl | hx
    · exact (hl x).2 ⟨hd.1, rfl⟩
    · obtain ⟨c, hc, rfl⟩ := List.mem_map.1 hx
      obtain ⟨h1, h2⟩ := (hl c).1 hc
      obtain ⟨o, ho⟩ := tot c h1 h2
      have := turn_nx hS h1 ho
      refine (hl _).2 ?_
      show Jor.nx (oppI T ((Jor.nx c : Nat) : Int)).toNat < _ ∧ vertN T (Jor.nx (oppI T ((Jor.nx c : Nat) : Int)).toNat) = _
      rw [ho, Int.toNat_natCast]
      exact ⟨this.1, by rw [this.2.1, h2]⟩
  have hfn : (l.map f).Nodup := by
    refine List.pairwise_map.2 (List.Pairwise.imp_of_mem (fun {a b} ha hb hab => ?_) hln)
    obtain ⟨h1, h2⟩ := (hl a).1 ha
    obtain ⟨k1, k2⟩ := (hl b).1 hb
    obtain ⟨o, ho⟩ := tot a h1 h2
    obtain ⟨p, hp⟩ := tot b k1 k2
    intro e
    have e' : Jor.nx (oppI T ((Jor.nx a : Nat) : Int)).toNat = Jor.nx (oppI T ((Jor.nx b : Nat) : Int)).toNat := e
    rw [ho, hp, Int.toNat_natCast, Int.toNat_natCast] at e'
    have e2 := nx_inj e'
    subst e2
    have b1 := opp_back hS.twice (Jor.nx_lt h1) ho
    have b2 := opp_back hS.twice (Jor.nx_lt k1) hp
    rw [b1] at b2
    exact hab (nx_inj (by omega))
  have hdn : d ∉ l.map f := fun hm => by
    obtain ⟨c, hc, he⟩ := List.mem_map.1 hm
    obtain ⟨h1, h2⟩ := (hl c).1 hc
    obtain ⟨o, ho⟩ := tot c h1 h2
    have h3 := (turn_nx hS h1 ho).2.2
    have he' : Jor.nx (oppI T ((Jor.nx c : Nat) : Int)).toNat = d := he
    rw [ho, Int.toNat_natCast] at he'
    rw [he', hd.2] at h3
    omega
  have := Jor.nodup_le (List.nodup_cons.2 ⟨hdn, hfn⟩) hin
  rw [List.length_cons, List.length_map] at this
  omega
/-- Round a vertex one fan begins at most. -/
theorem sta_one (hS : Surf N T) {d e : Nat} (hd : StaC T d) (he : StaC T e) (hv : vertN T d = vertN T e) : d = e := by
  refine Classical.byContradiction fun hne => ?_
  -- who is come to from d, turn by turn
  let R : Nat → Prop := fun x => ∀ P : Nat → Prop, P d → (∀ c o : Nat, c < 3 * T.length → vertN T c = vertN T d → P c → oppI T ((Jor.nx c : Nat) : Int) = (o : Int) → P (Jor.nx o)) → P x
  have hRd : R d := fun P h _ => h
  have hRs : ∀ c o : Nat, c < 3 * T.length → vertN T c = vertN T d → R c → oppI T ((Jor.nx c : Nat) : Int) = (o : Int) → R (Jor.nx o) := fun c o hc hcv h ho P h0 hs => hs c o hc hcv (h P h0 hs) ho
  have hRv : ∀ x, R x → x < 3 * T.length ∧ vertN T x = vertN T d ∧ (x = d ∨ ∃ c o : Nat, c < 3 * T.length ∧ vertN T c = vertN T d ∧ R c ∧ oppI T ((Jor.nx c : Nat) : Int) = (o : Int) ∧ x = Jor.nx o) := fun x hx => hx (fun x => x < 3 * T.length ∧ vertN T x = vertN T d ∧ (x = d ∨ ∃ c o : Nat, c < 3 * T.length ∧ vertN T c = vertN T d ∧ R c ∧ oppI T ((Jor.nx c : Nat) : Int) = (o : Int) ∧ x = Jor.nx o)) ⟨hd.1, rfl, .inl rfl⟩ (fun c o hc hcv hp ho => by
    have := turn_nx hS hc ho
    refine ⟨this.1, by rw [this.2.1, hcv], .inr ⟨c, o, hc, hcv, ?_, ho, rfl⟩⟩
    rcases hp.2.2 with rfl | ⟨c2, o2, h1, h2, h3, h4, rfl⟩
    · exact hRd
    · exact hRs c2 o2 h1 h2 h3 h4)
  have corner : ∀ x y : Nat, x < 3 * T.length → y < 3 * T.length → vertN T x = vertN T y → x / 3 = y / 3 → x = y := fun x y hx hy h1 h2 => by
    have h3 := vert_ne hS.simple hx
    have : y = x ∨ y = Jor.nx x ∨ y = Jor.pv x := by unfold Jor.nx Jor.pv; omega
    rcases this with rfl | rfl | rfl
    · rfl
    · exact absurd h1.symm h3.1
    · exact absurd h1.symm h3.2.1
  have all := aroundB hS (v := vertN T d) (vert_rng hS hd.1) (fun t => ∃ x, R x ∧ x / 3 = t) ⟨d, hd.1, rfl, d, hRd, rfl⟩ (fun c hc hcv ⟨x, hx, hxt⟩ => by
    have hxv := hRv x hx
    obtain rfl := corner x c hxv.1 hc (by rw [hxv.2.1, hcv]) hxt
    refine ⟨fun o ho => ⟨Jor.nx o, hRs x o hc hcv hx ho, Jor.nx_div o⟩, fun o ho => ?_⟩
    rcases hxv.2.2 with rfl | ⟨c2, o2, h1, h2, h3, h4, rfl⟩
    · rw [hd.2] at ho; omega
    · have h5 := (turn_nx hS h1 h4).2.2
      rw [ho] at h5
      have h6 : o = Jor.nx c2 := by omega
      exact ⟨c2, h3, by rw [h6, Jor.nx_div]⟩)
  obtain ⟨x, hx, hxt⟩ := all e he.1 hv.symm
  have hxv := hRv x hx
  obtain rfl := corner x e hxv.1 he.1 (by rw [hxv.2.1, hv]) hxt
  rcases hxv.2.2 with rfl | ⟨c2, o2, h1, h2, h3, h4, rfl⟩
  · exact hne rfl
  · have h5 := (turn_nx hS h1 h4).2.2
    rw [he.2] at h5
    omega
/-- Who comes behind whom on the border. -/
def Nxt (T : List Tr) (v u : Int) : Prop := ∃ c, EndC T c ∧ vertN T c = v ∧ vertN T (Jor.pv c) = u
theorem EndC.sta {c : Nat} (h : EndC T c) : StaC T (Jor.pv c) := ⟨Jor.pv_lt h.1, by rw [Jor.pv_pv]; exact h.2⟩
theorem Nxt.on (hS : Surf N T) {v u : Int} (h : Nxt T v u) : ∃ z, Nxt T u z := by
  obtain ⟨c, h1, -, h3⟩ := h
  obtain ⟨d, h4, h5⟩ := sta_end hS h1.sta
  exact ⟨_, d, h4, by rw [h5, h3], rfl⟩
theorem Nxt.inj (hS : Surf N T) {v v' u : Int} (h : Nxt T v u) (h' : Nxt T v' u) : v = v' := by
  obtain ⟨c, h1, h2, h3⟩ := h
  obtain ⟨d, k1, k2, k3⟩ := h'
  have := pv_inj (sta_one hS h1.sta k1.sta (by rw [h3, k3]))
  subst this
  rw [← h2, ← k2]
theorem Nxt.rng (hS : Surf N T) {v u : Int} (h : Nxt T v u) : (0 ≤ v ∧ v < N) ∧ 0 ≤ u ∧ u < N := by
  obtain ⟨c, h1, rfl, rfl⟩ := h
  exact ⟨vert_rng hS h1.1, vert_rng hS (Jor.pv_lt h1.1)⟩
end
end Go.Proofs.YtpnkhgjjlionnaaGreat
namespace Go.Proofs.YtpnkhgjjlionnaaGreat
open Go.RowKit

structure WSt where
  come : List Int
  loop : List Int
  wait : List (List Int)
structure WStep where
  letter : Int
  corner : Int
  loops : Nat
  length : Nat
/-- One step; none: there is no sense in it. -/
def stepM (T : List Tr) (s : WSt) : Option (WStep × WSt) :=
  match s.loop with
  | a :: b :: r =>
    if facI T (a, b) < 0 then none
    else if vertI T (facI T (a, b)) ∉ s.come then some (⟨67, facI T (a, b), s.wait.length, r.length + 2⟩, ⟨s.come ++ [vertI T (facI T (a, b))], a :: vertI T (facI T (a, b)) :: b :: r, s.wait⟩)
    else if r.length = 1 then some (⟨69, facI T (a, b), s.wait.length, r.length + 2⟩, ⟨s.come, s.wait.getLast?.getD [], s.wait.dropLast⟩)
    else if Lib.idxOf (a :: b :: r) (vertI T (facI T (a, b))) = r.length + 1 then some (⟨76, facI T (a, b), s.wait.length, r.length + 2⟩, ⟨s.come, vertI T (facI T (a, b)) :: (b :: r).dropLast, s.wait⟩)
    else if Lib.idxOf (a :: b :: r) (vertI T (facI T (a, b))) = 2 then some (⟨82, facI T (a, b), s.wait.length, r.length + 2⟩, ⟨s.come, a :: r, s.wait⟩)
    else if 2 < Lib.idxOf (a :: b :: r) (vertI T (facI T (a, b))) then some (⟨83, facI T (a, b), s.wait.length, r.length + 2⟩, ⟨s.come, a :: (a :: b :: r).drop (Lib.idxOf (a :: b :: r) (vertI T (facI T (a, b)))).toNat, s.wait ++ [vertI T (facI T (a, b)) :: (b :: r).take ((Lib.idxOf (a :: b :: r) (vertI T (facI T (a, b)))).toNat - 1)]⟩)
    else none
  | _ => none
def hdI (T : List Tr) (c : Nat) : Int := vertN T (Jor.nx c)
/-- The numbers are those of the corners. -/
structure WRel (T : List Tr) (D : List Nat) (Xs : List (List Nat)) (s : WSt) : Prop where
  come : ∀ c, c < 3 * T.length → (vertN T c ∈ s.come ↔ Jor.Come T.length (verN T) D (verN T c))
  nd : s.come.Nodup
  rng : ∀ v ∈ s.come, ∃ c, c < 3 * T.length ∧ vertN T c = v
  loop : s.loop = (Xs.headD []).map (hdI T)
  wait : s.wait = (Xs.tail.map fun X => X.map (hdI T)).reverse
theorem idxOf_at {l m : List Int} {v : Int} (h : v ∉ l) : Lib.idxOf (l ++ v :: m) v = l.length := by
  have := Lib.idxOf_hit (l ++ v :: m) (l ++ v :: m).length l.length v (by simp) (Nat.le_refl _) (by simp [List.getD]) (fun j hj e => h (by
    have : (l ++ v :: m).getD j 0 = l[j] := by simp [List.getD, List.getElem?_append_left hj, List.getElem?_eq_getElem hj]
    rw [this] at e
    rw [← e]
    exact List.getElem_mem _))
  rwa [List.take_length] at this
variable {N : Int} {T : List Tr} {d0 : Nat} {D : List Nat}
theorem hdI_opp (hc : ClosedT T) {c : Nat} (h : c < 3 * T.length) : hdI T (oppN T c) = vertN T (Jor.pv c) := by
  obtain ⟨_, h2⟩ := opp_some h (hc.opp h)
  have := congrArg Prod.fst h2
  simpa [edgeN, hdI] using this
theorem stepM_ok (hS : Surf N T) (hc : ClosedT T) (K : Jor.Walks T.length N.toNat (oppN T) (verN T)) {c0 : Nat} {r : List Nat} {W : List (List Nat)} {s : WSt}
    (h : Jor.WInv T.length (oppN T) (verN T) d0 D ((c0 :: r) :: W)) (R : WRel T D ((c0 :: r) :: W) s) :
    ∃ l s' Xs', stepM T s = some (⟨l, (c0 : Int), W.length, r.length + 1⟩, s') ∧ Jor.WInv T.length (oppN T) (verN T) d0 (c0 / 3 :: D) Xs' ∧ WRel T (c0 / 3 :: D) Xs' s' ∧
      ((l = 67 ∧ s'.come = s.come ++ [vertN T c0] ∧ Xs'.length = W.length + 1 ∧ s'.loop.length = r.length + 2) ∨ (l = 69 ∧ s'.come = s.come ∧ Xs'.length = W.length ∧ r.length = 2) ∨ ((l = 76 ∨ l = 82) ∧ s'.come = s.come ∧ Xs'.length = W.length + 1 ∧ s'.loop.length = r.length) ∨ (l = 83 ∧ s'.come = s.come ∧ Xs'.length = W.length + 2)) := by
  have hX : (c0 :: r) ∈ (c0 :: r) :: W := List.mem_cons_self ..
  have h0 : Jor.Bd T.length (oppN T) D c0 := h.mem hX (List.mem_cons_self ..)
  have hl0 := h0.1
  have ha : Jor.pv c0 < 3 * T.length := Jor.pv_lt hl0
  have hb : Jor.nx c0 < 3 * T.length := Jor.nx_lt hl0
  have hlen := h.len _ hX
  obtain ⟨b, r', rfl⟩ : ∃ b r', r = b :: r' := List.exists_cons_of_ne_nil (by rintro rfl; simp at hlen)
  have hbm : b ∈ c0 :: b :: r' := by simp
  have hbl := (h.mem hX hbm).1
  have e1 : vertN T (Jor.pv c0) = hdI T b := by
    obtain ⟨c', r'', e', hcyc⟩ := h.cyc _ hX
    cases e'
    simp only [List.map_cons, List.cons_append, List.cons.injEq] at hcyc
    exact (verN_eq hS ha (Jor.nx_lt hbl)).1 hcyc.1
  have hloop : s.loop = hdI T c0 :: hdI T b :: r'.map (hdI T) := R.loop
  have hwl : s.wait.length = W.length := by rw [R.wait]; simp
  have hfac : facI T (hdI T c0, hdI T b) = (c0 : Int) := by
    rw [← e1]
    exact facI_of hS.twice hl0
  have hv : vertI T (c0 : Int) = vertN T c0 := vertI_nat hl0
  have hrl : (r'.map (hdI T)).length = r'.length := by simp
  have hcs := Jor.come_step K h0
  have hoa : hdI T (oppN T (Jor.pv c0)) = hdI T c0 := by rw [hdI_opp hc ha, Jor.pv_pv]; rfl
  have hob : hdI T (oppN T (Jor.nx c0)) = vertN T c0 := by rw [hdI_opp hc hb, Jor.pv_nx]
  rcases h.next K with ⟨hn, hI⟩ | ⟨hcm, r1, e, r2, hr, hev, hr1, hI⟩
  · have hnv : vertN T c0 ∉ s.come := fun hm => hn ((R.come c0 hl0).1 hm)
    refine ⟨67, ⟨s.come ++ [vertN T c0], hdI T c0 :: vertN T c0 :: hdI T b :: r'.map (hdI T), s.wait⟩, _, ?_, hI, ⟨?_, ?_, ?_, ?_, ?_⟩, .inl ⟨rfl, rfl, by simp, by simp⟩⟩
    · unfold stepM
      rw [hloop]
      simp only [hfac, hv]
      rw [if_neg (by omega), if_pos hnv, hwl, hrl]
      rfl
    · intro c hcl
      rw [hcs, ← R.come c hcl, List.mem_append, List.mem_singleton, verN_eq hS hcl hl0]
    · rw [List.nodup_append]
      exact ⟨R.nd, by simp, fun a ha b hb e => by rw [List.mem_singleton.1 hb] at e; exact hnv (by rw [← e]; exact ha)⟩
    · intro v hvm
      rcases List.mem_append.1 hvm with hvm | hvm
      · exact R.rng v hvm
      · rw [List.mem_singleton.1 hvm]
        exact ⟨c0, hl0, rfl⟩
    · simp [hoa, hob]
    · exact R.wait
  · have hvm : vertN T c0 ∈ s.come := (R.come c0 hl0).2 hcm
    have hem : e ∈ c0 :: b :: r' := by rw [hr]; simp
    have hel := (h.mem hX hem).1
    have hev' : hdI T e = vertN T c0 := (verN_eq hS (Jor.nx_lt hel) hl0).1 hev
    have hcome : ∀ c, c < 3 * T.length → (vertN T c ∈ s.come ↔ Jor.Come T.length (verN T) (c0 / 3 :: D) (verN T c)) := by
      intro c hcl
      rw [hcs, ← R.come c hcl, verN_eq hS hcl hl0]
      exact ⟨.inl, fun h => by rcases h with h | h; exact h; rw [h]; exact hvm⟩
    have hvl : hdI T b :: r'.map (hdI T) = r1.map (hdI T) ++ vertN T c0 :: r2.map (hdI T) := by
      rw [← hev', ← List.map_cons, ← List.map_cons, ← List.map_append, hr]
    have hnot : vertN T c0 ∉ hdI T c0 :: r1.map (hdI T) := by
      have hnd := h.vnd _ hX
      rw [hr] at hnd
      intro hm
      rcases List.mem_cons.1 hm with hm | hm
      · exact (vert_ne hS.simple hl0).1 hm.symm
      · obtain ⟨x, hx, hxe⟩ := List.mem_map.1 hm
        have hxm : x ∈ c0 :: b :: r' := by rw [hr]; simp [hx]
        have e2 : Jor.hd (verN T) x = Jor.hd (verN T) e := by
          rw [hev]
          exact (verN_eq hS (Jor.nx_lt (h.mem hX hxm).1) hl0).2 hxe
        simp only [List.map_cons, List.map_append, List.nodup_cons, List.nodup_append, List.mem_cons] at hnd
        exact hnd.2.2.2 _ (List.mem_map_of_mem hx) _ (.inl rfl) e2
    have hidx : Lib.idxOf (hdI T c0 :: hdI T b :: r'.map (hdI T)) (vertN T c0) = r1.length + 1 := by
      rw [hvl, ← List.cons_append, idxOf_at hnot]
      simp
    have hlr : r'.length + 1 = r1.length + r2.length + 1 := by
      have := congrArg List.length hr
      simp only [List.length_cons, List.length_append] at this
      omega
    have h1pos : 0 < r1.length := List.length_pos_iff.2 hr1
    have hl3 : 3 ≤ r'.length + 2 := by simpa using hlen
    by_cases z1 : r1.length = 1
    · by_cases z2 : r2 = []
      · have hz2 : r2.length = 0 := by rw [z2]; rfl
        unfold Jor.parted at hI
        rw [if_pos z1, if_pos z2] at hI
        refine ⟨69, ⟨s.come, s.wait.getLast?.getD [], s.wait.dropLast⟩, W, ?_, hI, ⟨hcome, R.nd, R.rng, ?_, ?_⟩, .inr (.inl ⟨rfl, rfl, rfl, by simp only [List.length_cons]; omega⟩)⟩
        · unfold stepM
          rw [hloop]
          simp only [hfac, hv]
          rw [if_neg (by omega), if_neg (by simpa using hvm), if_pos (by rw [hrl]; omega), hwl, hrl]
          rfl
        · rw [R.wait]
          cases W <;> simp
        · rw [R.wait]
          cases W <;> simp
      · have hz2 := List.length_pos_iff.2 z2
        unfold Jor.parted at hI
        rw [if_pos z1, if_neg z2] at hI
        refine ⟨82, ⟨s.come, hdI T c0 :: r'.map (hdI T), s.wait⟩, _, ?_, hI, ⟨hcome, R.nd, R.rng, ?_, R.wait⟩, .inr (.inr (.inl ⟨.inr rfl, rfl, by simp, by simp⟩))⟩
        · unfold stepM
          rw [hloop]
          simp only [hfac, hv]
          rw [if_neg (by omega), if_neg (by simpa using hvm), if_neg (by rw [hrl]; omega), hidx, if_neg (by rw [hrl]; omega), if_pos (by omega), hwl, hrl]
          rfl
        · obtain ⟨x, hx⟩ : ∃ x, r1 = [x] := List.length_eq_one_iff.1 z1
          subst hx
          simp only [List.map_cons, List.map_nil, List.cons_append, List.nil_append, List.cons.injEq] at hvl
          simp [hoa, hev', hvl.2]
    · by_cases z2 : r2 = []
      · have hz2 : r2.length = 0 := by rw [z2]; rfl
        unfold Jor.parted at hI
        rw [if_neg z1, if_pos z2] at hI
        refine ⟨76, ⟨s.come, vertN T c0 :: (hdI T b :: r'.map (hdI T)).dropLast, s.wait⟩, _, ?_, hI, ⟨hcome, R.nd, R.rng, ?_, R.wait⟩, .inr (.inr (.inl ⟨.inl rfl, rfl, by simp, by simp⟩))⟩
        · unfold stepM
          rw [hloop]
          simp only [hfac, hv]
          rw [if_neg (by omega), if_neg (by simpa using hvm), if_neg (by rw [hrl]; omega), hidx, if_pos (by rw [hrl]; omega), hwl, hrl]
          rfl
        · rw [hvl, z2]
          simp [hob]
      · have hz2 := List.length_pos_iff.2 z2
        unfold Jor.parted at hI
        rw [if_neg z1, if_neg z2] at hI
        refine ⟨83, ⟨s.come, hdI T c0 :: (hdI T c0 :: hdI T b :: r'.map (hdI T)).drop ((r1.length : Int) + 1).toNat, s.wait ++ [vertN T c0 :: (hdI T b :: r'.map (hdI T)).take (((r1.length : Int) + 1).toNat - 1)]⟩, _, ?_, hI, ⟨hcome, R.nd, R.rng, ?_, ?_⟩, .inr (.inr (.inr ⟨rfl, rfl, by simp⟩))⟩
        · unfold stepM
          rw [hloop]
          simp only [hfac, hv]
          rw [if_neg (by omega), if_neg (by simpa using hvm), if_neg (by rw [hrl]; omega), hidx, if_neg (by rw [hrl]; omega), if_neg (by omega), if_pos (by omega), hwl, hrl]
          rfl
        · have e3 : ((r1.length : Int) + 1).toNat = r1.length + 1 := by omega
          rw [e3, List.drop_succ_cons, hvl, List.drop_append_of_le_length (by simp), show r1.length = (r1.map (hdI T)).length from by simp, List.drop_length]
          simp [hoa, hev']
        · have e3 : ((r1.length : Int) + 1).toNat - 1 = r1.length := by omega
          rw [e3, hvl, List.take_append_of_le_length (by simp), show r1.length = (r1.map (hdI T)).length from by simp, List.take_length, R.wait]
          simp [hob]
end Go.Proofs.YtpnkhgjjlionnaaGreat
namespace Go.Proofs.YtpnkhgjjlionnaaGreat
open Go.RowKit

/-- A simple surface: closed, of one part, of Euler number 2. -/
structure Simp (N : Int) (T : List Tr) : Prop where
  surf : Surf N T
  closed : ClosedT T
  conn : ∀ S : Nat → Prop, S 0 → (∀ c, c < 3 * T.length → S (c / 3) → S (oppN T c / 3)) → ∀ t, t < T.length → S t
  pos : 0 < T.length
  euler : 2 * N = T.length + 4
theorem Simp.K {N : Int} {T : List Tr} (h : Simp N T) : Jor.Walks T.length N.toNat (oppN T) (verN T) := walks_of h.surf h.closed h.conn h.pos h.euler
/-- The walk begins at corner c. -/
def beginS (T : List Tr) (c : Nat) : WSt := ⟨[vertN T c, vertN T (Jor.nx c), vertN T (Jor.pv c)], [vertN T (Jor.nx c), vertN T c, vertN T (Jor.pv c)], []⟩
/-- The triangles gone over, the last one ahead. -/
def dOf (c : Nat) (L : List WStep) : List Nat := (L.map fun x => x.corner.toNat / 3).reverse ++ [c / 3]
/-- The vertices come to by the steps. -/
def newV (T : List Tr) (L : List WStep) : List Int := (L.filter fun x => decide (x.letter = 67)).map fun x => vertI T x.corner
theorem dOf_len (c : Nat) (L : List WStep) : (dOf c L).length = L.length + 1 := by simp [dOf]
theorem dOf_snoc (c : Nat) (L : List WStep) (x : WStep) : dOf c (L ++ [x]) = x.corner.toNat / 3 :: dOf c L := by simp [dOf]
theorem newV_snoc (T : List Tr) (L : List WStep) (x : WStep) : newV T (L ++ [x]) = newV T L ++ (if x.letter = 67 then [vertI T x.corner] else []) := by
  unfold newV
  rw [List.filter_append, List.map_append]
  by_cases h : x.letter = 67 <;> simp [h]
/-- The steps so far. -/
inductive Ran (T : List Tr) (s0 : WSt) : List WStep → WSt → Prop
  | nil : Ran T s0 [] s0
  | snoc {L : List WStep} {s s' : WSt} {x : WStep} : Ran T s0 L s → stepM T s = some (x, s') → Ran T s0 (L ++ [x]) s'
theorem Ran.one {T : List Tr} {s0 s s' : WSt} {L L' : List WStep} (h : Ran T s0 L s) (h' : Ran T s0 L' s') (hl : L.length = L'.length) : L = L' ∧ s = s' := by
  induction h generalizing L' s' with
  | nil =>
    cases h' with
    | nil => exact ⟨rfl, rfl⟩
    | snoc _ _ => simp at hl
  | snoc h1 h2 ih =>
    cases h' with
    | nil => simp at hl
    | snoc k1 k2 =>
      obtain ⟨rfl, rfl⟩ := ih k1 (by simpa using hl)
      rw [h2] at k2
      cases k2
      exact ⟨rfl, rfl⟩
theorem Ran.take {T : List Tr} {s0 s : WSt} {L : List WStep} (h : Ran T s0 L s) : ∀ k, k ≤ L.length → ∃ s', Ran T s0 (L.take k) s' := by
  induction h with
  | nil => intro k _; exact ⟨s0, by simpa using Ran.nil⟩
  | @snoc L s s' x h1 h2 ih =>
    intro k hk
    by_cases e : k = L.length + 1
    · subst e
      exact ⟨s', by rw [List.take_of_length_le (by simp)]; exact .snoc h1 h2⟩
    · have hk' : k ≤ L.length := by simp at hk; omega
      obtain ⟨s2, h3⟩ := ih k hk'
      exact ⟨s2, by rw [List.take_append_of_le_length hk']; exact h3⟩
/-- A walk that is over is no beginning of another one. -/
theorem Ran.end_ {T : List Tr} {s0 s s' : WSt} {L L' : List WStep} (h : Ran T s0 L s) (he : s.loop = []) (h' : Ran T s0 L' s') : L'.length ≤ L.length := by
  induction h' with
  | nil => simp
  | @snoc M s1 s2 x h1 h2 ih =>
    rcases Nat.lt_or_ge M.length L.length with hl | hl
    · simp; omega
    · obtain ⟨e1, e2⟩ := h1.one h (by omega)
      subst e2
      unfold stepM at h2
      rw [he] at h2
      cases h2
theorem Ran.same {T : List Tr} {s0 s s' : WSt} {L L' : List WStep} (h : Ran T s0 L s) (he : s.loop = []) (h' : Ran T s0 L' s') (he' : s'.loop = []) : L' = L ∧ s' = s := by
  have h1 := h.end_ he h'
  have h2 := h'.end_ he' h
  exact h'.one h (by omega)

/-- What holds behind the steps. -/
structure Gone (N : Int) (T : List Tr) (c : Nat) (L : List WStep) (s : WSt) (Xs : List (List Nat)) : Prop where
  inv : Jor.WInv T.length (oppN T) (verN T) (c / 3) (dOf c L) Xs
  rel : WRel T (dOf c L) Xs s
  come : s.come = (beginS T c).come ++ newV T L
  cnt : Xs.length + L.countP (fun x => decide (x.letter = 69)) = 1 + L.countP (fun x => decide (x.letter = 83))
  each : ∀ x ∈ L, ∃ d : Nat, x.corner = d ∧ d < 3 * T.length ∧ 3 ≤ x.length ∧ x.length ≤ 3 * T.length ∧ x.loops ≤ 3 * T.length ∧ (x.letter = 67 ∨ x.letter = 69 ∨ x.letter = 76 ∨ x.letter = 82 ∨ x.letter = 83)
  over : ∀ i x, L[i]? = some x → oppN T x.corner.toNat / 3 ∈ dOf c (L.take i)
theorem nodup_len : ∀ {l m : List Nat}, l.Nodup → l ⊆ m → l.length ≤ m.length
  | [], _, _, _ => by simp
  | a :: l, m, hn, hs => by
    have ha := hs (List.mem_cons_self ..)
    have hn' := List.nodup_cons.1 hn
    have : l ⊆ m.erase a := fun x hx => (List.mem_erase_of_ne (fun e => hn'.1 (by rw [← e]; exact hx))).2 (hs (List.mem_cons_of_mem _ hx))
    have := nodup_len hn'.2 this
    rw [List.length_erase_of_mem ha] at this
    have := List.length_pos_of_mem ha
    simp only [List.length_cons]
    omega
theorem WInv_flat {F : Nat} {opp vert : Nat → Nat} {d0 : Nat} {D : List Nat} {Xs : List (List Nat)} (h : Jor.WInv F opp vert d0 D Xs) : Xs.flatten.length ≤ 3 * F := by
  have h1 : Xs.flatten ⊆ List.range (3 * F) := fun c hc => List.mem_range.2 ((h.bd c).1 hc).1
  have := nodup_len h.nd h1
  simpa using this
theorem flat_count {Xs : List (List Nat)} (h : ∀ X ∈ Xs, 3 ≤ X.length) : 3 * Xs.length ≤ Xs.flatten.length := by
  induction Xs with
  | nil => simp
  | cons X R ih =>
    have h1 := h X (List.mem_cons_self ..)
    have h2 := ih (fun Y hY => h Y (List.mem_cons_of_mem _ hY))
    simp only [List.length_cons, List.flatten_cons, List.length_append]
    omega
variable {N : Int} {T : List Tr} {c : Nat}
theorem begin_gone (h : Simp N T) (hc : c < 3 * T.length) : Gone N T c [] (beginS T c) [[oppN T (Jor.pv c), oppN T (Jor.nx c), oppN T c]] where
  inv := by simpa [dOf] using Jor.WInv.start h.K hc
  rel := by
    have hb := Jor.nx_lt hc
    have hd := Jor.pv_lt hc
    obtain ⟨n1, n2, n3⟩ := vert_ne h.surf.simple hc
    refine ⟨fun d hdl => ?_, ?_, ?_, ?_, by simp [beginS]⟩
    · show _ ↔ Jor.Come T.length (verN T) [c / 3] (verN T d)
      rw [Jor.come_start hc, verN_eq h.surf hdl hc, verN_eq h.surf hdl hb, verN_eq h.surf hdl hd]
      simp [beginS]
    · simp only [beginS, List.nodup_cons, List.mem_cons, List.not_mem_nil, or_false, not_or, not_false_eq_true, List.nodup_nil, and_true]
      exact ⟨⟨fun e => n1 e.symm, fun e => n2 e.symm⟩, n3⟩
    · intro v hv
      simp only [beginS, List.mem_cons, List.not_mem_nil, or_false] at hv
      rcases hv with rfl | rfl | rfl
      · exact ⟨c, hc, rfl⟩
      · exact ⟨_, hb, rfl⟩
      · exact ⟨_, hd, rfl⟩
    · simp [beginS, hdI_opp h.closed hd, hdI_opp h.closed hb, hdI_opp h.closed hc, Jor.pv_pv, Jor.pv_nx]
  come := by simp [newV]
  cnt := by simp
  each := by simp
  over := by simp
/-- One step more. -/
theorem Gone.next (h : Simp N T) {L : List WStep} {s : WSt} {Xs : List (List Nat)} (G : Gone N T c L s Xs) (hl : s.loop ≠ []) :
    ∃ x s' Xs', stepM T s = some (x, s') ∧ Gone N T c (L ++ [x]) s' Xs' ∧ x.loops = s.wait.length ∧ x.length = s.loop.length ∧
      ((x.letter = 67 ∧ Xs'.length = Xs.length ∧ s'.loop.length = s.loop.length + 1) ∨ (x.letter = 69 ∧ Xs'.length + 1 = Xs.length ∧ s.loop.length = 3) ∨ ((x.letter = 76 ∨ x.letter = 82) ∧ Xs'.length = Xs.length ∧ s'.loop.length + 1 = s.loop.length) ∨ (x.letter = 83 ∧ Xs'.length = Xs.length + 1)) := by
  obtain ⟨c0, r, W, rfl⟩ : ∃ c0 r W, Xs = (c0 :: r) :: W := by
    cases Xs with
    | nil => exact absurd (by simpa using G.rel.loop) hl
    | cons X W =>
      cases X with
      | nil => exact absurd (by simpa using G.rel.loop) hl
      | cons c0 r => exact ⟨c0, r, W, rfl⟩
  obtain ⟨l, s', Xs', h1, h2, h3, h4⟩ := stepM_ok h.surf h.closed h.K G.inv G.rel
  have hX : (c0 :: r) ∈ (c0 :: r) :: W := List.mem_cons_self ..
  have h0 : Jor.Bd T.length (oppN T) (dOf c L) c0 := G.inv.mem hX (List.mem_cons_self ..)
  have hloop : s.loop.length = r.length + 1 := by rw [G.rel.loop]; simp
  have hwait : s.wait.length = W.length := by rw [G.rel.wait]; simp
  have hlen := G.inv.len _ hX
  simp only [List.length_cons] at hlen
  have hfl := WInv_flat G.inv
  have hfc := flat_count G.inv.len
  have hcn := G.cnt
  simp only [List.flatten_cons, List.length_append, List.length_cons] at hfl hfc hcn
  have hv : vertI T ((c0 : Nat) : Int) = vertN T c0 := vertI_nat h0.1
  refine ⟨_, s', Xs', h1, ⟨?_, ?_, ?_, ?_, ?_, ?_⟩, hwait.symm, hloop.symm, ?_⟩
  · rw [dOf_snoc]; exact h2
  · rw [dOf_snoc]; exact h3
  · rw [newV_snoc, ← List.append_assoc, ← G.come]
    rcases h4 with ⟨rfl, e, _⟩ | ⟨rfl, e, _⟩ | ⟨e1 | e1, e, _⟩ | ⟨rfl, e, _⟩
    · rw [e, if_pos rfl, hv]
    · rw [e]; simp
    · subst e1; rw [e]; simp
    · subst e1; rw [e]; simp
    · rw [e]; simp
  · rw [List.countP_append, List.countP_append]
    rcases h4 with ⟨rfl, e, e2, _⟩ | ⟨rfl, e, e2, _⟩ | ⟨e1 | e1, e, e2, _⟩ | ⟨rfl, e, e2⟩
    · simp; omega
    · simp; omega
    · subst e1; simp; omega
    · subst e1; simp; omega
    · simp; omega
  · intro x hx
    rcases List.mem_append.1 hx with hx | hx
    · exact G.each x hx
    · rw [List.mem_singleton.1 hx]
      refine ⟨c0, rfl, h0.1, hlen, by show r.length + 1 ≤ _; omega, by show W.length ≤ _; omega, ?_⟩
      show l = 67 ∨ l = 69 ∨ l = 76 ∨ l = 82 ∨ l = 83
      rcases h4 with ⟨e, _⟩ | ⟨e, _⟩ | ⟨e | e, _⟩ | ⟨e, _⟩ <;> simp [e]
  · intro i x hx
    rcases Nat.lt_or_ge i L.length with hi | hi
    · rw [List.getElem?_append_left hi] at hx
      rw [List.take_append_of_le_length (by omega)]
      exact G.over i x hx
    · rw [List.getElem?_append_right hi] at hx
      have hi0 : i - L.length = 0 := by
        have := (List.getElem?_eq_some_iff.1 hx).1
        simp at this
        omega
      rw [hi0] at hx
      simp only [List.getElem?_cons_zero, Option.some.injEq] at hx
      subst hx
      have hi' : i = L.length := by omega
      subst hi'
      rw [List.take_left]
      exact h0.2.2
  · rcases h4 with ⟨e1, e, e2, e3⟩ | ⟨e1, e, e2, e3⟩ | ⟨e1, e, e2, e3⟩ | ⟨e1, e, e2⟩
    · exact .inl ⟨e1, by simpa using e2, by omega⟩
    · exact .inr (.inl ⟨e1, by simp; omega, by omega⟩)
    · exact .inr (.inr (.inl ⟨e1, by simpa using e2, by omega⟩))
    · exact .inr (.inr (.inr ⟨e1, by simp; omega⟩))
/-- Whatever was gone over so far. -/
theorem Ran.gone (h : Simp N T) (hc : c < 3 * T.length) {L : List WStep} {s : WSt} (R : Ran T (beginS T c) L s) : ∃ Xs, Gone N T c L s Xs := by
  induction R with
  | nil => exact ⟨_, begin_gone h hc⟩
  | @snoc L s s' x h1 h2 ih =>
    obtain ⟨Xs, G⟩ := ih
    have hl : s.loop ≠ [] := by
      intro e
      unfold stepM at h2
      rw [e] at h2
      cases h2
    obtain ⟨x2, s2, Xs2, e, G2, _⟩ := G.next h hl
    rw [h2] at e
    cases e
    exact ⟨Xs2, G2⟩
theorem Gone.lt (h : Simp N T) {L : List WStep} {s : WSt} {Xs : List (List Nat)} (G : Gone N T c L s Xs) : L.length + 1 ≤ T.length ∧ (s.loop = [] ↔ L.length + 1 = T.length) := by
  have h1 := G.inv.len_le
  rw [dOf_len] at h1
  refine ⟨h1, fun e => ?_, fun e => ?_⟩
  · have hX : Xs = [] := by
      cases Xs with
      | nil => rfl
      | cons X W =>
        have := G.rel.loop
        rw [e] at this
        have h3 := G.inv.len X (List.mem_cons_self ..)
        simp at this
        rw [this] at h3
        simp at h3
    subst hX
    have := G.inv.finish_len h.K
    rwa [dOf_len] at this
  · cases Xs with
    | nil => simpa using G.rel.loop
    | cons X W =>
      have := G.inv.len_lt
      rw [dOf_len] at this
      omega
/-- What the step wants of the state. -/
theorem Gone.wants (h : Simp N T) {L : List WStep} {s : WSt} {Xs : List (List Nat)} (G : Gone N T c L s Xs) :
    (∀ z ∈ s.loop, 0 ≤ z ∧ z < N) ∧ s.loop.length ≤ 3 * T.length ∧ s.wait.length ≤ 3 * T.length ∧ (s.loop ≠ [] → 3 ≤ s.loop.length) ∧ ∀ l ∈ s.wait, l ≠ [] := by
  have hfl := WInv_flat G.inv
  have hfc := flat_count G.inv.len
  cases Xs with
  | nil =>
    have e1 : s.loop = [] := by simpa using G.rel.loop
    have e2 : s.wait = [] := by simpa using G.rel.wait
    rw [e1, e2]
    simp
  | cons X W =>
    have e1 : s.loop = X.map (hdI T) := by simpa using G.rel.loop
    have e2 := G.rel.wait
    simp only [List.tail_cons] at e2
    simp only [List.flatten_cons, List.length_append, List.length_cons] at hfl hfc
    have h3 := G.inv.len X (List.mem_cons_self ..)
    refine ⟨fun z hz => ?_, by rw [e1, List.length_map]; omega, by rw [e2]; simp; omega, fun _ => by rw [e1, List.length_map]; exact h3, fun l hl => ?_⟩
    · rw [e1] at hz
      obtain ⟨d, hd, rfl⟩ := List.mem_map.1 hz
      exact vert_rng h.surf (Jor.nx_lt (G.inv.mem (List.mem_cons_self ..) hd).1)
    · rw [e2, List.mem_reverse] at hl
      obtain ⟨Y, hY, rfl⟩ := List.mem_map.1 hl
      have := G.inv.len Y (List.mem_cons_of_mem _ hY)
      intro e
      have : Y = [] := by simpa using e
      subst this
      simp at *
theorem ends_aux (h : Simp N T) (hc : c < 3 * T.length) : ∀ (k : Nat) (L : List WStep) (s : WSt), Ran T (beginS T c) L s → T.length = L.length + 1 + k → ∃ L' s', Ran T (beginS T c) L' s' ∧ s'.loop = []
  | 0, L, s, R, hk => by
    obtain ⟨Xs, G⟩ := R.gone h hc
    exact ⟨L, s, R, (G.lt h).2.2 (by omega)⟩
  | k + 1, L, s, R, hk => by
    obtain ⟨Xs, G⟩ := R.gone h hc
    have hl : s.loop ≠ [] := fun e => by
      have := (G.lt h).2.1 e
      omega
    obtain ⟨x, s', Xs', e, _⟩ := G.next h hl
    exact ends_aux h hc k (L ++ [x]) s' (.snoc R e) (by simp; omega)
/-- The walk comes to an end. -/
theorem ends (h : Simp N T) (hc : c < 3 * T.length) : ∃ L s, Ran T (beginS T c) L s ∧ s.loop = [] := ends_aux h hc (T.length - 1) [] _ .nil (by have := h.pos; simp; omega)
/-- The steps, reckoned. -/
def runM (T : List Tr) : Nat → WSt → List WStep × WSt
  | 0, s => ([], s)
  | n + 1, s => match stepM T s with
    | some (x, s') => (x :: (runM T n s').1, (runM T n s').2)
    | none => ([], s)
theorem runM_ran (T : List Tr) (s0 : WSt) : ∀ (n : Nat) (L : List WStep) (s : WSt), Ran T s0 L s → Ran T s0 (L ++ (runM T n s).1) (runM T n s).2
  | 0, L, s, R => by simpa [runM] using R
  | n + 1, L, s, R => by
    unfold runM
    cases hs : stepM T s with
    | none => simpa using R
    | some p =>
      obtain ⟨x, s'⟩ := p
      have := runM_ran T s0 n (L ++ [x]) s' (.snoc R hs)
      simpa using this
/-- The steps of the whole walk. -/
def stepsM (T : List Tr) (c : Nat) : List WStep := (runM T T.length (beginS T c)).1
theorem runM_len (T : List Tr) : ∀ (n : Nat) (s : WSt), (runM T n s).1.length = n ∨ stepM T (runM T n s).2 = none
  | 0, s => .inl rfl
  | n + 1, s => by
    unfold runM
    cases hs : stepM T s with
    | none => exact .inr hs
    | some p =>
      obtain ⟨x, s'⟩ := p
      rcases runM_len T n s' with h | h
      · exact .inl (by simp [h])
      · exact .inr h
/-- Whichever way a walk has come to its end: these are its steps. -/
theorem Ran.steps (h : Simp N T) (hc : c < 3 * T.length) {L : List WStep} {s : WSt} (R : Ran T (beginS T c) L s) (he : s.loop = []) : L = stepsM T c := by
  have R2 := runM_ran T (beginS T c) T.length [] _ .nil
  rw [List.nil_append] at R2
  have hl := R.end_ he R2
  obtain ⟨Xs, G⟩ := R2.gone h hc
  have hlt := (G.lt h).1
  have he2 : (runM T T.length (beginS T c)).2.loop = [] := by
    by_cases e : (runM T T.length (beginS T c)).2.loop = []
    · exact e
    · obtain ⟨x, s', Xs', e2, _⟩ := G.next h e
      rcases runM_len T T.length (beginS T c) with h3 | h3
      · omega
      · rw [h3] at e2
        cases e2
  exact ((R.same he R2 he2).1).symm
end Go.Proofs.YtpnkhgjjlionnaaGreat
namespace Go.Proofs.YtpnkhgjjlionnaaGreat
open Go.RowKit

def insRen : Go.Shelf.Ren := ⟨fun | 21 => 95 | 27 => 116 | 28 => 117 | 35 => 139 | 39 => 78 | n => n, fun | 22 => 30 | 3 => 3 | 4 => 4 | n => n, fun | n => n⟩
theorem infoInt9 : (Tryz.prog.info? 3).map (fun i => (i.zero, i.size, i.bytes)) = some (some (.int .i64 0), 1, 8) := by kernel_rfl
theorem insLays : Go.Proofs.Lays2.n21 Tryz.prog insRen := {
  mixed := by kernel_rfl
  f21 := Tryz.func95.trans (congrArg some (by kernel_rfl))
  f27 := Tryz.func116.trans (congrArg some (by kernel_rfl))
  f28 := Tryz.func117.trans (congrArg some (by kernel_rfl))
  f35 := Tryz.func139.trans (congrArg some (by kernel_rfl))
  f39 := Tryz.func78.trans (congrArg some (by kernel_rfl))
  t0 := Tryz.underlying0
  a0 := Tryz.isAgg0
  z0 := Tryz.sizeOf0
  v0 := Tryz.zeroValue0
  t3 := Tryz.underlying3
  a3 := Tryz.isAgg3
  z3 := Tryz.sizeOf3
  v3 := Tryz.zeroValue3
  t4 := Tryz.underlying4
  a4 := Tryz.isAgg4
  z4 := Tryz.sizeOf4
  v4 := Tryz.zeroValue4
  t22 := Tryz.underlying30
  a22 := Tryz.isAgg30
  z22 := Tryz.sizeOf30
  v22 := Tryz.zeroValue30
  i3 := infoInt9 }

/-! Cells stored one behind the other. -/
theorem setCells_row {g : Nat} {t : TypeId} {fr : Nat × Nat} : ∀ (vs : List Value) (o : Nat) (w : World) (C : List Value), w.heap[g]? = some (.cells C.toArray t fr) → o + vs.length ≤ C.length → (w.setCells g o vs).heap[g]? = some (.cells (C.take o ++ vs ++ C.drop (o + vs.length)).toArray t fr)
  | [], o, w, C, h, _ => by
    rw [World.setCells, h]
    simp
  | v :: vs, o, w, C, h, hl => by
    rw [World.setCells]
    simp only [List.length_cons] at hl
    have h1 : (w.setCell ⟨g, o, none⟩ v).heap[g]? = some (.cells (C.set o v).toArray t fr) := by
      simp [World.setCell, Array.getElem?_modify, h]
    rw [setCells_row vs (o + 1) _ _ h1 (by simp; omega)]
    have e1 : (C.set o v).take (o + 1) = C.take o ++ [v] := by
      rw [List.take_succ_eq_append_getElem (by simp; omega), List.take_set, List.set_eq_of_length_le (by rw [List.length_take]; omega)]
      simp
    have e2 : (C.set o v).drop (o + 1 + vs.length) = C.drop (o + (v :: vs).length) := by
      rw [List.drop_set_of_lt (by omega)]
      congr 1
      simp only [List.length_cons]
      omega
    rw [e1, e2]
    simp
theorem setCells_row2 {g : Nat} {t : TypeId} {fr : Nat × Nat} (vs us : List Value) (o p : Nat) (w : World) (C : List Value) (h : w.heap[g]? = some (.cells C.toArray t fr)) (h1 : o + vs.length ≤ C.length) (h2 : p + us.length ≤ C.length) :
    ((w.setCells g o vs).drew.setCells g p us).heap[g]? = some (.cells ((C.take o ++ vs ++ C.drop (o + vs.length)).take p ++ us ++ (C.take o ++ vs ++ C.drop (o + vs.length)).drop (p + us.length)).toArray t fr) :=
  setCells_row us p (w.setCells g o vs).drew (C.take o ++ vs ++ C.drop (o + vs.length)) (setCells_row vs o w C h h1) (by simp only [List.length_append, List.length_take, List.length_drop]; omega)
theorem gSets {w : World} {row : Option Nat} {g : Nat} (hp : row = some g ∨ w.heap.size ≤ g) : ∀ (vs : List Value) (o : Nat) (a : World), w.grownBy a row → w.grownBy (a.setCells g o vs) row
  | [], _, _, h => h
  | v :: vs, o, a, h => by
    rw [World.setCells]
    exact gSets hp vs (o + 1) _ (gSt h hp)
set_option maxRecDepth 100000 in
theorem insert_any (base b : Nat) (vL : Value) (a v : Int) (l : List Int) (w : World) (h : w.ownsRow base 3 1 vL (l.length + 1) ((a :: l).map (Value.int .i64))) (hl : 0 < l.length) (hlen : l.length ≤ 100000) (hb : Blk w b 3 #[.int .i64 v]) (hne : vL.ownBlock ≠ some b) (hbase : base ≤ w.heap.size) :
    Calls Tryz.prog 95 #[vL, .int .i64 1, .slice (some ⟨b, 0, none⟩) 1 1] w fun e w' => ∃ v', e = .returned v' ∧ w'.ownsRow base 3 1 v' (l.length + 2) ((a :: v :: l).map (Value.int .i64)) ∧ w.grownBy w' vL.ownBlock ∧ (v'.ownBlock = vL.ownBlock ∨ ∃ g, v'.ownBlock = some g ∧ w.heap.size ≤ g) := by
  rcases h.2 with ⟨_, e0⟩ | ⟨g, cap, cur, rfl, hg0, hg, hn, hcm, hcs, hct⟩
  · omega
  have hgb : b ≠ g := fun e => hne (by rw [e]; rfl)
  have hgl : g < w.heap.size := (Array.getElem?_eq_some_iff.1 hg).1
  obtain ⟨C⟩ := cur
  simp only [Nat.mul_one, List.size_toArray] at hcs hct
  have hC : C.take (l.length + 1) = (a :: l).map (Value.int .i64) := by simpa using hct
  have hcell : ∀ j u, ((a :: l).map (Value.int .i64))[j]? = some u → w.cell? ⟨g, 0 + j, none⟩ = some u := by
    intro j u hj
    rw [Nat.zero_add, cell_of_row w g j _ _ _ hg]
    rw [← hC] at hj
    have hj2 := (List.getElem?_eq_some_iff.1 hj).1
    rw [List.length_take] at hj2
    rw [List.getElem?_take_of_lt (by omega)] at hj
    simpa using hj
  have hv : ∀ j u, [Value.int .i64 v][j]? = some u → w.cell? ⟨b, 0 + j, none⟩ = some u := by
    intro j u hj
    rw [Nat.zero_add, hb.cell]
    simpa using hj
  have h1c : ∀ u ∈ (a :: l).map (Value.int .i64), u.oneCell' = true := by
    intro u hu
    obtain ⟨x, _, rfl⟩ := List.mem_map.1 hu
    rfl
  have h1v : ∀ u ∈ [Value.int .i64 v], u.oneCell' = true := by
    intro u hu
    rw [List.mem_singleton.1 hu]
    rfl
  by_cases hroom : l.length + 1 + 1 ≤ cap
  · refine (Any2.slices_Insert_int_shift insLays g 0 (l.length + 1) cap 1 b 0 1 1 ((a :: l).map (Value.int .i64)) [.int .i64 v] w (by omega) (by omega) hroom (by unfold maxLen at hcm; omega) hgb (by simp) rfl hcell
      (fun j hj => by rw [Nat.zero_add, cell_of_row w g j _ _ _ hg]; simp; omega) (fun j _ => by simp [World.frozen?, hg]) hv h1c h1v 3 3 1 cap (by unfold Blk at hb; simp [World.shape?, hb]) (by simp [World.shape?, hg, hcs]) (by omega) (hb.frozen 0) (hb.frozen 1)).mono ?_
    rintro e w' ⟨rfl, rfl⟩
    have h1 := setCells_row ((((a :: l).map (Value.int .i64))).drop 1) (0 + (1 + 1)) w.drew C hg (by simp; omega)
    have h2 := setCells_row [Value.int .i64 v] (0 + 1) _ _ h1 (by simp; omega)
    refine ⟨_, rfl, ⟨by simp, .inr ⟨g, cap, _, rfl, hg0, h2, hroom, hcm, ?_, ?_⟩⟩, gSets (.inl rfl) _ _ _ (gSets (.inl rfl) _ _ _ (gDrew (World.grownBy.refl _ _))), .inl rfl⟩
    · simp
      omega
    · simp only [List.map_cons, List.drop_succ_cons, List.drop_zero, Nat.zero_add, List.length_cons, List.length_nil, Nat.mul_one]
      obtain ⟨c0, C', rfl⟩ : ∃ c0 C', C = c0 :: C' := List.exists_cons_of_ne_nil (by rintro rfl; simp at hcs; omega)
      simp only [List.take_succ_cons, List.map_cons, List.cons.injEq] at hC
      obtain ⟨rfl, hC'⟩ := hC
      obtain ⟨c1, C'', rfl⟩ : ∃ c1 C'', C' = c1 :: C'' := List.exists_cons_of_ne_nil (by rintro rfl; simp at hcs; omega)
      simp
  · refine (Any2.slices_Insert_int_grow insLays g 0 (l.length + 1) cap 1 b 0 1 1 ((a :: l).map (Value.int .i64)) [.int .i64 v] w (by omega) (by omega) hn (by omega) (by omega) (by simp) rfl hcell hv h1c h1v).mono ?_
    rintro e w' ⟨rfl, rfl⟩
    obtain ⟨k, hk⟩ : ∃ k, grownCap w (l.length + 1 + 1) cap (insRen.t 3) = k := ⟨_, rfl⟩
    have hk1 : l.length + 1 + 1 ≤ k := by rw [← hk]; exact grownCap_ge ..
    have hk2 : k ≤ maxLen := by rw [← hk]; exact grownCap_le_maxLen _ _ _ _ (by unfold maxLen; omega)
    rw [hk]
    have hz : ∀ n, (Builtin.zeroCells (Value.int .i64 0).cells n) = (List.replicate n (Value.int .i64 0)).toArray := by
      intro n
      apply Array.ext'
      simp [Builtin.zeroCells, Value.cells, Nat.mod_one, List.map_const']
    rw [hz, hz]
    have e0 : (List.take 1 ((a :: l).map (Value.int .i64))).toArray ++ (List.replicate (l.length + 1 + 1 - 1) (Value.int .i64 0)).toArray ++ (List.replicate (k - (l.length + 1 + 1)) (Value.int .i64 0)).toArray = (([Value.int .i64 a] ++ List.replicate (l.length + 1) (Value.int .i64 0)) ++ List.replicate (k - (l.length + 1 + 1)) (Value.int .i64 0)).toArray := by
      simp
    rw [e0]
    have h0 := heap_alloc_new w (.cells (([Value.int .i64 a] ++ List.replicate (l.length + 1) (Value.int .i64 0)) ++ List.replicate (k - (l.length + 1 + 1)) (Value.int .i64 0)).toArray (insRen.t 3))
    have h2 := setCells_row2 [Value.int .i64 v] ((((a :: l).map (Value.int .i64))).drop 1) 1 (1 + 1) (w.alloc (.cells (([Value.int .i64 a] ++ List.replicate (l.length + 1) (Value.int .i64 0)) ++ List.replicate (k - (l.length + 1 + 1)) (Value.int .i64 0)).toArray (insRen.t 3))).drew _ h0 (by simp; omega) (by simp; omega)
    refine ⟨_, rfl, ⟨by simp, .inr ⟨w.heap.size, k, _, rfl, hbase, h2, hk1, hk2, ?_, ?_⟩⟩, gSets (.inr (Nat.le_refl _)) _ _ _ (gDrew (gSets (.inr (Nat.le_refl _)) _ _ _ (gDrew (gAlloc (World.grownBy.refl _ _) _)))), .inr ⟨_, rfl, Nat.le_refl _⟩⟩
    · simp
      omega
    · simp
end Go.Proofs.YtpnkhgjjlionnaaGreat
namespace Go.Proofs.YtpnkhgjjlionnaaGreat
open Go.RowKit

/-- Of the blocks that lay there only those of S may be others now. -/
structure Kept (S : Nat → Prop) (w w' : World) : Prop where
  os : w'.os = w.os
  tape : w'.tape = w.tape
  output : w'.output = w.output
  size : w.heap.size ≤ w'.heap.size
  block : ∀ k, k < w.heap.size → ¬ S k → w'.heap[k]? = w.heap[k]?
section
variable {S S' : Nat → Prop} {a b c w w' : World}
theorem Kept.refl (S : Nat → Prop) (w : World) : Kept S w w := ⟨rfl, rfl, rfl, Nat.le_refl _, fun _ _ _ => rfl⟩
theorem Kept.trans (h : Kept S a b) (k : Kept S b c) : Kept S a c :=
  ⟨k.os.trans h.os, k.tape.trans h.tape, k.output.trans h.output, Nat.le_trans h.size k.size, fun i hi hs => (k.block i (Nat.lt_of_lt_of_le hi h.size) hs).trans (h.block i hi hs)⟩
theorem Kept.mono (h : Kept S w w') (hs : ∀ k, S k → S' k) : Kept S' w w' := ⟨h.os, h.tape, h.output, h.size, fun k hk hn => h.block k hk (fun x => hn (hs k x))⟩
theorem Kept.of (h : Below w.heap.size w w') : Kept S w w' := ⟨h.os, h.tape, h.output, h.size, fun k hk _ => h.block k hk⟩
theorem Kept.below {B : Nat} (h : Kept S w w') (hs : ∀ k, S k → B ≤ k) (hB : B ≤ w.heap.size) : Below B w w' := ⟨h.os, h.tape, h.output, h.size, fun k hk => h.block k (by omega) (fun x => by have := hs k x; omega)⟩
theorem Kept.drew (h : Kept S a w) : Kept S a w.drew := ⟨h.os, h.tape, h.output, h.size, h.block⟩
theorem Kept.alloc (h : Kept S a w) (o : Obj) : Kept S a (w.alloc o) :=
  ⟨h.os, h.tape, h.output, by rw [World.size_alloc]; have := h.size; omega, fun k hk hs => (Below.heap_alloc w o k (Nat.lt_of_lt_of_le hk h.size)).trans (h.block k hk hs)⟩
theorem Kept.setCell (h : Kept S a w) {p : Addr} (hp : S p.block ∨ a.heap.size ≤ p.block) (u : Value) : Kept S a (w.setCell p u) := by
  have hz : (w.setCell p u).heap.size = w.heap.size := by simp [World.setCell]
  exact ⟨h.os, h.tape, h.output, by rw [hz]; exact h.size, fun k hk hs => (Below.heap_setCell w p u k (fun e => by
    subst e
    rcases hp with hp | hp
    · exact hs hp
    · omega)).trans (h.block k hk hs)⟩
theorem Kept.grown (h : Kept S a w) {row : Option Nat} (hg : w.grownBy w' row) (hr : ∀ k, row = some k → S k ∨ a.heap.size ≤ k) : Kept S a w' :=
  ⟨hg.os.trans h.os, hg.tape.trans h.tape, hg.output.trans h.output, Nat.le_trans h.size hg.size, fun k hk hs => (hg.block k (Nat.lt_of_lt_of_le hk h.size) (fun e => by
    rcases hr k e.symm with x | x
    · exact hs x
    · omega)).trans (h.block k hk hs)⟩
theorem Kept.frown (h : Kept S a b) (k : Kept S' b c) (hs : ∀ k, S' k → S k ∨ a.heap.size ≤ k) : Kept S a c :=
  ⟨k.os.trans h.os, k.tape.trans h.tape, k.output.trans h.output, Nat.le_trans h.size k.size, fun i hi hn => (k.block i (Nat.lt_of_lt_of_le hi h.size) (fun x => by
    rcases hs i x with x | x
    · exact hn x
    · omega)).trans (h.block i hi hn)⟩
theorem own_same {base n s : Nat} {e : TypeId} {v : Value} {xs : List Value} (h : w.ownsRow base e s v n xs) (hs : ∀ k, v.ownBlock = some k → w'.heap[k]? = w.heap[k]?) : w'.ownsRow base e s v n xs := by
  obtain ⟨h1, h2 | ⟨g, cap, cur, rfl, a1, a2, a3⟩⟩ := h
  · exact ⟨h1, .inl h2⟩
  · exact ⟨h1, .inr ⟨g, cap, cur, rfl, a1, (hs g rfl).trans a2, a3⟩⟩
theorem blk_same {q : Nat} {t : TypeId} {cs : Array Value} (h : Blk w q t cs) (hs : w'.heap[q]? = w.heap[q]?) : Blk w' q t cs := hs.trans h
end
end Go.Proofs.YtpnkhgjjlionnaaGreat
namespace Go.Proofs.YtpnkhgjjlionnaaGreat
open Go.RowKit

/-- Values own blocks of their own, each another one. -/
def Own2 (l : List Value) : Prop := (∀ v ∈ l, ∃ g, v.ownBlock = some g) ∧ (l.map Value.ownBlock).Nodup
theorem Own2.cons_new {l : List Value} (h : Own2 l) {v : Value} {g : Nat} (hv : v.ownBlock = some g) (hn : ∀ u ∈ l, ∀ j, u.ownBlock = some j → j ≠ g) : Own2 (v :: l) := by
  refine ⟨fun u hu => ?_, ?_⟩
  · rcases List.mem_cons.1 hu with rfl | hu
    · exact ⟨g, hv⟩
    · exact h.1 u hu
  · rw [List.map_cons, List.nodup_cons]
    refine ⟨fun hm => ?_, h.2⟩
    obtain ⟨u, hu, e⟩ := List.mem_map.1 hm
    exact hn u hu g (by rw [e, hv]) rfl
theorem Own2.tail {l : List Value} {v : Value} (h : Own2 (v :: l)) : Own2 l := ⟨fun u hu => h.1 u (List.mem_cons_of_mem _ hu), (List.nodup_cons.1 h.2).2⟩
theorem Own2.ne {l : List Value} {v u : Value} (h : Own2 (v :: l)) (hu : u ∈ l) : u.ownBlock ≠ v.ownBlock := fun e => (List.nodup_cons.1 h.2).1 (List.mem_map.2 ⟨u, hu, e⟩)
/-- Block b is a walk that is on its way; all that it owns lies at base or behind. -/
structure WayAt (w : World) (base g b : Nat) (vC vL vW : Value) (vs : List Value) (n : Nat) (s : WSt) : Prop where
  blk : Blk w b 154 #[.pointer (some ⟨g, 0, none⟩), vC, vL, vW]
  hb : base ≤ b
  C : ∃ bs, w.ownsRow base 4 1 vC n (bools bs) ∧ BitsOf bs n s.come
  L : w.ownsRow base 3 1 vL s.loop.length (intsV s.loop)
  W : w.ownsRow base 30 1 vW s.wait.length vs
  rows : ∀ (i : Nat) (u : Value) (r : List Int), vs[i]? = some u → s.wait[i]? = some r → w.ownsRow base 3 1 u r.length (intsV r)
  apart : Own2 (vL :: vs)
  nn : s.loop ≠ []
section
variable {w w' : World} {base g b n : Nat} {vC vL vW : Value} {vs : List Value} {s : WSt}
theorem WayAt.vlen (h : WayAt w base g b vC vL vW vs n s) : vs.length = s.wait.length := by
  have := h.W.1
  omega
theorem WayAt.ble (h : WayAt w base g b vC vL vW vs n s) : base ≤ w.heap.size := Nat.le_trans h.hb (Nat.le_of_lt h.blk.lt)
theorem WayAt.below (h : WayAt w base g b vC vL vW vs n s) (hb : Below w.heap.size w w') : WayAt w' base g b vC vL vW vs n s :=
  ⟨h.blk.below hb h.blk.lt, h.hb, by obtain ⟨bs, h1, h2⟩ := h.C; exact ⟨bs, own_below h1 hb, h2⟩, own_below h.L hb, own_below h.W hb, fun i u r hu hr => own_below (h.rows i u r hu hr) hb, h.apart, h.nn⟩
theorem WayAt.alloc (h : WayAt w base g b vC vL vW vs n s) (o : Obj) : WayAt (w.alloc o) base g b vC vL vW vs n s := h.below ((Below.refl _ _).alloc (Nat.le_refl _) _)
theorem WayAt.drew (h : WayAt w base g b vC vL vW vs n s) : WayAt w.drew base g b vC vL vW vs n s := h.below (Below.refl _ _).drew
/-- A block of another kind is written. -/
theorem WayAt.far (h : WayAt w base g b vC vL vW vs n s) {q j : Nat} {t : TypeId} {cs : Array Value} {u : Value} (hq : Blk w q t cs) (h1 : t ≠ 154) (h2 : t ≠ 4) (h3 : t ≠ 3) (h4 : t ≠ 30) : WayAt (w.setCell ⟨q, j, none⟩ u) base g b vC vL vW vs n s :=
  ⟨h.blk.far (fun e => Blk.ne_ hq h.blk h1 e.symm) _, h.hb, by obtain ⟨bs, a, c⟩ := h.C; exact ⟨bs, own_alloc_st a hq (Ne.symm h2), c⟩, own_alloc_st h.L hq (Ne.symm h3), own_alloc_st h.W hq (Ne.symm h4), fun i x r hu hr => own_alloc_st (h.rows i x r hu hr) hq (Ne.symm h3), h.apart, h.nn⟩
theorem WayAt.mark (h : WayAt w base g b vC vL vW vs n s) {gC capC v : Nat} (hC : vC = .slice (some ⟨gC, 0, none⟩) n capC) (hv : v < n) : WayAt (w.setCell ⟨gC, v, none⟩ (.bool true)) base g b vC vL vW vs n ⟨s.come ++ [(v : Int)], s.loop, s.wait⟩ := by
  subst hC
  obtain ⟨bs, h1, h2⟩ := h.C
  obtain ⟨k1, k2⟩ := h1.stored v (.bool true)
  exact ⟨h.blk.grown k2 (fun e => own_blk_ne h1 h.blk (by decide) e.symm), h.hb, ⟨bs.set v true, by rw [← bools_set]; exact k1, h2.mark hv⟩, h.L.kept k2 (own_own_ne h.L h1 (by decide)), h.W.kept k2 (own_own_ne h.W h1 (by decide)),
    fun i u r hu hr => (h.rows i u r hu hr).kept k2 (own_own_ne (h.rows i u r hu hr) h1 (by decide)), h.apart, h.nn⟩
/-- The loop is another one. -/
theorem WayAt.reloop (h : WayAt w base g b vC vL vW vs n s) {v' : Value} {l : List Int} (hg : w.grownBy w' vL.ownBlock) (hr : w'.ownsRow base 3 1 v' l.length (intsV l)) (hat : v'.ownBlock = vL.ownBlock ∨ ∃ q, v'.ownBlock = some q ∧ w.heap.size ≤ q) (hl : l ≠ []) :
    WayAt (w'.setCell ⟨b, 2, none⟩ v') base g b vC v' vW vs n ⟨s.come, l, s.wait⟩ := by
  have k0 := h.blk.grown hg (fun e => own_blk_ne h.L h.blk (by decide) e.symm)
  obtain ⟨bs, h1, h2⟩ := h.C
  have lt : ∀ u ∈ vs, ∀ j, u.ownBlock = some j → j < w.heap.size := by
    intro u hu j hj
    obtain ⟨i, hi, e⟩ := List.getElem_of_mem hu
    have hi2 : i < s.wait.length := by rw [← h.vlen]; exact hi
    exact ((h.rows i u s.wait[i] (by rw [List.getElem?_eq_getElem hi, e]) (List.getElem?_eq_getElem hi2)).lt j hj).2
  refine ⟨by simpa using k0.set_ 2 v', h.hb, ⟨bs, own_alloc_st (h1.kept hg (own_own_ne h1 h.L (by decide))) k0 (by decide), h2⟩, own_alloc_st hr k0 (by decide), own_alloc_st (h.W.kept hg (own_own_ne h.W h.L (by decide))) k0 (by decide), ?_, ?_, hl⟩
  · intro i u r hu hr'
    exact own_alloc_st ((h.rows i u r hu hr').kept hg (.inr (h.apart.ne (List.mem_of_getElem? hu)))) k0 (by decide)
  · rcases hat with e | ⟨q, e, hq⟩
    · refine ⟨fun u hu => ?_, ?_⟩
      · rcases List.mem_cons.1 hu with rfl | hu
        · obtain ⟨j, hj⟩ := h.apart.1 vL (List.mem_cons_self ..)
          exact ⟨j, e.trans hj⟩
        · exact h.apart.1 u (List.mem_cons_of_mem _ hu)
      · have := h.apart.2
        rw [List.map_cons] at this ⊢
        rw [e]
        exact this
    · exact h.apart.tail.cons_new e (fun u hu j hj e2 => by
        have := lt u hu j hj
        omega)
/-- A part of the loop, as it is read. -/
theorem WayAt.part {gl m cap : Nat} (h : WayAt w base g b vC (.slice (some ⟨gl, 0, none⟩) m cap) vW vs n s) (hm : s.loop.length = m) (a k : Nat) (hak : a + k ≤ m) : ∀ j u, (((s.loop.drop a).take k).map (Value.int .i64))[j]? = some u → w.cell? ((⟨gl, a, none⟩ : Addr).add j) = some u := by
  intro j u hj
  have hl := h.L
  rw [hm] at hl
  rw [List.getElem?_map] at hj
  have hj' : j < k := by
    rcases Nat.lt_or_ge j k with h | h
    · exact h
    · rw [List.getElem?_eq_none (by rw [List.length_take]; omega)] at hj
      cases hj
  rw [Addr.add_lit]
  show w.cell? ⟨gl, a + j, none⟩ = some u
  rw [hl.cellAt (a + j) (by omega), ← hj]
  simp [intsV, hj', List.getElem?_drop]
theorem own_one {q : Nat} {v : Int} (h : Blk w q 3 #[.int .i64 v]) (hb : base ≤ q) : w.ownsRow base 3 1 (.slice (some ⟨q, 0, none⟩) 1 1) 1 [.int .i64 v] :=
  ⟨rfl, .inr ⟨q, 1, _, rfl, hb, h, Nat.le_refl _, by decide, rfl, rfl⟩⟩
/-- One loop more waits. -/
theorem WayAt.rewait (h : WayAt w base g b vC vL vW vs n s) {w4 w5 : World} {tmp : Obj} {u v5 : Value} {l : List Int} {q : Nat} (hb4 : Below w.heap.size w w4) (hr4 : w4.ownsRow base 3 1 u l.length (intsV l)) (hu : u.ownBlock = some q) (hq : w.heap.size ≤ q)
    (hg5 : (w4.alloc tmp).grownBy w5 vW.ownBlock) (hr5 : w5.ownsRow base 30 1 v5 (s.wait.length + 1) (vs ++ [u])) : WayAt (w5.setCell ⟨b, 3, none⟩ v5) base g b vC vL v5 (vs ++ [u]) n ⟨s.come, s.loop, s.wait ++ [l]⟩ := by
  have h4 := (h.below hb4).alloc tmp
  have ne : ∀ {e : TypeId} {k : Nat} {x : Value} {xs : List Value}, e ≠ 30 → (w4.alloc tmp).ownsRow base e 1 x k xs → (w5.setCell ⟨b, 3, none⟩ v5).ownsRow base e 1 x k xs ∨ e = 154 := by
    intro e k x xs he hx
    by_cases hw : e = 154
    · exact .inr hw
    · exact .inl (own_alloc_st (hx.kept hg5 (own_own_ne hx h4.W he)) (h4.blk.grown hg5 (fun e => own_blk_ne h4.W h4.blk (by decide) e.symm)) hw)
  have k5 := h4.blk.grown hg5 (fun e => own_blk_ne h4.W h4.blk (by decide) e.symm)
  have hl := h.vlen
  have lt : ∀ x ∈ vL :: vs, ∀ j, x.ownBlock = some j → j < w.heap.size := by
    intro x hx j hj
    rcases List.mem_cons.1 hx with rfl | hx
    · exact (h.L.lt j hj).2
    · obtain ⟨i, hi, e⟩ := List.getElem_of_mem hx
      have hi2 : i < s.wait.length := by rw [← hl]; exact hi
      exact ((h.rows i x s.wait[i] (by rw [List.getElem?_eq_getElem hi, e]) (List.getElem?_eq_getElem hi2)).lt j hj).2
  refine ⟨by simpa using k5.set_ 3 v5, h.hb, ?_, ?_, ?_, ?_, ?_, h.nn⟩
  · obtain ⟨bs, h1, h2⟩ := h4.C
    rcases ne (by decide) h1 with h1 | h1
    · exact ⟨bs, h1, h2⟩
    · exact absurd h1 (by decide)
  · rcases ne (by decide) h4.L with h1 | h1
    · exact h1
    · exact absurd h1 (by decide)
  · rw [List.length_append, List.length_singleton]
    exact own_alloc_st hr5 k5 (by decide)
  · intro i x r hx hr
    rcases Nat.lt_or_ge i vs.length with hi | hi
    · rw [List.getElem?_append_left hi] at hx
      rw [List.getElem?_append_left (by omega)] at hr
      rcases ne (by decide) (h4.rows i x r hx hr) with h1 | h1
      · exact h1
      · exact absurd h1 (by decide)
    · rw [List.getElem?_append_right hi] at hx
      rw [List.getElem?_append_right (by omega)] at hr
      have hi0 : i - vs.length = 0 := by
        have := (List.getElem?_eq_some_iff.1 hx).1
        simp at this
        omega
      rw [hi0] at hx
      rw [← hl, hi0] at hr
      simp only [List.getElem?_cons_zero, Option.some.injEq] at hx hr
      subst hx
      subst hr
      rcases ne (by decide) (hr4.alloc tmp) with h1 | h1
      · exact h1
      · exact absurd h1 (by decide)
  · have ha : Own2 (u :: vL :: vs) := h.apart.cons_new hu (fun x hx j hj => by
      have := lt x hx j hj
      omega)
    have hp : (u :: vL :: vs).Perm (vL :: (vs ++ [u])) := (List.Perm.swap vL u vs).trans (List.Perm.cons _ (List.perm_append_singleton u vs).symm)
    exact ⟨fun x hx => ha.1 x (hp.mem_iff.2 hx), (hp.map _).nodup_iff.1 ha.2⟩
/-- The loop that waits last is gone on with. -/
theorem WayAt.pop (h : WayAt w base g b vC vL vW vs n s) {vs' : List Value} {u : Value} {ws : List (List Int)} {l : List Int} {aW : Option Addr} {k cW : Nat} (hvs : vs = vs' ++ [u]) (hws : s.wait = ws ++ [l]) (hW : vW = .slice aW (k + 1) cW) (hk : ws.length = k) (hl : l ≠ [])
    (hg : w.grownBy w' (some b)) (hb' : Blk w' b 154 #[.pointer (some ⟨g, 0, none⟩), vC, u, .slice aW k cW]) : WayAt w' base g b vC u (.slice aW k cW) vs' n ⟨s.come, l, ws⟩ := by
  subst hvs hW
  have hlen := h.vlen
  rw [hws] at hlen
  simp only [List.length_append, List.length_singleton] at hlen
  have hW := h.W
  rw [hws, List.length_append, List.length_singleton, hk] at hW
  have hW2 : w.ownsRow base 30 1 (.slice aW k cW) k vs' := by
    rcases hW.2 with ⟨_, h0⟩ | ⟨q, cap, cur, e, h1, h2, h3, h4, h5, h6⟩
    · omega
    · injection e with e1 e2 e3
      subst e1 e3
      refine ⟨by omega, .inr ⟨q, cW, cur, rfl, h1, h2, by omega, h4, h5, ?_⟩⟩
      have : (cur.toList.take ((k + 1) * 1)).take (k * 1) = (vs' ++ [u]).take (k * 1) := by rw [h6]
      rw [List.take_take, show min (k * 1) ((k + 1) * 1) = k * 1 from by omega] at this
      rw [this, show k * 1 = vs'.length from by omega, List.take_left]
  obtain ⟨bs, c1, c2⟩ := h.C
  have st : ∀ {e : TypeId} {k' : Nat} {x : Value} {xs : List Value}, e ≠ 154 → w.ownsRow base e 1 x k' xs → w'.ownsRow base e 1 x k' xs := fun he hx => hx.kept hg (.inr (own_blk_ne hx h.blk he))
  refine ⟨hb', h.hb, ⟨bs, st (by decide) c1, c2⟩, ?_, ?_, ?_, ?_, hl⟩
  · refine st (by decide) (h.rows vs'.length u l (by simp) ?_)
    rw [hws, show vs'.length = ws.length from by omega]
    simp
  · rw [hk]
    exact st (by decide) hW2
  · intro i x r hx hr
    have hi := (List.getElem?_eq_some_iff.1 hx).1
    have hi2 := (List.getElem?_eq_some_iff.1 hr).1
    refine st (by decide) (h.rows i x r (by rw [List.getElem?_append_left hi]; exact hx) ?_)
    rw [hws, List.getElem?_append_left hi2]
    exact hr
  · have hp : (vs' ++ [u]).Perm (u :: vs') := List.perm_append_singleton u vs'
    have ha := h.apart.tail
    exact ⟨fun x hx => ha.1 x (hp.mem_iff.2 hx), (hp.map _).nodup_iff.1 ha.2⟩
/-- The blocks of a walk that is on its way. -/
def OwnA (b : Nat) (vC vL vW : Value) (vs : List Value) (k : Nat) : Prop := k = b ∨ vC.ownBlock = some k ∨ vL.ownBlock = some k ∨ vW.ownBlock = some k ∨ ∃ v ∈ vs, v.ownBlock = some k
/-- What a step may change, and whose the blocks are then. -/
structure Kind (w w' : World) (b : Nat) (vC vL vW : Value) (vs : List Value) (vL' vW' : Value) (vs' : List Value) : Prop where
  kept : Kept (OwnA b vC vL vW vs) w w'
  own : ∀ k, OwnA b vC vL' vW' vs' k → OwnA b vC vL vW vs k ∨ w.heap.size ≤ k
theorem own_reloop {b : Nat} {vC vL vL' vW : Value} {vs : List Value} {z : Nat} (h : vL'.ownBlock = vL.ownBlock ∨ ∃ q, vL'.ownBlock = some q ∧ z ≤ q) (k : Nat) (hk : OwnA b vC vL' vW vs k) : OwnA b vC vL vW vs k ∨ z ≤ k := by
  rcases hk with e | e | e | e | e
  · exact .inl (.inl e)
  · exact .inl (.inr (.inl e))
  · rcases h with h | ⟨q, h, hq⟩
    · exact .inl (.inr (.inr (.inl (by rw [← h]; exact e))))
    · rw [h] at e
      cases e
      exact .inr hq
  · exact .inl (.inr (.inr (.inr (.inl e))))
  · exact .inl (.inr (.inr (.inr (.inr e))))
theorem WayAt.own_ge (h : WayAt w base g b vC vL vW vs n s) {k : Nat} (hk : OwnA b vC vL vW vs k) : base ≤ k ∧ k < w.heap.size := by
  rcases hk with rfl | e | e | e | ⟨v, hv, e⟩
  · exact ⟨h.hb, h.blk.lt⟩
  · obtain ⟨bs, h1, _⟩ := h.C
    exact h1.lt k e
  · exact h.L.lt k e
  · exact h.W.lt k e
  · obtain ⟨i, hi, e2⟩ := List.getElem_of_mem hv
    have hi2 : i < s.wait.length := by rw [← h.vlen]; exact hi
    exact (h.rows i v s.wait[i] (by rw [List.getElem?_eq_getElem hi, e2]) (List.getElem?_eq_getElem hi2)).lt k e
theorem WayAt.same (h : WayAt w base g b vC vL vW vs n s) (hs : ∀ k, OwnA b vC vL vW vs k → w'.heap[k]? = w.heap[k]?) : WayAt w' base g b vC vL vW vs n s :=
  ⟨blk_same h.blk (hs b (.inl rfl)), h.hb, by obtain ⟨bs, h1, h2⟩ := h.C; exact ⟨bs, own_same h1 (fun k e => hs k (.inr (.inl e))), h2⟩, own_same h.L (fun k e => hs k (.inr (.inr (.inl e)))), own_same h.W (fun k e => hs k (.inr (.inr (.inr (.inl e))))),
    fun i u r hu hr => own_same (h.rows i u r hu hr) (fun k e => hs k (.inr (.inr (.inr (.inr ⟨u, List.mem_of_getElem? hu, e⟩))))), h.apart, h.nn⟩
/-- A step is laid in its cell. -/
theorem WayAt.out4 (h : WayAt w base g b vC vL vW vs n s) {w0 : World} {q : Nat} {x0 x1 x2 x3 : Value} (hq : Blk w q 82 #[x0, x1, x2, x3]) {S : Nat → Prop} (hB : Kept S w0 w) (hbq : w0.heap.size ≤ q) (u0 u1 u2 u3 : Value) :
    WayAt ((((w.setCell ⟨q, 0, none⟩ u0).setCell ⟨q, 1, none⟩ u1).setCell ⟨q, 2, none⟩ u2).setCell ⟨q, 3, none⟩ u3) base g b vC vL vW vs n s ∧ Blk ((((w.setCell ⟨q, 0, none⟩ u0).setCell ⟨q, 1, none⟩ u1).setCell ⟨q, 2, none⟩ u2).setCell ⟨q, 3, none⟩ u3) q 82 #[u0, u1, u2, u3] ∧ Kept S w0 ((((w.setCell ⟨q, 0, none⟩ u0).setCell ⟨q, 1, none⟩ u1).setCell ⟨q, 2, none⟩ u2).setCell ⟨q, 3, none⟩ u3) := by
  have q1 := hq.set_ 0 u0
  have q2 := q1.set_ 1 u1
  have q3 := q2.set_ 2 u2
  have q4 := q3.set_ 3 u3
  exact ⟨(((h.far hq (by decide) (by decide) (by decide) (by decide)).far q1 (by decide) (by decide) (by decide) (by decide)).far q2 (by decide) (by decide) (by decide) (by decide)).far q3 (by decide) (by decide) (by decide) (by decide), by simpa using q4, (((hB.setCell (p := ⟨q, 0, none⟩) (.inr hbq) _).setCell (p := ⟨q, 1, none⟩) (.inr hbq) _).setCell (p := ⟨q, 2, none⟩) (.inr hbq) _).setCell (p := ⟨q, 3, none⟩) (.inr hbq) _⟩
end
end Go.Proofs.YtpnkhgjjlionnaaGreat
namespace Go.Proofs.YtpnkhgjjlionnaaGreat
open Go.RowKit Go.Maps

theorem own_form {w : World} {base n : Nat} {t : TypeId} {v : Value} {xs : List Value} (h : w.ownsRow base t 1 v n xs) (hn : 0 < n) : ∃ g cap, v = .slice (some ⟨g, 0, none⟩) n cap ∧ g < w.heap.size ∧ n ≤ cap ∧ cap ≤ 9223372036854775807 := by
  rcases h.2 with ⟨_, h0⟩ | ⟨g, cap, cur, rfl, _, hg, h1, h2, _⟩
  · omega
  · exact ⟨g, cap, rfl, (Array.getElem?_eq_some_iff.1 hg).1, h1, by unfold maxLen at h2; omega⟩
theorem four {w : World} {b : Nat} {t : TypeId} {x0 x1 x2 x3 : Value} (h : Blk w b t #[x0, x1, x2, x3]) : b < w.heap.size ∧ w.cell? ⟨b, 0, none⟩ = some x0 ∧ w.cell? ⟨b, 1, none⟩ = some x1 ∧ w.cell? ⟨b, 2, none⟩ = some x2 ∧ w.cell? ⟨b, 3, none⟩ = some x3 ∧ w.frozen? ⟨b, 2, none⟩ = false ∧ w.frozen? ⟨b, 3, none⟩ = false := ⟨h.lt, h.cell 0, h.cell 1, h.cell 2, h.cell 3, h.frozen 2, h.frozen 3⟩
set_option maxRecDepth 100000 in
set_option maxHeartbeats 2000000 in
theorem stepC_any {w : World} {base g b n : Nat} {vC vL vW : Value} {vs : List Value} {s : WSt} {T : List Tr} (hT : Tab w g n T) (h : WayAt w base g b vC vL vW vs n s) {x y : Int} {r : List Int} (hl : s.loop = x :: y :: r)
    (hx : -1 ≤ x ∧ x ≤ 10000) (hy : -1 ≤ y ∧ y ≤ 10000) (hc : 0 ≤ facI T (x, y)) (hv : vertI T (facI T (x, y)) ∉ s.come) (hlen : r.length ≤ 50000) (_hwl : s.wait.length ≤ 50000) :
    Calls Tryz.prog 66 #[.pointer (some ⟨b, 0, none⟩)] w fun e w' => e = .returned (.tuple #[.agg #[.int .u8 67, .int .i64 (facI T (x, y)), .int .i64 s.wait.length, .int .i64 (r.length + 2 : Nat)], .bool true]) ∧
      (∃ vL', WayAt w' base g b vC vL' vW vs n ⟨s.come ++ [vertI T (facI T (x, y))], x :: vertI T (facI T (x, y)) :: y :: r, s.wait⟩ ∧ Kind w w' b vC vL vW vs vL' vW vs) := by
  have hL := h.L
  rw [hl] at hL
  obtain ⟨m, hm⟩ : ∃ m, (x :: y :: r).length = m := ⟨_, rfl⟩
  rw [hm] at hL
  have hm2 : r.length + 2 = m := hm
  obtain ⟨gl, cap, rfl, hgl, hcap, hcap2⟩ := own_form hL (by omega)
  obtain ⟨aW, cW, rfl⟩ := ownsRow_slice h.W
  obtain ⟨lb, c0, c1, c2, c3, f2, f3⟩ := four h.blk
  have hs0 : (intsV (x :: y :: r))[0]? = some (.int .i64 x) := rfl
  have l0 : w.cell? ⟨gl, 0, none⟩ = some (.int .i64 x) := by rw [hL.cellAt 0 (by omega)]; exact hs0
  have l1 : w.cell? ⟨gl, 1, none⟩ = some (.int .i64 y) := by rw [hL.cellAt 1 (by omega)]; rfl
  have hnil := fun (W : World) => Lib.run_eql_slice_nil (P := Tryz.prog) W 30 3 (some ⟨gl, 0, none⟩) m cap 0 0 Tryz.underlying30
  obtain ⟨c, hce⟩ : ∃ c : Nat, facI T (x, y) = (c : Int) := ⟨(facI T (x, y)).toNat, by omega⟩
  have hcl := (facI_some hce).1
  have hvb := vertN_in hT.inr hcl
  obtain ⟨v, hve⟩ : ∃ v : Nat, vertI T (facI T (x, y)) = (v : Int) := ⟨(vertN T c).toNat, by rw [hce, vertI_nat hcl]; omega⟩
  have hvn : v < n := by rw [hce, vertI_nat hcl] at hve; omega
  obtain ⟨bs, hC, hbs⟩ := h.C
  obtain ⟨gC, capC, rfl, hgC, hcC, -⟩ := own_form hC (by omega)
  have hbv : bs[v]? = some false := by
    have hvl : v < bs.length := by rw [hbs.1]; exact hvn
    cases hb : bs[v] with
    | false => rw [List.getElem?_eq_getElem hvl, hb]
    | true => exact absurd ((hbs.2 v hvn).1 (by rw [List.getElem?_eq_getElem hvl, hb])) (by rw [← hve]; exact hv)
  have cv : w.cell? ⟨gC, v, none⟩ = some (.bool false) := by
    rw [hC.cellAt v (by omega)]
    simp [bools, hbv]
  have cf := hC.frozenAt v
  have hn1 : gC ≠ b := fun e => own_blk_ne hC h.blk (by decide) (by rw [← e]; rfl)
  have hn2 : b ≠ gC := fun e => hn1 e.symm
  have hbg : base ≤ gC := (hC.lt gC rfl).1
  have HF := Lib.hid (fun (W : World) (hW : Below w.heap.size w W) => facing_any g n x y T W (hT.below hW) hx hy)
  have HV := Lib.hid (fun (W : World) (hW : Below w.heap.size w W) => (show Calls Tryz.prog 22 #[.pointer (some ⟨g, 0, none⟩), .int .i64 (c : Int)] W fun e w' => e = .returned (.int .i64 (v : Int)) ∧ W = w' from by
    have := vertex_any g n (facI T (x, y)) T W (hT.below hW).toTabS
    rw [hve, hce] at this
    exact this))
  rw [hve]
  rw [hce] at HF ⊢
  have HL := Lib.hid hl
  rw [hm2]
  obtain ⟨wl, hwe⟩ : ∃ wl, s.wait.length = wl := ⟨_, rfl⟩
  rw [hwe] at c3 h ⊢
  have H := Lib.hid h
  have HM := Lib.hid hm
  have hm3 : m ≤ 50002 := by omega
  have hm4 : 2 ≤ m := by omega
  clear h hT hl hL hs0 hm hm2 hlen hce hcl hvb hve hC hbs hbv hv hc
  go_enter Tryz.func66, Tryz.ntmps66
  go_wp2
  have hA := H.out.alloc (.cells #[.int .u8 0, .int .i64 0, .int .i64 0, .int .i64 0] 82)
  have hB0 : Below w.heap.size w (w.alloc (.cells #[.int .u8 0, .int .i64 0, .int .i64 0, .int .i64 0] 82)) := (Below.refl _ _).alloc (Nat.le_refl _) _
  have b0 := Blk.new w 82 #[.int .u8 0, .int .i64 0, .int .i64 0, .int .i64 0]
  have hszA : w.heap.size < (w.alloc (.cells #[.int .u8 0, .int .i64 0, .int .i64 0, .int .i64 0] 82)).heap.size := by simp
  generalize w.alloc (.cells #[.int .u8 0, .int .i64 0, .int .i64 0, .int .i64 0] 82) = wA at *
  obtain ⟨lb', c0', c1', c2', c3', -⟩ := four hA.blk
  have l0' := (hB0.cell (p := ⟨gl, 0, none⟩) hgl).trans l0
  have l1' := (hB0.cell (p := ⟨gl, 1, none⟩) hgl).trans l1
  have HA := Lib.hid hA
  have HB0 := Lib.hid hB0
  have Hb0 := Lib.hid b0
  clear hA hB0 b0
  have i0 : (0 : Int) < (m : Int) := by omega
  have i1 : (1 : Int) < (m : Int) := by omega
  have d0 := cell_regrown c0'
  have d2 := cell_regrown c2'
  have q0 := cell_regrown l0'
  have q1 := cell_regrown l1'
  refine wp_region_quiet_below (by kernel_rfl) (by kernel_rfl) ?_
  repeat (go_big_quiet_step ((go_at_call 69; exact Calls.regrown_of (HF.out _ (HB0.out.trans ((below_regrown wA _ _).mono HB0.out.size))))))
  refine wpQuiet_nil ?_
  intro _ hw'
  obtain ⟨⟨dq, osq⟩, hw''⟩ := hw'
  subst hw''
  have hB1 := below_regrown wA dq osq
  generalize Sort.grow (redrawn wA dq) osq = w1 at *
  have hA1 := HA.out.below hB1
  obtain ⟨lb1, x0, x1, x2, x3, y2, y3⟩ := four hA1.blk
  have HA1 := Lib.hid hA1
  have hB2 := HB0.out.trans (hB1.mono HB0.out.size)
  have cv1 := (hB2.cell (p := ⟨gC, v, none⟩) hgC).trans cv
  have cf1 := (hB2.frozen (p := ⟨gC, v, none⟩) hgC).trans cf
  have hsz1 := hB1.size
  have hgC1 : gC < w1.heap.size := by omega
  have HB1 := Lib.hid hB1
  have HB2 := Lib.hid hB2
  clear hA1 hB1 hB2 d0 d2 q0 q1 c0' c2' l0' l1' c1' c3'
  go_wp2_with (go_at_call 22; refine (HV.out _ HB2.out).mono ?_; rintro e w2 ⟨rfl, rfl⟩)
  have A3 := ((HA1.out.mark rfl hvn).alloc (.cells #[.int .u8 67, .int .i64 (c : Int), .int .i64 (wl : Int), .int .i64 (m : Int)] 82)).alloc (.cells #[.int .i64 (v : Int)] 3)
  have hL3 := A3.L
  simp only at hL3
  rw [HL.out] at hL3
  have bT : Blk (((w1.setCell ⟨gC, v, none⟩ (.bool true)).alloc (.cells #[.int .u8 67, .int .i64 (c : Int), .int .i64 (wl : Int), .int .i64 (m : Int)] 82)).alloc (.cells #[.int .i64 (v : Int)] 3)) (w1.heap.size + 1) 3 #[.int .i64 (v : Int)] := blk_new_at (by simp [World.setCell])
  have bS : Blk (((w1.setCell ⟨gC, v, none⟩ (.bool true)).alloc (.cells #[.int .u8 67, .int .i64 (c : Int), .int .i64 (wl : Int), .int .i64 (m : Int)] 82)).alloc (.cells #[.int .i64 (v : Int)] 3)) w1.heap.size 82 #[.int .u8 67, .int .i64 (c : Int), .int .i64 (wl : Int), .int .i64 (m : Int)] := (blk_new_at (by simp [World.setCell])).alloc _
  have bR : Blk (((w1.setCell ⟨gC, v, none⟩ (.bool true)).alloc (.cells #[.int .u8 67, .int .i64 (c : Int), .int .i64 (wl : Int), .int .i64 (m : Int)] 82)).alloc (.cells #[.int .i64 (v : Int)] 3)) w.heap.size 82 #[.int .u8 0, .int .i64 0, .int .i64 0, .int .i64 0] := (((Hb0.out.below HB1.out hszA).far (p := ⟨gC, v, none⟩) (by simp only; omega) _).alloc _).alloc _
  have hB3 : Kept (OwnA b (.slice (some ⟨gC, 0, none⟩) n capC) (.slice (some ⟨gl, 0, none⟩) m cap) (.slice aW wl cW) vs) w (((w1.setCell ⟨gC, v, none⟩ (.bool true)).alloc (.cells #[.int .u8 67, .int .i64 (c : Int), .int .i64 (wl : Int), .int .i64 (m : Int)] 82)).alloc (.cells #[.int .i64 (v : Int)] 3)) := (((Kept.of HB2.out).setCell (p := ⟨gC, v, none⟩) (.inl (.inr (.inl rfl))) _).alloc _).alloc _
  have hsz3 : w1.heap.size + 2 = (((w1.setCell ⟨gC, v, none⟩ (.bool true)).alloc (.cells #[.int .u8 67, .int .i64 (c : Int), .int .i64 (wl : Int), .int .i64 (m : Int)] 82)).alloc (.cells #[.int .i64 (v : Int)] 3)).heap.size := by simp [World.setCell]
  generalize (((w1.setCell ⟨gC, v, none⟩ (.bool true)).alloc (.cells #[.int .u8 67, .int .i64 (c : Int), .int .i64 (wl : Int), .int .i64 (m : Int)] 82)).alloc (.cells #[.int .i64 (v : Int)] 3)) = W3 at *
  refine (insert_any base (w1.heap.size + 1) (.slice (some ⟨gl, 0, none⟩) m cap) x v (y :: r) W3 hL3 (by simp) (by have := HM.out; simp only [List.length_cons] at this ⊢; omega) bT (by simp [Value.ownBlock]; omega) A3.ble).mono ?_
  rintro e w4 ⟨v', rfl, hr4, hg4, hat4⟩
  obtain ⟨g4, cap4, rfl, -, -, -⟩ := own_form hr4 (by omega)
  have nb : some b ≠ some gl := fun e => own_blk_ne hL3 A3.blk (by decide) e.symm
  have b4 := A3.blk.grown hg4 nb
  obtain ⟨lb4, z0, z1, z2, z3, u2, u3⟩ := four b4
  have s4 := bS.grown hg4 (fun e => own_blk_ne hL3 bS (by decide) e.symm)
  have t4 := bR.grown hg4 (fun e => own_blk_ne hL3 bR (by decide) e.symm)
  obtain ⟨ls4, s0, s1, s2, s3, -⟩ := four s4
  obtain ⟨lt4, t0, t1, t2, t3, r2, r3⟩ := four t4
  have r0 := t4.frozen 0
  have r1 := t4.frozen 1
  have A4 := A3.reloop (l := x :: v :: y :: r) hg4 (by simpa [intsV] using hr4) hat4 (by simp)
  have hB4 := hB3.grown hg4 (fun j e => .inl (.inr (.inr (.inl e))))
  have hO4 := own_reloop (b := b) (vC := .slice (some ⟨gC, 0, none⟩) n capC) (vW := .slice aW wl cW) (vs := vs) (z := w.heap.size) (by
    rcases hat4 with e | ⟨q, e, hq⟩
    · exact .inl e
    · exact .inr ⟨q, e, by omega⟩)
  have k1 : b ≠ w.heap.size := fun e => by have := lb; omega
  have k2 : b ≠ w1.heap.size := by omega
  have k3 : w.heap.size ≠ w1.heap.size := by omega
  have hbb := Nat.le_trans H.out.ble (Nat.le_refl _)
  generalize (y :: r).length + 2 = k4 at *
  have HA4 := Lib.hid A4
  have HB4 := Lib.hid hB4
  have HO4 := Lib.hid hO4
  have HT4 := Lib.hid t4
  clear A4 hB4 hO4 hr4 hg4 hat4 A3 hL3 bT bS bR hB3 b4 s4 t4
  go_wp2
  obtain ⟨o1, o2, o3⟩ := HA4.out.out4 (HT4.out.far (p := ⟨b, 2, none⟩) (by simp only; omega) _) (HB4.out.setCell (p := ⟨b, 2, none⟩) (.inl (.inl rfl)) _) (Nat.le_refl _) (.int .u8 67) (.int .i64 (c : Int)) (.int .i64 (wl : Int)) (.int .i64 (m : Int))
  obtain ⟨-, p0, p1, p2, p3, -⟩ := four o2
  exact bodyPost_ret (v := .tuple #[.agg #[.int .u8 67, .int .i64 (c : Int), .int .i64 (wl : Int), .int .i64 (m : Int)], .bool true]) (by simp [results, Tryz.results66, go_sem, p0, p1, p2, p3]) rfl ⟨rfl, _, o1, o3, HO4.out⟩
end Go.Proofs.YtpnkhgjjlionnaaGreat
namespace Go.Proofs.YtpnkhgjjlionnaaGreat
open Go.RowKit Go.Maps

/-- A walk that is on its way, or over; its blocks are of S. -/
def WayS (w : World) (base g b n : Nat) (S : Nat → Prop) (s : WSt) : Prop :=
  (∀ k, S k → base ≤ k ∧ k < w.heap.size) ∧ ((∃ vC vL vW vs, WayAt w base g b vC vL vW vs n s ∧ ∀ k, OwnA b vC vL vW vs k → S k) ∨ (s.loop = [] ∧ S b ∧ ∃ vC vW, Blk w b 154 #[.pointer (some ⟨g, 0, none⟩), vC, .slice none 0 0, vW]))
section
variable {w w' : World} {base g b n : Nat} {S : Nat → Prop} {s s' : WSt} {T : List Tr}
theorem WayS.same (h : WayS w base g b n S s) (hz : w.heap.size ≤ w'.heap.size) (hs : ∀ k, S k → w'.heap[k]? = w.heap[k]?) : WayS w' base g b n S s := by
  obtain ⟨h1, ⟨vC, vL, vW, vs, h2, h3⟩ | ⟨h2, h3, vC, vW, h4⟩⟩ := h
  · exact ⟨fun k hk => by have := h1 k hk; omega, .inl ⟨vC, vL, vW, vs, h2.same (fun k hk => hs k (h3 k hk)), h3⟩⟩
  · exact ⟨fun k hk => by have := h1 k hk; omega, .inr ⟨h2, h3, vC, vW, blk_same h4 (hs b h3)⟩⟩
/-- What a step leaves behind. -/
def StpPost (w : World) (base g b n : Nat) (S : Nat → Prop) (s' : WSt) (w' : World) : Prop := ∃ S', WayS w' base g b n S' s' ∧ (∀ k, S' k → S k ∨ (w.heap.size ≤ k ∧ k < w'.heap.size)) ∧ Kept S w w'
theorem stp_of {vC vL vW vL' vW' : Value} {vs vs' : List Value} (hS : ∀ k, OwnA b vC vL vW vs k → S k) (h' : WayAt w' base g b vC vL' vW' vs' n s') (k : Kind w w' b vC vL vW vs vL' vW' vs') : StpPost w base g b n S s' w' :=
  ⟨OwnA b vC vL' vW' vs', ⟨fun _j hj => h'.own_ge hj, .inl ⟨vC, vL', vW', vs', h', fun _ hj => hj⟩⟩, fun j hj => (k.own j hj).imp (hS j) (fun e => ⟨e, (h'.own_ge hj).2⟩), k.kept.mono hS⟩
set_option maxRecDepth 100000 in
set_option maxHeartbeats 1000000 in
/-- No loop is left. -/
theorem step_end (h : WayS w base g b n S s) (hl : s.loop = []) (_hb : base ≤ w.heap.size) :
    Calls Tryz.prog 66 #[.pointer (some ⟨b, 0, none⟩)] w fun e w' => e = .returned (.tuple #[.agg #[.int .u8 0, .int .i64 0, .int .i64 0, .int .i64 0], .bool false]) ∧ Kept S w w' := by
  obtain ⟨-, ⟨vC, vL, vW, vs, hA, hO⟩ | ⟨-, hSb, vC, vW, hB⟩⟩ := h
  · exact absurd hl hA.nn
  obtain ⟨lb, c0, c1, c2, c3, f2, f3⟩ := four hB
  have b0 := Blk.new w 82 #[.int .u8 0, .int .i64 0, .int .i64 0, .int .i64 0]
  have hBB := hB.alloc (.cells #[.int .u8 0, .int .i64 0, .int .i64 0, .int .i64 0] 82)
  have hk : Kept S w (w.alloc (.cells #[.int .u8 0, .int .i64 0, .int .i64 0, .int .i64 0] 82)) := (Kept.refl _ _).alloc _
  have hnil := fun (W : World) => Lib.run_eql_slice_nil (P := Tryz.prog) W 30 3 none 0 0 0 0 Tryz.underlying30
  go_enter Tryz.func66, Tryz.ntmps66
  go_wp2
  obtain ⟨-, p0, p1, p2, p3, -⟩ := four b0
  exact bodyPost_ret (v := .tuple #[.agg #[.int .u8 0, .int .i64 0, .int .i64 0, .int .i64 0], .bool false]) (by simp [results, Tryz.results66, go_sem, p0, p1, p2, p3]) rfl ⟨rfl, hk⟩
end
end Go.Proofs.YtpnkhgjjlionnaaGreat
namespace Go.Proofs.YtpnkhgjjlionnaaGreat
open Go.RowKit Go.Maps

set_option maxRecDepth 100000 in
set_option maxHeartbeats 2000000 in
theorem stepL_any {w : World} {base g b n : Nat} {vC vL vW : Value} {vs : List Value} {s : WSt} {T : List Tr} (hT : Tab w g n T) (h : WayAt w base g b vC vL vW vs n s) {x y : Int} {r : List Int} (hl : s.loop = x :: y :: r)
    (hx : -1 ≤ x ∧ x ≤ 10000) (hy : -1 ≤ y ∧ y ≤ 10000) (hc : 0 ≤ facI T (x, y)) (hv : vertI T (facI T (x, y)) ∈ s.come) (hlen : r.length ≤ 50000) (_hwl : s.wait.length ≤ 50000) (h1 : 2 ≤ r.length) (hi : Lib.idxOf s.loop (vertI T (facI T (x, y))) = r.length + 1) :
    Calls Tryz.prog 66 #[.pointer (some ⟨b, 0, none⟩)] w fun e w' => e = .returned (.tuple #[.agg #[.int .u8 76, .int .i64 (facI T (x, y)), .int .i64 s.wait.length, .int .i64 (r.length + 2 : Nat)], .bool true]) ∧
      (∃ vL', WayAt w' base g b vC vL' vW vs n ⟨s.come, vertI T (facI T (x, y)) :: (y :: r).dropLast, s.wait⟩ ∧ Kind w w' b vC vL vW vs vL' vW vs) := by
  have hL := h.L
  rw [hl] at hL
  obtain ⟨m, hm⟩ : ∃ m, (x :: y :: r).length = m := ⟨_, rfl⟩
  rw [hm] at hL
  have hm2 : r.length + 2 = m := hm
  obtain ⟨gl, cap, rfl, hgl, hcap, hcap2⟩ := own_form hL (by omega)
  obtain ⟨aW, cW, rfl⟩ := ownsRow_slice h.W
  obtain ⟨lb, c0, c1, c2, c3, f2, f3⟩ := four h.blk
  have hs0 : (intsV (x :: y :: r))[0]? = some (.int .i64 x) := rfl
  have l0 : w.cell? ⟨gl, 0, none⟩ = some (.int .i64 x) := by rw [hL.cellAt 0 (by omega)]; exact hs0
  have l1 : w.cell? ⟨gl, 1, none⟩ = some (.int .i64 y) := by rw [hL.cellAt 1 (by omega)]; rfl
  have hnil := fun (W : World) => Lib.run_eql_slice_nil (P := Tryz.prog) W 30 3 (some ⟨gl, 0, none⟩) m cap 0 0 Tryz.underlying30
  obtain ⟨c, hce⟩ : ∃ c : Nat, facI T (x, y) = (c : Int) := ⟨(facI T (x, y)).toNat, by omega⟩
  have hcl := (facI_some hce).1
  have hvb := vertN_in hT.inr hcl
  obtain ⟨v, hve⟩ : ∃ v : Nat, vertI T (facI T (x, y)) = (v : Int) := ⟨(vertN T c).toNat, by rw [hce, vertI_nat hcl]; omega⟩
  have hvn : v < n := by rw [hce, vertI_nat hcl] at hve; omega
  obtain ⟨bs, hC, hbs⟩ := h.C
  obtain ⟨gC, capC, rfl, hgC, hcC, -⟩ := own_form hC (by omega)
  have hbv : bs[v]? = some true := (hbs.2 v hvn).2 (by rw [← hve]; exact hv)
  have cv : w.cell? ⟨gC, v, none⟩ = some (.bool true) := by
    rw [hC.cellAt v (by omega)]
    simp [bools, hbv]
  have HF := Lib.hid (fun (W : World) (hW : Below w.heap.size w W) => facing_any g n x y T W (hT.below hW) hx hy)
  have HV := Lib.hid (fun (W : World) (hW : Below w.heap.size w W) => (show Calls Tryz.prog 22 #[.pointer (some ⟨g, 0, none⟩), .int .i64 (c : Int)] W fun e w' => e = .returned (.int .i64 (v : Int)) ∧ W = w' from by
    have := vertex_any g n (facI T (x, y)) T W (hT.below hW).toTabS
    rw [hve, hce] at this
    exact this))
  have HI := Lib.hid (fun (W : World) (hW : WayAt W base g b (.slice (some ⟨gC, 0, none⟩) n capC) (.slice (some ⟨gl, 0, none⟩) m cap) (.slice aW s.wait.length cW) vs n s) => (show Calls Tryz.prog 96 #[.slice (some ⟨gl, 0, none⟩) m cap, .int .i64 (v : Int)] W fun e w' => e = .returned (.int .i64 (Lib.idxOf s.loop (v : Int))) ∧ w' = W from by
    have h2 := hW.L
    have h3 : s.loop.length = m := by rw [hl]; exact hm
    rw [h3] at h2
    have := Tryz.slices_Index_int gl 0 m cap s.loop (v : Int) W (Nat.le_of_eq h3.symm) (by omega) (fun j hj => by
      rw [Nat.zero_add, h2.cellAt j (by rw [Nat.mul_one, ← h3]; exact hj)]
      simp [intsV, List.getD, List.getElem?_eq_getElem hj])
    rw [show s.loop.take m = s.loop from List.take_of_length_le (by omega)] at this
    exact this))
  rw [hve] at hv hi ⊢
  rw [hce] at HF ⊢
  rw [hm2]
  obtain ⟨wl, hwe⟩ : ∃ wl, s.wait.length = wl := ⟨_, rfl⟩
  rw [hwe] at c3 h HI ⊢
  have H := Lib.hid h
  have HL := Lib.hid hl
  have HM := Lib.hid hm
  have HWE := Lib.hid hwe
  have hm3 : m ≤ 50002 := by omega
  have hm4 : 2 ≤ m := by omega
  have HIX := Lib.hid (show Lib.idxOf s.loop (v : Int) = (m : Int) - 1 from by rw [hi]; omega)
  have n3 : ((m : Int) == 3) = false := by simp; omega
  have n4 : 3 < m := by omega
  have HLM := Lib.hid (show s.loop.length = m from by rw [hl]; exact hm)
  obtain ⟨i2, hj', hz0, hz1, hz2⟩ := info_parts infoInt9
  clear hi h1
  clear h hT hl hL hs0 hm hm2 hlen hce hcl hvb hve hC hbs hbv hv hc hwe
  go_enter Tryz.func66, Tryz.ntmps66
  go_wp2
  have hA := H.out.alloc (.cells #[.int .u8 0, .int .i64 0, .int .i64 0, .int .i64 0] 82)
  have hB0 : Below w.heap.size w (w.alloc (.cells #[.int .u8 0, .int .i64 0, .int .i64 0, .int .i64 0] 82)) := (Below.refl _ _).alloc (Nat.le_refl _) _
  have b0 := Blk.new w 82 #[.int .u8 0, .int .i64 0, .int .i64 0, .int .i64 0]
  have hszA : w.heap.size < (w.alloc (.cells #[.int .u8 0, .int .i64 0, .int .i64 0, .int .i64 0] 82)).heap.size := by simp
  generalize w.alloc (.cells #[.int .u8 0, .int .i64 0, .int .i64 0, .int .i64 0] 82) = wA at *
  obtain ⟨lb', c0', c1', c2', c3', -⟩ := four hA.blk
  have l0' := (hB0.cell (p := ⟨gl, 0, none⟩) hgl).trans l0
  have l1' := (hB0.cell (p := ⟨gl, 1, none⟩) hgl).trans l1
  have HA := Lib.hid hA
  have HB0 := Lib.hid hB0
  have Hb0 := Lib.hid b0
  clear hA hB0 b0
  have i0 : (0 : Int) < (m : Int) := by omega
  have i1 : (1 : Int) < (m : Int) := by omega
  have d0 := cell_regrown c0'
  have d2 := cell_regrown c2'
  have q0 := cell_regrown l0'
  have q1 := cell_regrown l1'
  refine wp_region_quiet_below (by kernel_rfl) (by kernel_rfl) ?_
  repeat (go_big_quiet_step ((go_at_call 69; exact Calls.regrown_of (HF.out _ (HB0.out.trans ((below_regrown wA _ _).mono HB0.out.size))))))
  refine wpQuiet_nil ?_
  intro _ hw'
  obtain ⟨⟨dq, osq⟩, hw''⟩ := hw'
  subst hw''
  have hB1 := below_regrown wA dq osq
  generalize Sort.grow (redrawn wA dq) osq = w1 at *
  have hA1 := HA.out.below hB1
  obtain ⟨lb1, x0, x1, x2, x3, y2, y3⟩ := four hA1.blk
  have HA1 := Lib.hid hA1
  have hB2 := HB0.out.trans (hB1.mono HB0.out.size)
  have cv1 := (hB2.cell (p := ⟨gC, v, none⟩) hgC).trans cv
  have lx1 := (hB2.cell (p := ⟨gl, 0, none⟩) hgl).trans l0
  have hsz1 := hB1.size
  have hgC1 : gC < w1.heap.size := by omega
  have hgl1 : gl < w1.heap.size := by omega
  have HB1 := Lib.hid hB1
  have HB2 := Lib.hid hB2
  have HA2 := Lib.hid (HA1.out.alloc (.cells #[.int .u8 0, .int .i64 (c : Int), .int .i64 (wl : Int), .int .i64 (m : Int)] 82))
  have hbbN : base ≤ w.heap.size := H.out.ble
  have k1 : b ≠ w.heap.size := fun e => by have := lb; omega
  have k2 : b ≠ w1.heap.size := by omega
  have k3 : w.heap.size ≠ w1.heap.size := by omega
  clear hA1 hB1 hB2 d0 d2 q0 q1 c0' c2' l0' l1' c1' c3'
  have HW1 := Lib.hid (HA1.out.alloc (.cells #[.int .u8 76, .int .i64 (c : Int), .int .i64 (wl : Int), .int .i64 (m : Int)] 82))
  have A3 := (HW1.out.alloc (.cells #[.int .i64 (v : Int)] 3))
  have bT : Blk ((w1.alloc (.cells #[.int .u8 76, .int .i64 (c : Int), .int .i64 (wl : Int), .int .i64 (m : Int)] 82)).alloc (.cells #[.int .i64 (v : Int)] 3)) (w1.heap.size + 1) 3 #[.int .i64 (v : Int)] := (blk_new_at (by simp) : Blk ((w1.alloc (.cells #[.int .u8 76, .int .i64 (c : Int), .int .i64 (wl : Int), .int .i64 (m : Int)] 82)).alloc (.cells #[.int .i64 (v : Int)] 3)) (w1.heap.size + 1) 3 #[.int .i64 (v : Int)])
  have bS : Blk ((w1.alloc (.cells #[.int .u8 76, .int .i64 (c : Int), .int .i64 (wl : Int), .int .i64 (m : Int)] 82)).alloc (.cells #[.int .i64 (v : Int)] 3)) w1.heap.size 82 #[.int .u8 76, .int .i64 (c : Int), .int .i64 (wl : Int), .int .i64 (m : Int)] := ((blk_new_at (w := w1) (t := 82) rfl).alloc _)
  have bR : Blk ((w1.alloc (.cells #[.int .u8 76, .int .i64 (c : Int), .int .i64 (wl : Int), .int .i64 (m : Int)] 82)).alloc (.cells #[.int .i64 (v : Int)] 3)) w.heap.size 82 #[.int .u8 0, .int .i64 0, .int .i64 0, .int .i64 0] := (((Hb0.out.below HB1.out hszA).alloc _).alloc _)
  have hB3 : Kept (OwnA b (.slice (some ⟨gC, 0, none⟩) n capC) (.slice (some ⟨gl, 0, none⟩) m cap) (.slice aW wl cW) vs) w ((w1.alloc (.cells #[.int .u8 76, .int .i64 (c : Int), .int .i64 (wl : Int), .int .i64 (m : Int)] 82)).alloc (.cells #[.int .i64 (v : Int)] 3)) := (((Kept.of HB2.out).alloc _).alloc _)
  have hT1 := own_one (base := base) bT (by omega)
  have hP := A3.part HLM.out 1 (m - 1 - 1) (by omega)
  have hNl : (((s.loop.drop 1).take (m - 1 - 1)).map (Value.int .i64)).length = (m - 1 - 1) * 1 := by have := HLM.out; simp; omega
  have h1N : ∀ u ∈ ((s.loop.drop 1).take (m - 1 - 1)).map (Value.int .i64), u.oneCell' = true := by
    intro u hu
    obtain ⟨z, _, rfl⟩ := List.mem_map.1 hu
    rfl
  have c6 : 1 + (m - 1 - 1) ≤ maxLen := by unfold maxLen; omega
  have c7 : (1 + (m - 1 - 1)) * 8 ≤ 140737488355328 := by omega
  have nbT : some b ≠ some (w1.heap.size + 1) := by simp; omega
  have nsT : some w1.heap.size ≠ some (w1.heap.size + 1) := by simp
  have ntT : some w.heap.size ≠ some (w1.heap.size + 1) := by simp; omega
  have HA3 := Lib.hid A3
  have HbS := Lib.hid bS
  have HbR := Lib.hid bR
  have HB3 := Lib.hid hB3
  have HT1 := Lib.hid hT1
  have HP := Lib.hid hP
  have HNl := Lib.hid hNl
  have H1N := Lib.hid h1N
  clear A3 bT bS bR hB3 hT1 hP hNl h1N
  go_wp2_with (first | (go_at_call 22; refine (HV.out _ HB2.out).mono ?_; rintro e w2 ⟨rfl, rfl⟩) | (go_at_call 96; refine (HI.out _ HA2.out).mono ?_; rintro e w2 ⟨rfl, rfl⟩; rw [HIX.out]) | (at_builtin; refine wpList_append_lies _ rfl (.tmp 163) (.tmp 170) 30 rfl base 3 i2 _ 1 8 Tryz.underlying30 hj' hz0 hz1 hz2 rfl (by decide) (.slice (some ⟨w1.heap.size + 1, 0, none⟩) 1 1) 1 [.int .i64 (v : Int)] rfl HT1.out ⟨gl, 1, none⟩ (m - 1 - 1) (cap - 1) (((s.loop.drop 1).take (m - 1 - 1)).map (Value.int .i64)) rfl HNl.out HP.out H1N.out (by omega) c6 c7 (by simp; omega) (w1.heap.size + 2) (by simp) ?_; intro g4 cap4 w4 hr4 hg4 hat4 hlt4; have b4 := HA3.out.blk.grown hg4 nbT; obtain ⟨lb4, z0, z1, z2, z3, u2, u3⟩ := four b4; have s4 := HbS.out.grown hg4 nsT; have t4 := HbR.out.grown hg4 ntT; obtain ⟨ls4, s0, s1, s2, s3, -⟩ := four s4; obtain ⟨lt4, t0, t1, t2, t3, r2, r3⟩ := four t4; have r0 := t4.frozen 0; have r1 := t4.frozen 1; have HT4 := Lib.hid t4; have HG4 := Lib.hid hg4; have HR4 := Lib.hid hr4; have HAT4 := Lib.hid hat4; clear b4 s4 t4 hg4 hr4 hat4))
  all_goals
    have e4 : 1 + (m - 1 - 1) = ((v : Int) :: (y :: r).dropLast).length := by have := HLM.out; rw [HL.out] at this; simp at this ⊢; omega
    have e5 : [Value.int .i64 (v : Int)] ++ ((s.loop.drop 1).take (m - 1 - 1)).map (Value.int .i64) = intsV ((v : Int) :: (y :: r).dropLast) := by
      have := HLM.out
      rw [HL.out] at this ⊢
      simp only [List.length_cons] at this
      simp [intsV, List.dropLast_eq_take, show m - 1 - 1 = r.length from by omega]
    have hr4 := HR4.out
    rw [e4, e5] at hr4
    have A4 := HW1.out.reloop (l := (v : Int) :: (y :: r).dropLast) (gGrown (World.grownBy_alloc _ _ _) HG4.out (fun j e => .inr (by
      have : j = w1.heap.size + 1 := (Option.some.inj e).symm
      simp
      omega))) hr4 (.inr ⟨g4, rfl, by
      rcases HAT4.out with e | e
      · have : w1.heap.size + 1 = g4 := Option.some.inj e
        simp
        omega
      · simp
        omega⟩) (by simp)
    rw [← e4] at A4
    have hB4 := HB3.out.grown HG4.out (fun j e => .inr (by
      have : j = w1.heap.size + 1 := (Option.some.inj e).symm
      omega))
    have hO4 := own_reloop (b := b) (vC := .slice (some ⟨gC, 0, none⟩) n capC) (vL := .slice (some ⟨gl, 0, none⟩) m cap) (vL' := .slice (some ⟨g4, 0, none⟩) (1 + (m - 1 - 1)) cap4) (vW := .slice aW wl cW) (vs := vs) (z := w.heap.size) (.inr ⟨g4, rfl, by
      rcases HAT4.out with e | e
      · have : w1.heap.size + 1 = g4 := Option.some.inj e
        omega
      · have e' : g4 = w1.heap.size + 2 := e
        omega⟩)
    obtain ⟨o1, o2, o3⟩ := A4.out4 (HT4.out.far (p := ⟨b, 2, none⟩) (by simp only; omega) _) (hB4.setCell (p := ⟨b, 2, none⟩) (.inl (.inl rfl)) _) (Nat.le_refl _) (.int .u8 76) (.int .i64 (c : Int)) (.int .i64 (wl : Int)) (.int .i64 (m : Int))
    obtain ⟨-, p0, p1, p2, p3, -⟩ := four o2
    exact bodyPost_ret (v := .tuple #[.agg #[.int .u8 76, .int .i64 (c : Int), .int .i64 (wl : Int), .int .i64 (m : Int)], .bool true]) (by simp [results, Tryz.results66, go_sem, p0, p1, p2, p3]) rfl ⟨rfl, _, o1, o3, hO4⟩
end Go.Proofs.YtpnkhgjjlionnaaGreat
namespace Go.Proofs.YtpnkhgjjlionnaaGreat
open Go.RowKit Go.Maps

set_option maxRecDepth 100000 in
set_option maxHeartbeats 2000000 in
theorem stepR_any {w : World} {base g b n : Nat} {vC vL vW : Value} {vs : List Value} {s : WSt} {T : List Tr} (hT : Tab w g n T) (h : WayAt w base g b vC vL vW vs n s) {x y : Int} {r : List Int} (hl : s.loop = x :: y :: r)
    (hx : -1 ≤ x ∧ x ≤ 10000) (hy : -1 ≤ y ∧ y ≤ 10000) (hc : 0 ≤ facI T (x, y)) (hv : vertI T (facI T (x, y)) ∈ s.come) (hlen : r.length ≤ 50000) (_hwl : s.wait.length ≤ 50000) (h1 : 2 ≤ r.length) (hi : Lib.idxOf s.loop (vertI T (facI T (x, y))) = 2) :
    Calls Tryz.prog 66 #[.pointer (some ⟨b, 0, none⟩)] w fun e w' => e = .returned (.tuple #[.agg #[.int .u8 82, .int .i64 (facI T (x, y)), .int .i64 s.wait.length, .int .i64 (r.length + 2 : Nat)], .bool true]) ∧
      (∃ vL', WayAt w' base g b vC vL' vW vs n ⟨s.come, x :: r, s.wait⟩ ∧ Kind w w' b vC vL vW vs vL' vW vs) := by
  have hL := h.L
  rw [hl] at hL
  obtain ⟨m, hm⟩ : ∃ m, (x :: y :: r).length = m := ⟨_, rfl⟩
  rw [hm] at hL
  have hm2 : r.length + 2 = m := hm
  obtain ⟨gl, cap, rfl, hgl, hcap, hcap2⟩ := own_form hL (by omega)
  obtain ⟨aW, cW, rfl⟩ := ownsRow_slice h.W
  obtain ⟨lb, c0, c1, c2, c3, f2, f3⟩ := four h.blk
  have hs0 : (intsV (x :: y :: r))[0]? = some (.int .i64 x) := rfl
  have l0 : w.cell? ⟨gl, 0, none⟩ = some (.int .i64 x) := by rw [hL.cellAt 0 (by omega)]; exact hs0
  have l1 : w.cell? ⟨gl, 1, none⟩ = some (.int .i64 y) := by rw [hL.cellAt 1 (by omega)]; rfl
  have hnil := fun (W : World) => Lib.run_eql_slice_nil (P := Tryz.prog) W 30 3 (some ⟨gl, 0, none⟩) m cap 0 0 Tryz.underlying30
  obtain ⟨c, hce⟩ : ∃ c : Nat, facI T (x, y) = (c : Int) := ⟨(facI T (x, y)).toNat, by omega⟩
  have hcl := (facI_some hce).1
  have hvb := vertN_in hT.inr hcl
  obtain ⟨v, hve⟩ : ∃ v : Nat, vertI T (facI T (x, y)) = (v : Int) := ⟨(vertN T c).toNat, by rw [hce, vertI_nat hcl]; omega⟩
  have hvn : v < n := by rw [hce, vertI_nat hcl] at hve; omega
  obtain ⟨bs, hC, hbs⟩ := h.C
  obtain ⟨gC, capC, rfl, hgC, hcC, -⟩ := own_form hC (by omega)
  have hbv : bs[v]? = some true := (hbs.2 v hvn).2 (by rw [← hve]; exact hv)
  have cv : w.cell? ⟨gC, v, none⟩ = some (.bool true) := by
    rw [hC.cellAt v (by omega)]
    simp [bools, hbv]
  have HF := Lib.hid (fun (W : World) (hW : Below w.heap.size w W) => facing_any g n x y T W (hT.below hW) hx hy)
  have HV := Lib.hid (fun (W : World) (hW : Below w.heap.size w W) => (show Calls Tryz.prog 22 #[.pointer (some ⟨g, 0, none⟩), .int .i64 (c : Int)] W fun e w' => e = .returned (.int .i64 (v : Int)) ∧ W = w' from by
    have := vertex_any g n (facI T (x, y)) T W (hT.below hW).toTabS
    rw [hve, hce] at this
    exact this))
  have HI := Lib.hid (fun (W : World) (hW : WayAt W base g b (.slice (some ⟨gC, 0, none⟩) n capC) (.slice (some ⟨gl, 0, none⟩) m cap) (.slice aW s.wait.length cW) vs n s) => (show Calls Tryz.prog 96 #[.slice (some ⟨gl, 0, none⟩) m cap, .int .i64 (v : Int)] W fun e w' => e = .returned (.int .i64 (Lib.idxOf s.loop (v : Int))) ∧ w' = W from by
    have h2 := hW.L
    have h3 : s.loop.length = m := by rw [hl]; exact hm
    rw [h3] at h2
    have := Tryz.slices_Index_int gl 0 m cap s.loop (v : Int) W (Nat.le_of_eq h3.symm) (by omega) (fun j hj => by
      rw [Nat.zero_add, h2.cellAt j (by rw [Nat.mul_one, ← h3]; exact hj)]
      simp [intsV, List.getD, List.getElem?_eq_getElem hj])
    rw [show s.loop.take m = s.loop from List.take_of_length_le (by omega)] at this
    exact this))
  rw [hve] at hv hi
  rw [hce] at HF ⊢
  rw [hm2]
  obtain ⟨wl, hwe⟩ : ∃ wl, s.wait.length = wl := ⟨_, rfl⟩
  rw [hwe] at c3 h HI ⊢
  have H := Lib.hid h
  have HL := Lib.hid hl
  have HM := Lib.hid hm
  have HWE := Lib.hid hwe
  have hm3 : m ≤ 50002 := by omega
  have hm4 : 2 ≤ m := by omega
  have HIX := Lib.hid hi
  have n3 : ((m : Int) == 3) = false := by simp; omega
  have n5 : ((2 : Int) == (m : Int) - 1) = false := by simp; omega
  have n4 : 3 < m := by omega
  have n6 : (2 : Int) < (cap : Int) := by omega
  have n7 : 0 < m := by omega
  have n8 : 2 < cap := by omega
  have n9 : (2 : Int) ≤ (m : Int) := by omega
  have n10 : ¬ cap = 2 := by omega
  have HLM := Lib.hid (show s.loop.length = m from by rw [hl]; exact hm)
  obtain ⟨i2, hj', hz0, hz1, hz2⟩ := info_parts infoInt9
  clear hi h1
  clear h hT hl hL hs0 hm hm2 hlen hce hcl hvb hve hC hbs hbv hv hc hwe
  go_enter Tryz.func66, Tryz.ntmps66
  go_wp2
  have hA := H.out.alloc (.cells #[.int .u8 0, .int .i64 0, .int .i64 0, .int .i64 0] 82)
  have hB0 : Below w.heap.size w (w.alloc (.cells #[.int .u8 0, .int .i64 0, .int .i64 0, .int .i64 0] 82)) := (Below.refl _ _).alloc (Nat.le_refl _) _
  have b0 := Blk.new w 82 #[.int .u8 0, .int .i64 0, .int .i64 0, .int .i64 0]
  have hszA : w.heap.size < (w.alloc (.cells #[.int .u8 0, .int .i64 0, .int .i64 0, .int .i64 0] 82)).heap.size := by simp
  generalize w.alloc (.cells #[.int .u8 0, .int .i64 0, .int .i64 0, .int .i64 0] 82) = wA at *
  obtain ⟨lb', c0', c1', c2', c3', -⟩ := four hA.blk
  have l0' := (hB0.cell (p := ⟨gl, 0, none⟩) hgl).trans l0
  have l1' := (hB0.cell (p := ⟨gl, 1, none⟩) hgl).trans l1
  have HA := Lib.hid hA
  have HB0 := Lib.hid hB0
  have Hb0 := Lib.hid b0
  clear hA hB0 b0
  have i0 : (0 : Int) < (m : Int) := by omega
  have i1 : (1 : Int) < (m : Int) := by omega
  have d0 := cell_regrown c0'
  have d2 := cell_regrown c2'
  have q0 := cell_regrown l0'
  have q1 := cell_regrown l1'
  refine wp_region_quiet_below (by kernel_rfl) (by kernel_rfl) ?_
  repeat (go_big_quiet_step ((go_at_call 69; exact Calls.regrown_of (HF.out _ (HB0.out.trans ((below_regrown wA _ _).mono HB0.out.size))))))
  refine wpQuiet_nil ?_
  intro _ hw'
  obtain ⟨⟨dq, osq⟩, hw''⟩ := hw'
  subst hw''
  have hB1 := below_regrown wA dq osq
  generalize Sort.grow (redrawn wA dq) osq = w1 at *
  have hA1 := HA.out.below hB1
  obtain ⟨lb1, x0, x1, x2, x3, y2, y3⟩ := four hA1.blk
  have HA1 := Lib.hid hA1
  have hB2 := HB0.out.trans (hB1.mono HB0.out.size)
  have cv1 := (hB2.cell (p := ⟨gC, v, none⟩) hgC).trans cv
  have lx1 := (hB2.cell (p := ⟨gl, 0, none⟩) hgl).trans l0
  have hsz1 := hB1.size
  have hgC1 : gC < w1.heap.size := by omega
  have hgl1 : gl < w1.heap.size := by omega
  have HB1 := Lib.hid hB1
  have HB2 := Lib.hid hB2
  have HA2 := Lib.hid (HA1.out.alloc (.cells #[.int .u8 0, .int .i64 (c : Int), .int .i64 (wl : Int), .int .i64 (m : Int)] 82))
  have hbbN : base ≤ w.heap.size := H.out.ble
  have k1 : b ≠ w.heap.size := fun e => by have := lb; omega
  have k2 : b ≠ w1.heap.size := by omega
  have k3 : w.heap.size ≠ w1.heap.size := by omega
  clear hA1 hB1 hB2 d0 d2 q0 q1 c0' c2' l0' l1' c1' c3'
  have HW1 := Lib.hid (HA1.out.alloc (.cells #[.int .u8 82, .int .i64 (c : Int), .int .i64 (wl : Int), .int .i64 (m : Int)] 82))
  have A3 := (HW1.out.alloc (.cells #[.int .i64 x] 3)).drew
  have bT : Blk ((w1.alloc (.cells #[.int .u8 82, .int .i64 (c : Int), .int .i64 (wl : Int), .int .i64 (m : Int)] 82)).alloc (.cells #[.int .i64 x] 3)).drew (w1.heap.size + 1) 3 #[.int .i64 x] := (blk_new_at (by simp) : Blk ((w1.alloc (.cells #[.int .u8 82, .int .i64 (c : Int), .int .i64 (wl : Int), .int .i64 (m : Int)] 82)).alloc (.cells #[.int .i64 x] 3)) (w1.heap.size + 1) 3 #[.int .i64 x]).drew
  have bS : Blk ((w1.alloc (.cells #[.int .u8 82, .int .i64 (c : Int), .int .i64 (wl : Int), .int .i64 (m : Int)] 82)).alloc (.cells #[.int .i64 x] 3)).drew w1.heap.size 82 #[.int .u8 82, .int .i64 (c : Int), .int .i64 (wl : Int), .int .i64 (m : Int)] := ((blk_new_at (w := w1) (t := 82) rfl).alloc _).drew
  have bR : Blk ((w1.alloc (.cells #[.int .u8 82, .int .i64 (c : Int), .int .i64 (wl : Int), .int .i64 (m : Int)] 82)).alloc (.cells #[.int .i64 x] 3)).drew w.heap.size 82 #[.int .u8 0, .int .i64 0, .int .i64 0, .int .i64 0] := (((Hb0.out.below HB1.out hszA).alloc _).alloc _).drew
  have hB3 : Kept (OwnA b (.slice (some ⟨gC, 0, none⟩) n capC) (.slice (some ⟨gl, 0, none⟩) m cap) (.slice aW wl cW) vs) w ((w1.alloc (.cells #[.int .u8 82, .int .i64 (c : Int), .int .i64 (wl : Int), .int .i64 (m : Int)] 82)).alloc (.cells #[.int .i64 x] 3)).drew := (((Kept.of HB2.out).alloc _).alloc _).drew
  have hT1 := own_one (base := base) bT (by omega)
  have hP := A3.part HLM.out 2 (m - 2) (by omega)
  have hNl : (((s.loop.drop 2).take (m - 2)).map (Value.int .i64)).length = (m - 2) * 1 := by have := HLM.out; simp; omega
  have h1N : ∀ u ∈ ((s.loop.drop 2).take (m - 2)).map (Value.int .i64), u.oneCell' = true := by
    intro u hu
    obtain ⟨z, _, rfl⟩ := List.mem_map.1 hu
    rfl
  have c6 : 1 + (m - 2) ≤ maxLen := by unfold maxLen; omega
  have c7 : (1 + (m - 2)) * 8 ≤ 140737488355328 := by omega
  have nbT : some b ≠ some (w1.heap.size + 1) := by simp; omega
  have nsT : some w1.heap.size ≠ some (w1.heap.size + 1) := by simp
  have ntT : some w.heap.size ≠ some (w1.heap.size + 1) := by simp; omega
  have HA3 := Lib.hid A3
  have HbS := Lib.hid bS
  have HbR := Lib.hid bR
  have HB3 := Lib.hid hB3
  have HT1 := Lib.hid hT1
  have HP := Lib.hid hP
  have HNl := Lib.hid hNl
  have H1N := Lib.hid h1N
  clear A3 bT bS bR hB3 hT1 hP hNl h1N
  go_wp2_with (first | (go_at_call 22; refine (HV.out _ HB2.out).mono ?_; rintro e w2 ⟨rfl, rfl⟩) | (go_at_call 96; refine (HI.out _ HA2.out).mono ?_; rintro e w2 ⟨rfl, rfl⟩; rw [HIX.out]))
  go_region_law (first | (refine step_append_lies _ rfl (.tmp 185) (.tmp 190) 30 rfl base 3 i2 _ 1 8 Tryz.underlying30 hj' hz0 hz1 hz2 rfl (by decide) (.slice (some ⟨w1.heap.size + 1, 0, none⟩) 1 1) 1 [.int .i64 x] rfl HT1.out ⟨gl, 2, none⟩ (m - 2) (cap - 2) (((s.loop.drop 2).take (m - 2)).map (Value.int .i64)) rfl HNl.out HP.out H1N.out (by omega) c6 c7 (by simp; omega) (w1.heap.size + 2) (by simp) ?_; intro g4 cap4 w4 hr4 hg4 hat4 hlt4; have b4 := HA3.out.blk.grown hg4 nbT; obtain ⟨lb4, z0, z1, z2, z3, u2, u3⟩ := four b4; have s4 := HbS.out.grown hg4 nsT; have t4 := HbR.out.grown hg4 ntT; obtain ⟨ls4, s0, s1, s2, s3, -⟩ := four s4; obtain ⟨lt4, t0, t1, t2, t3, r2, r3⟩ := four t4; have r0 := t4.frozen 0; have r1 := t4.frozen 1; have HT4 := Lib.hid t4; have HG4 := Lib.hid hg4; have HR4 := Lib.hid hr4; have HAT4 := Lib.hid hat4; clear b4 s4 t4 hg4 hr4 hat4))
  all_goals
    go_wp2
    have e4 : 1 + (m - 2) = (x :: r).length := by have := HLM.out; rw [HL.out] at this; simp at this ⊢; omega
    have e5 : [Value.int .i64 x] ++ ((s.loop.drop 2).take (m - 2)).map (Value.int .i64) = intsV (x :: r) := by
      have := HLM.out
      rw [HL.out] at this ⊢
      simp only [List.length_cons] at this
      simp [intsV, show m - 2 = r.length from by omega]
    have hr4 := HR4.out
    rw [e4, e5] at hr4
    have A4 := HW1.out.reloop (l := x :: r) (gGrown (gDrew (World.grownBy_alloc _ _ _)) HG4.out (fun j e => .inr (by
      have : j = w1.heap.size + 1 := (Option.some.inj e).symm
      simp
      omega))) hr4 (.inr ⟨g4, rfl, by
      rcases HAT4.out with e | e
      · have : w1.heap.size + 1 = g4 := Option.some.inj e
        simp
        omega
      · simp
        omega⟩) (by simp)
    rw [← e4] at A4
    have hB4 := HB3.out.grown HG4.out (fun j e => .inr (by
      have : j = w1.heap.size + 1 := (Option.some.inj e).symm
      omega))
    have hO4 := own_reloop (b := b) (vC := .slice (some ⟨gC, 0, none⟩) n capC) (vL := .slice (some ⟨gl, 0, none⟩) m cap) (vL' := .slice (some ⟨g4, 0, none⟩) (1 + (m - 2)) cap4) (vW := .slice aW wl cW) (vs := vs) (z := w.heap.size) (.inr ⟨g4, rfl, by
      rcases HAT4.out with e | e
      · have : w1.heap.size + 1 = g4 := Option.some.inj e
        omega
      · have e' : g4 = w1.heap.size + 2 := e
        omega⟩)
    obtain ⟨o1, o2, o3⟩ := A4.out4 (HT4.out.far (p := ⟨b, 2, none⟩) (by simp only; omega) _) (hB4.setCell (p := ⟨b, 2, none⟩) (.inl (.inl rfl)) _) (Nat.le_refl _) (.int .u8 82) (.int .i64 (c : Int)) (.int .i64 (wl : Int)) (.int .i64 (m : Int))
    obtain ⟨-, p0, p1, p2, p3, -⟩ := four o2
    exact bodyPost_ret (v := .tuple #[.agg #[.int .u8 82, .int .i64 (c : Int), .int .i64 (wl : Int), .int .i64 (m : Int)], .bool true]) (by simp [results, Tryz.results66, go_sem, p0, p1, p2, p3]) rfl ⟨rfl, _, o1, o3, hO4⟩
end Go.Proofs.YtpnkhgjjlionnaaGreat
