/-
  Texts joined by program, what the law uses alone: OfM Of WkJ WkK WkE Eul EulB WkT BrdM FoN Iso IsoS.
-/
import Derived.Deep.Onto
import Derived.Deep.RegionHeld3
import Derived.Sort.Defs
import Derived.Test.YtpnkhgjjlionnaaGreatD4
import Derived.Test.YtpnkhgjjlionnaaGreatD3
import Derived.Test.YtpnkhgjjlionnaaGreatD2
import Derived.Test.YtpnkhgjjlionnaaGreatShelf
namespace Go.Proofs.YtpnkhgjjlionnaaGreat
open Go.RowKit

/-! Across and back. -/
theorem edgeN_mem {T : List Tr} {c : Nat} (hc : c < 3 * T.length) : ∃ j t, T[j]? = some t ∧ j = c / 3 ∧ ((c % 3 = 0 ∧ edgeN T c = (t.2.1, t.2.2)) ∨ (c % 3 = 1 ∧ edgeN T c = (t.2.2, t.1)) ∨ (c % 3 = 2 ∧ edgeN T c = (t.1, t.2.1))) := by
  have hk : c / 3 < T.length := by omega
  refine ⟨c / 3, T[c / 3], List.getElem?_eq_getElem hk, rfl, ?_⟩
  have h1 : Jor.nx c / 3 = c / 3 := Jor.nx_div c
  have h2 : Jor.pv c / 3 = c / 3 := Jor.pv_div c
  have m1 : Jor.nx c % 3 = (c + 1) % 3 := by unfold Jor.nx; omega
  have m2 : Jor.pv c % 3 = (c + 2) % 3 := by unfold Jor.pv; omega
  have ht : T[c / 3]? = some T[c / 3] := List.getElem?_eq_getElem hk
  have : c % 3 = 0 ∨ c % 3 = 1 ∨ c % 3 = 2 := by omega
  rcases this with e | e | e
  · exact .inl ⟨e, by simp [edgeN, vertN, triAt, h1, h2, ht, show Jor.nx c % 3 = 1 from by omega, show Jor.pv c % 3 = 2 from by omega]⟩
  · exact .inr (.inl ⟨e, by simp [edgeN, vertN, triAt, h1, h2, ht, show Jor.nx c % 3 = 2 from by omega, show Jor.pv c % 3 = 0 from by omega]⟩)
  · exact .inr (.inr ⟨e, by simp [edgeN, vertN, triAt, h1, h2, ht, show Jor.nx c % 3 = 0 from by omega, show Jor.pv c % 3 = 1 from by omega]⟩)
theorem flat3_at {β : Type} [Inhabited β] {enc : Tr → List β} {k : Nat} (hk : ∀ x, (enc x).length = k) (h0 : 0 < k) : ∀ (l : List Tr) (t : Nat), t < l.length * k → (l.flatMap enc)[t]? = some ((enc (l[t / k]!))[t % k]!)
  | [], t, h => by simp at h
  | a :: l, t, h => by
    rw [List.flatMap_cons]
    by_cases ht : t < k
    · rw [List.getElem?_append_left (by rw [hk]; exact ht), Nat.div_eq_of_lt ht, Nat.mod_eq_of_lt ht]
      have : t < (enc a).length := by rw [hk]; exact ht
      simp [this]
    · rw [List.getElem?_append_right (by rw [hk]; omega), hk]
      have h1 : t - k < l.length * k := by
        simp only [List.length_cons, Nat.add_mul, Nat.one_mul] at h
        omega
      rw [flat3_at hk h0 l (t - k) h1]
      have e1 : t / k = (t - k) / k + 1 := by rw [Nat.div_eq t k, if_pos ⟨h0, by omega⟩]
      have e2 : t % k = (t - k) % k := Nat.mod_eq_sub_mod (by omega)
      rw [e1, e2]
      simp
/-- Which of a triangle's edges faces a corner. -/
def spotE : Nat → Nat := fun k => if k = 0 then 1 else if k = 1 then 2 else 0
theorem edges_at {T : List Tr} {c : Nat} (hc : c < 3 * T.length) : (T.flatMap edges3)[c / 3 * 3 + spotE (c % 3)]? = some ((edgeN T c).1, (edgeN T c).2, 0) := by
  obtain ⟨j, t, ht, rfl, h⟩ := edgeN_mem hc
  have hlen : ∀ x : Tr, (edges3 x).length = 3 := fun _ => rfl
  have hs : spotE (c % 3) < 3 := by unfold spotE; split <;> (try split) <;> omega
  have hk := (List.getElem?_eq_some_iff.1 ht).1
  rw [flat3_at (k := 3) hlen (by decide) T (c / 3 * 3 + spotE (c % 3)) (by omega)]
  have e1 : (c / 3 * 3 + spotE (c % 3)) / 3 = c / 3 := by omega
  have e2 : (c / 3 * 3 + spotE (c % 3)) % 3 = spotE (c % 3) := by omega
  rw [e1, e2, getElem!_pos T (c / 3) hk]
  have e3 : T[c / 3] = t := by rw [List.getElem?_eq_getElem hk] at ht; exact Option.some.inj ht
  rw [e3]
  rcases h with ⟨h0, h⟩ | ⟨h0, h⟩ | ⟨h0, h⟩ <;> rw [h0, h] <;> rfl
theorem edge_inj {T : List Tr} (hu : (T.flatMap edges3).Nodup) {c d : Nat} (hc : c < 3 * T.length) (hd : d < 3 * T.length) (h : edgeN T c = edgeN T d) : c = d := by
  have a := edges_at hc
  have b := edges_at hd
  rw [h] at a
  obtain ⟨h1, e1⟩ := List.getElem?_eq_some_iff.1 a
  obtain ⟨h2, e2⟩ := List.getElem?_eq_some_iff.1 b
  have hp := List.pairwise_iff_getElem.1 (List.nodup_iff_pairwise_ne.1 hu)
  have : c / 3 * 3 + spotE (c % 3) = d / 3 * 3 + spotE (d % 3) := by
    rcases Nat.lt_trichotomy (c / 3 * 3 + spotE (c % 3)) (d / 3 * 3 + spotE (d % 3)) with hlt | e | hlt
    · exact absurd (e1.trans e2.symm) (hp _ _ h1 h2 hlt)
    · exact e
    · exact absurd (e2.trans e1.symm) (hp _ _ h2 h1 hlt)
  unfold spotE at this
  split at this <;> split at this <;> (try split at this) <;> (try split at this) <;> omega
theorem facI_some {T : List Tr} {e : Int × Int} {o : Nat} (h : facI T e = (o : Int)) : o < 3 * T.length ∧ edgeN T o = e := by
  unfold facI at h
  cases hf : facFrom T 0 e with
  | none => rw [hf] at h; simp only at h; omega
  | some d =>
    rw [hf] at h
    simp only at h
    have hd : d = o := by omega
    subst hd
    unfold facFrom at hf
    have h1 := List.mem_of_find?_eq_some hf
    have h2 := List.find?_some hf
    rw [List.mem_range'_1] at h1
    exact ⟨by omega, by simpa using h2⟩
theorem facI_of {T : List Tr} (hu : (T.flatMap edges3).Nodup) {o : Nat} (ho : o < 3 * T.length) : facI T (edgeN T o) = (o : Int) := by
  unfold facI
  cases hf : facFrom T 0 (edgeN T o) with
  | none =>
    unfold facFrom at hf
    have := List.find?_eq_none.1 hf o (by rw [List.mem_range'_1]; omega)
    simp at this
  | some d =>
    unfold facFrom at hf
    have h1 := List.mem_of_find?_eq_some hf
    have h2 := List.find?_some hf
    rw [List.mem_range'_1] at h1
    have := edge_inj hu (c := d) (d := o) (by omega) ho (by simpa using h2)
    rw [this]
theorem opp_some {T : List Tr} {c o : Nat} (hc : c < 3 * T.length) (h : oppI T (c : Int) = (o : Int)) : o < 3 * T.length ∧ edgeN T o = ((edgeN T c).2, (edgeN T c).1) := by
  unfold oppI at h
  rw [edgeI_nat hc] at h
  exact facI_some h
theorem opp_back {T : List Tr} (hu : (T.flatMap edges3).Nodup) {c o : Nat} (hc : c < 3 * T.length) (h : oppI T (c : Int) = (o : Int)) : oppI T (o : Int) = (c : Int) := by
  obtain ⟨ho, he⟩ := opp_some hc h
  unfold oppI
  rw [edgeI_nat ho, he]
  exact facI_of hu hc
theorem opp_cases (T : List Tr) (c : Int) : oppI T c = -1 ∨ ∃ o : Nat, oppI T c = (o : Int) ∧ o < 3 * T.length := by
  obtain ⟨h1, h2⟩ := oppI_bd T c
  by_cases h : 0 ≤ oppI T c
  · exact .inr ⟨(oppI T c).toNat, by omega, by omega⟩
  · exact .inl (by omega)

/-! Numbered parts. -/
def Reach (T : List Tr) (i j : Nat) : Prop := ∀ S : Nat → Prop, S i → (∀ c o : Nat, c < 3 * T.length → oppI T (c : Int) = (o : Int) → S (c / 3) → S (o / 3)) → S j
theorem Reach.refl (T : List Tr) (i : Nat) : Reach T i i := fun _ h _ => h
theorem Reach.step {T : List Tr} {i c o : Nat} (h : Reach T i (c / 3)) (hc : c < 3 * T.length) (ho : oppI T (c : Int) = (o : Int)) : Reach T i (o / 3) := fun S h1 h2 => h2 c o hc ho (h S h1 h2)
def at_ (out : List Int) (j : Nat) : Int := out.getD j (-1)
/-- Each triangle has the number of its part; the parts are numbered by their least triangles. -/
structure Shl (T : List Tr) (out : List Int) : Prop where
  len : out.length = T.length
  nn : ∀ j, j < T.length → 0 ≤ at_ out j
  adj : ∀ c o : Nat, c < 3 * T.length → oppI T (c : Int) = (o : Int) → at_ out (o / 3) = at_ out (c / 3)
  new : ∀ j, j < T.length → (∃ i, i < j ∧ at_ out i = at_ out j ∧ Reach T i j) ∨ ((∀ i, i < j → at_ out i < at_ out j) ∧ (at_ out j = 0 ∨ ∃ i, i < j ∧ at_ out i + 1 = at_ out j))
theorem Shl.reach {T : List Tr} {out : List Int} (h : Shl T out) {i j : Nat} (hr : Reach T i j) : at_ out i = at_ out j :=
  hr (fun x => at_ out i = at_ out x) rfl (fun c o hc ho e => e.trans (h.adj c o hc ho).symm)
theorem Shl.one {T : List Tr} {a b : List Int} (ha : Shl T a) (hb : Shl T b) : a = b := by
  have key : ∀ j, j < T.length → at_ a j = at_ b j := by
    intro j
    induction j using Nat.strongRecOn with
    | ind j ih =>
      intro hj
      rcases ha.new j hj with ⟨i, hi, e, hr⟩ | ⟨a1, a2⟩
      · rw [← e, ← hb.reach hr]
        exact ih i hi (by omega)
      · rcases hb.new j hj with ⟨i, hi, e, hr⟩ | ⟨b1, b2⟩
        · rw [← e, ← ha.reach hr]
          exact ih i hi (by omega)
        · rcases Int.lt_trichotomy (at_ a j) (at_ b j) with hlt | e | hlt
          · have h0 := ha.nn j hj
            rcases b2 with e | ⟨i, hi, e⟩
            · omega
            · have := a1 i hi
              rw [ih i hi (by omega)] at this
              omega
          · exact e
          · have h0 := hb.nn j hj
            rcases a2 with e | ⟨i, hi, e⟩
            · omega
            · have := b1 i hi
              rw [← ih i hi (by omega)] at this
              omega
  apply List.ext_getElem?
  intro j
  by_cases hj : j < T.length
  · have h1 : j < a.length := by rw [ha.len]; exact hj
    have h2 : j < b.length := by rw [hb.len]; exact hj
    have := key j hj
    simp only [at_, List.getD, List.getElem?_eq_getElem h1, List.getElem?_eq_getElem h2, Option.getD_some] at this
    rw [List.getElem?_eq_getElem h1, List.getElem?_eq_getElem h2, this]
  · rw [List.getElem?_eq_none (by rw [ha.len]; omega), List.getElem?_eq_none (by rw [hb.len]; omega)]

/-- While the parts are gone over: f triangles are looked at, n parts are there. -/
structure OfInv (T : List Tr) (f n : Nat) (out : List Int) : Prop where
  len : out.length = T.length
  lo : ∀ j, j < T.length → -1 ≤ at_ out j ∧ at_ out j < n
  done : ∀ j, j < f → 0 ≤ at_ out j
  adj : ∀ c o : Nat, c < 3 * T.length → oppI T (c : Int) = (o : Int) → 0 ≤ at_ out (c / 3) → at_ out (o / 3) = at_ out (c / 3)
  new : ∀ j, j < T.length → 0 ≤ at_ out j → (∃ i, i < j ∧ i < f ∧ at_ out i = at_ out j ∧ Reach T i j) ∨ (j < f ∧ (∀ i, i < j → at_ out i < at_ out j) ∧ (at_ out j = 0 ∨ ∃ i, i < j ∧ at_ out i + 1 = at_ out j))
  top : n = 0 ∨ ∃ j, j < f ∧ at_ out j + 1 = n
theorem at_replicate {m j : Nat} (h : j < m) : at_ (List.replicate m (-1)) j = -1 := by simp [at_, List.getD, h]
theorem OfInv.start (T : List Tr) : OfInv T 0 0 (List.replicate T.length (-1)) where
  len := by simp
  lo := fun j hj => by rw [at_replicate hj]; omega
  done := fun j hj => by omega
  adj := fun c o hc _ h => by rw [at_replicate (by omega)] at h; omega
  new := fun j hj h => by rw [at_replicate hj] at h; omega
  top := .inl rfl
theorem OfInv.skip {T : List Tr} {f n : Nat} {out : List Int} (h : OfInv T f n out) (h0 : 0 ≤ at_ out f) : OfInv T (f + 1) n out where
  len := h.len
  lo := h.lo
  done := fun j hj => by
    by_cases e : j = f
    · rw [e]; exact h0
    · exact h.done j (by omega)
  adj := h.adj
  new := fun j hj hn => by
    rcases h.new j hj hn with ⟨i, a, b, c⟩ | ⟨a, b⟩
    · exact .inl ⟨i, a, by omega, c⟩
    · exact .inr ⟨by omega, b⟩
  top := by
    rcases h.top with e | ⟨j, hj, e⟩
    · exact .inl e
    · exact .inr ⟨j, by omega, e⟩
theorem OfInv.finish {T : List Tr} {n : Nat} {out : List Int} (h : OfInv T T.length n out) : Shl T out ∧ (n = 0 ∨ ∃ j, j < T.length ∧ at_ out j + 1 = n) ∧ ∀ j, j < T.length → at_ out j < n :=
  ⟨⟨h.len, h.done, fun c o hc ho => h.adj c o hc ho (h.done _ (by omega)), fun j hj => by
    rcases h.new j hj (h.done j hj) with ⟨i, a, _, c⟩ | ⟨_, b⟩
    · exact .inl ⟨i, a, c⟩
    · exact .inr b⟩, h.top, fun j hj => (h.lo j hj).2⟩
/-- In the midst of part n, begun at f: W wait, or were gone over; of the i-th k corners are looked at. -/
structure OfBfs (T : List Tr) (f n : Nat) (out : List Int) (W : List Nat) (out' : List Int) (i k : Nat) : Prop where
  len : out'.length = T.length
  nd : W.Nodup
  lt : ∀ u ∈ W, u < T.length
  free : ∀ u ∈ W, at_ out u = -1
  lab : ∀ u ∈ W, at_ out' u = n
  old : ∀ j, j ∉ W → at_ out' j = at_ out j
  fin : f ∈ W
  reach : ∀ u ∈ W, Reach T f u
  closed : ∀ p k' u, (p < i ∨ (p = i ∧ k' < k)) → W[p]? = some u → k' < 3 → ∀ o : Nat, oppI T ((3 * u + k' : Nat) : Int) = (o : Int) → o / 3 ∈ W
theorem at_set {out : List Int} {j i : Nat} {x : Int} (hi : i < out.length) : at_ (out.set i x) j = if j = i then x else at_ out j := by
  unfold at_
  by_cases e : j = i
  · subst e
    simp [List.getD, hi]
  · rw [if_neg e, List.getD, List.getD, List.getElem?_set_ne (fun e' => e e'.symm)]
theorem OfInv.begin_ {T : List Tr} {f n : Nat} {out : List Int} (h : OfInv T f n out) (hf : f < T.length) (h0 : at_ out f < 0) : OfBfs T f n out [f] (out.set f (n : Int)) 0 0 where
  len := by simp [h.len]
  nd := by simp
  lt := fun u hu => by rw [List.mem_singleton.1 hu]; exact hf
  free := fun u hu => by
    rw [List.mem_singleton.1 hu]
    have := (h.lo f hf).1
    omega
  lab := fun u hu => by rw [List.mem_singleton.1 hu, at_set (by rw [h.len]; exact hf), if_pos rfl]
  old := fun j hj => by rw [at_set (by rw [h.len]; exact hf), if_neg (fun e => hj (by simp [e]))]
  fin := by simp
  reach := fun u hu => by rw [List.mem_singleton.1 hu]; exact Reach.refl T f
  closed := fun p k' u hp => by omega
theorem OfBfs.step0 {T : List Tr} {f n : Nat} {out : List Int} {W : List Nat} {out' : List Int} {i k u : Nat} (h : OfBfs T f n out W out' i k) (hu : W[i]? = some u) (hn : ∀ o : Nat, oppI T ((3 * u + k : Nat) : Int) = (o : Int) → o / 3 ∈ W) : OfBfs T f n out W out' i (k + 1) :=
  ⟨h.len, h.nd, h.lt, h.free, h.lab, h.old, h.fin, h.reach, fun p k' u' hp hu' hk' o ho => by
      by_cases e : p = i ∧ k' = k
      · obtain ⟨rfl, rfl⟩ := e
        rw [hu] at hu'
        cases hu'
        exact hn o ho
      · exact h.closed p k' u' (by omega) hu' hk' o ho⟩
theorem OfBfs.next {T : List Tr} {f n : Nat} {out : List Int} {W : List Nat} {out' : List Int} {i : Nat} (h : OfBfs T f n out W out' i 3) : OfBfs T f n out W out' (i + 1) 0 :=
  ⟨h.len, h.nd, h.lt, h.free, h.lab, h.old, h.fin, h.reach, fun p k' u' hp hu' hk' o ho => h.closed p k' u' (by omega) hu' hk' o ho⟩
theorem OfBfs.old_in {T : List Tr} (hE : (T.flatMap edges3).Nodup) {f n : Nat} {out : List Int} {W : List Nat} {out' : List Int} {i k u o : Nat} (hI : OfInv T f n out) (h : OfBfs T f n out W out' i k) (hu : W[i]? = some u) (hk : k < 3) (ho : oppI T ((3 * u + k : Nat) : Int) = (o : Int)) (h0 : 0 ≤ at_ out' (o / 3)) : o / 3 ∈ W := by
  refine Classical.byContradiction fun hne => ?_
  have hm := List.mem_of_getElem? hu
  have hul := h.lt u hm
  have hc : 3 * u + k < 3 * T.length := by omega
  rw [h.old _ hne] at h0
  have := hI.adj o (3 * u + k) (opp_some hc ho).1 (opp_back hE hc ho) h0
  rw [show (3 * u + k) / 3 = u from by omega, h.free u hm] at this
  omega
theorem OfBfs.add {T : List Tr} {f n : Nat} {out : List Int} {W : List Nat} {out' : List Int} {i k u o : Nat} (hI : OfInv T f n out) (h : OfBfs T f n out W out' i k) (hu : W[i]? = some u) (hk : k < 3) (ho : oppI T ((3 * u + k : Nat) : Int) = (o : Int)) (h0 : at_ out' (o / 3) < 0) : OfBfs T f n out (W ++ [o / 3]) (out'.set (o / 3) (n : Int)) i (k + 1) := by
  have hm := List.mem_of_getElem? hu
  have hul := h.lt u hm
  have hc : 3 * u + k < 3 * T.length := by omega
  have hol := (opp_some hc ho).1
  have hot : o / 3 < T.length := by omega
  have hne : o / 3 ∉ W := fun e => by
    rw [h.lab _ e] at h0
    omega
  have hli : i < W.length := (List.getElem?_eq_some_iff.1 hu).1
  refine ⟨by simp [h.len], ?_, ?_, ?_, ?_, ?_, List.mem_append_left _ h.fin, ?_, ?_⟩
  · rw [List.nodup_append]
    exact ⟨h.nd, by simp, fun a ha b hb e => by rw [List.mem_singleton.1 hb] at e; exact hne (by rw [← e]; exact ha)⟩
  · intro x hx
    rcases List.mem_append.1 hx with hx | hx
    · exact h.lt x hx
    · rw [List.mem_singleton.1 hx]; exact hot
  · intro x hx
    rcases List.mem_append.1 hx with hx | hx
    · exact h.free x hx
    · rw [List.mem_singleton.1 hx, ← h.old _ hne]
      have := (hI.lo (o / 3) hot).1
      rw [← h.old _ hne] at this
      omega
  · intro x hx
    rw [at_set (by rw [h.len]; exact hot)]
    rcases List.mem_append.1 hx with hx | hx
    · rw [if_neg (fun e => hne (by rw [← e]; exact hx))]
      exact h.lab x hx
    · rw [List.mem_singleton.1 hx, if_pos rfl]
  · intro j hj
    rw [at_set (by rw [h.len]; exact hot), if_neg (fun e => hj (by simp [e]))]
    exact h.old j (fun e => hj (List.mem_append_left _ e))
  · intro x hx
    rcases List.mem_append.1 hx with hx | hx
    · exact h.reach x hx
    · rw [List.mem_singleton.1 hx]
      exact Reach.step (c := 3 * u + k) (by rw [show (3 * u + k) / 3 = u from by omega]; exact h.reach u hm) hc ho
  · intro p k' u' hp hu' hk' o' ho'
    have hpl : p < W.length := by omega
    rw [List.getElem?_append_left hpl] at hu'
    by_cases e : p = i ∧ k' = k
    · obtain ⟨rfl, rfl⟩ := e
      rw [hu] at hu'
      cases hu'
      rw [ho] at ho'
      have : o = o' := by omega
      rw [← this]
      simp
    · exact List.mem_append_left _ (h.closed p k' u' (by omega) hu' hk' o' ho')
theorem OfBfs.finish {T : List Tr} {f n : Nat} {out : List Int} {W : List Nat} {out' : List Int} (hI : OfInv T f n out) (hf : f < T.length) (h : OfBfs T f n out W out' W.length 0) : OfInv T (f + 1) (n + 1) out' where
  len := h.len
  lo := fun j hj => by
    by_cases e : j ∈ W
    · rw [h.lab j e]; omega
    · rw [h.old j e]
      have := hI.lo j hj
      omega
  done := fun j hj => by
    by_cases e : j ∈ W
    · rw [h.lab j e]; omega
    · rw [h.old j e]
      exact hI.done j (by
        have : j ≠ f := fun e' => e (by rw [e']; exact h.fin)
        omega)
  adj := fun c o hc ho h0 => by
    by_cases e : c / 3 ∈ W
    · obtain ⟨p, hp⟩ := List.mem_iff_getElem?.1 e
      have := h.closed p (c % 3) (c / 3) (.inl (List.getElem?_eq_some_iff.1 hp).1) hp (by omega) o (by rw [show 3 * (c / 3) + c % 3 = c from by omega]; exact ho)
      rw [h.lab _ e, h.lab _ this]
    · rw [h.old _ e] at h0
      have := hI.adj c o hc ho h0
      have hne : o / 3 ∉ W := fun e' => by
        rw [h.free _ e'] at this
        omega
      rw [h.old _ e, h.old _ hne, this]
  new := fun j hj h0 => by
    have hfree : ∀ u ∈ W, f ≤ u := fun u hu => by
      rcases Nat.lt_or_ge u f with hlt | hge
      · have := hI.done u hlt
        rw [h.free u hu] at this
        omega
      · exact hge
    by_cases e : j ∈ W
    · by_cases ef : j = f
      · right
        subst ef
        refine ⟨by omega, fun i hi => ?_, ?_⟩
        · have hni : i ∉ W := fun e' => by have := hfree i e'; omega
          rw [h.old i hni, h.lab _ e]
          exact (hI.lo i (by omega)).2
        · rw [h.lab _ e]
          rcases hI.top with e0 | ⟨i, hi, e0⟩
          · left; omega
          · right
            have hni : i ∉ W := fun e' => by have := hfree i e'; omega
            exact ⟨i, hi, by rw [h.old i hni]; exact e0⟩
      · left
        have := hfree j e
        exact ⟨f, by omega, by omega, by rw [h.lab _ e, h.lab _ h.fin], h.reach j e⟩
    · rw [h.old j e] at h0 ⊢
      rcases hI.new j hj h0 with ⟨i, a, b, c, d⟩ | ⟨a, b, c⟩
      · left
        have hni : i ∉ W := fun e' => by have := hfree i e'; omega
        exact ⟨i, a, by omega, by rw [h.old i hni]; exact c, d⟩
      · right
        have hni : ∀ i, i < j → i ∉ W := fun i hi e' => by have := hfree i e'; omega
        refine ⟨by omega, fun i hi => by rw [h.old i (hni i hi)]; exact b i hi, ?_⟩
        rcases c with c | ⟨i, hi, c⟩
        · exact .inl c
        · exact .inr ⟨i, hi, by rw [h.old i (hni i hi)]; exact c⟩
  top := .inr ⟨f, by omega, by rw [h.lab _ h.fin]; omega⟩
theorem OfBfs.wl {T : List Tr} {f n : Nat} {out : List Int} {W : List Nat} {out' : List Int} {i k : Nat} (h : OfBfs T f n out W out' i k) : W.length ≤ T.length := by
  have := Jor.nodup_le (m := List.range T.length) h.nd (fun x hx => List.mem_range.2 (h.lt x hx))
  simpa using this
end Go.Proofs.YtpnkhgjjlionnaaGreat
namespace Go.Proofs.YtpnkhgjjlionnaaGreat
open Go.RowKit

theorem made_ints (m : Nat) : (madeCells (Value.int .i64 0).cells (m * 1)).toList = List.replicate m (.int .i64 0) := by
  rw [Nat.mul_one]
  show (madeCells #[Value.int .i64 0] m).toList = _
  rw [toList_madeCells_one]
theorem intsV_at {out : List Int} {j : Nat} (h : j < out.length) : (intsV out)[j]? = some (.int .i64 (at_ out j)) := by
  unfold intsV at_
  rw [List.getElem?_map, List.getElem?_eq_getElem h]
  simp [List.getD, h]
theorem intsV_set (out : List Int) (j : Nat) (x : Int) : (intsV out).set j (.int .i64 x) = intsV (out.set j x) := by simp [intsV, List.map_set]
theorem fill_set (k F : Nat) (h : k < F) : (intsV (List.replicate k (-1) ++ List.replicate (F - k) 0)).set k (.int .i64 (-1)) = intsV (List.replicate (k + 1) (-1) ++ List.replicate (F - (k + 1)) 0) := by
  rw [intsV_set]
  congr 1
  apply List.ext_getElem?
  intro i
  rw [List.getElem?_set]
  by_cases e : k = i
  · subst e
    rw [if_pos rfl, if_pos (by simp; omega), List.getElem?_append_left (by simp), List.getElem?_replicate, if_pos (by omega)]
  · rw [if_neg e]
    by_cases hi : i < k
    · rw [List.getElem?_append_left (by simpa using hi), List.getElem?_append_left (by simp; omega), List.getElem?_replicate, List.getElem?_replicate, if_pos hi, if_pos (by omega)]
    · rw [List.getElem?_append_right (by simp; omega), List.getElem?_append_right (by simp; omega), List.getElem?_replicate, List.getElem?_replicate]
      simp only [List.length_replicate]
      by_cases h2 : i < F
      · rw [if_pos (by omega), if_pos (by omega)]
      · rw [if_neg (by omega), if_neg (by omega)]
set_option maxRecDepth 100000 in
set_option maxHeartbeats 4000000 in
theorem of_any (g : Nat) (N : Int) (T : List Tr) (w : World) (h : Tab w g N T) (hE : (T.flatMap edges3).Nodup) : Calls Tryz.prog 39 #[.pointer (some ⟨g, 0, none⟩)] w fun e w' => ∃ v out, e = .returned v ∧ w'.ownsRow w.heap.size 3 1 v T.length (intsV out) ∧ Shl T out ∧ (∀ j, j < T.length → at_ out j < T.length) ∧ Below w.heap.size w w' := by
  obtain ⟨i2, hj', hz0, hz1, hz2⟩ := info_parts infoInt
  have HT := Lib.hid h
  have H0 := Lib.hid (triangles_any g N T w h.toTabS)
  have hl := h.len
  have hgl := h.lt
  obtain ⟨F, hF⟩ : ∃ F, T.length = F := ⟨_, rfl⟩
  rw [hF] at hl H0 ⊢
  have HF := Lib.hid hF
  clear hF h
  go_enter Tryz.func39, Tryz.ntmps39
  go_wp2_with fail
  refine H0.out.mono ?_
  rintro e w0 ⟨rfl, rfl⟩
  go_wp2_with (at_make; refine wpList_make_full _ rfl (.tmp 12) (.tmp 12) 30 rfl w.heap.size 3 i2 _ 1 Tryz.underlying30 hj' hz0 hz1 .i64 .i64 _ _ F rfl rfl rfl rfl (by rw [hz2]; omega) (by unfold maxLen; omega) (Nat.le_refl _) ?_; intro w1 hr1 hg1)
  rw [made_ints] at hr1
  have hB1 : Below w.heap.size w w1 := (Below.refl _ _).grown hg1 (Nat.le_refl _) (fun j e => by cases e)
  clear hg1
  go_loopw [16] (fun ix wr => ∃ k : Nat, k ≤ F ∧ ix = .int .i64 k ∧ wr.ownsRow w.heap.size 3 1 (.slice (some ⟨w.heap.size, 0, none⟩) F F) F (intsV (List.replicate k (-1) ++ List.replicate (F - k) 0)) ∧ Below w.heap.size w wr) (fun ix _ => F - (intOf ix).toNat)
  case atStart => exact ⟨0, Nat.zero_le _, rfl, by simpa [intsV] using hr1, hB1⟩
  case round =>
    clear hr1 hB1
    obtain ⟨k, hk, rfl, hr, hB⟩ := hrel
    rename World => wr
    by_cases hlt : k < F
    · have hlen : (List.replicate k (-1 : Int) ++ List.replicate (F - k) 0).length = F := by simp; omega
      have hc : wr.cell? ⟨w.heap.size, k, none⟩ = some (.int .i64 (at_ (List.replicate k (-1) ++ List.replicate (F - k) 0) k)) := by rw [hr.cellAt k (by omega)]; exact intsV_at (by rw [hlen]; exact hlt)
      have hf := hr.frozenAt k
      have hk3 : (k : Int) < (F : Int) := by omega
      have hsz := hB.size
      have hst := hr.stored k (.int .i64 (-1))
      rw [fill_set k F hlt] at hst
      have HST := Lib.hid hst
      have HB := Lib.hid hB
      clear hr hB hlen hst
      go_wp2
      go_roundw
      case measure => simp [intOf]; omega
      case rel => exact ⟨k + 1, by omega, by go_num, HST.out.1, HB.out.grown HST.out.2 hsz (fun j e => by cases e; exact Nat.le_refl _)⟩
    · obtain rfl : k = F := by omega
      have hI : OfInv T 0 0 (List.replicate T.length (-1)) := OfInv.start T
      rw [HF.out] at hI
      have hr' : wr.ownsRow w.heap.size 3 1 (.slice (some ⟨w.heap.size, 0, none⟩) k k) k (intsV (List.replicate k (-1))) := by simpa using hr
      have HI := Lib.hid hI
      have HR := Lib.hid hr'
      have HB := Lib.hid hB
      clear hr hB hr' hI
      go_wp2
      go_loopw [5, 25] (fun v5 ix wr => ∃ (f n : Nat) (out : List Int), f ≤ k ∧ n ≤ f ∧ ix = .int .i64 f ∧ v5 = .int .i64 n ∧ wr.ownsRow w.heap.size 3 1 (.slice (some ⟨w.heap.size, 0, none⟩) k k) k (intsV out) ∧ OfInv T f n out ∧ Below w.heap.size w wr) (fun _ ix _ => k - (intOf ix).toNat)
      case atStart => exact ⟨0, 0, _, Nat.zero_le _, Nat.le_refl _, rfl, rfl, HR.out, HI.out, HB.out⟩
      case round =>
        rename World => wz
        clear HR HI HB
        obtain ⟨f, n, out, hf, hnf, rfl, rfl, hr, hI, hB⟩ := hrel
        by_cases hlt2 : f < k
        · have hol : out.length = k := by rw [hI.len, HF.out]
          have hc : wz.cell? ⟨w.heap.size, f, none⟩ = some (.int .i64 (at_ out f)) := by rw [hr.cellAt f (by omega)]; exact intsV_at (by rw [hol]; exact hlt2)
          have hfz := hr.frozenAt f
          have hf3 : (f : Int) < (k : Int) := by omega
          have hsz := hB.size
          by_cases h0 : 0 ≤ at_ out f
          · have hd : decide (0 ≤ at_ out f) = true := by simpa using h0
            have hI2 := hI.skip h0
            have HI2 := Lib.hid hI2
            have HR := Lib.hid hr
            have HB := Lib.hid hB
            generalize at_ out f = z at *
            clear hI hI2 hr hB hol
            go_wp2
            go_roundw
            case measure => simp [intOf]; omega
            case rel => exact ⟨f + 1, n, out, by omega, by omega, by go_num, rfl, HR.out, HI2.out, HB.out⟩
          · have hd : decide (0 ≤ at_ out f) = false := by simpa using h0
            have hbf := hI.begin_ (by rw [HF.out]; exact hlt2) (by omega)
            have Hbf := Lib.hid hbf
            have hst := hr.stored f (.int .i64 (n : Int))
            rw [intsV_set] at hst
            have HST := Lib.hid hst
            have HI := Lib.hid hI
            have HB := Lib.hid hB
            have hgo := (hr.lt _ rfl).2
            have hW0 : ((wz.setCell ⟨w.heap.size, f, none⟩ (.int .i64 (n : Int))).alloc (.cells #[.int .i64 f] 3)).ownsRow wz.heap.size 3 1 (.slice (some ⟨wz.heap.size, 0, none⟩) 1 1) 1 (intsV (nats [f])) := by
              have := World.ownsRow_lit (wz.setCell ⟨w.heap.size, f, none⟩ (.int .i64 (n : Int))) (base := wz.heap.size) (e := 3) (size := 1) #[.int .i64 (f : Int)] 1 (by simp) (by decide) rfl
              simpa [intsV, nats] using this
            have HW0 := Lib.hid hW0
            generalize at_ out f = z at *
            clear hI hbf hr hB hol hst hW0
            go_wp2
            go_loopw [7, 8] (fun v7 i8 wy => ∃ (v' : Value) (W : List Nat) (out' : List Int) (i : Nat), v' = v7 ∧ i ≤ W.length ∧ i8 = .int .i64 i ∧ wy.ownsRow wz.heap.size 3 1 v' W.length (intsV (nats W)) ∧ wy.ownsRow w.heap.size 3 1 (.slice (some ⟨w.heap.size, 0, none⟩) k k) k (intsV out') ∧ OfBfs T f n out W out' i 0 ∧ Below w.heap.size w wy) (fun _ i8 _ => k + 1 - (intOf i8).toNat)
            case atStart =>
              exact ⟨_, [f], _, 0, rfl, by simp, rfl, HW0.out, HST.out.1.alloc _, Hbf.out, (HB.out.grown HST.out.2 hsz (fun j e => by cases e; exact Nat.le_refl _)).alloc (by simp; exact hsz) _⟩
            case round =>
              rename World => wy
              clear HST Hbf HW0 hc hfz
              obtain ⟨v7, W, out', i, rfl, hi, rfl, hW, hr, hbf, hB⟩ := hrel
              have hwl := hbf.wl
              rw [HF.out] at hwl
              obtain ⟨L, hL⟩ : ∃ L, W.length = L := ⟨_, rfl⟩
              have HL := Lib.hid hL
              rw [hL] at hi hW hwl
              clear hL
              by_cases hiL : i < L
              · obtain ⟨u, hu⟩ : ∃ u, W[i]? = some u := ⟨W[i]'(by have := HL.out; omega), List.getElem?_eq_getElem _⟩
                have hul := hbf.lt u (List.mem_of_getElem? hu)
                rw [HF.out] at hul
                obtain ⟨aw, cw, rfl⟩ := ownsRow_slice hW
                have Hu := Lib.hid hu
                have HW := Lib.hid hW
                have HR := Lib.hid hr
                have HBF := Lib.hid hbf
                have HBy := Lib.hid hB
                have hi3 : (i : Int) < (L : Int) := by omega
                clear hu hW hr hbf hB
                go_wp2
                go_loopw [7, 45] (fun v7 k4 wx => ∃ (v' : Value) (W : List Nat) (out' : List Int) (q : Nat), v' = v7 ∧ q ≤ 3 ∧ k4 = .int .i64 q ∧ wx.ownsRow wz.heap.size 3 1 v' W.length (intsV (nats W)) ∧ wx.ownsRow w.heap.size 3 1 (.slice (some ⟨w.heap.size, 0, none⟩) k k) k (intsV out') ∧ OfBfs T f n out W out' i q ∧ W[i]? = some u ∧ Below w.heap.size w wx) (fun _ k4 _ => 3 - (intOf k4).toNat)
                case atStart => exact ⟨_, W, out', 0, rfl, by omega, rfl, by rw [HL.out]; exact HW.out, HR.out, HBF.out, Hu.out, HBy.out⟩
                case round =>
                  rename World => wx
                  clear HW HR HBF HBy Hu HL hi3 hiL hi hwl
                  clear W out'
                  obtain ⟨v7, W, out', q, rfl, hq, rfl, hW, hr, hbf, hu, hB⟩ := hrel
                  have hwl := hbf.wl
                  rw [HF.out] at hwl
                  have hiL := (List.getElem?_eq_some_iff.1 hu).1
                  by_cases hq3 : q < 3
                  · obtain ⟨gw, cw', rfl, hgw1, hgw2⟩ := hW.form (by omega)
                    have hcw := hW.cellAt i (by omega)
                    rw [show (intsV (nats W))[i]? = some (.int .i64 (u : Int)) from by simp [intsV, nats, hu]] at hcw
                    have hsx := hB.size
                    have HO := Lib.hid (opp_any g N (3 * (u : Int) + (q : Int)) T wx (HT.out.below (hB.mono (Nat.le_refl _))))
                    obtain ⟨L2, hL2⟩ : ∃ L2, W.length = L2 := ⟨_, rfl⟩
                    rw [hL2] at hW hiL hwl ⊢
                    have HL2 := Lib.hid hL2
                    have hi3 : (i : Int) < (L2 : Int) := by omega
                    have hq0 : (q : Int) < 3 := by omega
                    have hqn : (0 : Int) ≤ (q : Int) := by omega
                    have hu0 : (0 : Int) ≤ (u : Int) := by omega
                    have hu1 : (u : Int) ≤ 8192 := by omega
                    have ecast : (3 * (u : Int) + (q : Int)) = ((3 * u + q : Nat) : Int) := by push_cast; rfl
                    have HEC := Lib.hid ecast
                    have HW := Lib.hid hW
                    have HR := Lib.hid hr
                    have HBF := Lib.hid hbf
                    have HU := Lib.hid hu
                    have HBx := Lib.hid hB
                    clear hW hr hbf hu hB hL2 ecast
                    rcases opp_cases T ((3 * u + q : Nat) : Int) with ho | ⟨o, ho, hol⟩
                    · rw [HEC.out, ho] at HO
                      have Hs := Lib.hid (HBF.out.step0 HU.out (fun o e => by rw [ho] at e; omega))
                      clear ho
                      go_wp2_with fail
                      rw [HEC.out]
                      refine HO.out.mono ?_
                      rintro e w2 ⟨rfl, hb2⟩
                      have HB2 := Lib.hid hb2
                      clear hb2 hcw
                      go_wp2
                      go_roundw
                      case measure => simp [intOf]; omega
                      case rel => exact ⟨_, W, out', q + 1, rfl, by omega, by go_num, by rw [HL2.out]; exact own_below HW.out HB2.out, own_below HR.out HB2.out, Hs.out, HU.out, HBx.out.trans (HB2.out.mono hsx)⟩
                    · rw [HEC.out, ho] at HO
                      rw [HF.out] at hol
                      obtain ⟨t, ht⟩ : ∃ t, o / 3 = t := ⟨_, rfl⟩
                      have e1 : (o : Int) / 3 = (t : Int) := by omega
                      have htk : t < k := by omega
                      have ht3 : (t : Int) < (k : Int) := by omega
                      have ht0 : (0 : Int) ≤ (t : Int) := by omega
                      have ho0 : (0 : Int) ≤ (o : Int) := by omega
                      have ho1 : (o : Int) ≤ 100000 := by omega
                      have hd0 : decide (0 ≤ (o : Int)) = true := by simp
                      have holn : out'.length = k := by rw [HBF.out.len, HF.out]
                      have hco : wx.cell? ⟨w.heap.size, t, none⟩ = some (.int .i64 (at_ out' t)) := by rw [HR.out.cellAt t (by omega)]; exact intsV_at (by rw [holn]; exact htk)
                      have Hho := Lib.hid ho
                      have Hht := Lib.hid ht
                      have hgx := (HR.out.lt _ rfl).2
                      by_cases hneg : at_ out' t < 0
                      · have hd1 : decide (at_ out' t < 0) = true := by simpa using hneg
                        have Hs := Lib.hid (HBF.out.add HI.out HU.out hq3 ho (by rw [ht]; exact hneg))
                        rw [ht] at Hs
                        generalize at_ out' t = z at *
                        have c6 : L2 + 1 ≤ maxLen := by unfold maxLen; omega
                        have c7 : (L2 + 1) * 8 ≤ 140737488355328 := by omega
                        clear ho ht hneg holn
                        go_wp2_with fail
                        rw [HEC.out]
                        refine HO.out.mono ?_
                        rintro e w2 ⟨rfl, hb2⟩
                        have hco2 := (hb2.cell (p := ⟨w.heap.size, t, none⟩) hgx).trans hco
                        have hR2 := own_below HR.out hb2
                        have hfo2 := hR2.frozenAt t
                        have hst := hR2.stored t (.int .i64 (n : Int))
                        rw [intsV_set] at hst
                        have HST := Lib.hid hst
                        have hW2 := own_below HW.out hb2
                        have hgo2 := (hR2.lt _ rfl).2
                        have hW3 := hW2.kept hst.2 (.inr (by simp [Value.ownBlock]; omega))
                        have HB2 := Lib.hid hb2
                        have hsz2 := hb2.size
                        clear hb2 hcw hco hR2 hst hW2
                        go_wp2_with (at_builtin; refine wpList_append_lies _ rfl (.tmp 72) (.tmp 75) 30 rfl wz.heap.size 3 i2 _ 1 8 Tryz.underlying30 hj' hz0 hz1 hz2 rfl (by decide) _ L2 (intsV (nats W)) rfl (hW3.alloc _) ⟨w2.heap.size, 0, none⟩ 1 1 [.int .i64 t] rfl rfl (World.news_of_block (by have := heap_alloc_new (w2.setCell ⟨w.heap.size, t, none⟩ (.int .i64 (n : Int))) (.cells #[.int .i64 (t : Int)] 3); simpa using this)) (by simp [Value.oneCell']) (by decide) c6 c7 (by simp; omega) (w2.heap.size + 1) (by simp) ?_; intro g6 cap6 W6 hr6 hg6 hat6 _)
                        go_roundw
                        case measure => simp [intOf]; omega
                        case rel =>
                          have hO3 := (HST.out.1.alloc (.cells #[.int .i64 (t : Int)] 3)).kept hg6 (.inr (show some w.heap.size ≠ some gw from by simp; omega))
                          have hB3 := (((HBx.out.trans (HB2.out.mono hsx)).grown HST.out.2 (by omega) (fun j e => by cases e; exact Nat.le_refl _)).alloc (by simp; omega) (.cells #[.int .i64 (t : Int)] 3)).grown hg6 (by simp; omega) (fun j e => by have := (hW3.lt j e).1; omega)
                          refine ⟨_, W ++ [t], _, q + 1, rfl, by omega, by go_num, ?_, hO3, Hs.out, ?_, hB3⟩
                          · have hl3 : (W ++ [t]).length = L2 + 1 := by simp [HL2.out]
                            rw [hl3]
                            simpa [intsV, nats] using hr6
                          · rw [List.getElem?_append_left (by rw [HL2.out]; exact hiL)]
                            exact HU.out
                      · have hd1 : decide (at_ out' t < 0) = false := by simpa using hneg
                        have Hs := Lib.hid (HBF.out.step0 HU.out (fun o' e => by
                          rw [ho] at e
                          have : o = o' := by omega
                          subst this
                          exact HBF.out.old_in hE HI.out HU.out hq3 ho (by rw [ht]; omega)))
                        generalize at_ out' t = z at *
                        clear ho ht hneg holn
                        go_wp2_with fail
                        rw [HEC.out]
                        refine HO.out.mono ?_
                        rintro e w2 ⟨rfl, hb2⟩
                        have hco2 := (hb2.cell (p := ⟨w.heap.size, t, none⟩) hgx).trans hco
                        have HB2 := Lib.hid hb2
                        have hgo2 := (own_below HR.out hb2).lt _ rfl
                        clear hb2 hcw hco
                        go_wp2
                        go_roundw
                        case measure => simp [intOf]; omega
                        case rel => exact ⟨_, W, out', q + 1, rfl, by omega, by go_num, by rw [HL2.out]; exact own_below HW.out HB2.out, own_below HR.out HB2.out, Hs.out, HU.out, HBx.out.trans (HB2.out.mono hsx)⟩
                  · obtain rfl : q = 3 := by omega
                    have Hs := Lib.hid hbf.next
                    have HW := Lib.hid hW
                    have HR := Lib.hid hr
                    have HBx := Lib.hid hB
                    clear hbf hW hr hB hu
                    go_wp2
                    go_roundw
                    case measure => simp [intOf]; omega
                    case rel => exact ⟨v7, W, out', i + 1, rfl, by omega, by go_num, HW.out, HR.out, Hs.out, HBx.out⟩
              · obtain rfl : i = L := by omega
                have hfin := hbf
                rw [← HL.out] at hfin
                have Hs := Lib.hid (hfin.finish HI.out (by rw [HF.out]; exact hlt2))
                obtain ⟨aw, cw, rfl⟩ := ownsRow_slice hW
                have HR := Lib.hid hr
                have HBx := Lib.hid hB
                have hn0 : (n : Int) ≤ 8192 := by omega
                clear hbf hfin hW hr hB
                go_wp2
                go_roundw
                case measure => simp [intOf]; omega
                case rel => exact ⟨f + 1, n + 1, out', by omega, by omega, by go_num, by go_num, HR.out, Hs.out, HBx.out⟩
        · obtain rfl : f = k := by omega
          have hfi := OfInv.finish (by rw [HF.out]; exact hI)
          have HFI := Lib.hid hfi
          have HR := Lib.hid hr
          have HB := Lib.hid hB
          clear hfi hI hr hB
          go_wp2
          go_ret
          exact ⟨_, out, rfl, HR.out, HFI.out.1, fun j hj => by have := HFI.out.2.2 j (by rw [HF.out]; exact hj); omega, HB.out⟩
def cntL (out : List Int) : Int := out.foldl (fun n k => max n (k + 1)) 0
theorem cntL_take {out : List Int} {j : Nat} (h : j < out.length) : cntL (out.take (j + 1)) = max (cntL (out.take j)) (at_ out j + 1) := by
  unfold cntL
  rw [List.take_succ_eq_append_getElem h, List.foldl_append]
  simp [at_, List.getD, h]
theorem cntL_bd {out : List Int} {m : Int} (h : ∀ j, j < out.length → at_ out j < m) (hm : 0 ≤ m) : ∀ j, j ≤ out.length → 0 ≤ cntL (out.take j) ∧ cntL (out.take j) ≤ m
  | 0, _ => by simp [cntL]; omega
  | j + 1, hj => by
    have ih := cntL_bd h hm j (by omega)
    have := h j (by omega)
    rw [cntL_take (by omega)]
    omega
set_option maxRecDepth 100000 in
set_option maxHeartbeats 1000000 in
theorem count_any (g : Nat) (N : Int) (T : List Tr) (w : World) (h : Tab w g N T) (hE : (T.flatMap edges3).Nodup) : Calls Tryz.prog 40 #[.pointer (some ⟨g, 0, none⟩)] w fun e w' => ∃ out, e = .returned (.int .i64 (cntL out)) ∧ Shl T out ∧ (∀ j, j < T.length → at_ out j < T.length) ∧ Below w.heap.size w w' := by
  have H0 := Lib.hid (of_any g N T w h hE)
  have hl := h.len
  obtain ⟨F, hF⟩ : ∃ F, T.length = F := ⟨_, rfl⟩
  rw [hF] at hl H0 ⊢
  have HF := Lib.hid hF
  clear hF h
  go_enter Tryz.func40, Tryz.ntmps40
  go_wp2_with fail
  refine H0.out.mono ?_
  rintro e w1 ⟨v, out, rfl, hr, hS, hlt, hb⟩
  obtain ⟨av, cv, rfl⟩ := ownsRow_slice hr
  have hol : out.length = F := by rw [hS.len, HF.out]
  have hbd := cntL_bd (out := out) (m := (F : Int)) (fun j hj => hlt j (by omega)) (by omega)
  have HOL := Lib.hid hol
  have HBD := Lib.hid hbd
  have HR := Lib.hid hr
  have HS := Lib.hid hS
  have HLT := Lib.hid hlt
  clear hol hbd hr hS hlt H0
  go_wp2
  go_loop [3, 9] (fun n i => ∃ j : Nat, j ≤ F ∧ i = .int .i64 j ∧ n = .int .i64 (cntL (out.take j))) (fun _ i => F - (intOf i).toNat)
  case atStart => exact ⟨0, Nat.zero_le _, rfl, by simp [cntL]⟩
  case round =>
    obtain ⟨j, hj, rfl, rfl⟩ := hrel
    by_cases hjF : j < F
    · obtain ⟨g0, cap, e0, hg1, hg2⟩ := HR.out.form (by omega)
      cases e0
      have hc := HR.out.cellAt j (by omega)
      rw [intsV_at (by rw [HOL.out]; exact hjF)] at hc
      have Hst := Lib.hid (cntL_take (out := out) (j := j) (by rw [HOL.out]; exact hjF))
      obtain ⟨b0, b1⟩ := HBD.out j (by rw [HOL.out]; exact hj)
      obtain ⟨b2, b3⟩ := HBD.out (j + 1) (by rw [HOL.out]; exact hjF)
      have hk1 := HLT.out j hjF
      have hk0 := HS.out.nn j (by rw [HF.out]; exact hjF)
      rw [Hst.out] at b2 b3
      have hj3 : (j : Int) < (F : Int) := by omega
      generalize cntL (out.take j) = z at *
      generalize at_ out j = y at *
      go_wp2
      go_round
      case measure => simp [intOf]; omega
      case rel => exact ⟨j + 1, by omega, by go_num, by rw [Hst.out]⟩
    · obtain rfl : j = F := by omega
      have e : out.take j = out := List.take_of_length_le (by rw [HOL.out]; omega)
      have HE := Lib.hid e
      clear e
      go_wp2
      go_ret
      exact ⟨out, by rw [HE.out]; rfl, HS.out, HLT.out, hb⟩
end Go.Proofs.YtpnkhgjjlionnaaGreat
namespace Go.Proofs.YtpnkhgjjlionnaaGreat
namespace Jor
section
variable {F N : Nat} {opp vert : Nat → Nat}

theorem xs_mem {n : Nat} {p : Nat → Bool} : ∀ {X : List Nat}, X.Nodup → (∀ c ∈ X, c < n) → xs (List.range n) (fun c => p c && decide (c ∈ X)) = xs X p
  | [], _, _ => by
    rw [xs_nil]
    exact xs_false fun c _ => by simp
  | a :: r, hn, hl => by
    obtain ⟨h1, h2⟩ := List.nodup_cons.1 hn
    have ih := xs_mem (p := p) h2 (fun c hc => hl c (List.mem_cons_of_mem _ hc))
    have e : xs (List.range n) (fun c => p c && decide (c ∈ a :: r)) = xs (List.range n) (fun c => xor (p c && decide (c = a)) (p c && decide (c ∈ r))) := by
      refine xs_congr fun c _ => ?_
      by_cases h : c = a
      · subst h
        simp [h1]
      · simp [h]
    rw [e, xs_xor, ih, xs_cons]
    congr 1
    rw [xs_one (a := a) List.nodup_range (List.mem_range.2 (hl a (List.mem_cons_self ..))) (fun c _ hc => by simp [hc])]
    simp

/-- Where the edge across from a corner begins, and ends. -/
def hd (vert : Nat → Nat) (c : Nat) : Nat := vert (nx c)
def tl (vert : Nat → Nat) (c : Nat) : Nat := vert (pv c)
/-- A corner whose triangle was not gone over, and the one across was. -/
def Bd (F : Nat) (opp : Nat → Nat) (D : List Nat) (c : Nat) : Prop := c < 3 * F ∧ c / 3 ∉ D ∧ opp c / 3 ∈ D
def Come (F : Nat) (vert : Nat → Nat) (D : List Nat) (v : Nat) : Prop := ∃ d, d < 3 * F ∧ d / 3 ∈ D ∧ vert d = v
/-- Round and round. -/
def Cyc (vert : Nat → Nat) (X : List Nat) : Prop := ∃ c r, X = c :: r ∧ X.map (tl vert) = r.map (hd vert) ++ [hd vert c]
theorem Cyc.perm {X : List Nat} (h : Cyc vert X) : (X.map (tl vert)).Perm (X.map (hd vert)) := by
  obtain ⟨c, r, rfl, e⟩ := h
  rw [e, List.map_cons]
  exact List.perm_append_singleton ..
/-- What a surface is, besides, that is walked over. -/
structure Walks (F N : Nat) (opp vert : Nat → Nat) : Prop extends Closed F N opp vert where
  euler : 2 * N = F + 4
  pos : 0 < F
  ei : ∀ c d, c < 3 * F → d < 3 * F → hd vert c = hd vert d → tl vert c = tl vert d → c = d
  ar : ∀ (v : Nat) (S : Nat → Prop), (∃ c, c < 3 * F ∧ vert c = v ∧ S (c / 3)) → (∀ c, c < 3 * F → vert c = v → S (c / 3) → S (opp (nx c) / 3) ∧ S (opp (pv c) / 3)) → ∀ c, c < 3 * F → vert c = v → S (c / 3)
/-- While a walk is on its way: D are the triangles gone over, Xs the loops. -/
structure WInv (F : Nat) (opp vert : Nat → Nat) (d0 : Nat) (D : List Nat) (Xs : List (List Nat)) : Prop where
  dnd : D.Nodup
  dlt : ∀ t ∈ D, t < F
  root : d0 ∈ D
  conn : ∀ S : Nat → Prop, S d0 → (∀ c, c < 3 * F → c / 3 ∈ D → opp c / 3 ∈ D → S (c / 3) → S (opp c / 3)) → ∀ t ∈ D, S t
  len : ∀ X ∈ Xs, 3 ≤ X.length
  cyc : ∀ X ∈ Xs, Cyc vert X
  vnd : ∀ X ∈ Xs, (X.map (hd vert)).Nodup
  nd : Xs.flatten.Nodup
  bd : ∀ c, c ∈ Xs.flatten ↔ Bd F opp D c
variable {d0 : Nat} {D : List Nat} {Xs : List (List Nat)}
theorem WInv.mem (h : WInv F opp vert d0 D Xs) {X : List Nat} (hX : X ∈ Xs) {c : Nat} (hc : c ∈ X) : Bd F opp D c := (h.bd c).1 (List.mem_flatten.2 ⟨X, hX, hc⟩)
theorem nodup_of_map {f : Nat → Nat} {l : List Nat} (h : (l.map f).Nodup) : l.Nodup := List.Pairwise.of_map f (fun a b hab e => hab (by rw [e])) h
theorem WInv.colour (K : Walks F N opp vert) (h : WInv F opp vert d0 D Xs) {X : List Nat} (hX : X ∈ Xs) :
    ∃ f : Nat → Bool, (∀ t ∈ D, f t = f d0) ∧ ∀ c, c < 3 * F → xor (f (c / 3)) (f (opp c / 3)) = (decide (c ∈ X) || decide (opp c ∈ X)) := by
  have hnd : X.Nodup := nodup_of_map (h.vnd X hX)
  have hlt : ∀ c ∈ X, c < 3 * F := fun c hc => (h.mem hX hc).1
  have hx : ∀ c, c < 3 * F → c ∈ X → opp c ∉ X := fun c hc h1 h2 => (h.mem hX h2).2.1 (h.mem hX h1).2.2
  obtain ⟨f, hf⟩ := jordan K.toClosed K.pos K.euler (κ := fun c => decide (c ∈ X) || decide (opp c ∈ X))
    (fun c hc => by simp only [K.inv c hc]; exact Bool.or_comm ..) (fun v hv => by
      have e1 : par F vert (fun c => decide (c ∈ X) || decide (opp c ∈ X)) v = xs (List.range (3 * F)) (fun c => xor (hd vert c == v && decide (c ∈ X)) (hd vert c == v && decide (opp c ∈ X))) := by
        unfold par
        refine xs_congr fun c hc => ?_
        have := hx c (List.mem_range.1 hc)
        unfold hd
        by_cases m1 : c ∈ X
        · simp [m1, this m1]
        · simp [m1]
      have e2 : xs (List.range (3 * F)) (fun c => hd vert c == v && decide (opp c ∈ X)) = xs (List.range (3 * F)) (fun c => tl vert c == v && decide (c ∈ X)) := by
        rw [← xs_perm (perm_map_range opp opp K.lt K.lt K.inv K.inv) (p := fun c => hd vert c == v && decide (opp c ∈ X)), xs_map]
        refine xs_congr fun c hc => ?_
        have hc := List.mem_range.1 hc
        unfold hd tl
        rw [K.vn c hc, K.inv c hc]
      rw [e1, xs_xor, e2, xs_mem hnd hlt, xs_mem hnd hlt]
      have e3 : xs X (fun c => hd vert c == v) = xs X (fun c => tl vert c == v) := by
        rw [← xs_map (hd vert) (p := fun c => c == v), ← xs_map (tl vert) (p := fun c => c == v)]
        exact xs_perm (h.cyc X hX).perm.symm
      rw [e3]
      simp)
  refine ⟨f, ?_, hf⟩
  refine h.conn (fun t => f t = f d0) rfl ?_
  intro c hc h1 h2 e
  have := hf c hc
  have m1 : c ∉ X := fun m => (h.mem hX m).2.1 h1
  have m2 : opp c ∉ X := fun m => (h.mem hX m).2.1 h2
  simp only [m1, m2, decide_false, Bool.or_false] at this
  rw [← e]
  revert this
  cases f (c / 3) <;> cases f (opp c / 3) <;> simp
/-- Two open gates of one triangle lie in one loop. -/
theorem WInv.only (K : Walks F N opp vert) (h : WInv F opp vert d0 D Xs) {X : List Nat} (hX : X ∈ Xs) {c0 c1 : Nat} (h0 : c0 ∈ X) (h1 : Bd F opp D c1) (e : c1 / 3 = c0 / 3) : c1 ∈ X := by
  obtain ⟨f, fD, hf⟩ := h.colour K hX
  have b0 := h.mem hX h0
  have k0 := hf c0 b0.1
  have k1 := hf c1 h1.1
  rw [fD _ b0.2.2] at k0
  rw [fD _ h1.2.2, e] at k1
  have m2 : opp c1 ∉ X := fun m => (h.mem hX m).2.1 h1.2.2
  rw [k0] at k1
  simp only [h0, m2, decide_true, Bool.true_or, decide_false, Bool.or_false] at k1
  simpa using k1.symm
theorem Cyc.tl_mem {X : List Nat} (h : Cyc vert X) {c : Nat} (hc : c ∈ X) : tl vert c ∈ X.map (hd vert) := h.perm.mem_iff.1 (List.mem_map_of_mem hc)
/-- A vertex that was come to, of a triangle at a loop, lies in that loop. -/
theorem WInv.touch (K : Walks F N opp vert) (h : WInv F opp vert d0 D Xs) {X : List Nat} (hX : X ∈ Xs) {c0 c : Nat} (h0 : c0 ∈ X) (hc : c < 3 * F) (e : c / 3 = c0 / 3) (hv : Come F vert D (vert c)) : vert c ∈ X.map (hd vert) := by
  refine Classical.byContradiction fun hne => ?_
  obtain ⟨f, fD, hf⟩ := h.colour K hX
  have b0 := h.mem hX h0
  have k0 := hf c0 b0.1
  rw [fD _ b0.2.2] at k0
  obtain ⟨d, hd1, hd2, hd3⟩ := hv
  have key : ∀ g, g < 3 * F → (hd vert g = vert c ∨ tl vert g = vert c) → f (g / 3) = f (opp g / 3) := by
    intro g hg hgv
    have m1 : g ∉ X := fun m => by
      rcases hgv with e | e
      · exact hne (by rw [← e]; exact List.mem_map_of_mem m)
      · exact hne (by rw [← e]; exact (h.cyc X hX).tl_mem m)
    have m2 : opp g ∉ X := fun m => by
      rcases hgv with e | e
      · have := (h.cyc X hX).tl_mem m
        unfold tl at this
        rw [K.vp g hg] at this
        exact hne (by rw [← e]; exact this)
      · have : hd vert (opp g) ∈ X.map (hd vert) := List.mem_map_of_mem m
        unfold hd at this
        rw [K.vn g hg] at this
        exact hne (by rw [← e]; exact this)
    have := hf g hg
    simp only [m1, m2, decide_false, Bool.or_false] at this
    revert this
    cases f (g / 3) <;> cases f (opp g / 3) <;> simp
  have hS := K.ar (vert c) (fun t => f t = f d0) ⟨d, hd1, hd3, fD _ hd2⟩ (fun g hg hgv hS => by
    refine ⟨?_, ?_⟩
    · rw [← key (nx g) (nx_lt hg) (.inr (by unfold tl; rw [pv_nx]; exact hgv)), nx_div]
      exact hS
    · rw [← key (pv g) (pv_lt hg) (.inl (by unfold hd; rw [nx_pv]; exact hgv)), pv_div]
      exact hS) c hc rfl
  rw [e] at hS
  have hS' : f (c0 / 3) = f d0 := hS
  rw [hS'] at k0
  simp [h0] at k0

/-! One triangle more. -/
theorem bd_step (K : Walks F N opp vert) {c0 : Nat} (h0 : Bd F opp D c0) (c : Nat) :
    Bd F opp (c0 / 3 :: D) c ↔ (Bd F opp D c ∧ c ≠ c0 ∧ c ≠ pv c0 ∧ c ≠ nx c0) ∨ (c = opp (pv c0) ∧ ¬ Bd F opp D (pv c0)) ∨ (c = opp (nx c0) ∧ ¬ Bd F opp D (nx c0)) := by
  obtain ⟨hl, hn, hi⟩ := h0
  have same : ∀ g, g / 3 = c0 / 3 ↔ g = c0 ∨ g = pv c0 ∨ g = nx c0 := fun g => by unfold nx pv; omega
  have ha : pv c0 < 3 * F := pv_lt hl
  have hb : nx c0 < 3 * F := nx_lt hl
  constructor
  · rintro ⟨c1, c2, c3⟩
    have c2' : c / 3 ≠ c0 / 3 ∧ c / 3 ∉ D := by simpa using c2
    have hne := fun e => c2'.1 ((same c).2 e)
    rcases List.mem_cons.1 c3 with c3 | c3
    · rcases (same _).1 c3 with e | e | e
      · exact absurd (show c / 3 ∈ D by rw [← K.inv c c1, e]; exact hi) c2'.2
      · have e2 : c = opp (pv c0) := by rw [← e, K.inv c c1]
        exact .inr (.inl ⟨e2, fun hbd => c2'.2 (by rw [e2]; exact hbd.2.2)⟩)
      · have e2 : c = opp (nx c0) := by rw [← e, K.inv c c1]
        exact .inr (.inr ⟨e2, fun hbd => c2'.2 (by rw [e2]; exact hbd.2.2)⟩)
    · exact .inl ⟨⟨c1, c2'.2, c3⟩, fun e => hne (.inl e), fun e => hne (.inr (.inl e)), fun e => hne (.inr (.inr e))⟩
  · rintro (⟨⟨c1, c2, c3⟩, e1, e2, e3⟩ | ⟨rfl, hbd⟩ | ⟨rfl, hbd⟩)
    · refine ⟨c1, ?_, List.mem_cons_of_mem _ c3⟩
      rw [List.mem_cons, not_or]
      exact ⟨fun e => by rcases (same c).1 e with e | e | e; exact e1 e; exact e2 e; exact e3 e, c2⟩
    · refine ⟨K.lt _ ha, ?_, ?_⟩
      · rw [List.mem_cons, not_or]
        exact ⟨fun e => K.apart _ ha (by rw [e, pv_div]), fun hm => hbd ⟨ha, by rw [pv_div]; exact hn, hm⟩⟩
      · rw [K.inv _ ha, pv_div]
        exact List.mem_cons_self ..
    · refine ⟨K.lt _ hb, ?_, ?_⟩
      · rw [List.mem_cons, not_or]
        exact ⟨fun e => K.apart _ hb (by rw [e, nx_div]), fun hm => hbd ⟨hb, by rw [nx_div]; exact hn, hm⟩⟩
      · rw [K.inv _ hb, nx_div]
        exact List.mem_cons_self ..
/-- .. and what the loops must be then. -/
theorem WInv.step (K : Walks F N opp vert) (h : WInv F opp vert d0 D Xs) {c0 : Nat} (h0 : Bd F opp D c0) {Ys : List (List Nat)}
    (len : ∀ X ∈ Ys, 3 ≤ X.length) (cyc : ∀ X ∈ Ys, Cyc vert X) (vnd : ∀ X ∈ Ys, (X.map (hd vert)).Nodup) (nd : Ys.flatten.Nodup)
    (bd : ∀ c, c ∈ Ys.flatten ↔ (Bd F opp D c ∧ c ≠ c0 ∧ c ≠ pv c0 ∧ c ≠ nx c0) ∨ (c = opp (pv c0) ∧ ¬ Bd F opp D (pv c0)) ∨ (c = opp (nx c0) ∧ ¬ Bd F opp D (nx c0))) : WInv F opp vert d0 (c0 / 3 :: D) Ys where
  dnd := List.nodup_cons.2 ⟨h0.2.1, h.dnd⟩
  dlt := fun t ht => by
    rcases List.mem_cons.1 ht with rfl | ht
    · have := h0.1
      omega
    · exact h.dlt t ht
  root := List.mem_cons_of_mem _ h.root
  conn := fun S s0 sc t ht => by
    have hD := h.conn S s0 (fun c c1 c2 c3 => sc c c1 (List.mem_cons_of_mem _ c2) (List.mem_cons_of_mem _ c3))
    rcases List.mem_cons.1 ht with rfl | ht
    · have := sc (opp c0) (K.lt _ h0.1) (List.mem_cons_of_mem _ h0.2.2) (by rw [K.inv _ h0.1]; exact List.mem_cons_self ..) (hD _ h0.2.2)
      rwa [K.inv _ h0.1] at this
    · exact hD t ht
  len := len
  cyc := cyc
  vnd := vnd
  nd := nd
  bd := fun c => (bd c).trans (bd_step K h0 c).symm
end
end Jor
end Go.Proofs.YtpnkhgjjlionnaaGreat
namespace Go.Proofs.YtpnkhgjjlionnaaGreat
namespace Jor
section
variable {F N : Nat} {opp vert : Nat → Nat} {d0 : Nat} {D : List Nat}

/-- What a step makes of the loops: the vertex was come to, and stands at e. -/
def parted (opp : Nat → Nat) (c0 : Nat) (r1 : List Nat) (e : Nat) (r2 : List Nat) (W : List (List Nat)) : List (List Nat) :=
  (if r2 = [] then [] else [opp (pv c0) :: e :: r2]) ++ ((if r1.length = 1 then [] else [opp (nx c0) :: r1]) ++ W)
theorem bd_not_opp (K : Walks F N opp vert) {c0 g : Nat} (h0 : c0 / 3 ∉ D) (hg : g < 3 * F) (e : g / 3 = c0 / 3) : ¬ Bd F opp D (opp g) := fun h => h0 (by rw [← e, ← K.inv g hg]; exact h.2.2)
theorem map_inj_nodup {f : Nat → Nat} {l : List Nat} (h : (l.map f).Nodup) {a b : Nat} (ha : a ∈ l) (hb : b ∈ l) (e : f a = f b) : a = b := by
  induction l with
  | nil => cases ha
  | cons x l ih =>
    rw [List.map_cons, List.nodup_cons] at h
    rcases List.mem_cons.1 ha with ea | ha1
    · rcases List.mem_cons.1 hb with eb | hb1
      · rw [ea, eb]
      · exact absurd (by rw [← ea, e]; exact List.mem_map_of_mem hb1) h.1
    · rcases List.mem_cons.1 hb with eb | hb1
      · exact absurd (by rw [← eb, ← e]; exact List.mem_map_of_mem ha1) h.1
      · exact ih h.2 ha1 hb1
theorem parted_nodup {oa ob c0 e : Nat} {r1 r2 : List Nat} {W : List (List Nat)} (h : ((c0 :: (r1 ++ e :: r2)) ++ W.flatten).Nodup) (ha : oa ∉ (c0 :: (r1 ++ e :: r2)) ++ W.flatten) (hb : ob ∉ (c0 :: (r1 ++ e :: r2)) ++ W.flatten) (hab : oa ≠ ob) :
    ((if r2 = [] then [] else [oa :: e :: r2]) ++ ((if r1.length = 1 then [] else [ob :: r1]) ++ W)).flatten.Nodup := by
  have full : ((oa :: e :: r2) ++ ((ob :: r1) ++ W.flatten)).Nodup := by
    have h1 : (oa :: ob :: ((r1 ++ e :: r2) ++ W.flatten)).Nodup := by
      simp only [List.cons_append, List.mem_cons, List.nodup_cons, not_or] at h ha hb ⊢
      exact ⟨⟨hab, ha.2⟩, hb.2, h.2⟩
    refine (List.Perm.nodup_iff ?_).1 h1
    refine List.Perm.cons _ ?_
    have p1 : ((r1 ++ e :: r2) ++ W.flatten).Perm ((e :: r2) ++ (r1 ++ W.flatten)) := by
      rw [← List.append_assoc]
      exact List.Perm.append_right _ List.perm_append_comm
    refine (List.Perm.cons ob p1).trans ?_
    exact (List.perm_middle (l₁ := e :: r2) (l₂ := r1 ++ W.flatten) (a := ob)).symm
  refine List.Sublist.nodup ?_ full
  simp only [List.flatten_append]
  refine List.Sublist.append ?_ (List.Sublist.append ?_ (List.Sublist.refl _))
  · split
    · exact List.nil_sublist _
    · simp
  · split
    · exact List.nil_sublist _
    · simp
theorem opp_ne (K : Walks F N opp vert) {a b : Nat} (ha : a < 3 * F) (hb : b < 3 * F) (h : a ≠ b) : opp a ≠ opp b := fun e => h (by rw [← K.inv a ha, e, K.inv b hb])

theorem WInv.next (K : Walks F N opp vert) {c0 : Nat} {r : List Nat} {W : List (List Nat)} (h : WInv F opp vert d0 D ((c0 :: r) :: W)) :
    (¬ Come F vert D (vert c0) ∧ WInv F opp vert d0 (c0 / 3 :: D) ((opp (pv c0) :: opp (nx c0) :: r) :: W)) ∨
    (Come F vert D (vert c0) ∧ ∃ r1 e r2, r = r1 ++ e :: r2 ∧ hd vert e = vert c0 ∧ r1 ≠ [] ∧ WInv F opp vert d0 (c0 / 3 :: D) (parted opp c0 r1 e r2 W)) := by
  have hX : (c0 :: r) ∈ (c0 :: r) :: W := List.mem_cons_self ..
  have h0 : Bd F opp D c0 := h.mem hX (List.mem_cons_self ..)
  have hl0 := h0.1
  have ha : pv c0 < 3 * F := pv_lt hl0
  have hb : nx c0 < 3 * F := nx_lt hl0
  have hlen := h.len _ hX
  have hvnd := h.vnd _ hX
  obtain ⟨c', r', e', hcyc⟩ := h.cyc _ hX
  cases e'
  have hda : hd vert (opp (pv c0)) = hd vert c0 := by unfold hd; rw [K.vn _ ha, pv_pv]
  have hta : tl vert (opp (pv c0)) = vert c0 := by unfold tl; rw [K.vp _ ha, nx_pv]
  have hdb : hd vert (opp (nx c0)) = vert c0 := by unfold hd; rw [K.vn _ hb, pv_nx]
  have htb : tl vert (opp (nx c0)) = tl vert c0 := by unfold tl; rw [K.vp _ hb, nx_nx]
  have hab : opp (pv c0) ≠ opp (nx c0) := opp_ne K ha hb (by unfold nx pv; omega)
  have oa := bd_not_opp K h0.2.1 ha (pv_div c0)
  have ob := bd_not_opp K h0.2.1 hb (nx_div c0)
  have hnd := h.nd
  have hbd := h.bd
  simp only [List.flatten_cons, List.cons_append, List.nodup_cons] at hnd
  by_cases hcome : Come F vert D (vert c0)
  · refine .inr ⟨hcome, ?_⟩
    have ht := h.touch K hX (List.mem_cons_self ..) hl0 rfl hcome
    have hne : hd vert c0 ≠ vert c0 := K.simple c0 hl0
    have hne2 : tl vert c0 ≠ vert c0 := fun e => K.simple (pv c0) ha (by rw [nx_pv]; exact e.symm)
    rw [List.map_cons, List.mem_cons] at ht
    rcases ht with ht | ht
    · exact absurd ht.symm hne
    obtain ⟨e, he, hev⟩ := List.mem_map.1 ht
    obtain ⟨r1, r2, rfl⟩ := List.append_of_mem he
    have hr1 : r1 ≠ [] := by
      rintro rfl
      simp only [List.nil_append, List.map_cons, List.cons_append, List.cons.injEq] at hcyc
      exact hne2 (hcyc.1.trans hev)
    obtain ⟨b, r1', rfl⟩ := List.exists_cons_of_ne_nil hr1
    simp only [List.map_cons, List.map_append, List.cons_append, List.cons.injEq] at hcyc
    obtain ⟨cy1, cy2⟩ := hcyc
    have cy2' : (tl vert b :: r1'.map (tl vert)) ++ (tl vert e :: r2.map (tl vert)) = (r1'.map (hd vert) ++ [hd vert e]) ++ (r2.map (hd vert) ++ [hd vert c0]) := by
      simpa using cy2
    obtain ⟨cy3, cy4⟩ := List.append_inj cy2' (by simp)
    have hbm : b ∈ c0 :: ((b :: r1') ++ e :: r2) := by simp
    have hem : e ∈ c0 :: ((b :: r1') ++ e :: r2) := by simp
    have hv' := hvnd
    simp only [List.map_cons, List.map_append, List.cons_append, List.nodup_cons, List.nodup_append, List.mem_cons, List.mem_append, not_or] at hv'
    have hB : Bd F opp D (nx c0) ↔ r1' = [] := by
      constructor
      · intro hbB
        have m := h.only K hX (List.mem_cons_self ..) hbB (nx_div c0)
        have e1 : nx c0 = b := map_inj_nodup hvnd m hbm (by rw [← cy1]; unfold hd tl; rw [nx_nx])
        have e2 : tl vert b = hd vert e := by rw [← e1, hev]; unfold tl; rw [pv_nx]
        cases r1' with
        | nil => rfl
        | cons b2 r1'' =>
          simp only [List.map_cons, List.cons_append, List.cons.injEq] at cy3
          have : hd vert b2 = hd vert e := cy3.1.symm.trans e2
          have := map_inj_nodup hvnd (a := b2) (b := e) (by simp) hem this
          subst this
          grind
      · rintro rfl
        simp only [List.map_nil, List.nil_append, List.cons.injEq, and_true] at cy3
        have e1 := K.ei b (nx c0) (h.mem hX hbm).1 hb (by rw [← cy1]; unfold hd tl; rw [nx_nx]) (by rw [cy3, hev]; unfold tl; rw [pv_nx])
        rw [← e1]
        exact h.mem hX hbm
    have hA : Bd F opp D (pv c0) ↔ r2 = [] := by
      constructor
      · intro hbA
        have m := h.only K hX (List.mem_cons_self ..) hbA (pv_div c0)
        have e1 : pv c0 = e := map_inj_nodup hvnd m hem (by rw [hev]; unfold hd; rw [nx_pv])
        have e2 : tl vert e = hd vert c0 := by rw [← e1]; unfold tl hd; rw [pv_pv]
        cases r2 with
        | nil => rfl
        | cons b2 r2' =>
          simp only [List.map_cons, List.cons_append, List.cons.injEq] at cy4
          have : hd vert b2 = hd vert c0 := cy4.1.symm.trans e2
          have := map_inj_nodup hvnd (a := b2) (b := c0) (by simp) (by simp) this
          subst this
          grind
      · rintro rfl
        simp only [List.map_nil, List.nil_append, List.cons.injEq, and_true] at cy4
        have e1 := K.ei e (pv c0) (h.mem hX hem).1 ha (by rw [hev]; unfold hd; rw [nx_pv]) (by rw [cy4]; unfold tl hd; rw [pv_pv])
        rw [← e1]
        exact h.mem hX hem
    have hB' : r1' = [] → b = nx c0 := fun e0 => by
      have m := h.only K hX (List.mem_cons_self ..) (hB.2 e0) (nx_div c0)
      exact (map_inj_nodup hvnd m hbm (by rw [← cy1]; unfold hd tl; rw [nx_nx])).symm
    have hA' : r2 = [] → e = pv c0 := fun e0 => by
      have m := h.only K hX (List.mem_cons_self ..) (hA.2 e0) (pv_div c0)
      exact (map_inj_nodup hvnd m hem (by rw [hev]; unfold hd; rw [nx_pv])).symm
    refine ⟨b :: r1', e, r2, rfl, hev, hr1, h.step K h0 ?_ ?_ ?_ ?_ ?_⟩
    · intro X hX'
      unfold parted at hX'
      rw [List.mem_append, List.mem_append] at hX'
      rcases hX' with hX' | hX' | hX'
      · split at hX'
        · cases hX'
        · rw [List.mem_singleton] at hX'
          subst hX'
          rename_i h2
          have := List.length_pos_iff.2 h2
          simp only [List.length_cons]
          omega
      · split at hX'
        · cases hX'
        · rw [List.mem_singleton] at hX'
          subst hX'
          rename_i h2
          simp only [List.length_cons] at h2 ⊢
          omega
      · exact h.len X (List.mem_cons_of_mem _ hX')
    · intro X hX'
      unfold parted at hX'
      rw [List.mem_append, List.mem_append] at hX'
      rcases hX' with hX' | hX' | hX'
      · split at hX'
        · cases hX'
        · rw [List.mem_singleton] at hX'
          subst hX'
          exact ⟨_, _, rfl, by simp only [List.map_cons, List.cons_append, hta, hev, hda, cy4]⟩
      · split at hX'
        · cases hX'
        · rw [List.mem_singleton] at hX'
          subst hX'
          exact ⟨_, _, rfl, by simp only [List.map_cons, List.cons_append, htb, cy1, hdb, cy3, hev]⟩
      · exact h.cyc X (List.mem_cons_of_mem _ hX')
    · intro X hX'
      unfold parted at hX'
      rw [List.mem_append, List.mem_append] at hX'
      rcases hX' with hX' | hX' | hX'
      · split at hX'
        · cases hX'
        · rw [List.mem_singleton] at hX'
          subst hX'
          simp only [List.map_cons, hda, List.nodup_cons, List.mem_cons, not_or]
          grind
      · split at hX'
        · cases hX'
        · rw [List.mem_singleton] at hX'
          subst hX'
          simp only [List.map_cons, hdb, List.nodup_cons, List.mem_cons, not_or]
          grind
      · exact h.vnd X (List.mem_cons_of_mem _ hX')
    · have e1 : ((c0 :: ((b :: r1') ++ e :: r2)) :: W).flatten = (c0 :: ((b :: r1') ++ e :: r2)) ++ W.flatten := List.flatten_cons
      have nn := h.nd
      rw [e1] at nn hbd
      exact parted_nodup nn (fun m => oa ((hbd _).1 m)) (fun m => ob ((hbd _).1 m)) hab
    · intro c
      have hc := hbd c
      have hbdA := hbd (pv c0)
      have hbdB := hbd (nx c0)
      simp only [List.flatten_cons, List.cons_append, List.append_assoc, List.mem_cons, List.mem_append] at hc
      simp only [List.cons_append, List.append_assoc, List.mem_cons, List.mem_append, not_or, List.nodup_cons, List.nodup_append] at hnd
      unfold parted
      rw [hA, hB, ← hc]
      have hc1 : (r1'.length + 1 = 1) ↔ r1' = [] := by
        constructor
        · intro e0
          exact List.eq_nil_of_length_eq_zero (by omega)
        · rintro rfl
          rfl
      have hnA : r2 ≠ [] → ∀ x, Bd F opp D x → x ≠ pv c0 := fun e0 x hx e1 => e0 (hA.1 (by rw [← e1]; exact hx))
      have hnB : r1' ≠ [] → ∀ x, Bd F opp D x → x ≠ nx c0 := fun e0 x hx e1 => e0 (hB.1 (by rw [← e1]; exact hx))
      have hcb := hc
      simp only [List.flatten_append, List.mem_append, List.length_cons]
      by_cases z1 : r1' = [] <;> by_cases z2 : r2 = [] <;> simp only [z1, z2, if_true, if_false, List.flatten_nil, List.flatten_cons, List.append_nil, List.mem_cons, List.not_mem_nil, false_or, List.cons_append, List.length_nil, hc1] at * <;> grind
  · refine .inl ⟨hcome, h.step K h0 ?_ ?_ ?_ ?_ ?_⟩
    · intro X hX'
      rcases List.mem_cons.1 hX' with rfl | hX'
      · simp only [List.length_cons] at hlen ⊢
        omega
      · exact h.len X (List.mem_cons_of_mem _ hX')
    · intro X hX'
      rcases List.mem_cons.1 hX' with rfl | hX'
      · refine ⟨_, _, rfl, ?_⟩
        rw [List.map_cons] at hcyc
        simp only [List.map_cons, hta, htb, hda, hdb, List.cons_append]
        rw [hcyc]
      · exact h.cyc X (List.mem_cons_of_mem _ hX')
    · intro X hX'
      rcases List.mem_cons.1 hX' with rfl | hX'
      · have hnv : ∀ c ∈ c0 :: r, hd vert c ≠ vert c0 := fun c hc e => hcome ⟨pv (opp c), pv_lt (K.lt _ (h.mem hX hc).1), by rw [pv_div]; exact (h.mem hX hc).2.2, by rw [K.vp _ (h.mem hX hc).1]; exact e⟩
        have h1 := hnv c0 (List.mem_cons_self ..)
        have h2 : vert c0 ∉ r.map (hd vert) := fun hm => by
          obtain ⟨c, hc, e⟩ := List.mem_map.1 hm
          exact hnv c (List.mem_cons_of_mem _ hc) e
        simp only [List.map_cons, List.nodup_cons, hda, hdb, List.mem_cons, not_or] at hvnd ⊢
        exact ⟨⟨h1, hvnd.1⟩, h2, hvnd.2⟩
      · exact h.vnd X (List.mem_cons_of_mem _ hX')
    · have na : ∀ c, Bd F opp D c → c ≠ opp (pv c0) := fun c hc e => oa (by rw [← e]; exact hc)
      have nb : ∀ c, Bd F opp D c → c ≠ opp (nx c0) := fun c hc e => ob (by rw [← e]; exact hc)
      simp only [List.flatten_cons, List.cons_append, List.mem_cons, List.mem_append] at hbd
      simp only [List.flatten_cons, List.cons_append, List.nodup_cons, List.mem_cons, List.mem_append] at hnd ⊢
      grind
    · intro c
      have hc := hbd c
      have hnA : ¬ Bd F opp D (pv c0) := fun hb' => hcome ⟨pv (opp (pv c0)), pv_lt (K.lt _ ha), by rw [pv_div]; exact hb'.2.2, hta⟩
      have hnB : ¬ Bd F opp D (nx c0) := fun hb' => hcome ⟨nx (opp (nx c0)), nx_lt (K.lt _ hb), by rw [nx_div]; exact hb'.2.2, hdb⟩
      have e1 : ∀ x, Bd F opp D x → x ≠ pv c0 := fun x hx e => hnA (by rw [← e]; exact hx)
      have e2 : ∀ x, Bd F opp D x → x ≠ nx c0 := fun x hx e => hnB (by rw [← e]; exact hx)
      simp only [List.flatten_cons, List.cons_append, List.mem_cons, List.mem_append] at hc ⊢
      simp only [List.mem_append, not_or] at hnd
      grind
end
end Jor
end Go.Proofs.YtpnkhgjjlionnaaGreat
namespace Go.Proofs.YtpnkhgjjlionnaaGreat
namespace Jor
section
variable {F N : Nat} {opp vert : Nat → Nat} {d0 : Nat} {D : List Nat}

theorem WInv.start (K : Walks F N opp vert) {c : Nat} (hc : c < 3 * F) : WInv F opp vert (c / 3) [c / 3] [[opp (pv c), opp (nx c), opp c]] := by
  have ha : pv c < 3 * F := pv_lt hc
  have hb : nx c < 3 * F := nx_lt hc
  have hda : hd vert (opp (pv c)) = vert (nx c) := by unfold hd; rw [K.vn _ ha, pv_pv]
  have hta : tl vert (opp (pv c)) = vert c := by unfold tl; rw [K.vp _ ha, nx_pv]
  have hdb : hd vert (opp (nx c)) = vert c := by unfold hd; rw [K.vn _ hb, pv_nx]
  have htb : tl vert (opp (nx c)) = vert (pv c) := by unfold tl; rw [K.vp _ hb, nx_nx]
  have hdc : hd vert (opp c) = vert (pv c) := by unfold hd; rw [K.vn _ hc]
  have htc : tl vert (opp c) = vert (nx c) := by unfold tl; rw [K.vp _ hc]
  have s0 := K.simple c hc
  have s1 := K.simple (nx c) hb
  have s2 := K.simple (pv c) ha
  rw [nx_nx] at s1
  rw [nx_pv] at s2
  refine ⟨by simp, fun t ht => by rw [List.mem_singleton.1 ht]; omega, by simp, ?_, ?_, ?_, ?_, ?_, ?_⟩
  · intro S s0 _ t ht
    rw [List.mem_singleton.1 ht]
    exact s0
  · intro X hX
    rw [List.mem_singleton.1 hX]
    simp
  · intro X hX
    rw [List.mem_singleton.1 hX]
    exact ⟨_, _, rfl, by simp [hda, hdb, hta, htb, hdc, htc]⟩
  · intro X hX
    rw [List.mem_singleton.1 hX]
    simp only [List.map_cons, List.map_nil, hda, hdb, hdc]
    simp [s0, s2, Ne.symm s1]
  · have e1 : opp (pv c) ≠ opp (nx c) := opp_ne K ha hb (by unfold nx pv; omega)
    have e2 : opp (pv c) ≠ opp c := opp_ne K ha hc (pv_ne c)
    have e3 : opp (nx c) ≠ opp c := opp_ne K hb hc (nx_ne c)
    simp [e1, e2, e3]
  · intro x
    simp only [List.flatten_cons, List.flatten_nil, List.append_nil, List.mem_cons, List.not_mem_nil, or_false]
    constructor
    · rintro (rfl | rfl | rfl)
      · exact ⟨K.lt _ ha, by rw [List.mem_singleton]; exact fun e => K.apart _ ha (by rw [e, pv_div]), by rw [K.inv _ ha, pv_div]; simp⟩
      · exact ⟨K.lt _ hb, by rw [List.mem_singleton]; exact fun e => K.apart _ hb (by rw [e, nx_div]), by rw [K.inv _ hb, nx_div]; simp⟩
      · exact ⟨K.lt _ hc, by rw [List.mem_singleton]; exact fun e => K.apart _ hc e, by rw [K.inv _ hc]; simp⟩
    · rintro ⟨h1, h2, h3⟩
      rw [List.mem_singleton] at h3
      have : opp x = pv c ∨ opp x = nx c ∨ opp x = c := by unfold nx pv; omega
      rw [← K.inv x h1]
      rcases this with e | e | e <;> rw [e] <;> simp
/-- Where no loop is left, all was gone over. -/
theorem WInv.finish (K : Walks F N opp vert) (h : WInv F opp vert d0 D []) : ∀ t, t < F → t ∈ D := by
  have key : ∀ c, c < 3 * F → ¬ (c / 3 ∉ D ∧ opp c / 3 ∈ D) := fun c hc hn => by
    have := (h.bd c).2 ⟨hc, hn.1, hn.2⟩
    simp at this
  by_cases z : 0 ∈ D
  · refine K.conn (fun t => t ∈ D) z ?_
    intro c hc hm
    refine Classical.byContradiction fun hn => key (opp c) (K.lt c hc) ⟨hn, by rw [K.inv c hc]; exact hm⟩
  · exfalso
    have := K.conn (fun t => t ∉ D) z (fun c hc hm hn => key c hc ⟨hm, hn⟩) d0 (h.dlt _ h.root)
    exact this h.root
theorem WInv.finish_len (K : Walks F N opp vert) (h : WInv F opp vert d0 D []) : D.length = F := by
  have h1 := nodup_le (m := List.range F) h.dnd (fun x hx => List.mem_range.2 (h.dlt x hx))
  have h2 := nodup_le (l := List.range F) (m := D) List.nodup_range (fun x hx => h.finish K x (List.mem_range.1 hx))
  simp at h1 h2
  omega
theorem WInv.len_le {Xs : List (List Nat)} (h : WInv F opp vert d0 D Xs) : D.length ≤ F := by
  have h1 := nodup_le (m := List.range F) h.dnd (fun x hx => List.mem_range.2 (h.dlt x hx))
  simpa using h1
/-- Where a loop is left, not all was gone over. -/
theorem WInv.len_lt {X : List Nat} {W : List (List Nat)} (h : WInv F opp vert d0 D (X :: W)) : D.length < F := by
  have hl := h.len X (List.mem_cons_self ..)
  cases X with
  | nil => simp at hl
  | cons c r =>
    have hb := h.mem (List.mem_cons_self ..) (List.mem_cons_self ..)
    have h1 := nodup_le (l := c / 3 :: D) (m := List.range F) (List.nodup_cons.2 ⟨hb.2.1, h.dnd⟩) (fun x hx => by
      rcases List.mem_cons.1 hx with rfl | hx
      · have := hb.1
        rw [List.mem_range]
        omega
      · exact List.mem_range.2 (h.dlt x hx))
    simp at h1
    omega
/-- Who was come to, one triangle later. -/
theorem come_step (K : Walks F N opp vert) {c0 : Nat} (h0 : Bd F opp D c0) (u : Nat) : Come F vert (c0 / 3 :: D) u ↔ Come F vert D u ∨ u = vert c0 := by
  have hl := h0.1
  constructor
  · rintro ⟨d, h1, h2, rfl⟩
    rcases List.mem_cons.1 h2 with h2 | h2
    · have : d = c0 ∨ d = nx c0 ∨ d = pv c0 := by unfold nx pv; omega
      rcases this with rfl | rfl | rfl
      · exact .inr rfl
      · exact .inl ⟨pv (opp c0), pv_lt (K.lt _ hl), by rw [pv_div]; exact h0.2.2, K.vp _ hl⟩
      · exact .inl ⟨nx (opp c0), nx_lt (K.lt _ hl), by rw [nx_div]; exact h0.2.2, K.vn _ hl⟩
    · exact .inl ⟨d, h1, h2, rfl⟩
  · rintro (⟨d, h1, h2, h3⟩ | rfl)
    · exact ⟨d, h1, List.mem_cons_of_mem _ h2, h3⟩
    · exact ⟨c0, hl, List.mem_cons_self .., rfl⟩
theorem come_start {c : Nat} (hc : c < 3 * F) (u : Nat) : Come F vert [c / 3] u ↔ u = vert c ∨ u = vert (nx c) ∨ u = vert (pv c) := by
  constructor
  · rintro ⟨d, h1, h2, rfl⟩
    rw [List.mem_singleton] at h2
    have : d = c ∨ d = nx c ∨ d = pv c := by unfold nx pv; omega
    rcases this with rfl | rfl | rfl
    · exact .inl rfl
    · exact .inr (.inl rfl)
    · exact .inr (.inr rfl)
  · rintro (rfl | rfl | rfl)
    · exact ⟨c, hc, by simp, rfl⟩
    · exact ⟨nx c, nx_lt hc, by simp [nx_div], rfl⟩
    · exact ⟨pv c, pv_lt hc, by simp [pv_div], rfl⟩
theorem come_all (K : Walks F N opp vert) (h : WInv F opp vert d0 D []) {v : Nat} (hv : v < N) : Come F vert D v := by
  obtain ⟨c, h1, h2⟩ := K.all v hv
  exact ⟨c, h1, h.finish K _ (by omega), h2⟩
end
end Jor
end Go.Proofs.YtpnkhgjjlionnaaGreat
namespace Go.Proofs.YtpnkhgjjlionnaaGreat
namespace Jor

def Rot (π : Nat → Nat) (C : List Nat) : Prop := ∃ c r, C = c :: r ∧ C.map π = r ++ [c]
theorem Rot.turn {π : Nat → Nat} {x y : List Nat} (h : Rot π (x ++ y)) : Rot π (y ++ x) := by
  cases y with
  | nil => simpa using h
  | cons d y' =>
    cases x with
    | nil => simpa using h
    | cons c x' =>
      obtain ⟨c', r, e, hm⟩ := h
      simp only [List.cons_append, List.cons.injEq] at e
      obtain ⟨rfl, rfl⟩ := e
      have hm' : (c :: x').map π ++ (d :: y').map π = (x' ++ [d]) ++ (y' ++ [c]) := by
        rw [← List.map_append]
        simpa using hm
      obtain ⟨h1, h2⟩ := List.append_inj hm' (by simp)
      exact ⟨d, y' ++ c :: x', rfl, by rw [List.map_append, h1, h2]; simp⟩
/-- A round whose last one is a. -/
theorem Rot.last {π : Nat → Nat} {C : List Nat} (h : Rot π C) {a : Nat} (ha : a ∈ C) : ∃ p, Rot π (p ++ [a]) ∧ (p ++ [a]).Perm C := by
  obtain ⟨x, y, rfl⟩ := List.append_of_mem ha
  have h' : Rot π ((x ++ [a]) ++ y) := by simpa using h
  refine ⟨y ++ x, by simpa using h'.turn, ?_⟩
  have : (y ++ (x ++ [a])).Perm ((x ++ [a]) ++ y) := List.perm_append_comm
  simpa using this
/-- Two, one behind the other, at b and at a: apart, where the images of a and b are exchanged. -/
def swp2 (π : Nat → Nat) (a b : Nat) : Nat → Nat := fun x => if x = a then π b else if x = b then π a else π x
theorem swp2_off {π : Nat → Nat} {a b : Nat} {l : List Nat} (ha : a ∉ l) (hb : b ∉ l) : l.map (swp2 π a b) = l.map π := by
  refine List.map_congr_left fun x hx => ?_
  unfold swp2
  rw [if_neg (fun e => ha (by rw [← e]; exact hx)), if_neg (fun e => hb (by rw [← e]; exact hx))]
theorem swp2_a (π : Nat → Nat) (a b : Nat) : swp2 π a b a = π b := by simp [swp2]
theorem swp2_b (π : Nat → Nat) (a b : Nat) : swp2 π a b b = π a := by
  unfold swp2
  by_cases e : b = a
  · rw [if_pos e, e]
  · rw [if_neg e, if_pos rfl]
/-- What a list that ends in a is made of. -/
theorem snoc_head (p : List Nat) (a : Nat) : ∃ c r, p ++ [a] = c :: r := by
  cases p with
  | nil => exact ⟨a, [], rfl⟩
  | cons c r => exact ⟨c, r ++ [a], rfl⟩
theorem Rot.snoc {π : Nat → Nat} {p : List Nat} {a c : Nat} {r : List Nat} (e : p ++ [a] = c :: r) : Rot π (p ++ [a]) ↔ p.map π ++ [π a] = r ++ [c] := by
  constructor
  · rintro ⟨c', r', e', h⟩
    rw [e] at e'
    injection e' with e1 e2
    subst e1
    subst e2
    simpa using h
  · intro h
    exact ⟨c, r, e, by simpa using h⟩
theorem Rot.snoc2 {π : Nat → Nat} {p q : List Nat} {a b c d : Nat} {r s : List Nat} (e : p ++ [a] = c :: r) (f : q ++ [b] = d :: s) : Rot π ((p ++ [a]) ++ (q ++ [b])) ↔ p.map π ++ [π a] = r ++ [d] ∧ q.map π ++ [π b] = s ++ [c] := by
  have hr : p.length = r.length := by have := congrArg List.length e; simpa using this
  constructor
  · rintro ⟨c', r', e', h⟩
    rw [e, f] at e'
    simp only [List.cons_append, List.cons.injEq] at e'
    obtain ⟨rfl, rfl⟩ := e'
    have h' : (p.map π ++ [π a]) ++ (q.map π ++ [π b]) = (r ++ [d]) ++ (s ++ [c]) := by simpa using h
    exact List.append_inj h' (by simp [hr])
  · rintro ⟨h1, h2⟩
    refine ⟨c, r ++ d :: s, by rw [e, f]; rfl, ?_⟩
    have : ((p ++ [a]) ++ (q ++ [b])).map π = (p.map π ++ [π a]) ++ (q.map π ++ [π b]) := by simp
    rw [this, h1, h2]
    simp
theorem Rot.split {π : Nat → Nat} {p q : List Nat} {a b : Nat} (hn : ((p ++ [b]) ++ (q ++ [a])).Nodup) (h : Rot π ((p ++ [b]) ++ (q ++ [a]))) : Rot (swp2 π a b) (p ++ [b]) ∧ Rot (swp2 π a b) (q ++ [a]) := by
  obtain ⟨c, r, e⟩ := snoc_head p b
  obtain ⟨d, s, f⟩ := snoc_head q a
  obtain ⟨h1, h2⟩ := (Rot.snoc2 e f).1 h
  simp only [List.nodup_append, List.mem_append, List.mem_singleton, List.append_assoc] at hn
  have u1 : a ∉ p ∧ b ∉ p ∧ a ∉ q ∧ b ∉ q := by grind
  have hp : p.map π = r := (List.append_inj' h1 rfl).1
  have hb : π b = d := by simpa using (List.append_inj' h1 rfl).2
  have hq : q.map π = s := (List.append_inj' h2 rfl).1
  have ha : π a = c := by simpa using (List.append_inj' h2 rfl).2
  refine ⟨(Rot.snoc e).2 ?_, (Rot.snoc f).2 ?_⟩
  · rw [swp2_off u1.1 u1.2.1, swp2_b, hp, ha]
  · rw [swp2_off u1.2.2.1 u1.2.2.2, swp2_a, hq, hb]
theorem Rot.join {π : Nat → Nat} {p q : List Nat} {a b : Nat} (hn : ((p ++ [a]) ++ (q ++ [b])).Nodup) (h : Rot π (p ++ [a])) (h' : Rot π (q ++ [b])) : Rot (swp2 π a b) ((p ++ [a]) ++ (q ++ [b])) := by
  obtain ⟨c, r, e⟩ := snoc_head p a
  obtain ⟨d, s, f⟩ := snoc_head q b
  have h1 := (Rot.snoc e).1 h
  have h2 := (Rot.snoc f).1 h'
  simp only [List.nodup_append, List.mem_append, List.mem_singleton, List.append_assoc] at hn
  have u1 : a ∉ p ∧ b ∉ p ∧ a ∉ q ∧ b ∉ q := by grind
  have hp : p.map π = r := (List.append_inj' h1 rfl).1
  have ha : π a = c := by simpa using (List.append_inj' h1 rfl).2
  have hq : q.map π = s := (List.append_inj' h2 rfl).1
  have hb : π b = d := by simpa using (List.append_inj' h2 rfl).2
  refine (Rot.snoc2 e f).2 ⟨?_, ?_⟩
  · rw [swp2_off u1.1 u1.2.1, swp2_a, hp, hb]
  · rw [swp2_off u1.2.2.1 u1.2.2.2, swp2_b, hq, ha]
theorem Rot.other {π : Nat → Nat} {C : List Nat} {a b : Nat} (ha : a ∉ C) (hb : b ∉ C) (h : Rot π C) : Rot (swp2 π a b) C := by
  obtain ⟨c, r, e, hm⟩ := h
  exact ⟨c, r, e, by rw [swp2_off ha hb]; exact hm⟩
/-- All rounds of a permutation of the first n. -/
structure Rounds (π : Nat → Nat) (n : Nat) (Cs : List (List Nat)) : Prop where
  rot : ∀ C ∈ Cs, Rot π C
  nd : Cs.flatten.Nodup
  all : ∀ x, x ∈ Cs.flatten ↔ x < n
theorem Rounds.perm {π : Nat → Nat} {n : Nat} {Cs Ds : List (List Nat)} (h : Rounds π n Cs) (rot : ∀ C ∈ Ds, Rot π C) (p : Ds.flatten.Perm Cs.flatten) : Rounds π n Ds :=
  ⟨rot, p.nodup_iff.2 h.nd, fun x => (p.mem_iff).trans (h.all x)⟩
theorem flatten_perm {Cs Ds : List (List Nat)} (h : Cs.Perm Ds) : Cs.flatten.Perm Ds.flatten := by
  induction h with
  | nil => exact List.Perm.refl _
  | cons x _ ih => simpa using ih.append_left x
  | swap x y l =>
    simp only [List.flatten_cons, ← List.append_assoc]
    exact List.Perm.append_right _ List.perm_append_comm
  | trans _ _ i1 i2 => exact i1.trans i2
/-- One round ahead, turned so that a is its last one. -/
theorem Rounds.front {π : Nat → Nat} {n : Nat} {Cs : List (List Nat)} (h : Rounds π n Cs) {a : Nat} (ha : a < n) : ∃ p Ds, Rounds π n ((p ++ [a]) :: Ds) ∧ Ds.length + 1 = Cs.length := by
  obtain ⟨C, hC, haC⟩ := List.mem_flatten.1 ((h.all a).2 ha)
  obtain ⟨s, t, rfl⟩ := List.append_of_mem hC
  obtain ⟨p, hp1, hp2⟩ := (h.rot C hC).last haC
  refine ⟨p, s ++ t, h.perm ?_ ?_, by simp; omega⟩
  · intro X hX
    rcases List.mem_cons.1 hX with rfl | hX
    · exact hp1
    · refine h.rot X ?_
      rcases List.mem_append.1 hX with hX | hX
      · exact List.mem_append_left _ hX
      · exact List.mem_append_right _ (List.mem_cons_of_mem _ hX)
  · have p1 : ((p ++ [a]) :: (s ++ t)).flatten.Perm (C :: (s ++ t)).flatten := by
      simp only [List.flatten_cons]
      exact hp2.append_right _
    exact p1.trans (flatten_perm List.perm_middle.symm)
/-- An exchange splits a round, or joins two. -/
theorem Rounds.swap {π : Nat → Nat} {n : Nat} {Cs : List (List Nat)} (h : Rounds π n Cs) {a b : Nat} (ha : a < n) (hb : b < n) (hab : a ≠ b) : ∃ Ds, Rounds (swp2 π a b) n Ds ∧ (Ds.length + Cs.length) % 2 = 1 := by
  obtain ⟨p, Ds, hD, hl⟩ := h.front ha
  have hnd := hD.nd
  rw [List.flatten_cons] at hnd
  by_cases hbp : b ∈ p
  · obtain ⟨x, y, rfl⟩ := List.append_of_mem hbp
    have hr := hD.rot _ (List.mem_cons_self ..)
    have e1 : (x ++ b :: y) ++ [a] = (x ++ [b]) ++ (y ++ [a]) := by simp
    have hn1 : ((x ++ [b]) ++ (y ++ [a])).Nodup := by rw [← e1]; exact (List.nodup_append.1 hnd).1
    rw [e1] at hr
    obtain ⟨s1, s2⟩ := Rot.split hn1 hr
    refine ⟨(x ++ [b]) :: (y ++ [a]) :: Ds, ⟨?_, ?_, ?_⟩, by simp only [List.length_cons]; omega⟩
    · intro X hX
      rcases List.mem_cons.1 hX with rfl | hX
      · exact s1
      · rcases List.mem_cons.1 hX with rfl | hX
        · exact s2
        · have hx : ∀ z ∈ X, z ∉ (x ++ b :: y) ++ [a] := fun z hz hm => (List.nodup_append.1 hnd).2.2 z hm z (List.mem_flatten.2 ⟨X, hX, hz⟩) rfl
          exact Rot.other (fun m => hx a m (by simp)) (fun m => hx b m (by simp)) (hD.rot X (List.mem_cons_of_mem _ hX))
    · simpa using hnd
    · intro z
      rw [← hD.all z]
      simp
  · have hbD : b ∈ Ds.flatten := by
      have := (hD.all b).2 hb
      rw [List.flatten_cons, List.mem_append, List.mem_append, List.mem_singleton] at this
      rcases this with (h1 | h1) | h1
      · exact absurd h1 hbp
      · exact absurd h1.symm hab
      · exact h1
    obtain ⟨C, hC, hbC⟩ := List.mem_flatten.1 hbD
    obtain ⟨s, t, rfl⟩ := List.append_of_mem hC
    obtain ⟨q, hq1, hq2⟩ := (hD.rot C (List.mem_cons_of_mem _ hC)).last hbC
    have pm : (((p ++ [a]) ++ (q ++ [b])) :: (s ++ t)).flatten.Perm ((p ++ [a]) :: (s ++ C :: t)).flatten := by
      simp only [List.flatten_cons, List.append_assoc]
      refine List.Perm.append_left p (List.Perm.append_left [a] ?_)
      have p1 : (q ++ ([b] ++ (s ++ t).flatten)).Perm (C :: (s ++ t)).flatten := by
        rw [List.flatten_cons, ← List.append_assoc]
        exact hq2.append_right _
      exact p1.trans (flatten_perm List.perm_middle.symm)
    have hnd2 : (((p ++ [a]) ++ (q ++ [b])) :: (s ++ t)).flatten.Nodup := pm.nodup_iff.2 hD.nd
    rw [List.flatten_cons] at hnd2
    refine ⟨((p ++ [a]) ++ (q ++ [b])) :: (s ++ t), ⟨?_, by rw [List.flatten_cons]; exact hnd2, fun z => pm.mem_iff.trans (hD.all z)⟩, by simp only [List.length_cons, List.length_append] at hl ⊢; omega⟩
    intro X hX
    rcases List.mem_cons.1 hX with rfl | hX
    · exact Rot.join (List.nodup_append.1 hnd2).1 (hD.rot _ (List.mem_cons_self ..)) hq1
    · have hx : ∀ z ∈ X, z ∉ (p ++ [a]) ++ (q ++ [b]) := fun z hz hm => (List.nodup_append.1 hnd2).2.2 z hm z (List.mem_flatten.2 ⟨X, hX, hz⟩) rfl
      refine Rot.other (fun m => hx a m (by simp)) (fun m => hx b m (by simp)) (hD.rot X (List.mem_cons_of_mem _ ?_))
      rcases List.mem_append.1 hX with hX | hX
      · exact List.mem_append_left _ hX
      · exact List.mem_append_right _ (List.mem_cons_of_mem _ hX)
theorem Rounds.congr {π ρ : Nat → Nat} {n : Nat} {Cs : List (List Nat)} (h : Rounds π n Cs) (e : ∀ x, x < n → ρ x = π x) : Rounds ρ n Cs :=
  ⟨fun C hC => by
    obtain ⟨c, r, e1, hm⟩ := h.rot C hC
    refine ⟨c, r, e1, ?_⟩
    rw [← hm]
    exact List.map_congr_left fun x hx => e x ((h.all x).1 (List.mem_flatten.2 ⟨C, hC, hx⟩)), h.nd, h.all⟩
end Jor
end Go.Proofs.YtpnkhgjjlionnaaGreat
namespace Go.Proofs.YtpnkhgjjlionnaaGreat
namespace Jor
section
variable {F N : Nat} {opp vert : Nat → Nat}

theorem faces_rounds : ∀ F, Rounds pv (3 * F) ((List.range F).map fun i => [3 * i, 3 * i + 2, 3 * i + 1]) := by
  intro F
  have all : ∀ F x, x ∈ ((List.range F).map fun i => [3 * i, 3 * i + 2, 3 * i + 1]).flatten ↔ x < 3 * F := by
    intro F x
    simp only [List.mem_flatten, List.mem_map, List.mem_range]
    constructor
    · rintro ⟨_, ⟨i, hi, rfl⟩, hx⟩
      simp only [List.mem_cons, List.not_mem_nil, or_false] at hx
      omega
    · intro h
      refine ⟨_, ⟨x / 3, by omega, rfl⟩, ?_⟩
      simp only [List.mem_cons, List.not_mem_nil, or_false]
      omega
  refine ⟨?_, ?_, all F⟩
  · intro C hC
    obtain ⟨i, hi, rfl⟩ := List.mem_map.1 hC
    refine ⟨_, _, rfl, ?_⟩
    simp only [List.map_cons, List.map_nil, List.cons_append, List.nil_append, List.cons.injEq, and_true]
    unfold pv
    omega
  · induction F with
    | zero => simp
    | succ F ih =>
      rw [List.range_succ, List.map_append, List.flatten_append, List.nodup_append]
      refine ⟨ih, by simp, ?_⟩
      intro a ha b hb
      have := (all F a).1 ha
      simp only [List.map_cons, List.map_nil, List.flatten_cons, List.flatten_nil, List.append_nil, List.mem_cons, List.not_mem_nil, or_false] at hb
      omega
/-- Over some edges one goes on across, over the others one turns back in the triangle. -/
noncomputable def halfway (opp : Nat → Nat) (L : List Nat) : Nat → Nat := fun x => if x ∈ both opp L then pv (opp x) else pv x
theorem halfway_rounds (K : Closed F N opp vert) : ∀ L : List Nat, (∀ c ∈ L, c < 3 * F) → (both opp L).Nodup → ∃ Cs, Rounds (halfway opp L) (3 * F) Cs ∧ (Cs.length + F + L.length) % 2 = 0
  | [], _, _ => ⟨_, (faces_rounds F).congr (fun x _ => by simp [halfway, both]), by simp; omega⟩
  | a :: L, hl, hn => by
    have ha := hl a (List.mem_cons_self ..)
    have hb := K.lt a ha
    have e : both opp (a :: L) = a :: (L ++ opp a :: L.map opp) := by simp [both]
    have hp : (a :: (L ++ opp a :: L.map opp)).Perm (a :: opp a :: both opp L) := List.Perm.cons _ List.perm_middle
    rw [e] at hn
    have hn2 := hp.nodup_iff.1 hn
    simp only [List.nodup_cons, List.mem_cons, not_or] at hn2
    obtain ⟨Cs, h1, h2⟩ := halfway_rounds K L (fun c hc => hl c (List.mem_cons_of_mem _ hc)) hn2.2.2
    obtain ⟨Ds, h3, h4⟩ := h1.swap ha hb hn2.1.1
    refine ⟨Ds, h3.congr ?_, by simp only [List.length_cons]; omega⟩
    intro x _
    unfold halfway swp2
    simp only []
    have hm : x ∈ both opp (a :: L) ↔ x = a ∨ x = opp a ∨ x ∈ both opp L := by
      rw [e, hp.mem_iff]
      simp
    by_cases h5 : x = a
    · subst h5
      rw [if_pos (hm.2 (.inl rfl)), if_pos rfl, if_neg hn2.2.1]
    · by_cases h6 : x = opp a
      · subst h6
        rw [if_pos (hm.2 (.inr (.inl rfl))), if_neg h5, if_pos rfl, if_neg hn2.1.2, K.inv a ha]
      · rw [if_neg h5, if_neg h6]
        by_cases h7 : x ∈ both opp L
        · rw [if_pos (hm.2 (.inr (.inr h7))), if_pos h7]
        · rw [if_neg (fun h => by rcases hm.1 h with h | h | h; exact h5 h; exact h6 h; exact h7 h), if_neg h7]
/-- One corner of each edge. -/
def reps (F : Nat) (opp : Nat → Nat) : List Nat := (List.range (3 * F)).filter fun c => decide (c < opp c)
theorem reps_ok (K : Closed F N opp vert) : (∀ c ∈ reps F opp, c < 3 * F) ∧ (both opp (reps F opp)).Nodup ∧ ∀ x, x < 3 * F → x ∈ both opp (reps F opp) := by
  have h1 : ∀ c, c ∈ reps F opp ↔ c < 3 * F ∧ c < opp c := by simp [reps]
  refine ⟨fun c hc => ((h1 c).1 hc).1, ?_, ?_⟩
  · unfold both
    rw [List.nodup_append]
    refine ⟨List.nodup_range.filter _, ?_, ?_⟩
    · refine List.pairwise_map.2 ?_
      refine List.Pairwise.imp_of_mem ?_ (List.nodup_range.filter _ : (reps F opp).Nodup)
      intro a b ha hb hab e
      exact hab (by rw [← K.inv a ((h1 a).1 ha).1, e, K.inv b ((h1 b).1 hb).1])
    · rintro a ha b hb rfl
      obtain ⟨c, hc, rfl⟩ := List.mem_map.1 hb
      have h2 := (h1 _).1 ha
      have h3 := (h1 _).1 hc
      rw [K.inv c h3.1] at h2
      omega
  · intro x hx
    rw [both_mem]
    rcases Nat.lt_trichotomy x (opp x) with h | h | h
    · exact .inl ((h1 x).2 ⟨hx, h⟩)
    · exact absurd (by rw [← h]) (K.apart x hx)
    · exact .inr ⟨opp x, (h1 _).2 ⟨K.lt x hx, by rw [K.inv x hx]; exact h⟩, K.inv x hx⟩
theorem reps_len (K : Closed F N opp vert) : 2 * (reps F opp).length = 3 * F := by
  obtain ⟨h1, h2, h3⟩ := reps_ok K
  have a := nodup_le (m := List.range (3 * F)) h2 (fun x hx => by
    rw [List.mem_range]
    rcases both_mem.1 hx with h | ⟨b, hb, rfl⟩
    · exact h1 x h
    · exact K.lt b (h1 b hb))
  have b := nodup_le (l := List.range (3 * F)) (m := both opp (reps F opp)) List.nodup_range (fun x hx => h3 x (List.mem_range.1 hx))
  rw [both_length] at a b
  simp only [List.length_range] at a b
  omega
theorem one_corner (K : Closed F N opp vert) {c d : Nat} (hc : c < 3 * F) (e : c / 3 = d / 3) (hv : vert c = vert d) : c = d := by
  have h0 := K.simple c hc
  have h1 := K.simple (pv c) (pv_lt hc)
  rw [nx_pv] at h1
  have : d = c ∨ d = nx c ∨ d = pv c := by unfold nx pv; omega
  rcases this with rfl | rfl | rfl
  · rfl
  · exact absurd hv.symm h0
  · exact absurd hv h1
/-- Rounds at vertices are as many as vertices. -/
theorem rounds_verts (K : Closed F N opp vert)
    (ar : ∀ (v : Nat) (S : Nat → Prop), (∃ c, c < 3 * F ∧ vert c = v ∧ S (c / 3)) → (∀ c, c < 3 * F → vert c = v → S (c / 3) → S (opp (nx c) / 3) ∧ S (opp (pv c) / 3)) → ∀ c, c < 3 * F → vert c = v → S (c / 3))
    {Cs : List (List Nat)} (h : Rounds (fun x => pv (opp x)) (3 * F) Cs) : Cs.length = N := by
  have hlt : ∀ C ∈ Cs, ∀ x ∈ C, x < 3 * F := fun C hC x hx => (h.all x).1 (List.mem_flatten.2 ⟨C, hC, hx⟩)
  -- closed under the step, forward and backward
  have fwd : ∀ C ∈ Cs, ∀ x ∈ C, pv (opp x) ∈ C := by
    intro C hC x hx
    obtain ⟨c, r, rfl, hm⟩ := h.rot C hC
    have : pv (opp x) ∈ (c :: r).map (fun x => pv (opp x)) := List.mem_map_of_mem hx
    rw [hm] at this
    simpa [or_comm] using this
  have bwd : ∀ C ∈ Cs, ∀ x, x < 3 * F → pv (opp x) ∈ C → x ∈ C := by
    intro C hC x hx hp
    obtain ⟨c, r, rfl, hm⟩ := h.rot C hC
    have : pv (opp x) ∈ (c :: r).map (fun x => pv (opp x)) := by
      rw [hm]
      simpa [or_comm] using hp
    obtain ⟨y, hy, e⟩ := List.mem_map.1 this
    have hyl := hlt _ hC y hy
    have e2 : opp y = opp x := by rw [← nx_pv (opp y), e, nx_pv]
    rw [← K.inv x hx, ← e2, K.inv y hyl]
    exact hy
  have key : ∀ C ∈ Cs, ∀ x ∈ C, ∀ y, y < 3 * F → vert (pv y) = vert (pv x) → y ∈ C := by
    intro C hC x hx y hy e
    have hS := ar (vert (pv x)) (fun t => ∃ c, c < 3 * F ∧ c / 3 = t ∧ vert c = vert (pv x) ∧ nx c ∈ C)
      ⟨pv x, pv_lt (hlt C hC x hx), rfl, pv x, pv_lt (hlt C hC x hx), rfl, rfl, by rw [nx_pv]; exact hx⟩
      (fun c hc hv hS => by
        obtain ⟨c2, h1, h2, h3, h4⟩ := hS
        have e0 : c2 = c := one_corner K h1 h2 (h3.trans hv.symm)
        subst e0
        have hn := nx_lt hc
        have hp := pv_lt hc
        refine ⟨⟨nx (opp (nx c2)), nx_lt (K.lt _ hn), nx_div _, ?_, ?_⟩, ⟨pv (opp (pv c2)), pv_lt (K.lt _ hp), pv_div _, ?_, ?_⟩⟩
        · rw [K.vn _ hn, pv_nx]
          exact hv
        · rw [nx_nx]
          exact fwd C hC _ h4
        · rw [K.vp _ hp, nx_pv]
          exact hv
        · rw [nx_pv]
          refine bwd C hC _ (K.lt _ hp) ?_
          rw [K.inv _ hp, pv_pv]
          exact h4) (pv y) (pv_lt hy) e
    obtain ⟨c2, h1, h2, h3, h4⟩ := hS
    have e0 : c2 = pv y := one_corner K h1 h2 (h3.trans e.symm)
    subst e0
    rwa [nx_pv] at h4
  -- the vertex of each round
  have hne : ∀ C ∈ Cs, ∃ x, C.head? = some x ∧ x ∈ C := fun C hC => by
    obtain ⟨c, r, rfl, _⟩ := h.rot C hC
    exact ⟨c, rfl, List.mem_cons_self ..⟩
  have vnd : (Cs.map fun C => vert (pv (C.head?.getD 0))).Nodup := by
    have gen : ∀ Ds : List (List Nat), (∀ D ∈ Ds, D ∈ Cs) → Ds.flatten.Nodup → (Ds.map fun C => vert (pv (C.head?.getD 0))).Nodup := by
      intro Ds
      induction Ds with
      | nil => intros; simp
      | cons D r ih =>
        intro hs hn
        rw [List.flatten_cons, List.nodup_append] at hn
        rw [List.map_cons, List.nodup_cons]
        refine ⟨fun hm => ?_, ih (fun D hD => hs D (List.mem_cons_of_mem _ hD)) hn.2.1⟩
        obtain ⟨C, hC, e⟩ := List.mem_map.1 hm
        obtain ⟨x, hx, hxm⟩ := hne C (hs C (List.mem_cons_of_mem _ hC))
        obtain ⟨y, hy, hym⟩ := hne D (hs D (List.mem_cons_self ..))
        rw [hx, hy] at e
        simp only [Option.getD_some] at e
        have hxD := key D (hs D (List.mem_cons_self ..)) y hym x (hlt C (hs C (List.mem_cons_of_mem _ hC)) x hxm) e
        exact hn.2.2 x hxD x (List.mem_flatten.2 ⟨C, hC, hxm⟩) rfl
    exact gen Cs (fun D hD => hD) h.nd
  have a := nodup_le (m := List.range N) vnd (fun v hv => by
    obtain ⟨C, hC, rfl⟩ := List.mem_map.1 hv
    obtain ⟨x, hx, hxm⟩ := hne C hC
    rw [hx, List.mem_range]
    exact K.vlt _ (pv_lt (hlt C hC x hxm)))
  have b := nodup_le (l := List.range N) (m := Cs.map fun C => vert (pv (C.head?.getD 0))) List.nodup_range (fun v hv => by
    obtain ⟨c, hc, hv⟩ := K.all v (List.mem_range.1 hv)
    obtain ⟨C, hC, hm⟩ := List.mem_flatten.1 ((h.all (nx c)).2 (nx_lt hc))
    obtain ⟨x, hx, hxm⟩ := hne C hC
    refine List.mem_map.2 ⟨C, hC, ?_⟩
    rw [hx]
    -- the head has the vertex of all
    have const : ∀ l : List Nat, (∀ y ∈ l, y < 3 * F) → ∀ c0 r, l = c0 :: r → l.map (fun x => pv (opp x)) = r ++ [c0] → ∀ y ∈ l, vert (pv y) = vert (pv c0) := by
      intro l hl c0 r e hm y hy
      have step : ∀ y ∈ l, vert (pv (pv (opp y))) = vert (pv y) := fun y hy => by
        rw [pv_pv]
        exact K.vn y (hl y hy)
      subst e
      have all : ∀ (r : List Nat) (c1 : Nat) (z : List Nat), (c1 :: r).map (fun x => pv (opp x)) = r ++ z → (∀ y ∈ c1 :: r, vert (pv (pv (opp y))) = vert (pv y)) → ∀ y ∈ c1 :: r, vert (pv y) = vert (pv c1) := by
        intro r
        induction r with
        | nil =>
          intro c1 z _ _ y hy
          rw [List.mem_singleton.1 hy]
        | cons d r ih =>
          intro c1 z hm hst y hy
          simp only [List.map_cons, List.cons_append, List.cons.injEq] at hm
          have hd : vert (pv d) = vert (pv c1) := by
            rw [← hm.1]
            exact hst c1 (List.mem_cons_self ..)
          rcases List.mem_cons.1 hy with rfl | hy
          · rfl
          · rw [← hd]
            exact ih d z (by simpa using hm.2) (fun y hy => hst y (List.mem_cons_of_mem _ hy)) y hy
      exact all r c0 [c0] hm step y hy
    obtain ⟨c0, r, rfl, hm2⟩ := h.rot C hC
    simp only [List.head?_cons, Option.some.injEq] at hx
    subst hx
    have := const _ (hlt _ hC) c0 r rfl hm2 (nx c) hm
    rw [pv_nx, hv] at this
    exact this.symm)
  simp only [List.length_map, List.length_range] at a b
  omega
theorem euler_even (K : Closed F N opp vert)
    (ar : ∀ (v : Nat) (S : Nat → Prop), (∃ c, c < 3 * F ∧ vert c = v ∧ S (c / 3)) → (∀ c, c < 3 * F → vert c = v → S (c / 3) → S (opp (nx c) / 3) ∧ S (opp (pv c) / 3)) → ∀ c, c < 3 * F → vert c = v → S (c / 3)) :
    ∃ m, F = 2 * m ∧ (N + m) % 2 = 0 := by
  obtain ⟨h1, h2, h3⟩ := reps_ok K
  have hl := reps_len K
  obtain ⟨Cs, hc, he⟩ := halfway_rounds K _ h1 h2
  have hv := rounds_verts K ar (hc.congr (ρ := fun x => pv (opp x)) (fun x hx => by unfold halfway; rw [if_pos (h3 x hx)]))
  exact ⟨F / 2, by omega, by omega⟩
end
end Jor
end Go.Proofs.YtpnkhgjjlionnaaGreat
namespace Go.Proofs.YtpnkhgjjlionnaaGreat
open Go.RowKit

def oppN (T : List Tr) (c : Nat) : Nat := (oppI T (c : Int)).toNat
def verN (T : List Tr) (c : Nat) : Nat := (vertN T c).toNat
/-- No edge of the border. -/
def ClosedT (T : List Tr) : Prop := ∀ c : Nat, c < 3 * T.length → 0 ≤ oppI T (c : Int)
theorem ClosedT.opp {T : List Tr} (h : ClosedT T) {c : Nat} (hc : c < 3 * T.length) : oppI T (c : Int) = (oppN T c : Int) := by
  have := h c hc
  unfold oppN
  omega
theorem triAt_get {T : List Tr} {c : Nat} (hc : c < 3 * T.length) : ∃ t, T[c / 3]? = some t ∧ triAt T c = t ∧ t ∈ T := by
  have hk : c / 3 < T.length := by omega
  exact ⟨T[c / 3], List.getElem?_eq_getElem hk, by simp [triAt, List.getElem?_eq_getElem hk], List.getElem_mem _⟩
theorem triAt_nx (T : List Tr) (c : Nat) : triAt T (Jor.nx c) = triAt T c := by unfold triAt; rw [Jor.nx_div]
theorem triAt_pv (T : List Tr) (c : Nat) : triAt T (Jor.pv c) = triAt T c := by unfold triAt; rw [Jor.pv_div]
/-- A triangle's three corners, from any of them on. -/
theorem vert_turn (T : List Tr) (c : Nat) : (vertN T c, vertN T (Jor.nx c), vertN T (Jor.pv c)) = ((triAt T c).1, (triAt T c).2.1, (triAt T c).2.2) ∨ (vertN T c, vertN T (Jor.nx c), vertN T (Jor.pv c)) = ((triAt T c).2.1, (triAt T c).2.2, (triAt T c).1) ∨ (vertN T c, vertN T (Jor.nx c), vertN T (Jor.pv c)) = ((triAt T c).2.2, (triAt T c).1, (triAt T c).2.1) := by
  unfold vertN
  rw [triAt_nx, triAt_pv]
  have m1 : Jor.nx c % 3 = (c + 1) % 3 := by unfold Jor.nx; omega
  have m2 : Jor.pv c % 3 = (c + 2) % 3 := by unfold Jor.pv; omega
  have : c % 3 = 0 ∨ c % 3 = 1 ∨ c % 3 = 2 := by omega
  rcases this with e | e | e
  · exact .inl (by simp [e, m1, m2, show (c + 1) % 3 = 1 from by omega, show (c + 2) % 3 = 2 from by omega])
  · exact .inr (.inl (by simp [e, m1, m2, show (c + 1) % 3 = 2 from by omega, show (c + 2) % 3 = 0 from by omega]))
  · exact .inr (.inr (by simp [e, m1, m2, show (c + 1) % 3 = 0 from by omega, show (c + 2) % 3 = 1 from by omega]))
theorem vert_ne {T : List Tr} (hs : ∀ t ∈ T, simple3 t) {c : Nat} (hc : c < 3 * T.length) : vertN T (Jor.nx c) ≠ vertN T c ∧ vertN T (Jor.pv c) ≠ vertN T c ∧ vertN T (Jor.nx c) ≠ vertN T (Jor.pv c) := by
  obtain ⟨t, _, ht, hm⟩ := triAt_get hc
  obtain ⟨s1, s2, s3⟩ := hs t hm
  have := vert_turn T c
  rw [ht] at this
  simp only [Prod.mk.injEq] at this
  rcases this with ⟨a, b, d⟩ | ⟨a, b, d⟩ | ⟨a, b, d⟩ <;> rw [a, b, d]
  · exact ⟨s1.symm, s3, s2⟩
  · exact ⟨s2.symm, s1, s3⟩
  · exact ⟨s3.symm, s2, s1⟩
theorem vert_has {T : List Tr} {i : Nat} {t : Tr} (ht : T[i]? = some t) {x : Int} : hasV t x ↔ ∃ c, c < 3 * T.length ∧ c / 3 = i ∧ vertN T c = x := by
  have hi := (List.getElem?_eq_some_iff.1 ht).1
  have e0 : triAt T (3 * i) = t := by unfold triAt; rw [show 3 * i / 3 = i from by omega, ht]; rfl
  have e1 : triAt T (3 * i + 1) = t := by unfold triAt; rw [show (3 * i + 1) / 3 = i from by omega, ht]; rfl
  have e2 : triAt T (3 * i + 2) = t := by unfold triAt; rw [show (3 * i + 2) / 3 = i from by omega, ht]; rfl
  have v0 : vertN T (3 * i) = t.1 := by unfold vertN; rw [if_pos (by omega), e0]
  have v1 : vertN T (3 * i + 1) = t.2.1 := by unfold vertN; rw [if_neg (by omega), if_pos (by omega), e1]
  have v2 : vertN T (3 * i + 2) = t.2.2 := by unfold vertN; rw [if_neg (by omega), if_neg (by omega), e2]
  constructor
  · rintro (h | h | h)
    · exact ⟨3 * i, by omega, by omega, by rw [v0, h]⟩
    · exact ⟨3 * i + 1, by omega, by omega, by rw [v1, h]⟩
    · exact ⟨3 * i + 2, by omega, by omega, by rw [v2, h]⟩
  · rintro ⟨c, hc, h3, rfl⟩
    have : c = 3 * i ∨ c = 3 * i + 1 ∨ c = 3 * i + 2 := by omega
    rcases this with rfl | rfl | rfl
    · exact .inl v0
    · exact .inr (.inl v1)
    · exact .inr (.inr v2)
theorem atV_corner {T : List Tr} {v : Int} {i : Nat} : i ∈ atV T v ↔ ∃ c, c < 3 * T.length ∧ c / 3 = i ∧ vertN T c = v := by
  unfold atV
  rw [sieve_mem]
  unfold preT
  rw [List.mem_flatMap]
  constructor
  · rintro ⟨k, hk, hm⟩
    rw [List.mem_range] at hk
    have ht : T[k]? = some T[k] := List.getElem?_eq_getElem hk
    rw [ht] at hm
    simp only [three, Option.getD_some, List.mem_cons, Prod.mk.injEq, List.not_mem_nil, or_false] at hm
    have hik : i = k := by rcases hm with h | h | h <;> exact h.2
    subst hik
    exact (vert_has ht).1 (by rcases hm with h | h | h; exact .inl h.1; exact .inr (.inl h.1); exact .inr (.inr h.1))
  · rintro ⟨c, hc, rfl, hv⟩
    have hk : c / 3 < T.length := by omega
    have ht : T[c / 3]? = some T[c / 3] := List.getElem?_eq_getElem hk
    refine ⟨c / 3, List.mem_range.2 hk, ?_⟩
    rw [ht]
    have := (vert_has ht (x := v)).2 ⟨c, hc, rfl, hv⟩
    simp only [three, Option.getD_some, List.mem_cons, Prod.mk.injEq, List.not_mem_nil, or_false]
    rcases this with h | h | h
    · exact .inl ⟨h, trivial⟩
    · exact .inr (.inl ⟨h, trivial⟩)
    · exact .inr (.inr ⟨h, trivial⟩)
theorem edge_pv (T : List Tr) (c : Nat) : edgeN T (Jor.pv c) = (vertN T c, vertN T (Jor.nx c)) := by unfold edgeN; rw [Jor.nx_pv, Jor.pv_pv]
theorem edge_nx (T : List Tr) (c : Nat) : edgeN T (Jor.nx c) = (vertN T (Jor.pv c), vertN T c) := by unfold edgeN; rw [Jor.nx_nx, Jor.pv_nx]
theorem opp_is {T : List Tr} (hu : (T.flatMap edges3).Nodup) {c d : Nat} (hc : c < 3 * T.length) (hd : d < 3 * T.length) (h : edgeN T d = ((edgeN T c).2, (edgeN T c).1)) : oppN T c = d := by
  unfold oppN oppI
  rw [edgeI_nat hc, ← h, facI_of hu hd]
  rfl
/-- Round a vertex one comes to all its triangles. -/
theorem around {N : Int} {T : List Tr} (hS : Surf N T) {v : Int} (hv : inR N v) (S : Nat → Prop) (h0 : ∃ c, c < 3 * T.length ∧ vertN T c = v ∧ S (c / 3))
    (hs : ∀ c, c < 3 * T.length → vertN T c = v → S (c / 3) → S (oppN T (Jor.nx c) / 3) ∧ S (oppN T (Jor.pv c) / 3)) : ∀ c, c < 3 * T.length → vertN T c = v → S (c / 3) := by
  have hl := hS.pinch v hv
  have cl : ∀ i ∈ atV T v, ∀ k ∈ atV T v, S i → adjV T v i k → S k := by
    intro i hi k hk hSi hadj
    obtain ⟨c, hc, rfl, hcv⟩ := atV_corner.1 hi
    obtain ⟨d, hd, rfl, hdv⟩ := atV_corner.1 hk
    obtain ⟨a, b, x, ha, hb, hx, hax, hbx⟩ := hadj
    obtain ⟨c', hc', e1, hcx⟩ := (vert_has ha).1 hax
    obtain ⟨d', hd', e2, hdx⟩ := (vert_has hb).1 hbx
    have hc3 : c' = Jor.nx c ∨ c' = Jor.pv c := by
      have : c' = c ∨ c' = Jor.nx c ∨ c' = Jor.pv c := by unfold Jor.nx Jor.pv; omega
      rcases this with rfl | h
      · exact absurd (hcx.symm.trans hcv) hx
      · exact h
    have hd3 : d' = Jor.nx d ∨ d' = Jor.pv d := by
      have : d' = d ∨ d' = Jor.nx d ∨ d' = Jor.pv d := by unfold Jor.nx Jor.pv; omega
      rcases this with rfl | h
      · exact absurd (hdx.symm.trans hdv) hx
      · exact h
    have hst := hs c hc hcv hSi
    have hpc : Jor.pv c < 3 * T.length := Jor.pv_lt hc
    have hnc : Jor.nx c < 3 * T.length := Jor.nx_lt hc
    have hpd : Jor.pv d < 3 * T.length := Jor.pv_lt hd
    have hnd : Jor.nx d < 3 * T.length := Jor.nx_lt hd
    rcases hc3 with rfl | rfl
    · rcases hd3 with rfl | rfl
      · have e := edge_inj hS.twice hpc hpd (by rw [edge_pv, edge_pv, hcv, hdv, hcx, hdx])
        have : c / 3 = d / 3 := by rw [← Jor.pv_div c, e, Jor.pv_div]
        rw [← this]
        exact hSi
      · have e := opp_is hS.twice hpc hnd (by rw [edge_pv, edge_nx, hcv, hdv, hcx, hdx])
        rw [← Jor.nx_div d, ← e]
        exact hst.2
    · rcases hd3 with rfl | rfl
      · have e := opp_is hS.twice hnc hpd (by rw [edge_pv, edge_nx, hcv, hdv, hcx, hdx])
        rw [← Jor.pv_div d, ← e]
        exact hst.1
      · have e := edge_inj hS.twice hnc hnd (by rw [edge_nx, edge_nx, hcv, hdv, hcx, hdx])
        have : c / 3 = d / 3 := by rw [← Jor.nx_div c, e, Jor.nx_div]
        rw [← this]
        exact hSi
  have sym : ∀ i k, adjV T v i k → adjV T v k i := fun i k ⟨a, b, x, h1, h2, h3, h4, h5⟩ => ⟨b, a, x, h2, h1, h3, h5, h4⟩
  obtain ⟨c0, hc0, hv0, hS0⟩ := h0
  have hm0 : c0 / 3 ∈ atV T v := atV_corner.2 ⟨c0, hc0, rfl, hv0⟩
  intro c hc hcv
  have hm : c / 3 ∈ atV T v := atV_corner.2 ⟨c, hc, rfl, hcv⟩
  cases hh : (atV T v).head? with
  | none =>
    rw [List.head?_eq_none_iff] at hh
    rw [hh] at hm
    cases hm
  | some i0 =>
    by_cases hi : S i0
    · exact hl S (fun i e => by rw [hh] at e; cases e; exact hi) (fun i hi k hk h1 h2 => cl i hi k hk h1 h2) _ hm
    · exfalso
      exact hl (fun k => ¬ S k) (fun i e => by rw [hh] at e; cases e; exact hi) (fun i hi k hk h1 h2 h3 => h1 (cl k hk i hi h3 (sym _ _ h2))) _ hm0 hS0
theorem vert_rng {N : Int} {T : List Tr} (hS : Surf N T) {c : Nat} (hc : c < 3 * T.length) : 0 ≤ vertN T c ∧ vertN T c < N :=
  vertN_in (fun t ht => by
    obtain ⟨⟨a, b⟩, ⟨d, e⟩, f, g⟩ := hS.inr t ht
    exact ⟨a, b, d, e, f, g⟩) hc
theorem verN_eq {N : Int} {T : List Tr} (hS : Surf N T) {c d : Nat} (hc : c < 3 * T.length) (hd : d < 3 * T.length) : verN T c = verN T d ↔ vertN T c = vertN T d := by
  have h1 := (vert_rng hS hc).1
  have h2 := (vert_rng hS hd).1
  unfold verN
  omega
theorem closed_of {N : Int} {T : List Tr} (hS : Surf N T) (hc : ClosedT T) (hconn : ∀ S : Nat → Prop, S 0 → (∀ c, c < 3 * T.length → S (c / 3) → S (oppN T c / 3)) → ∀ t, t < T.length → S t) : Jor.Closed T.length N.toNat (oppN T) (verN T) where
  lt := fun c h => (opp_some h (hc.opp h)).1
  inv := fun c h => by
    have h1 := opp_back hS.twice h (hc.opp h)
    unfold oppN at h1 ⊢
    rw [h1]
    rfl
  apart := fun c h e => by
    obtain ⟨h1, h2⟩ := opp_some h (hc.opp h)
    have hv := vert_ne hS.simple h
    have : oppN T c = c ∨ oppN T c = Jor.nx c ∨ oppN T c = Jor.pv c := by unfold Jor.nx Jor.pv; omega
    rcases this with e | e | e
    · rw [e] at h2
      unfold edgeN at h2
      simp only [Prod.mk.injEq] at h2
      exact hv.2.2 h2.1
    · rw [e, edge_nx] at h2
      unfold edgeN at h2
      simp only [Prod.mk.injEq] at h2
      exact hv.1 h2.2.symm
    · rw [e, edge_pv] at h2
      unfold edgeN at h2
      simp only [Prod.mk.injEq] at h2
      exact hv.2.1 h2.1.symm
  vn := fun c h => by
    obtain ⟨_, h2⟩ := opp_some h (hc.opp h)
    have := congrArg Prod.fst h2
    simp only [edgeN] at this
    unfold verN
    rw [this]
  vp := fun c h => by
    obtain ⟨_, h2⟩ := opp_some h (hc.opp h)
    have := congrArg Prod.snd h2
    simp only [edgeN] at this
    unfold verN
    rw [this]
  simple := fun c h e => (vert_ne hS.simple h).1 ((verN_eq hS (Jor.nx_lt h) h).1 e)
  vlt := fun c h => by
    have := vert_rng hS h
    unfold verN
    omega
  all := fun v hv => by
    have hm := hS.lonely (v : Int) ⟨by omega, by omega⟩
    unfold flatT at hm
    obtain ⟨t, ht, hx⟩ := List.mem_flatMap.1 hm
    obtain ⟨i, hi, hit⟩ := List.getElem_of_mem ht
    have hti : T[i]? = some t := by rw [List.getElem?_eq_getElem hi, hit]
    simp only [List.mem_cons, List.not_mem_nil, or_false] at hx
    obtain ⟨c, h1, _, h3⟩ := (vert_has hti (x := (v : Int))).1 hx
    exact ⟨c, h1, by unfold verN; rw [h3]; rfl⟩
  conn := hconn
theorem ar_of {N : Int} {T : List Tr} (hS : Surf N T) (v : Nat) (S : Nat → Prop) (h0 : ∃ c, c < 3 * T.length ∧ verN T c = v ∧ S (c / 3)) (hs : ∀ c, c < 3 * T.length → verN T c = v → S (c / 3) → S (oppN T (Jor.nx c) / 3) ∧ S (oppN T (Jor.pv c) / 3)) : ∀ c, c < 3 * T.length → verN T c = v → S (c / 3) := by
  obtain ⟨c0, hc0, hv0, hS0⟩ := h0
  have key : ∀ c, c < 3 * T.length → (verN T c = v ↔ vertN T c = vertN T c0) := fun c hc => by
    rw [← hv0]
    exact verN_eq hS hc hc0
  intro c hc hv
  exact around hS (v := vertN T c0) (vert_rng hS hc0) S ⟨c0, hc0, rfl, hS0⟩ (fun d hd hdv => hs d hd ((key d hd).2 hdv)) c hc ((key c hc).1 hv)
theorem walks_of {N : Int} {T : List Tr} (hS : Surf N T) (hc : ClosedT T) (hconn : ∀ S : Nat → Prop, S 0 → (∀ c, c < 3 * T.length → S (c / 3) → S (oppN T c / 3)) → ∀ t, t < T.length → S t) (hT : 0 < T.length) (hE : 2 * N = T.length + 4) : Jor.Walks T.length N.toNat (oppN T) (verN T) where
  toClosed := closed_of hS hc hconn
  euler := by omega
  pos := hT
  ei := fun c d h1 h2 e1 e2 => edge_inj hS.twice h1 h2 (by
    unfold edgeN
    rw [(verN_eq hS (Jor.nx_lt h1) (Jor.nx_lt h2)).1 e1, (verN_eq hS (Jor.pv_lt h1) (Jor.pv_lt h2)).1 e2])
  ar := ar_of hS
theorem even_of {N : Int} {T : List Tr} (hS : Surf N T) (hc : ClosedT T) (hconn : ∀ S : Nat → Prop, S 0 → (∀ c, c < 3 * T.length → S (c / 3) → S (oppN T c / 3)) → ∀ t, t < T.length → S t) : ∃ m : Nat, T.length = 2 * m ∧ (N.toNat + m) % 2 = 0 :=
  Jor.euler_even (closed_of hS hc hconn) (ar_of hS)
/-- One part alone. -/
theorem conn_of {T : List Tr} {out : List Int} (h : Shl T out) (hc : ClosedT T) (h0 : ∀ j, j < T.length → at_ out j = 0) (S : Nat → Prop) (s0 : S 0) (hs : ∀ c, c < 3 * T.length → S (c / 3) → S (oppN T c / 3)) : ∀ t, t < T.length → S t := by
  intro t
  induction t using Nat.strongRecOn with
  | ind t ih =>
    intro ht
    rcases h.new t ht with ⟨i, hi, _, hr⟩ | ⟨h1, _⟩
    · exact hr S (ih i hi (by omega)) (fun c o hcl ho hSc => by
        have := hs c hcl hSc
        rw [hc.opp hcl] at ho
        rwa [show oppN T c = o from by omega] at this)
    · by_cases e : t = 0
      · rw [e]
        exact s0
      · have := h1 0 (by omega)
        rw [h0 0 (by omega), h0 t ht] at this
        omega
end Go.Proofs.YtpnkhgjjlionnaaGreat
namespace Go.Proofs.YtpnkhgjjlionnaaGreat
open Go.RowKit Go.Maps

theorem opp_isI {T : List Tr} (hu : (T.flatMap edges3).Nodup) {c d : Nat} (hc : c < 3 * T.length) (hd : d < 3 * T.length) (h : edgeN T d = ((edgeN T c).2, (edgeN T c).1)) : oppI T (c : Int) = (d : Int) := by
  unfold oppI
  rw [edgeI_nat hc, ← h, facI_of hu hd]
/-- Round a vertex one comes to all its triangles. -/
theorem aroundB {N : Int} {T : List Tr} (hS : Surf N T) {v : Int} (hv : inR N v) (S : Nat → Prop) (h0 : ∃ c, c < 3 * T.length ∧ vertN T c = v ∧ S (c / 3))
    (hs : ∀ c, c < 3 * T.length → vertN T c = v → S (c / 3) → (∀ o : Nat, oppI T ((Jor.nx c : Nat) : Int) = (o : Int) → S (o / 3)) ∧ (∀ o : Nat, oppI T ((Jor.pv c : Nat) : Int) = (o : Int) → S (o / 3))) : ∀ c, c < 3 * T.length → vertN T c = v → S (c / 3) := by
  have hl := hS.pinch v hv
  have cl : ∀ i ∈ atV T v, ∀ k ∈ atV T v, S i → adjV T v i k → S k := by
    intro i hi k hk hSi hadj
    obtain ⟨c, hc, rfl, hcv⟩ := atV_corner.1 hi
    obtain ⟨d, hd, rfl, hdv⟩ := atV_corner.1 hk
    obtain ⟨a, b, x, ha, hb, hx, hax, hbx⟩ := hadj
    obtain ⟨c', hc', e1, hcx⟩ := (vert_has ha).1 hax
    obtain ⟨d', hd', e2, hdx⟩ := (vert_has hb).1 hbx
    have hc3 : c' = Jor.nx c ∨ c' = Jor.pv c := by
      have : c' = c ∨ c' = Jor.nx c ∨ c' = Jor.pv c := by unfold Jor.nx Jor.pv; omega
      rcases this with rfl | h
      · exact absurd (hcx.symm.trans hcv) hx
      · exact h
    have hd3 : d' = Jor.nx d ∨ d' = Jor.pv d := by
      have : d' = d ∨ d' = Jor.nx d ∨ d' = Jor.pv d := by unfold Jor.nx Jor.pv; omega
      rcases this with rfl | h
      · exact absurd (hdx.symm.trans hdv) hx
      · exact h
    have hst := hs c hc hcv hSi
    have hpc : Jor.pv c < 3 * T.length := Jor.pv_lt hc
    have hnc : Jor.nx c < 3 * T.length := Jor.nx_lt hc
    have hpd : Jor.pv d < 3 * T.length := Jor.pv_lt hd
    have hnd : Jor.nx d < 3 * T.length := Jor.nx_lt hd
    rcases hc3 with rfl | rfl
    · rcases hd3 with rfl | rfl
      · have e := edge_inj hS.twice hpc hpd (by rw [edge_pv, edge_pv, hcv, hdv, hcx, hdx])
        have : c / 3 = d / 3 := by rw [← Jor.pv_div c, e, Jor.pv_div]
        rw [← this]
        exact hSi
      · have e := opp_isI hS.twice hpc hnd (by rw [edge_pv, edge_nx, hcv, hdv, hcx, hdx])
        rw [← Jor.nx_div d]
        exact hst.2 _ e
    · rcases hd3 with rfl | rfl
      · have e := opp_isI hS.twice hnc hpd (by rw [edge_pv, edge_nx, hcv, hdv, hcx, hdx])
        rw [← Jor.pv_div d]
        exact hst.1 _ e
      · have e := edge_inj hS.twice hnc hnd (by rw [edge_nx, edge_nx, hcv, hdv, hcx, hdx])
        have : c / 3 = d / 3 := by rw [← Jor.nx_div c, e, Jor.nx_div]
        rw [← this]
        exact hSi
  have sym : ∀ i k, adjV T v i k → adjV T v k i := fun i k ⟨a, b, x, h1, h2, h3, h4, h5⟩ => ⟨b, a, x, h2, h1, h3, h5, h4⟩
  obtain ⟨c0, hc0, hv0, hS0⟩ := h0
  have hm0 : c0 / 3 ∈ atV T v := atV_corner.2 ⟨c0, hc0, rfl, hv0⟩
  intro c hc hcv
  have hm : c / 3 ∈ atV T v := atV_corner.2 ⟨c, hc, rfl, hcv⟩
  cases hh : (atV T v).head? with
  | none =>
    rw [List.head?_eq_none_iff] at hh
    rw [hh] at hm
    cases hm
  | some i0 =>
    by_cases hi : S i0
    · exact hl S (fun i e => by rw [hh] at e; cases e; exact hi) (fun i hi k hk h1 h2 => cl i hi k hk h1 h2) _ hm
    · exfalso
      exact hl (fun k => ¬ S k) (fun i e => by rw [hh] at e; cases e; exact hi) (fun i hi k hk h1 h2 h3 => h1 (cl k hk i hi h3 (sym _ _ h2))) _ hm0 hS0

/-- A fan ends: the edge into the vertex is a border edge. -/
def EndC (T : List Tr) (c : Nat) : Prop := c < 3 * T.length ∧ oppI T ((Jor.nx c : Nat) : Int) = -1
/-- A fan begins: the edge out of the vertex is a border edge. -/
def StaC (T : List Tr) (c : Nat) : Prop := c < 3 * T.length ∧ oppI T ((Jor.pv c : Nat) : Int) = -1
section
variable {N : Int} {T : List Tr}
/-- From corner to corner round a vertex, over the edge behind. -/
theorem turn_nx (hS : Surf N T) {c o : Nat} (hc : c < 3 * T.length) (h : oppI T ((Jor.nx c : Nat) : Int) = (o : Int)) : Jor.nx o < 3 * T.length ∧ vertN T (Jor.nx o) = vertN T c ∧ oppI T ((Jor.pv (Jor.nx o) : Nat) : Int) = ((Jor.nx c : Nat) : Int) := by
  have h1 := opp_some (Jor.nx_lt hc) h
  rw [edge_nx] at h1
  have h2 : vertN T (Jor.nx o) = vertN T c := congrArg Prod.fst h1.2
  refine ⟨Jor.nx_lt h1.1, h2, ?_⟩
  rw [Jor.pv_nx]
  exact opp_back hS.twice (Jor.nx_lt hc) h
theorem nx_inj {a b : Nat} (h : Jor.nx a = Jor.nx b) : a = b := by rw [← Jor.pv_nx a, h, Jor.pv_nx]
theorem pv_inj {a b : Nat} (h : Jor.pv a = Jor.pv b) : a = b := by rw [← Jor.nx_pv a, h, Jor.nx_pv]
open Classical in
/-- Where a fan begins one ends. -/
theorem sta_end (hS : Surf N T) {d : Nat} (hd : StaC T d) : ∃ c, EndC T c ∧ vertN T c = vertN T d := by
  refine Classical.byContradiction fun hno => ?_
  have tot : ∀ c, c < 3 * T.length → vertN T c = vertN T d → ∃ o : Nat, oppI T ((Jor.nx c : Nat) : Int) = (o : Int) := fun c hc hv => by
    rcases opp_cases T ((Jor.nx c : Nat) : Int) with h | ⟨o, h, -⟩
    · exact absurd ⟨c, ⟨hc, h⟩, hv⟩ hno
    · exact ⟨o, h⟩
  let l := (List.range (3 * T.length)).filter fun c => decide (vertN T c = vertN T d)
  let f : Nat → Nat := fun c => Jor.nx (oppI T ((Jor.nx c : Nat) : Int)).toNat
  have hl : ∀ c, c ∈ l ↔ c < 3 * T.length ∧ vertN T c = vertN T d := fun c => by
    show c ∈ (List.range (3 * T.length)).filter _ ↔ _
    rw [List.mem_filter, List.mem_range]
    simp
  have hln : l.Nodup := List.Pairwise.filter _ List.nodup_range
  have hin : ∀ x ∈ d :: l.map f, x ∈ l := by
    intro x hx
    rcases List.mem_cons.1 hx with rfl | hx
    · exact (hl x).2 ⟨hd.1, rfl⟩
    · obtain ⟨c, hc, rfl⟩ := List.mem_map.1 hx
      obtain ⟨h1, h2⟩ := (hl c).1 hc
      obtain ⟨o, ho⟩ := tot c h1 h2
      have := turn_nx hS h1 ho
      refine (hl _).2 ?_
      show Jor.nx (oppI T ((Jor.nx c : Nat) : Int)).toNat < _ ∧ vertN T (Jor.nx (oppI T ((Jor.nx c : Nat) : Int)).toNat) = _
      rw [ho, Int.toNat_natCast]
      exact ⟨this.1, by rw [this.2.1, h2]⟩
  have hfn : (l.map f).Nodup := by
    refine List.pairwise_map.2 (List.Pairwise.imp_of_mem (fun {a b} ha hb hab => ?_) hln)
    obtain ⟨h1, h2⟩ := (hl a).1 ha
    obtain ⟨k1, k2⟩ := (hl b).1 hb
    obtain ⟨o, ho⟩ := tot a h1 h2
    obtain ⟨p, hp⟩ := tot b k1 k2
    intro e
    have e' : Jor.nx (oppI T ((Jor.nx a : Nat) : Int)).toNat = Jor.nx (oppI T ((Jor.nx b : Nat) : Int)).toNat := e
    rw [ho, hp, Int.toNat_natCast, Int.toNat_natCast] at e'
    have e2 := nx_inj e'
    subst e2
    have b1 := opp_back hS.twice (Jor.nx_lt h1) ho
    have b2 := opp_back hS.twice (Jor.nx_lt k1) hp
    rw [b1] at b2
    exact hab (nx_inj (by omega))
  have hdn : d ∉ l.map f := fun hm => by
    obtain ⟨c, hc, he⟩ := List.mem_map.1 hm
    obtain ⟨h1, h2⟩ := (hl c).1 hc
    obtain ⟨o, ho⟩ := tot c h1 h2
    have h3 := (turn_nx hS h1 ho).2.2
    have he' : Jor.nx (oppI T ((Jor.nx c : Nat) : Int)).toNat = d := he
    rw [ho, Int.toNat_natCast] at he'
    rw [he', hd.2] at h3
    omega
  have := Jor.nodup_le (List.nodup_cons.2 ⟨hdn, hfn⟩) hin
  rw [List.length_cons, List.length_map] at this
  omega
/-- Round a vertex one fan begins at most. -/
theorem sta_one (hS : Surf N T) {d e : Nat} (hd : StaC T d) (he : StaC T e) (hv : vertN T d = vertN T e) : d = e := by
  refine Classical.byContradiction fun hne => ?_
  -- who is come to from d, turn by turn
  let R : Nat → Prop := fun x => ∀ P : Nat → Prop, P d → (∀ c o : Nat, c < 3 * T.length → vertN T c = vertN T d → P c → oppI T ((Jor.nx c : Nat) : Int) = (o : Int) → P (Jor.nx o)) → P x
  have hRd : R d := fun P h _ => h
  have hRs : ∀ c o : Nat, c < 3 * T.length → vertN T c = vertN T d → R c → oppI T ((Jor.nx c : Nat) : Int) = (o : Int) → R (Jor.nx o) := fun c o hc hcv h ho P h0 hs => hs c o hc hcv (h P h0 hs) ho
  have hRv : ∀ x, R x → x < 3 * T.length ∧ vertN T x = vertN T d ∧ (x = d ∨ ∃ c o : Nat, c < 3 * T.length ∧ vertN T c = vertN T d ∧ R c ∧ oppI T ((Jor.nx c : Nat) : Int) = (o : Int) ∧ x = Jor.nx o) := fun x hx => hx (fun x => x < 3 * T.length ∧ vertN T x = vertN T d ∧ (x = d ∨ ∃ c o : Nat, c < 3 * T.length ∧ vertN T c = vertN T d ∧ R c ∧ oppI T ((Jor.nx c : Nat) : Int) = (o : Int) ∧ x = Jor.nx o)) ⟨hd.1, rfl, .inl rfl⟩ (fun c o hc hcv hp ho => by
    have := turn_nx hS hc ho
    refine ⟨this.1, by rw [this.2.1, hcv], .inr ⟨c, o, hc, hcv, ?_, ho, rfl⟩⟩
    rcases hp.2.2 with rfl | ⟨c2, o2, h1, h2, h3, h4, rfl⟩
    · exact hRd
    · exact hRs c2 o2 h1 h2 h3 h4)
  have corner : ∀ x y : Nat, x < 3 * T.length → y < 3 * T.length → vertN T x = vertN T y → x / 3 = y / 3 → x = y := fun x y hx hy h1 h2 => by
    have h3 := vert_ne hS.simple hx
    have : y = x ∨ y = Jor.nx x ∨ y = Jor.pv x := by unfold Jor.nx Jor.pv; omega
    rcases this with rfl | rfl | rfl
    · rfl
    · exact absurd h1.symm h3.1
    · exact absurd h1.symm h3.2.1
  have all := aroundB hS (v := vertN T d) (vert_rng hS hd.1) (fun t => ∃ x, R x ∧ x / 3 = t) ⟨d, hd.1, rfl, d, hRd, rfl⟩ (fun c hc hcv ⟨x, hx, hxt⟩ => by
    have hxv := hRv x hx
    obtain rfl := corner x c hxv.1 hc (by rw [hxv.2.1, hcv]) hxt
    refine ⟨fun o ho => ⟨Jor.nx o, hRs x o hc hcv hx ho, Jor.nx_div o⟩, fun o ho => ?_⟩
    rcases hxv.2.2 with rfl | ⟨c2, o2, h1, h2, h3, h4, rfl⟩
    · rw [hd.2] at ho; omega
    · have h5 := (turn_nx hS h1 h4).2.2
      rw [ho] at h5
      have h6 : o = Jor.nx c2 := by omega
      exact ⟨c2, h3, by rw [h6, Jor.nx_div]⟩)
  obtain ⟨x, hx, hxt⟩ := all e he.1 hv.symm
  have hxv := hRv x hx
  obtain rfl := corner x e hxv.1 he.1 (by rw [hxv.2.1, hv]) hxt
  rcases hxv.2.2 with rfl | ⟨c2, o2, h1, h2, h3, h4, rfl⟩
  · exact hne rfl
  · have h5 := (turn_nx hS h1 h4).2.2
    rw [he.2] at h5
    omega
/-- Who comes behind whom on the border. -/
def Nxt (T : List Tr) (v u : Int) : Prop := ∃ c, EndC T c ∧ vertN T c = v ∧ vertN T (Jor.pv c) = u
theorem EndC.sta {c : Nat} (h : EndC T c) : StaC T (Jor.pv c) := ⟨Jor.pv_lt h.1, by rw [Jor.pv_pv]; exact h.2⟩
theorem Nxt.on (hS : Surf N T) {v u : Int} (h : Nxt T v u) : ∃ z, Nxt T u z := by
  obtain ⟨c, h1, -, h3⟩ := h
  obtain ⟨d, h4, h5⟩ := sta_end hS h1.sta
  exact ⟨_, d, h4, by rw [h5, h3], rfl⟩
theorem Nxt.inj (hS : Surf N T) {v v' u : Int} (h : Nxt T v u) (h' : Nxt T v' u) : v = v' := by
  obtain ⟨c, h1, h2, h3⟩ := h
  obtain ⟨d, k1, k2, k3⟩ := h'
  have := pv_inj (sta_one hS h1.sta k1.sta (by rw [h3, k3]))
  subst this
  rw [← h2, ← k2]
theorem Nxt.rng (hS : Surf N T) {v u : Int} (h : Nxt T v u) : (0 ≤ v ∧ v < N) ∧ 0 ≤ u ∧ u < N := by
  obtain ⟨c, h1, rfl, rfl⟩ := h
  exact ⟨vert_rng hS h1.1, vert_rng hS (Jor.pv_lt h1.1)⟩
end
end Go.Proofs.YtpnkhgjjlionnaaGreat
namespace Go.Proofs.YtpnkhgjjlionnaaGreat
open Go.RowKit

/-! Parts have vertices of their own. -/
theorem vert_inr {N : Int} {T : List Tr} (hS : Surf N T) {c : Nat} (hc : c < 3 * T.length) : inR N (vertN T c) := by
  have h := vertN_in (N := N) (fun t ht => by
    obtain ⟨⟨a, b⟩, ⟨c, d⟩, e, f⟩ := hS.inr t ht
    exact ⟨a, b, c, d, e, f⟩) hc
  exact h
/-! Corners come to are of one part. -/
/-! Numbered triangles. -/
/-! Soups, joined. -/
end Go.Proofs.YtpnkhgjjlionnaaGreat
namespace Go.Proofs.YtpnkhgjjlionnaaGreat
open Go.RowKit

/-- The corners of T are those of T' by φ, the vertices by g. -/
structure Iso (T T' : List Tr) (φ : Nat → Nat) (g : Int → Int) : Prop where
  len : T'.length = T.length
  lt : ∀ c, c < 3 * T.length → φ c < 3 * T.length
  inj : ∀ c d, c < 3 * T.length → d < 3 * T.length → φ c = φ d → c = d
  nx : ∀ c, c < 3 * T.length → φ (Jor.nx c) = Jor.nx (φ c)
  vert : ∀ c, c < 3 * T.length → vertN T' (φ c) = g (vertN T c)
  ginj : ∀ c d, c < 3 * T.length → d < 3 * T.length → g (vertN T c) = g (vertN T d) → vertN T c = vertN T d
section
variable {T T' : List Tr} {φ : Nat → Nat} {g : Int → Int}
theorem Iso.pv (h : Iso T T' φ g) {c : Nat} (hc : c < 3 * T.length) : φ (Jor.pv c) = Jor.pv (φ c) := by
  have h1 := h.nx (Jor.pv c) (Jor.pv_lt hc)
  rw [Jor.nx_pv] at h1
  rw [h1, Jor.pv_nx]
/-- Each corner is one's image. -/
theorem Iso.surj (h : Iso T T' φ g) {d : Nat} (hd : d < 3 * T.length) : ∃ c, c < 3 * T.length ∧ φ c = d := by
  have hn : ((List.range (3 * T.length)).map φ).Nodup := by
    rw [List.nodup_iff_pairwise_ne, List.pairwise_map]
    refine List.Pairwise.imp_of_mem ?_ (List.nodup_iff_pairwise_ne.1 List.nodup_range)
    intro a b ha hb hab e
    exact hab (h.inj _ _ (List.mem_range.1 ha) (List.mem_range.1 hb) e)
  have hs : ∀ x ∈ (List.range (3 * T.length)).map φ, x ∈ List.range (3 * T.length) := by
    intro x hx
    obtain ⟨c, hc, rfl⟩ := List.mem_map.1 hx
    exact List.mem_range.2 (h.lt c (List.mem_range.1 hc))
  refine Classical.byContradiction fun hno => ?_
  have h1 : ((d :: (List.range (3 * T.length)).map φ)).Nodup := List.nodup_cons.2 ⟨fun hm => by
    obtain ⟨c, hc, e⟩ := List.mem_map.1 hm
    exact hno ⟨c, List.mem_range.1 hc, e⟩, hn⟩
  have h2 := Jor.nodup_le h1 (m := List.range (3 * T.length)) (fun x hx => by
    rcases List.mem_cons.1 hx with rfl | hx
    · exact List.mem_range.2 hd
    · exact hs x hx)
  simp at h2
  omega
theorem Iso.edge (h : Iso T T' φ g) {c : Nat} (hc : c < 3 * T.length) : edgeN T' (φ c) = (g (edgeN T c).1, g (edgeN T c).2) := by
  unfold edgeN
  rw [← h.nx c hc, ← h.pv hc, h.vert _ (Jor.nx_lt hc), h.vert _ (Jor.pv_lt hc)]
/-- Across from a corner. -/
theorem opp_iff {T : List Tr} (hE : (T.flatMap edges3).Nodup) {c o : Nat} (hc : c < 3 * T.length) : oppI T (c : Int) = (o : Int) ↔ o < 3 * T.length ∧ edgeN T o = ((edgeN T c).2, (edgeN T c).1) := by
  constructor
  · exact opp_some hc
  · rintro ⟨ho, e⟩
    have h1 := facI_of hE ho
    rw [e] at h1
    have h2 : edgeI T (c : Int) = edgeN T c := by
      unfold edgeI edgeN nextI prevI vertI
      have hh : hasC T (c : Int) = true := hasC_true (by omega) (by omega)
      have h3 : hasC T (((Jor.nx c : Nat)) : Int) = true := hasC_true (by omega) (by have := Jor.nx_lt hc; omega)
      have h4 : hasC T (((Jor.pv c : Nat)) : Int) = true := hasC_true (by omega) (by have := Jor.pv_lt hc; omega)
      simp [hh, h3, h4]
    unfold oppI
    rw [h2]
    exact h1
/-- Old numbers that are a corner's each. -/
def VOk (T : List Tr) (old : List Int) : Prop := ∀ u ∈ old, ∃ d, d < 3 * T.length ∧ u = vertN T d
end
end Go.Proofs.YtpnkhgjjlionnaaGreat
namespace Go.Proofs.YtpnkhgjjlionnaaGreat
open Go.RowKit

section
variable {T T' T'' : List Tr} {φ φ' : Nat → Nat} {g g' : Int → Int}
theorem Iso.trans (h : Iso T T' φ g) (h' : Iso T' T'' φ' g') : Iso T T'' (fun c => φ' (φ c)) (fun v => g' (g v)) := by
  have e := h.len
  refine ⟨h'.len.trans h.len, fun c hc => ?_, fun c d hc hd he => ?_, fun c hc => ?_, fun c hc => ?_, fun c d hc hd he => ?_⟩
  · have := h'.lt (φ c) (by rw [e]; exact h.lt c hc)
    rw [e] at this
    exact this
  · exact h.inj _ _ hc hd (h'.inj _ _ (by rw [e]; exact h.lt c hc) (by rw [e]; exact h.lt d hd) he)
  · show φ' (φ (Jor.nx c)) = Jor.nx (φ' (φ c))
    rw [h.nx c hc, h'.nx _ (by rw [e]; exact h.lt c hc)]
  · show vertN T'' (φ' (φ c)) = g' (g (vertN T c))
    rw [h'.vert _ (by rw [e]; exact h.lt c hc), h.vert c hc]
  · refine h.ginj c d hc hd ?_
    rw [← h.vert c hc, ← h.vert d hd]
    refine h'.ginj _ _ (by rw [e]; exact h.lt c hc) (by rw [e]; exact h.lt d hd) ?_
    rw [h.vert c hc, h.vert d hd]
    exact he
end
/-! The form, as one list of corners and one of vertices. -/
theorem nodup_idx {l : List Nat} (h : l.Nodup) {i j x : Nat} (hi : l[i]? = some x) (hj : l[j]? = some x) : i = j := by
  obtain ⟨q1, q2⟩ := List.getElem?_eq_some_iff.1 hi
  obtain ⟨q3, q4⟩ := List.getElem?_eq_some_iff.1 hj
  have hp := List.pairwise_iff_getElem.1 (List.nodup_iff_pairwise_ne.1 h)
  rcases Nat.lt_trichotomy i j with h1 | h1 | h1
  · exact absurd (q2.trans q4.symm) (hp i j q1 q3 h1)
  · exact h1
  · exact absurd (q4.trans q2.symm) (hp j i q3 q1 h1)
/-- The k-th corner of a triangle, from one of its corners on. -/
def turnN (k d : Nat) : Nat := if k = 0 then d else if k = 1 then Jor.nx d else Jor.pv d
theorem turnN_tri (k d : Nat) : turnN k d / 3 = d / 3 := by
  unfold turnN Jor.nx Jor.pv
  split
  · rfl
  · split <;> omega
theorem turnN_inj {k j d : Nat} (hk : k < 3) (hj : j < 3) (h : turnN k d = turnN j d) : k = j := by
  unfold turnN Jor.nx Jor.pv at h
  split at h <;> split at h <;> (try split at h) <;> (try split at h) <;> omega
end Go.Proofs.YtpnkhgjjlionnaaGreat
