/-
  Texts joined by program, what the law uses alone: MapM ShlE BruM TwM Unj SurA R21A HeldU TbS RwL SpA.
-/
import Derived.RegionTactic
import Derived.BigRegion
import Derived.BigQuiet
import Derived.Deep.QuietTactic
import Derived.Deep.RegionHeld3
import Derived.Deep.DeepCutAuto
import Derived.Lib.Slices
import Derived.Deep.AppendLies
import Derived.OrdersHeld
import Derived.StillTail
import Derived.Sort.OwnSortedInts
import Derived.Lib.SlicesCompact
import Derived.Lib.QuietBelow
import Derived.Test.YtpnkhgjjlionnaaE5
import Derived.Test.YtpnkhgjjlionnaaE6
import Derived.Test.YtpnkhgjjlionnaaE4
import Derived.Test.YtpnkhgjjlionnaaE1
import Derived.Test.YtpnkhgjjlionnaaE2
import Derived.Test.YtpnkhgjjlionnaaE3
import Derived.Test.YtpnkhgjjlionnaaShelf
namespace Go.Proofs.Ytpnkhgjjlionnaa
open Go.RowKit

/-- One triangle from another corner on. -/
def Turn (s t : Tr) : Prop := t = s ∨ t = (s.2.1, s.2.2, s.1) ∨ t = (s.2.2, s.1, s.2.1)
theorem Turn.symm {s t : Tr} (h : Turn s t) : Turn t s := by
  rcases h with h | h | h
  · exact .inl h.symm
  · exact .inr (.inr (by rw [h]))
  · exact .inr (.inl (by rw [h]))
theorem turn_at {M : List Tr} {d : Nat} {s : Tr} (h : M[d / 3]? = some s) : Turn s (turnAt M d) := by
  have ta : ∀ e, e / 3 = d / 3 → triAt M e = s := fun e he => by unfold triAt; rw [he, h]; rfl
  have n3 : Jor.nx d / 3 = d / 3 := by unfold Jor.nx; omega
  have p3 : Jor.pv d / 3 = d / 3 := by unfold Jor.pv; omega
  unfold turnAt vertN
  rw [ta d rfl, ta _ n3, ta _ p3]
  rcases (by omega : d % 3 = 0 ∨ d % 3 = 1 ∨ d % 3 = 2) with hm | hm | hm
  · have h1 : Jor.nx d % 3 = 1 := by unfold Jor.nx; omega
    have h2 : Jor.pv d % 3 = 2 := by unfold Jor.pv; omega
    simp only [hm, h1, h2]
    exact .inl rfl
  · have h1 : Jor.nx d % 3 = 2 := by unfold Jor.nx; omega
    have h2 : Jor.pv d % 3 = 0 := by unfold Jor.pv; omega
    simp only [hm, h1, h2]
    exact .inr (.inl rfl)
  · have h1 : Jor.nx d % 3 = 0 := by unfold Jor.nx; omega
    have h2 : Jor.pv d % 3 = 1 := by unfold Jor.pv; omega
    simp only [hm, h1, h2]
    exact .inr (.inr rfl)
/-- What a form is made of: one corner of each triangle, all vertices. -/
structure FormBy (N : Int) (T : List Tr) (S : Int × List Tr) (O : List Int) (D : List Nat) : Prop where
  eq : S = ((O.length : Int), D.map (spotT O T))
  all : AllN N.toNat O
  num : (O.length : Int) = N
  lt : ∀ d ∈ D, d < 3 * T.length
  mem : ∀ d ∈ D, vertN T d ∈ O ∧ vertN T (Jor.nx d) ∈ O ∧ vertN T (Jor.pv d) ∈ O
  tri : ∀ j, j < T.length → ∃ (i d : Nat), D[i]? = some d ∧ d / 3 = j
  len : D.length = T.length
theorem form_by {N : Int} {T : List Tr} {S : Int × List Tr} {O : List Int} (hS : Surf N T) (h : FormIs T S O) : ∃ D, FormBy N T S O D := by
  obtain ⟨out, m, hsh, hm, rfl, rfl⟩ := h
  obtain ⟨cs, e1, hr⟩ := sort_reps hsh hm
  obtain ⟨j1, j2, j3⟩ := join_reps hS hsh (cs := cs) hr.lt hr.nd
  obtain ⟨t1, t2, t3⟩ := crn_tris hS.twice hsh hr
  have eO : frmO T out m = vrtL T cs := by
    unfold frmO vrtL
    rw [e1, List.flatMap_map]
    rfl
  have hO : ∀ o ∈ vrtL T cs, ∃ d, d < 3 * T.length ∧ o = vertN T d := fun o ho => by
    obtain ⟨c, hc, ho⟩ := List.mem_flatMap.1 ho
    exact rtN_in (hr.lt c hc) ho
  have tri : ∀ j, j < T.length → ∃ (i d : Nat), (crnL T cs)[i]? = some d ∧ d / 3 = j := fun j hj => by
    obtain ⟨d, hd, e⟩ := List.mem_map.1 ((t2 j).2 hj)
    obtain ⟨i, hi, e2⟩ := List.getElem_of_mem hd
    exact ⟨i, d, by rw [List.getElem?_eq_getElem hi, e2], e⟩
  have n0 := hS.n0
  have rng : ∀ x ∈ vrtL T cs, 0 ≤ x ∧ x < (N.toNat : Int) := fun x hx => by
    obtain ⟨d, hd, rfl⟩ := hO x hx
    have := vert_inr hS hd
    unfold inR at this
    omega
  have allm : ∀ x : Int, 0 ≤ x → x < N → x ∈ vrtL T cs := fun x h0 h1 => by
    obtain ⟨t, ht, hx⟩ := flatT_has.1 (hS.lonely x ⟨h0, h1⟩)
    obtain ⟨j, hj, e⟩ := List.getElem_of_mem ht
    obtain ⟨i, d, hd, ed⟩ := tri j hj
    obtain ⟨m1, m2, m3⟩ := j3 d (List.mem_of_getElem? hd)
    have hs : T[d / 3]? = some t := by rw [ed, List.getElem?_eq_getElem hj, e]
    have hu := (turn_at hs).symm
    unfold turnAt at hu
    rcases hu with hu | hu | hu <;> rw [hu] at hx <;> rcases hx with hx | hx | hx <;> simp only at hx <;> rw [hx] <;> assumption
  have len : (vrtL T cs).length = N.toNat := by
    have hp : (vrtL T cs).Perm ((List.range N.toNat).map fun i : Nat => (i : Int)) := by
      refine (List.perm_ext_iff_of_nodup j2 (nodup_map_on List.nodup_range (fun a _ b _ e => by omega))).2 fun x => ⟨fun hx => ?_, fun hx => ?_⟩
      · have := rng x hx
        exact List.mem_map.2 ⟨x.toNat, List.mem_range.2 (by omega), by omega⟩
      · obtain ⟨i, hi, rfl⟩ := List.mem_map.1 hx
        have := List.mem_range.1 hi
        exact allm _ (by omega) (by omega)
    have := hp.length_eq
    simpa using this
  have hlen : (crnL T cs).length = T.length := by
    have hp : (trisOf (crnL T cs)).Perm (List.range T.length) := (List.perm_ext_iff_of_nodup t1 List.nodup_range).2 (fun j => by rw [t2 j, List.mem_range])
    have := hp.length_eq
    simpa [trisOf] using this
  refine ⟨crnL T cs, ?_⟩
  rw [eO]
  exact ⟨by unfold frmS; rw [e1, j1], ⟨len, j2, rng⟩, by omega, t3, j3, tri, hlen⟩
end Go.Proofs.Ytpnkhgjjlionnaa
namespace Go.Proofs.Ytpnkhgjjlionnaa
open Go.RowKit

/-- The first k triangles have the numbers of their parts, n parts so far. -/
structure PreS (T : List Tr) (k n : Nat) (out : List Int) : Prop where
  len : out.length = k
  rng : ∀ j, j < k → 0 ≤ at_ out j ∧ at_ out j < n
  rea : ∀ i j, i < k → j < k → Reach T i j → at_ out i = at_ out j
  new : ∀ j, j < k → (∃ i, i < j ∧ at_ out i = at_ out j ∧ Reach T i j) ∨ ((∀ i, i < j → at_ out i < at_ out j) ∧ (at_ out j = 0 ∨ ∃ i, i < j ∧ at_ out i + 1 = at_ out j))
  top : n = 0 ∨ ∃ j, j < k ∧ at_ out j + 1 = n
theorem at_snoc_lt {l : List Int} {x : Int} {j : Nat} (h : j < l.length) : at_ (l ++ [x]) j = at_ l j := by
  simp [at_, List.getD, List.getElem?_append_left h]
theorem at_snoc_eq (l : List Int) (x : Int) : at_ (l ++ [x]) l.length = x := by
  simp [at_, List.getD]
theorem preS_ex {T : List Tr} (hE : (T.flatMap edges3).Nodup) : ∀ k, k ≤ T.length → ∃ n out, PreS T k n out
  | 0, _ => ⟨0, [], rfl, fun j hj => by omega, fun i j hi => by omega, fun j hj => by omega, .inl rfl⟩
  | k + 1, hk => by
    obtain ⟨n, out, h⟩ := preS_ex hE k (by omega)
    have hl := h.len
    have lo : ∀ (x : Int) (j : Nat), j < k → at_ (out ++ [x]) j = at_ out j := fun x j hj => at_snoc_lt (by omega)
    have hi' : ∀ x : Int, at_ (out ++ [x]) k = x := fun x => by rw [← hl]; exact at_snoc_eq out x
    by_cases hr : ∃ i, i < k ∧ Reach T i k
    · obtain ⟨i, hi, hr⟩ := hr
      refine ⟨n, out ++ [at_ out i], by simp [hl], fun j hj => ?_, fun a b ha hb hab => ?_, fun j hj => ?_, ?_⟩
      · by_cases e : j = k
        · rw [e, hi']; exact h.rng i hi
        · rw [lo _ j (by omega)]; exact h.rng j (by omega)
      · by_cases ea : a = k
        · by_cases eb : b = k
          · rw [ea, eb]
          · rw [ea, hi', lo _ b (by omega)]
            rw [ea] at hab
            exact h.rea i b hi (by omega) (hr.trans hab)
        · rw [lo _ a (by omega)]
          by_cases eb : b = k
          · rw [eb, hi']
            rw [eb] at hab
            exact h.rea a i (by omega) hi (hab.trans (hr.symm hE))
          · rw [lo _ b (by omega)]
            exact h.rea a b (by omega) (by omega) hab
      · by_cases e : j = k
        · subst e
          exact .inl ⟨i, hi, by rw [hi', lo _ i hi], hr⟩
        · rw [lo _ j (by omega)]
          rcases h.new j (by omega) with ⟨a, h1, h2, h3⟩ | ⟨h1, h2⟩
          · exact .inl ⟨a, h1, by rw [lo _ a (by omega)]; exact h2, h3⟩
          · refine .inr ⟨fun a ha => by rw [lo _ a (by omega)]; exact h1 a ha, ?_⟩
            rcases h2 with h2 | ⟨a, h2, h3⟩
            · exact .inl h2
            · exact .inr ⟨a, h2, by rw [lo _ a (by omega)]; exact h3⟩
      · rcases h.top with h1 | ⟨j, h1, h2⟩
        · exact .inl h1
        · exact .inr ⟨j, by omega, by rw [lo _ j h1]; exact h2⟩
    · refine ⟨n + 1, out ++ [(n : Int)], by simp [hl], fun j hj => ?_, fun a b ha hb hab => ?_, fun j hj => ?_, ?_⟩
      · by_cases e : j = k
        · rw [e, hi']; omega
        · rw [lo _ j (by omega)]
          have := h.rng j (by omega)
          omega
      · by_cases ea : a = k
        · by_cases eb : b = k
          · rw [ea, eb]
          · rw [ea] at hab
            exact absurd ⟨b, by omega, hab.symm hE⟩ hr
        · by_cases eb : b = k
          · rw [eb] at hab
            exact absurd ⟨a, by omega, hab⟩ hr
          · rw [lo _ a (by omega), lo _ b (by omega)]
            exact h.rea a b (by omega) (by omega) hab
      · by_cases e : j = k
        · subst e
          refine .inr ⟨fun a ha => by rw [hi', lo _ a ha]; exact (h.rng a ha).2, ?_⟩
          rw [hi']
          rcases h.top with h1 | ⟨a, h1, h2⟩
          · exact .inl (by omega)
          · exact .inr ⟨a, h1, by rw [lo _ a h1]; exact h2⟩
        · rw [lo _ j (by omega)]
          rcases h.new j (by omega) with ⟨a, h1, h2, h3⟩ | ⟨h1, h2⟩
          · exact .inl ⟨a, h1, by rw [lo _ a (by omega)]; exact h2, h3⟩
          · refine .inr ⟨fun a ha => by rw [lo _ a (by omega)]; exact h1 a ha, ?_⟩
            rcases h2 with h2 | ⟨a, h2, h3⟩
            · exact .inl h2
            · exact .inr ⟨a, h2, by rw [lo _ a (by omega)]; exact h3⟩
      · exact .inr ⟨k, by omega, by rw [hi']; omega⟩
theorem shl_ex {T : List Tr} (hE : (T.flatMap edges3).Nodup) : ∃ (out : List Int) (m : Nat), Shl T out ∧ (m : Int) = cntL out := by
  obtain ⟨n, out, h⟩ := preS_ex hE T.length (Nat.le_refl _)
  have hs : Shl T out := ⟨h.len, fun j hj => (h.rng j hj).1, fun c o hc ho => by
    have h1 := (opp_some hc ho).1
    exact (h.rea (c / 3) (o / 3) (by omega) (by omega) ((Reach.refl T _).step hc ho)).symm, h.new⟩
  have hb := (cntL_bd (out := out) (m := n) (fun j hj => (h.rng j (by rw [← h.len]; exact hj)).2) (by omega) out.length (Nat.le_refl _)).1
  rw [List.take_length] at hb
  exact ⟨out, (cntL out).toNat, hs, by omega⟩
end Go.Proofs.Ytpnkhgjjlionnaa
namespace Go.Proofs.Ytpnkhgjjlionnaa
open Go.RowKit

theorem spot_get {l : List Int} (hn : l.Nodup) {i : Nat} (hi : i < l.length) : spot l l[i] = i := by
  have h1 := spot_at (List.getElem_mem hi)
  obtain ⟨h2, h3⟩ := List.getElem?_eq_some_iff.1 h1
  exact (List.getElem_inj hn).1 h3
/-- All numbers, in order. -/
def idL (n : Nat) : List Int := (List.range n).map fun i : Nat => (i : Int)
end Go.Proofs.Ytpnkhgjjlionnaa
namespace Go.Proofs.Ytpnkhgjjlionnaa
open Go.RowKit

/-! Blocks of a list of lists. -/
def offL {α β : Type} (f : α → List β) (cs : List α) (k : Nat) : Nat := ((cs.take k).flatMap f).length
section
variable {α β : Type} {f : α → List β} {cs : List α}
theorem offL_zero : offL f cs 0 = 0 := rfl
theorem offL_succ {k : Nat} {c : α} (h : cs[k]? = some c) : offL f cs (k + 1) = offL f cs k + (f c).length := by
  obtain ⟨hk, he⟩ := List.getElem?_eq_some_iff.1 h
  unfold offL
  rw [List.take_succ_eq_append_getElem hk, he, List.flatMap_append, List.length_append]
  simp
theorem offL_get {k i : Nat} {c : α} (h : cs[k]? = some c) (hi : i < (f c).length) : (cs.flatMap f)[offL f cs k + i]? = (f c)[i]? := by
  obtain ⟨hk, he⟩ := List.getElem?_eq_some_iff.1 h
  have e : cs = cs.take k ++ c :: cs.drop (k + 1) := by
    rw [← he, List.getElem_cons_drop, List.take_append_drop]
  have e2 : cs.flatMap f = (cs.take k).flatMap f ++ (f c ++ (cs.drop (k + 1)).flatMap f) := by
    conv => lhs; rw [e]
    rw [List.flatMap_append, List.flatMap_cons]
  rw [e2]
  unfold offL
  rw [List.getElem?_append_right (by omega), show ((cs.take k).flatMap f).length + i - ((cs.take k).flatMap f).length = i from by omega, List.getElem?_append_left hi]
theorem offL_le {k l : Nat} (h : k ≤ l) : offL f cs k ≤ offL f cs l := by
  unfold offL
  have e : cs.take l = cs.take k ++ (cs.take l).drop k := by
    have := List.take_append_drop k (cs.take l)
    rw [List.take_take, Nat.min_eq_left h] at this
    exact this.symm
  rw [e, List.flatMap_append, List.length_append]
  omega
theorem offL_lt {k i : Nat} {c : α} (h : cs[k]? = some c) (hi : i < (f c).length) : offL f cs k + i < (cs.flatMap f).length := by
  have h1 := offL_get h hi
  rw [List.getElem?_eq_getElem hi] at h1
  exact (List.getElem?_eq_some_iff.1 h1).1
/-- Each place is in a block. -/
theorem offL_at : ∀ {j : Nat}, j < (cs.flatMap f).length → ∃ k c i, cs[k]? = some c ∧ i < (f c).length ∧ j = offL f cs k + i := by
  induction cs with
  | nil => intro j hj; simp at hj
  | cons a r ih =>
    intro j hj
    by_cases h : j < (f a).length
    · exact ⟨0, a, j, rfl, h, by rw [offL_zero]; omega⟩
    · rw [List.flatMap_cons, List.length_append] at hj
      obtain ⟨k, c, i, h1, h2, h3⟩ := ih (j := j - (f a).length) (by omega)
      refine ⟨k + 1, c, i, by simpa using h1, h2, ?_⟩
      have : offL f (a :: r) (k + 1) = (f a).length + offL f r k := by
        unfold offL
        rw [List.take_succ_cons, List.flatMap_cons, List.length_append]
      omega
end
/-! Sorting what is in order. -/
theorem sortB_id {α : Type} {lt : α → α → Bool} {l : List α} (h : l.Pairwise fun a b => lt b a = false) : sortB lt l = l := by
  have key : ∀ n, ∀ l : List α, l.length = n → l.Pairwise (fun a b => lt b a = false) → sortB lt l = l := by
    intro n
    induction n with
    | zero =>
      intro l hl _
      rw [List.eq_nil_of_length_eq_zero hl]
      rfl
    | succ n ih =>
      intro l hl hp
      rcases List.eq_nil_or_concat l with h0 | ⟨r, x, h0⟩
      · rw [h0] at hl; simp at hl
      · have h0 : l = r ++ [x] := by simpa using h0
        subst h0
        have e : sortB lt (r ++ [x]) = insB lt (sortB lt r) x := by unfold sortB; rw [List.foldl_append]; rfl
        obtain ⟨p1, -, p3⟩ := List.pairwise_append.1 hp
        rw [e, ih r (by simp at hl; omega) p1]
        rcases List.eq_nil_or_concat r with h1 | ⟨r', y, h1⟩
        · rw [h1]; rfl
        · have h1 : r = r' ++ [y] := by simpa using h1
          subst h1
          rw [insB_snoc, if_neg (by rw [p3 y (by simp) x (by simp)]; decide)]
          simp
  exact key l.length l rfl h
/-- The best corner is the first one, where it is least. -/
theorem bestN_first {rw_ : Nat → List Int} {out : List Int} {n c0 : Nat} (h0 : at_ out (c0 / 3) = (n : Int)) (hf : ∀ c, c < c0 → at_ out (c / 3) ≠ (n : Int)) (K : Nat) (hb : ∀ c, c < K → at_ out (c / 3) = (n : Int) → cmpL (rw_ c0) (rw_ c) ≤ 0) : (K ≤ c0 → bestN rw_ out n K = none) ∧ (c0 < K → bestN rw_ out n K = some c0) := by
  induction K with
  | zero => exact ⟨fun _ => rfl, fun h => by omega⟩
  | succ K ih =>
    obtain ⟨i1, i2⟩ := ih (fun c hc => hb c (by omega))
    rw [bestN_succ]
    constructor
    · intro hK
      rw [if_neg (hf K (by omega))]
      exact i1 (by omega)
    · intro hK
      by_cases e : K = c0
      · subst e
        rw [if_pos h0, i1 (Nat.le_refl _)]
        rfl
      · rw [i2 (by omega)]
        by_cases e2 : at_ out (K / 3) = (n : Int)
        · rw [if_pos e2]
          have h1 := hb K (by omega) e2
          have h2 := cmpL_anti (rw_ c0) (rw_ K)
          show (if cmpL (rw_ K) (rw_ c0) < 0 then some K else some c0) = some c0
          rw [if_neg (by omega)]
        · rw [if_neg e2]
/-- The corners of a form: each is the best of its part, and they stand in order. -/
theorem sort_best {T : List Tr} {out : List Int} {m : Nat} (h : Shl T out) (hm : (m : Int) = cntL out) : ∃ cs, sortM T [] [] out m = cs.map (fromM T [] []) ∧ Reps T out cs ∧ (∀ c ∈ cs, ∀ d, d < 3 * T.length → at_ out (d / 3) = at_ out (c / 3) → cmpL (rowC T [] [] c) (rowC T [] [] d) ≤ 0) ∧ cs.Pairwise fun c d => cmpL (rowC T [] [] c) (rowC T [] [] d) ≤ 0 := by
  have hp := h.hasP hm
  have hb : ∀ n, n < m → bestC T [] [] out n < 3 * T.length ∧ at_ out (bestC T [] [] out n / 3) = (n : Int) := fun n hn => (bestC_ok (P := []) (K := []) hp hn).2
  obtain ⟨cs, h1, h2⟩ := perm_map_inv (fromM T [] []) (sortB_perm ltR (recsM T [] [] out m)) ((List.range m).map (bestC T [] [] out)) (by unfold recsM; rw [List.map_map]; rfl)
  refine ⟨cs, h2, ⟨fun c hc => ?_, ?_, fun j hj => ?_⟩, fun c hc d hd e => ?_, ?_⟩
  · obtain ⟨n, hn, rfl⟩ := List.mem_map.1 (h1.mem_iff.1 hc)
    exact (hb n (List.mem_range.1 hn)).1
  · have hq : ((List.range m).map (bestC T [] [] out)).Pairwise fun c d => at_ out (c / 3) ≠ at_ out (d / 3) := by
      rw [List.pairwise_map]
      refine List.Pairwise.imp_of_mem ?_ (List.nodup_iff_pairwise_ne.1 List.nodup_range)
      intro a b ha hb' hab e
      rw [(hb a (List.mem_range.1 ha)).2, (hb b (List.mem_range.1 hb')).2] at e
      exact hab (by omega)
    exact (h1.pairwise_iff (fun {a b} hab => fun e => hab e.symm)).2 hq
  · have h3 := h.nn j hj
    have h4 := cntI_lt (out := out) (j := j) (by rw [h.len]; exact hj)
    obtain ⟨n, hn⟩ : ∃ n : Nat, at_ out j = (n : Int) := ⟨(at_ out j).toNat, by omega⟩
    have hnm : n < m := by omega
    exact ⟨bestC T [] [] out n, h1.mem_iff.2 (List.mem_map.2 ⟨n, List.mem_range.2 hnm, rfl⟩), by rw [(hb n hnm).2, hn]⟩
  · obtain ⟨n, hn, rfl⟩ := List.mem_map.1 (h1.mem_iff.1 hc)
    have hn := List.mem_range.1 hn
    obtain ⟨b1, b2, b3⟩ := bestC_ok (P := []) (K := []) hp hn
    exact bestN_le b1 d hd (by rw [e, b3])
  · have h3 : (sortM T [] [] out m).Pairwise fun a b => ltR b a = false := by
      refine sortB_sorted (lt := ltR) ?_ ?_ _
      · intro a b c h1 h2
        rw [ltR_false] at h1 h2 ⊢
        exact cmpL_le_trans h1 h2
      · intro a b h1
        rw [ltR_false]
        unfold ltR at h1
        have := of_decide_eq_true h1
        omega
    have h2' : sortM T [] [] out m = cs.map (fromM T [] []) := h2
    rw [h2', List.pairwise_map] at h3
    exact h3.imp (fun {a b} hab => ltR_false.1 hab)
/-- Vertices, in the numbers of a list of all of them, are a list of all numbers. -/
def spotL (O : List Int) (n : Nat) : List Int := (List.range n).map fun x : Nat => ((spot O (x : Int) : Nat) : Int)
theorem spotL_at {O : List Int} {n : Nat} {x : Int} (h0 : 0 ≤ x) (h1 : x < n) : toF (spotL O n) x = ((spot O x : Nat) : Int) := by
  have hx : x.toNat < n := by omega
  have e : ((x.toNat : Nat) : Int) = x := by omega
  unfold toF at_ spotL
  simp [List.getD, List.getElem?_map, List.getElem?_range hx, e]
theorem spotL_all {O : List Int} {n : Nat} (h : AllN n O) : AllN n (spotL O n) := by
  refine ⟨by simp [spotL], nodup_map_on List.nodup_range (fun a ha b hb e => ?_), fun x hx => ?_⟩
  · have ha := List.mem_range.1 ha
    have hb := List.mem_range.1 hb
    have m1 := spot_at (h.all (x := (a : Int)) (by omega) (by omega))
    have m2 := spot_at (h.all (x := (b : Int)) (by omega) (by omega))
    have e : spot O (a : Int) = spot O (b : Int) := by omega
    rw [e, m2] at m1
    have := Option.some.inj m1
    omega
  · obtain ⟨a, ha, rfl⟩ := List.mem_map.1 hx
    have ha := List.mem_range.1 ha
    have := spot_lt (h.all (x := (a : Int)) (by omega) (by omega))
    rw [h.len] at this
    omega
theorem form_pick {n : Nat} {T : List Tr} {O : List Int} {D : List Nat} (hS : Surf (n : Int) T) (hD : ∀ d ∈ D, d < 3 * T.length) : D.map (spotT O T) = pickM (T.map (renT (toF (spotL O n)))) D := by
  unfold pickM
  refine List.map_congr_left fun d hd => ?_
  have h1 := hD d hd
  have key : ∀ c, c < 3 * T.length → toF (spotL O n) (vertN T c) = ((spot O (vertN T c) : Nat) : Int) := fun c hc => by
    have := vert_inr hS hc
    unfold inR at this
    exact spotL_at this.1 this.2
  unfold turnAt spotT
  rw [vert_ren h1, vert_ren (Jor.nx_lt h1), vert_ren (Jor.pv_lt h1), key _ h1, key _ (Jor.nx_lt h1), key _ (Jor.pv_lt h1)]
/-- What a form is made of, all that the law wants. -/
structure FormK (N : Int) (T : List Tr) (S : Int × List Tr) (O : List Int) (cs : List Nat) : Prop where
  eS : S = ((O.length : Int), (crnL T cs).map (spotT O T))
  eO : O = vrtL T cs
  all : AllN N.toNat O
  num : (O.length : Int) = N
  lt : ∀ c ∈ cs, c < 3 * T.length
  surf : Surf N S.2
  iso : Iso S.2 T (fun i => turnN (i % 3) ((crnL T cs).getD (i / 3) 0)) (fun v => O.getD v.toNat 0)
  len : S.2.length = T.length
  joined : S = joinM (cs.map fun c => (((rtN T c).1.length : Int), (rtN T c).2))
  best : ∀ c ∈ cs, ∀ d, d < 3 * T.length → Reach T (c / 3) (d / 3) → cmpL (rowC T [] [] c) (rowC T [] [] d) ≤ 0
  rise : cs.Pairwise fun c d => cmpL (rowC T [] [] c) (rowC T [] [] d) ≤ 0
  apart : cs.Pairwise fun c d => ¬ Reach T (c / 3) (d / 3)
theorem form_k {N : Int} {T : List Tr} {S : Int × List Tr} {O : List Int} (hS : Surf N T) (h : FormIs T S O) : ∃ cs, FormK N T S O cs := by
  obtain ⟨D, hF⟩ := form_by hS h
  obtain ⟨out, m, hsh, hm, rfl, rfl⟩ := h
  obtain ⟨cs, e1, hr, hb, hp⟩ := sort_best hsh hm
  obtain ⟨j1, j2, j3⟩ := join_reps hS hsh (cs := cs) hr.lt hr.nd
  obtain ⟨t1, t2, t3⟩ := crn_tris hS.twice hsh hr
  have eO : frmO T out m = vrtL T cs := by
    unfold frmO vrtL
    rw [e1, List.flatMap_map]
    rfl
  have eS : frmS T out m = (((vrtL T cs).length : Int), (crnL T cs).map (spotT (vrtL T cs) T)) := by
    unfold frmS
    rw [e1, j1]
  have hall := hF.all
  have hnum := hF.num
  rw [eO] at hall hnum
  have n0 := hS.n0
  obtain ⟨n, rfl⟩ : ∃ n : Nat, N = n := ⟨N.toNat, by omega⟩
  rw [Int.toNat_natCast] at hall
  have hlen : (crnL T cs).length = T.length := by
    have hp : (trisOf (crnL T cs)).Perm (List.range T.length) := (List.perm_ext_iff_of_nodup t1 List.nodup_range).2 (fun j => by rw [t2 j, List.mem_range])
    have := hp.length_eq
    simpa [trisOf] using this
  have hsf : Surf (n : Int) ((crnL T cs).map (spotT (vrtL T cs) T)) := by
    rw [form_pick hS t3]
    exact moved_surf hS (spotL_all hall) ⟨hlen, t1, t3⟩
  refine ⟨cs, ?_⟩
  rw [eS, eO]
  refine ⟨rfl, rfl, by rw [Int.toNat_natCast]; exact hall, hnum, hr.lt, hsf, form_iso hS hsh hr, by simp [hlen], ?_, fun c hc d hd hre => hb c hc d hd (hsh.reach hre).symm, hp, ?_⟩
  · have e2 : soupsM (cs.map (fromM T [] [])) = cs.map fun c => (((rtN T c).1.length : Int), (rtN T c).2) := by
      unfold soupsM
      rw [List.map_map]
      rfl
    rw [← e2, j1]
  · exact hr.nd.imp_of_mem (fun {a b} ha hb hab hre => hab (hsh.reach hre))
section
variable {N : Int} {T : List Tr} {S : Int × List Tr} {O : List Int} {cs : List Nat}
/-- The corner of the surface at which a corner of the form, the first of its triangle, is. -/
theorem FormK.first (h : FormK N T S O cs) {k i c : Nat} (hc : cs[k]? = some c) (hi : i < (rtL T c).length) : (crnL T cs).getD ((3 * (offL (rtL T) cs k + i)) / 3) 0 = (rtL T c)[i] ∧ 3 * (offL (rtL T) cs k + i) < 3 * S.2.length := by
  have h1 := offL_get (f := rtL T) hc hi
  have h2 := offL_lt (f := rtL T) hc hi
  have h3 : (crnL T cs).length = S.2.length := by rw [h.eS]; simp
  refine ⟨?_, by rw [← h3]; unfold crnL; omega⟩
  rw [show 3 * (offL (rtL T) cs k + i) / 3 = offL (rtL T) cs k + i from by omega]
  unfold crnL
  rw [List.getElem?_eq_getElem hi] at h1
  simp [List.getD, h1]
theorem FormK.at_ (h : FormK N T S O cs) {j : Nat} (hj : j < S.2.length) : ∃ k c i, cs[k]? = some c ∧ i < (rtL T c).length ∧ j = offL (rtL T) cs k + i := by
  refine offL_at (f := rtL T) ?_
  have h3 : (crnL T cs).length = S.2.length := by rw [h.eS]; simp
  unfold crnL at h3
  omega
theorem rtL_reach {T : List Tr} (hE : (T.flatMap edges3).Nodup) {c : Nat} (hc : c < 3 * T.length) : ∀ d ∈ rtL T c, Reach T (c / 3) (d / 3) := by
  obtain ⟨out, m, hs, hm⟩ := shl_ex hE
  intro d hd
  have h1 := rtL_part hs hc d hd
  have h2 := (LOk.rtL hc).lt d hd
  exact (hs.iff hE (by omega) (by omega)).1 h1.symm
/-- Two triangles of the form hang together just if they are of one block. -/
theorem FormK.same (h : FormK N T S O cs) (hS : Surf N T) {k l i j c d : Nat} (hc : cs[k]? = some c) (hd : cs[l]? = some d) (hi : i < (rtL T c).length) (hj : j < (rtL T d).length) : Reach S.2 (offL (rtL T) cs k + i) (offL (rtL T) cs l + j) ↔ k = l := by
  obtain ⟨f1, f2⟩ := h.first hc hi
  obtain ⟨g1, g2⟩ := h.first hd hj
  have e1 : turnN (3 * (offL (rtL T) cs k + i) % 3) ((crnL T cs).getD (3 * (offL (rtL T) cs k + i) / 3) 0) = (rtL T c)[i] := by
    rw [f1, show 3 * (offL (rtL T) cs k + i) % 3 = 0 from by omega]
    rfl
  have e2 : turnN (3 * (offL (rtL T) cs l + j) % 3) ((crnL T cs).getD (3 * (offL (rtL T) cs l + j) / 3) 0) = (rtL T d)[j] := by
    rw [g1, show 3 * (offL (rtL T) cs l + j) % 3 = 0 from by omega]
    rfl
  have hcl := h.lt c (List.mem_of_getElem? hc)
  have hdl := h.lt d (List.mem_of_getElem? hd)
  have r1 := rtL_reach hS.twice hcl _ (List.getElem_mem hi)
  have r2 := rtL_reach hS.twice hdl _ (List.getElem_mem hj)
  have q1 : 3 * (offL (rtL T) cs k + i) / 3 = offL (rtL T) cs k + i := by omega
  have q2 : 3 * (offL (rtL T) cs l + j) / 3 = offL (rtL T) cs l + j := by omega
  constructor
  · intro hr
    have := h.iso.reach h.surf.twice hS.twice f2 g2 (by rw [q1, q2]; exact hr)
    simp only [e1, e2] at this
    have hcd : Reach T (c / 3) (d / 3) := (r1.trans this).trans (r2.symm hS.twice)
    obtain ⟨k1, k2⟩ := List.getElem?_eq_some_iff.1 hc
    obtain ⟨l1, l2⟩ := List.getElem?_eq_some_iff.1 hd
    have hp := List.pairwise_iff_getElem.1 h.apart
    rcases Nat.lt_trichotomy k l with h1 | h1 | h1
    · have := hp k l k1 l1 h1
      rw [k2, l2] at this
      exact absurd hcd this
    · exact h1
    · have := hp l k l1 k1 h1
      rw [k2, l2] at this
      exact absurd (hcd.symm hS.twice) this
  · intro e
    subst e
    rw [hc] at hd
    obtain rfl := Option.some.inj hd
    have := h.iso.reach_back h.surf.twice hS.twice f2 g2 (by simp only [e1, e2]; exact (r1.symm hS.twice).trans r2)
    rw [q1, q2] at this
    exact this
theorem rtL_pos {T : List Tr} {c : Nat} (hc : c < 3 * T.length) : 0 < (rtL T c).length := by
  have := (List.getElem?_eq_some_iff.1 (rtL_head hc)).1
  exact this
/-- The form's parts are its blocks, in order. -/
theorem FormK.parts (h : FormK N T S O cs) (hS : Surf N T) {out : List Int} (hs : Shl S.2 out) : ∀ j, j < S.2.length → ∀ k c i, cs[k]? = some c → i < (rtL T c).length → j = offL (rtL T) cs k + i → Proofs.Ytpnkhgjjlionnaa.at_ out j = (k : Int) := by
  intro j
  induction j using Nat.strongRecOn with
  | ind j ih =>
    intro hj k c i hc hi e
    have hcl := h.lt c (List.mem_of_getElem? hc)
    have hpos := rtL_pos hcl
    by_cases hi0 : i = 0
    · subst hi0
      rw [Nat.add_zero] at e
      -- nobody ahead is of this block
      have ahead : ∀ x, x < j → ∃ l d y, cs[l]? = some d ∧ y < (rtL T d).length ∧ x = offL (rtL T) cs l + y ∧ l < k := fun x hx => by
        obtain ⟨l, d, y, h1, h2, h3⟩ := h.at_ (j := x) (by omega)
        refine ⟨l, d, y, h1, h2, h3, ?_⟩
        rcases Nat.lt_or_ge l k with h4 | h4
        · exact h4
        · have := offL_le (f := rtL T) (cs := cs) h4
          omega
      rcases hs.new j hj with ⟨x, hx, -, hr⟩ | ⟨a1, a2⟩
      · obtain ⟨l, d, y, h1, h2, h3, h4⟩ := ahead x hx
        rw [h3, e] at hr
        have := (h.same hS h1 hc h2 hpos).1 hr
        omega
      · by_cases hk0 : k = 0
        · subst hk0
          rw [offL_zero] at e
          subst e
          rcases a2 with a2 | ⟨x, hx, -⟩
          · rw [a2]; rfl
          · omega
        · -- the block ahead
          obtain ⟨k1, k2⟩ := List.getElem?_eq_some_iff.1 hc
          have hb : cs[k - 1]? = some cs[k - 1] := List.getElem?_eq_getElem (by omega)
          have hbl := rtL_pos (h.lt _ (List.mem_of_getElem? hb))
          have hsu := offL_succ (f := rtL T) hb
          rw [show k - 1 + 1 = k from by omega] at hsu
          have hlt : offL (rtL T) cs (k - 1) + 0 < j := by omega
          have h5 := ih _ hlt (by omega) (k - 1) _ 0 hb hbl rfl
          have h6 := a1 _ hlt
          rcases a2 with a2 | ⟨x, hx, h7⟩
          · omega
          · obtain ⟨l, d, y, q1, q2, q3, q4⟩ := ahead x hx
            have := ih x hx (by omega) l d y q1 q2 q3
            omega
    · have hlt : offL (rtL T) cs k + 0 < j := by omega
      have h5 := ih _ hlt (by omega) k c 0 hc hpos rfl
      have h6 := hs.reach ((h.same hS hc hc hpos hi).2 rfl)
      rw [e, ← h6]
      exact h5
theorem FormK.count (h : FormK N T S O cs) (hS : Surf N T) {out : List Int} (hs : Shl S.2 out) {m : Nat} (hm : (m : Int) = cntL out) : m = cs.length := by
  have h1 : (m : Int) ≤ cs.length := by
    have := (cntL_bd (out := out) (m := cs.length) (fun j hj => by
      rw [hs.len] at hj
      obtain ⟨k, c, i, q1, q2, q3⟩ := h.at_ hj
      rw [h.parts hS hs j hj k c i q1 q2 q3]
      have := (List.getElem?_eq_some_iff.1 q1).1
      omega) (by omega) out.length (Nat.le_refl _)).2
    rw [List.take_length] at this
    omega
  by_cases h0 : cs.length = 0
  · omega
  · have hb : cs[cs.length - 1]? = some cs[cs.length - 1] := List.getElem?_eq_getElem (by omega)
    have hbl := rtL_pos (h.lt _ (List.mem_of_getElem? hb))
    have hj := (h.first hb hbl).2
    have h5 := h.parts hS hs (offL (rtL T) cs (cs.length - 1) + 0) (by omega) (cs.length - 1) _ 0 hb hbl rfl
    have h6 := cntI_lt (out := out) (j := offL (rtL T) cs (cs.length - 1) + 0) (by rw [hs.len]; omega)
    omega
/-- A corner of the form in a block is one of the surface, in the shell of the block's corner. -/
theorem FormK.row (h : FormK N T S O cs) (hS : Surf N T) {k c : Nat} (hc : cs[k]? = some c) : rowC S.2 [] [] (3 * offL (rtL T) cs k) = rowC T [] [] c ∧ (rtN T c).1 = (rtN S.2 (3 * offL (rtL T) cs k)).1.map (fun v => O.getD v.toNat 0) := by
  have hcl := h.lt c (List.mem_of_getElem? hc)
  have hpos := rtL_pos hcl
  obtain ⟨f1, f2⟩ := h.first hc hpos
  rw [Nat.add_zero] at f1 f2
  have e1 : turnN (3 * offL (rtL T) cs k % 3) ((crnL T cs).getD (3 * offL (rtL T) cs k / 3) 0) = c := by
    rw [f1, show 3 * offL (rtL T) cs k % 3 = 0 from by omega]
    have := rtL_head hcl
    rw [List.getElem?_eq_getElem hpos] at this
    exact Option.some.inj this
  have h1 := h.iso.row h.surf.twice hS.twice f2
  have h2 := h.iso.rtN h.surf.twice hS.twice f2
  simp only [e1] at h1 h2
  exact ⟨h1.symm, by rw [h2]⟩
theorem FormK.bestC (h : FormK N T S O cs) (hS : Surf N T) {out : List Int} (hs : Shl S.2 out) {k c : Nat} (hc : cs[k]? = some c) : Proofs.Ytpnkhgjjlionnaa.bestC S.2 [] [] out k = 3 * offL (rtL T) cs k := by
  have hcl := h.lt c (List.mem_of_getElem? hc)
  have hpos := rtL_pos hcl
  obtain ⟨f1, f2⟩ := h.first hc hpos
  rw [Nat.add_zero] at f2
  have q0 : 3 * offL (rtL T) cs k / 3 = offL (rtL T) cs k := by omega
  have hb := bestN_first (rw_ := rowC S.2 [] []) (out := out) (n := k) (c0 := 3 * offL (rtL T) cs k) (by rw [q0]; exact h.parts hS hs _ (by omega) k c 0 hc hpos rfl) (fun x hx e => by
      obtain ⟨l, d, y, h1, h2, h3⟩ := h.at_ (j := x / 3) (by omega)
      rw [h.parts hS hs _ (by omega) l d y h1 h2 h3] at e
      obtain rfl : l = k := by omega
      omega) (3 * S.2.length) (fun x hx e => by
      rw [(h.row hS hc).1]
      have hre : Reach S.2 (offL (rtL T) cs k) (x / 3) := (hs.iff h.surf.twice (by omega) (by omega)).1 (by rw [e]; exact h.parts hS hs _ (by omega) k c 0 hc hpos rfl)
      have h4 := h.iso.reach h.surf.twice hS.twice f2 hx (by rw [q0]; exact hre)
      have e1 : turnN (3 * offL (rtL T) cs k % 3) ((crnL T cs).getD (3 * offL (rtL T) cs k / 3) 0) = c := by
        rw [Nat.add_zero] at f1
        rw [f1, show 3 * offL (rtL T) cs k % 3 = 0 from by omega]
        have := rtL_head hcl
        rw [List.getElem?_eq_getElem hpos] at this
        exact Option.some.inj this
      simp only [e1] at h4
      rw [← h.iso.row h.surf.twice hS.twice hx]
      exact h.best c (List.mem_of_getElem? hc) _ (by rw [← h.len]; exact h.iso.lt x hx) h4)
  unfold Proofs.Ytpnkhgjjlionnaa.bestC
  rw [hb.2 (by omega)]
  rfl
theorem range_map_get {α β : Type} {f : Nat → β} {g : α → β} : ∀ {l : List α}, (∀ (k : Nat) (a : α), l[k]? = some a → f k = g a) → (List.range l.length).map f = l.map g := by
  intro l h
  apply List.ext_getElem
  · simp
  · intro i h1 h2
    simp only [List.getElem_map, List.getElem_range]
    exact h i _ (List.getElem?_eq_getElem (by simpa using h2))
/-- A form is its own form, with all numbers as they are. -/
theorem form_twice (hS : Surf N T) (h : FormIs T S O) {S' : Int × List Tr} {O' : List Int} (h' : FormIs S.2 S' O') : S' = S ∧ O' = idL N.toNat ∧ O'.length = O.length := by
  obtain ⟨cs, hk⟩ := form_k hS h
  have hall := hk.all
  obtain ⟨out', m', hs', hm', rfl, rfl⟩ := h'
  have hm2 := hk.count hS hs' hm'
  subst hm2
  -- the form
  have eS : frmS S.2 out' cs.length = S := by
    obtain ⟨out, m, hs, hm, hS2, hO2⟩ := h
    rw [hS2]
    unfold frmS
    have hal : Alike S.2 T := ⟨_, _, hk.iso⟩
    have := (form_iff hk.surf hS hs' hs hm' hm).2 hal
    rw [hS2] at this
    exact this
  -- the records, in order
  have eR : recsM S.2 [] [] out' cs.length = (List.range cs.length).map fun k => fromM S.2 [] [] (3 * offL (rtL T) cs k) := by
    unfold recsM
    refine List.map_congr_left fun k hk' => ?_
    have hk2 := List.mem_range.1 hk'
    rw [hk.bestC hS hs' (List.getElem?_eq_getElem hk2)]
  have eM : sortM S.2 [] [] out' cs.length = (List.range cs.length).map fun k => fromM S.2 [] [] (3 * offL (rtL T) cs k) := by
    unfold sortM
    rw [eR]
    refine sortB_id ?_
    rw [List.pairwise_map]
    have hp := List.pairwise_iff_getElem.1 hk.rise
    rw [List.pairwise_iff_getElem]
    intro i j hi hj hij
    simp only [List.length_range] at hi hj
    simp only [List.getElem_range]
    rw [ltR_false]
    show cmpL (rowC S.2 [] [] _) (rowC S.2 [] [] _) ≤ 0
    rw [(hk.row hS (List.getElem?_eq_getElem hi)).1, (hk.row hS (List.getElem?_eq_getElem hj)).1]
    exact hp i j hi hj hij
  -- the old numbers
  obtain ⟨U, hU⟩ : ∃ U, frmO S.2 out' cs.length = U := ⟨_, rfl⟩
  have eU : U = ((List.range cs.length).map fun k => (rtN S.2 (3 * offL (rtL T) cs k)).1).flatten := by
    rw [← hU]
    unfold frmO
    rw [eM, List.flatMap_map]
    rfl
  have eG : U.map (fun v => O.getD v.toNat 0) = O := by
    have e1 : U.map (fun v => O.getD v.toNat 0) = ((List.range cs.length).map fun k => (rtN S.2 (3 * offL (rtL T) cs k)).1.map (fun v => O.getD v.toNat 0)).flatten := by
      rw [eU, List.map_flatten, List.map_map]
      rfl
    have e2 : ((List.range cs.length).map fun k => (rtN S.2 (3 * offL (rtL T) cs k)).1.map (fun v => O.getD v.toNat 0)) = cs.map fun c => (rtN T c).1 := range_map_get fun k c hc => ((hk.row hS hc).2).symm
    rw [e1, e2]
    conv => rhs; rw [hk.eO]
    unfold vrtL
    rw [List.flatMap_def]
  have hin : ∀ u ∈ U, 0 ≤ u ∧ u < N := fun u hu => by
    rw [eU] at hu
    obtain ⟨l, hl, hu⟩ := List.mem_flatten.1 hu
    obtain ⟨k, hk', rfl⟩ := List.mem_map.1 hl
    have hk2 := List.mem_range.1 hk'
    have hc := List.getElem?_eq_getElem hk2
    obtain ⟨d, hd, e⟩ := rtN_in (by have := (hk.first hc (rtL_pos (hk.lt _ (List.mem_of_getElem? hc)))).2; rw [Nat.add_zero] at this; exact this) hu
    have := vert_inr hk.surf hd
    unfold inR at this
    rw [e]
    exact this
  have hnum := hk.num
  have hlen : U.length = O.length := by
    have := congrArg List.length eG
    simpa using this
  rw [hU]
  refine ⟨eS, ?_, hlen⟩
  apply List.ext_getElem
  · rw [hlen]
    simp [idL]
    omega
  · intro i h1 h2
    have hx := hin _ (List.getElem_mem h1)
    have e3 : O.getD (U[i]).toNat 0 = O[i]'(by omega) := by
      have := congrArg (fun l : List Int => l[i]?) eG
      simp only [List.getElem?_map, List.getElem?_eq_getElem h1, List.getElem?_eq_getElem (show i < O.length by omega), Option.map_some] at this
      exact Option.some.inj this
    have hlt : (U[i]).toNat < O.length := by omega
    rw [List.getD, List.getElem?_eq_getElem hlt] at e3
    have e4 : (U[i]).toNat = i := (List.getElem_inj hall.nd).1 e3
    simp only [idL, List.getElem_map, List.getElem_range]
    omega
/-- A part of a form is not less from another corner. -/
theorem FormK.turned (h : FormK N T S O cs) (hS : Surf N T) {c d : Nat} (hc : c ∈ cs) (hd : d < 3 * (rtN T c).2.length) : cmpL (rowM ((rtN T c).1.length : Int) (rtN T c).2) (rowM ((rtN (rtN T c).2 d).1.length : Int) (rtN (rtN T c).2 d).2) ≤ 0 := by
  have hcl := h.lt c hc
  obtain ⟨hE, hP⟩ := emb_part hS.twice hcl
  have h1 := hE.rtN hP hS.twice hd
  have hl : (rtN T c).2.length = (rtL T c).length := by rw [rtN_spot]; simp
  obtain ⟨x, hx⟩ : ∃ x, turnN (d % 3) ((rtL T c).getD (d / 3) 0) = x := ⟨_, rfl⟩
  have hx3 : x / 3 ∈ trisOf (rtL T c) := by
    rw [← hx, turnN_tri]
    have hlt : d / 3 < (rtL T c).length := by omega
    rw [show (rtL T c).getD (d / 3) 0 = (rtL T c)[d / 3] from by simp [List.getD, List.getElem?_eq_getElem hlt]]
    exact List.mem_map.2 ⟨_, List.getElem_mem hlt, rfl⟩
  have hxl := hE.lt d hd
  simp only [hx] at h1 hxl
  obtain ⟨b, hb, eb⟩ := List.mem_map.1 hx3
  have hr := rtL_reach hS.twice hcl b hb
  rw [eb] at hr
  have h2 := h.best c hc x hxl hr
  have e0 : flatT ([] : List Tr) ++ ([] : List Int) = [] := rfl
  have h3 : rowC T [] [] c = rowM ((rtN T c).1.length : Int) (rtN T c).2 := by
    show rowM ((rtN T c).1.length : Int) (rtN T c).2 ++ (flatT [] ++ []) = _
    rw [e0, List.append_nil]
  have h4 : rowC T [] [] x = rowM ((rtN (rtN T c).2 d).1.length : Int) (rtN (rtN T c).2 d).2 := by
    show rowM ((rtN T x).1.length : Int) (rtN T x).2 ++ (flatT [] ++ []) = _
    rw [e0, List.append_nil, h1, List.length_map]
  rw [h3, h4] at h2
  exact h2
end
end Go.Proofs.Ytpnkhgjjlionnaa
namespace Go.Proofs.Ytpnkhgjjlionnaa
open Go.RowKit

/-- A part's triangles at a vertex hang together, where the whole's do. -/
theorem emb_back {A B : List Tr} {e : Nat → Nat} {n u : Int} (hi : ∀ i j, e i = e j → i = j) (tri : ∀ (i : Nat) (t : Tr), A[i]? = some t → B[e i]? = some (shT n t)) (back : ∀ k, k ∈ atV B (u + n) → ∃ i, i ∈ atV A u ∧ e i = k) (hc : ConnV B (u + n) (atV B (u + n))) : ConnV A u (atV A u) := by
  have forth : ∀ i, i ∈ atV A u → e i ∈ atV B (u + n) := by
    intro i hi
    obtain ⟨t, e1, e2⟩ := atV_mem.1 hi
    exact atV_mem.2 ⟨_, tri i t e1, has_sh.2 (by rw [show u + n - n = u from by omega]; exact e2)⟩
  refine ConnV.of_any fun i hi' j hj' => ?_
  intro S s0 sc
  have h := hc.any (forth i hi') (forth j hj') (fun k => ∀ x, x ∈ atV A u → e x = k → S x) (fun x _ ex => by rw [hi x i ex]; exact s0) (fun k hk l hl hs ha x hx ex => by
    obtain ⟨y, hy, ey⟩ := back k hk
    refine sc y hy x hx (hs y hy ey) ?_
    obtain ⟨a, b, z, h1, h2, h3, h4, h5⟩ := ha
    obtain ⟨ta, q1, -⟩ := atV_mem.1 hy
    obtain ⟨tb, q2, -⟩ := atV_mem.1 hx
    have p1 := tri y ta q1
    have p2 := tri x tb q2
    rw [ey, h1] at p1
    rw [ex, h2] at p2
    obtain rfl := Option.some.inj p1
    obtain rfl := Option.some.inj p2
    exact ⟨ta, tb, z - n, q1, q2, by omega, has_sh.1 h4, has_sh.1 h5⟩)
  exact h j hj' rfl
theorem mid_surf {NB n NA : Int} {A pre post : List Tr} (hB : Surf NB (pre ++ A.map (shT n) ++ post)) (hA : ∀ t ∈ A, in3 NA t) (h0 : 0 ≤ n) (ha0 : 0 ≤ NA) (hN : n + NA ≤ NB) (hp : ∀ t ∈ pre, ∀ x, hasV t x → x < n) (hq : ∀ t ∈ post, ∀ x, hasV t x → n + NA ≤ x) : Surf NA A := by
  have get : ∀ (i : Nat) (t : Tr), A[i]? = some t → (pre ++ A.map (shT n) ++ post)[pre.length + i]? = some (shT n t) := fun i t h => by
    have hl := (List.getElem?_eq_some_iff.1 h).1
    rw [List.append_assoc, List.getElem?_append_right (by omega), show pre.length + i - pre.length = i from by omega, List.getElem?_append_left (by rw [List.length_map]; exact hl), List.getElem?_map, h]
    rfl
  have hsub : (A.map (shT n)).Sublist (pre ++ A.map (shT n) ++ post) := by
    rw [List.append_assoc]
    exact (List.sublist_append_left _ _).trans (List.sublist_append_right _ _)
  have hmem : ∀ t ∈ A, shT n t ∈ pre ++ A.map (shT n) ++ post := fun t ht => hsub.subset (List.mem_map.2 ⟨t, ht, rfl⟩)
  have sim : ∀ t ∈ A, simple3 t := fun t ht => by
    obtain ⟨a, b, c⟩ := hB.simple _ (hmem t ht)
    unfold shT at a b c
    simp only at a b c
    exact ⟨by omega, by omega, by omega⟩
  -- who has a vertex of the part is of the part
  have own : ∀ k t u, 0 ≤ u → u < NA → (pre ++ A.map (shT n) ++ post)[k]? = some t → hasV t (u + n) → ∃ i s, A[i]? = some s ∧ hasV s u ∧ pre.length + i = k := by
    intro k t u hu0 hu1 hk hx
    by_cases h1 : k < pre.length
    · rw [List.append_assoc, List.getElem?_append_left h1] at hk
      have := hp t (List.mem_of_getElem? hk) _ hx
      omega
    · rw [List.append_assoc, List.getElem?_append_right (by omega)] at hk
      by_cases h2 : k - pre.length < A.length
      · rw [List.getElem?_append_left (by rw [List.length_map]; exact h2), List.getElem?_map] at hk
        obtain ⟨s, hs, rfl⟩ := Option.map_eq_some_iff.1 hk
        have := has_sh.1 hx
        rw [show u + n - n = u from by omega] at this
        exact ⟨k - pre.length, s, hs, this, by omega⟩
      · rw [List.getElem?_append_right (by rw [List.length_map]; omega)] at hk
        have := hq t (List.mem_of_getElem? hk) _ hx
        omega
  refine ⟨ha0, by have := hB.n1; omega, ?_, hA, sim, ?_, ?_, ?_, ?_⟩
  · have := hB.len
    simp only [List.length_append, List.length_map] at this
    omega
  · have h1 := hB.twice
    rw [List.flatMap_append, List.flatMap_append, List.nodup_append, List.nodup_append] at h1
    have h1 := h1.1.2.1
    have e1 : (A.map (shT n)).flatMap edges3 = (A.flatMap edges3).map fun e => (e.1 + n, e.2.1 + n, e.2.2) := by
      rw [List.flatMap_map, List.map_flatMap]
      rfl
    rw [e1, List.nodup_iff_pairwise_ne, List.pairwise_map] at h1
    exact List.nodup_iff_pairwise_ne.2 (h1.imp (fun hab e => hab (by rw [e])))
  · refine key3_of fun i j t s hi hj e => ?_
    have hp := sort3_has e
    have hm : ∀ x, hasV t x ↔ hasV s x := fun x => by rw [hasV_mem, hp.mem_iff, ← hasV_mem]
    have := key3_idx hB.mirrored (get i t hi) (get j s hj) (sort3_perm (perm_of_has (hB.simple _ (hmem t (List.mem_of_getElem? hi))) (hB.simple _ (hmem s (List.mem_of_getElem? hj))) (fun x => by rw [has_sh, has_sh]; exact hm _)))
    omega
  · intro u hu
    obtain ⟨t, ht, hx⟩ := flatT_has.1 (hB.lonely (u + n) ⟨by have := hu.1; omega, by have := hu.2; omega⟩)
    obtain ⟨k, hk, e⟩ := List.getElem_of_mem ht
    obtain ⟨i, s, h1, h2, -⟩ := own k t u hu.1 hu.2 (by rw [List.getElem?_eq_getElem hk, e]) hx
    exact flatT_has.2 ⟨s, List.mem_of_getElem? h1, h2⟩
  · intro u hu
    refine emb_back (B := pre ++ A.map (shT n) ++ post) (e := fun i => pre.length + i) (n := n) (fun i j h => by omega) get (fun k hk => ?_) (hB.pinch (u + n) ⟨by have := hu.1; omega, by have := hu.2; omega⟩)
    obtain ⟨t, h1, h2⟩ := atV_mem.1 hk
    obtain ⟨i, s, q1, q2, q3⟩ := own k t u hu.1 hu.2 h1 h2
    exact ⟨i, atV_mem.2 ⟨s, q1, q2⟩, q3⟩
/-! What is joined, split at a part. -/
def InN (x : Int × List Tr) : Prop := 0 ≤ x.1 ∧ ∀ t ∈ x.2, in3 x.1 t
theorem joinF_split : ∀ (l : List (Int × List Tr)) (s : Int × List Tr), (∀ x ∈ l, InN x) → 0 ≤ s.1 → ∃ post, (l.foldl joinS s).2 = s.2 ++ post ∧ s.1 ≤ (l.foldl joinS s).1 ∧ ∀ t ∈ post, ∀ x, hasV t x → s.1 ≤ x
  | [], s, _, _ => ⟨[], by simp, Int.le_refl _, fun t ht => by cases ht⟩
  | x :: l, s, h, h0 => by
    have hx := h x (List.mem_cons_self ..)
    obtain ⟨post, e1, e2, e3⟩ := joinF_split l (joinS s x) (fun y hy => h y (List.mem_cons_of_mem _ hy)) (by unfold joinS; simp only; have := hx.1; omega)
    refine ⟨x.2.map (shT s.1) ++ post, ?_, ?_, fun t ht y hy => ?_⟩
    · rw [List.foldl_cons, e1]
      unfold joinS
      simp
    · rw [List.foldl_cons]
      have : (joinS s x).1 = s.1 + x.1 := rfl
      have := hx.1
      omega
    · rcases List.mem_append.1 ht with ht | ht
      · obtain ⟨t', ht', rfl⟩ := List.mem_map.1 ht
        have := in3_has.1 (hx.2 t' ht') _ (has_sh.1 hy)
        unfold inR at this
        omega
      · have := e3 t ht y hy
        have e4 : (joinS s x).1 = s.1 + x.1 := rfl
        have := hx.1
        omega
theorem joinF_in : ∀ (l : List (Int × List Tr)) (s : Int × List Tr), (∀ x ∈ l, InN x) → InN s → InN (l.foldl joinS s)
  | [], _, _, h => h
  | x :: l, s, h, hs => by
    refine joinF_in l (joinS s x) (fun y hy => h y (List.mem_cons_of_mem _ hy)) ?_
    have hx := h x (List.mem_cons_self ..)
    have e : (joinS s x).1 = s.1 + x.1 := rfl
    refine ⟨by have := hx.1; have := hs.1; omega, fun t ht => ?_⟩
    refine in3_has.2 fun y hy => ?_
    unfold inR
    rw [e]
    rcases List.mem_append.1 ht with ht | ht
    · have := in3_has.1 (hs.2 t ht) y hy
      unfold inR at this
      have := hx.1
      omega
    · obtain ⟨t', ht', rfl⟩ := List.mem_map.1 ht
      have := in3_has.1 (hx.2 t' ht') _ (has_sh.1 hy)
      unfold inR at this
      have := hs.1
      omega
theorem joinM_at {l : List (Int × List Tr)} (hl : ∀ x ∈ l, InN x) {k : Nat} {x : Int × List Tr} (h : l[k]? = some x) : ∃ post, (joinM l).2 = (joinM (l.take k)).2 ++ x.2.map (shT (joinM (l.take k)).1) ++ post ∧ 0 ≤ (joinM (l.take k)).1 ∧ (joinM (l.take k)).1 + x.1 ≤ (joinM l).1 ∧
    (∀ t ∈ (joinM (l.take k)).2, ∀ y, hasV t y → y < (joinM (l.take k)).1) ∧ ∀ t ∈ post, ∀ y, hasV t y → (joinM (l.take k)).1 + x.1 ≤ y := by
  obtain ⟨hk, he⟩ := List.getElem?_eq_some_iff.1 h
  have hin : InN (joinM (l.take k)) := joinF_in _ _ (fun y hy => hl y (List.mem_of_mem_take hy)) ⟨Int.le_refl _, fun t ht => by cases ht⟩
  have hx := hl x (List.mem_of_getElem? h)
  have e1 : joinM l = (l.drop (k + 1)).foldl joinS (joinS (joinM (l.take k)) x) := by
    have e : l = l.take k ++ x :: l.drop (k + 1) := by rw [← he, List.getElem_cons_drop, List.take_append_drop]
    conv => lhs; rw [e]
    unfold joinM
    rw [List.foldl_append, List.foldl_cons]
  have e4 : (joinS (joinM (l.take k)) x).1 = (joinM (l.take k)).1 + x.1 := rfl
  obtain ⟨post, p1, p2, p3⟩ := joinF_split (l.drop (k + 1)) (joinS (joinM (l.take k)) x) (fun y hy => hl y (List.mem_of_mem_drop hy)) (by have := hin.1; have := hx.1; omega)
  refine ⟨post, by rw [e1, p1]; rfl, hin.1, by rw [e1]; omega, fun t ht y hy => ?_, fun t ht y hy => by have := p3 t ht y hy; omega⟩
  have := in3_has.1 (hin.2 t ht) y hy
  unfold inR at this
  omega
end Go.Proofs.Ytpnkhgjjlionnaa
namespace Go.Proofs.Ytpnkhgjjlionnaa
open Go.RowKit

theorem below_dn {B : Nat} {w a : World} (h : Below B w a) (n : Nat) : Below B w (a.drewN n) := ⟨h.os, h.tape, h.output, h.size, h.block⟩
theorem below_d {B : Nat} {w a : World} (h : Below B w a) : Below B w a.drew := ⟨h.os, h.tape, h.output, h.size, h.block⟩
end Go.Proofs.Ytpnkhgjjlionnaa
namespace Go.Proofs.Ytpnkhgjjlionnaa
open Go.RowKit Go.Maps

/-- A slice of numbers is what an append reads. -/
theorem IntsRd.news {w : World} {v : Value} {xs : List Int} (h : IntsRd w v xs) (hne : xs ≠ []) : ∃ b o c, v = .slice (some ⟨b, o, none⟩) xs.length c ∧ b < w.heap.size ∧ ∀ j u, (intsV xs)[j]? = some u → w.cell? ((⟨b, o, none⟩ : Addr).add j) = some u := by
  obtain ⟨a, c, rfl, l1, r1⟩ := h
  have hp := List.length_pos_iff.2 hne
  obtain ⟨b, o, rfl, hb, -⟩ := r1 0 _ (List.getElem?_eq_getElem hp)
  refine ⟨b, o, c, rfl, hb, fun j u hu => ?_⟩
  unfold intsV at hu
  rw [List.getElem?_map] at hu
  cases hx : xs[j]? with
  | none => rw [hx] at hu; cases hu
  | some x =>
    rw [hx] at hu
    cases hu
    obtain ⟨b', o', e, -, hc⟩ := r1 j x hx
    cases e
    rw [Addr.add_lit]
    exact hc
theorem intsV_one (xs : List Int) : ∀ u ∈ intsV xs, u.oneCell' = true := by
  intro u hu
  obtain ⟨x, -, rfl⟩ := List.mem_map.1 hu
  rfl
end Go.Proofs.Ytpnkhgjjlionnaa
namespace Go.Proofs.Ytpnkhgjjlionnaa
open Go.RowKit

section
variable {P : Program} {l : List Oper} {Q : Exit → Act → World → Prop} {md : Region.Mode} {S : World → Prop} {n : Nat}

/-- Whatever order is picked from here on; behind each operation but the last one S holds. -/
def wpAnyU (P : Program) (md : Region.Mode) (l : List Oper) (Q : Exit → Act → World → Prop) (S : World → Prop) (n : Nat) : Nat → Array Bool → Act → World → Prop
  | 0, listed, a, w => Region.ready md l.toArray listed = [] ∧ Q .normal a w
  | f + 1, listed, a, w => (Region.ready md l.toArray listed = [] → Q .normal a w) ∧
    ∀ i ∈ Region.ready md l.toArray listed, wpOp P l.toArray Q i (fun a' w' => (i ≠ n → S w') ∧ wpAnyU P md l Q S n f (listed.setIfInBounds i true) a' w') a w
theorem wpAny_of_U : ∀ (f : Nat) (listed : Array Bool) (a : Act) (w : World), wpAnyU P md l Q S n f listed a w → wpAny P md l.toArray Q f listed a w
  | 0, _, _, _, h => h
  | f + 1, _, _, _, h => ⟨h.1, fun i hi => wpOp_mono (fun a' w' h' => wpAny_of_U f _ a' w' h'.2) (h.2 i hi)⟩
/-- Who waits for all is behind who has not come up. -/
theorem last_waits {listed : Array Bool} (hs : Region.sinkB md l.toArray n = true) (hc : Region.chainB md l.toArray n = true) (hn : n + 1 = l.length) (inv : HeadInv md l.toArray n listed) {i : Nat} (hi : i < n) (hun : listed.getD i true = false) : ∀ j ∈ Region.ready md l.toArray listed, j < n := fun j hj => by
  rcases Nat.lt_or_ge j n with h | h
  · exact h
  · exact absurd hj (tail_waits hs hc (by simp; omega) inv _ i rfl hi hun j h)
theorem wpAnyU_first {i : Nat} {oi : Oper} {v : Value} (hi : l[i]? = some oi) (hsel : ∀ (j : Nat) (o : Oper) cs b, l.toArray[j]? = some o → o.op ≠ .select cs b)
    (hs : Region.sinkB md l.toArray n = true) (hc : Region.chainB md l.toArray n = true) (hn : n + 1 = l.length) (hin : i < n)
    (hQ : ∀ c a w, Q (.panic c) (a.put oi.dst v) w → Q (.panic c) a w) :
    ∀ (f : Nat) (listed : Array Bool) (a : Act) (w : World), HeadInv md l.toArray n listed →
      (∀ j oj, l.toArray[j]? = some oj → j ≠ i → listed.getD j true = false → (∀ e ∈ oj.after, Region.binds md e = true → e.on ≠ i) → oi.apart l.toArray oj = true) →
      i ∈ Region.ready md l.toArray listed → YieldsIf P l.toArray S oi v a → S w →
      wpAnyU P md l Q S n f (listed.setIfInBounds i true) (a.put oi.dst v) w → wpAnyU P md l Q S n (f + 1) listed a w := by
  have hi' : l.toArray[i]? = some oi := by simpa using hi
  intro f
  induction f with
  | zero =>
    intro listed a w inv _ hr hy hS H
    refine ⟨fun h => (by rw [h] at hr; cases hr), fun j hj => ?_⟩
    by_cases hji : j = i
    · subst hji
      exact hy.wpOp hi' hS ⟨fun _ => hS, H⟩
    · have := ready_mono hj hji
      rw [H.1] at this
      cases this
  | succ f ih =>
    intro listed a w inv hfree hr hy hS H
    have hun := (mem_ready.1 hr).1
    refine ⟨fun h => (by rw [h] at hr; cases hr), fun j hj => ?_⟩
    by_cases hji : j = i
    · subst hji
      exact hy.wpOp hi' hS ⟨fun _ => hS, H⟩
    · have hjn := last_waits hs hc hn inv hin hun j hj
      have h1 := H.2 j (ready_mono hj hji)
      obtain ⟨hjun, oj, hoj, hall⟩ := mem_ready.1 hj
      have hnot : ∀ e ∈ oj.after, Region.binds md e = true → e.on ≠ i := fun e he hb heq => by
        have h3 := hall e he hb
        rw [heq, getD_both hun] at h3
        cases h3
      have h2 := wpOp_putIf hoj (hfree j oj hoj hji hjun hnot) (fun cs b => hsel i oi cs b hi') (fun cs b => hsel j oj cs b hoj) hQ hy h1
      refine wpOp_mono (fun a' w' h3 => ⟨h3.2.1, ih (listed.setIfInBounds j true) a' w' (inv.set hj hjn) ?_ (ready_mono hr (Ne.symm hji)) h3.1 (h3.2.1 (by omega)) ?_⟩) h2
      · intro k ok hk hki hu hno
        refine hfree k ok hk hki ?_ hno
        by_cases hjk : j = k
        · subst hjk
          exact hjun
        · rw [getD_set_ne true hjk] at hu
          exact hu
      · rw [Array.setIfInBounds_comm _ _ hji]
        exact h3.2.2
/-- The state of a walk through the region: who has come up, and what holds. -/
structure AtU (P : Program) (md : Region.Mode) (l : List Oper) (Q : Exit → Act → World → Prop) (S : World → Prop) (n f : Nat) (listed : Array Bool) (a : Act) (w : World) : Prop where
  go : HeadInv md l.toArray n listed → S w → wpAnyU P md l Q S n f listed a w
/-- What the region is, once. -/
def okU (md : Region.Mode) (l : List Oper) (n : Nat) : Bool := Region.noSelect l.toArray && Region.sinkB md l.toArray n && Region.chainB md l.toArray n && decide (n + 1 = l.length)
theorem AtU.take {i f : Nat} {oi : Oper} {v : Value} {listed : Array Bool} {a : Act} {w : World} (hi : l[i]? = some oi) (hok : okU md l n = true) (hf : (decide (i < n) && Region.free md l.toArray listed i && (Region.ready md l.toArray listed).contains i) = true)
    (hQ : ∀ c a w, Q (.panic c) (a.put oi.dst v) w → Q (.panic c) a w) (hw : Region.wanted oi (yielded l.toArray a.tmps) = true) (hy : ∀ w, S w → (execOp a.eval oi).run P w = .ok (.value v) w)
    (h : AtU P md l Q S n f (listed.setIfInBounds i true) (a.put oi.dst v) w) : AtU P md l Q S n (f + 1) listed a w := by
  simp only [okU, Bool.and_eq_true, decide_eq_true_eq] at hok hf
  obtain ⟨⟨⟨h1, h2⟩, h3⟩, h4⟩ := hok
  obtain ⟨⟨h5, h6⟩, h7⟩ := hf
  have hr : i ∈ Region.ready md l.toArray listed := by simpa using h7
  exact ⟨fun inv hS => wpAnyU_first hi (Region.noSelect_spec h1) h2 h3 h4 h5 hQ f listed a w inv (Region.free_spec (by simpa using hi) h6) hr (.inl ⟨hw, hy⟩) hS (h.go (inv.set hr h5) hS)⟩
/-- One alone may come up. -/
theorem AtU.step {i f : Nat} {o : Oper} {listed : Array Bool} {a : Act} {w : World} (hi : l[i]? = some o) (hr : (decide (Region.ready md l.toArray listed = [i]) && decide (i < n)) = true)
    (h : ∀ K' : Act → World → Prop, Shut (∀ a' w', S w' → AtU P md l Q S n f (listed.setIfInBounds i true) a' w' → K' a' w') → if Region.wanted o (yielded l.toArray a.tmps) = true then Oper.wp P o a w K' Q else K' (a.put o.dst undef) w) : AtU P md l Q S n (f + 1) listed a w := by
  simp only [Bool.and_eq_true, decide_eq_true_eq] at hr
  refine ⟨fun inv hS => ⟨fun h0 => (by rw [hr.1] at h0; cases h0), fun j hj => ?_⟩⟩
  have hjr := hj
  rw [hr.1] at hj
  have : j = i := by simpa using hj
  subst this
  exact wpOp_step (o := o) (by simpa using hi) (fun K' hK => h K' (fun a' w' hS' hA => hK a' w' ⟨fun _ => hS', hA.go (inv.set hjr hr.2) hS'⟩))
/-- The last one. -/
theorem AtU.last {i : Nat} {o : Oper} {listed : Array Bool} {a : Act} {w : World} (hi : l[i]? = some o) (hr : (decide (Region.ready md l.toArray listed = [i]) && (Region.ready md l.toArray (listed.setIfInBounds i true)).isEmpty && decide (i = n)) = true)
    (h : ∀ K' : Act → World → Prop, Shut (∀ a' w', Q .normal a' w' → K' a' w') → if Region.wanted o (yielded l.toArray a.tmps) = true then Oper.wp P o a w K' Q else K' (a.put o.dst undef) w) : AtU P md l Q S n 1 listed a w := by
  simp only [Bool.and_eq_true, decide_eq_true_eq, List.isEmpty_iff] at hr
  refine ⟨fun inv hS => ⟨fun h0 => (by rw [hr.1.1] at h0; cases h0), fun j hj => ?_⟩⟩
  rw [hr.1.1] at hj
  have : j = i := by simpa using hj
  subst this
  exact wpOp_step (o := o) (by simpa using hi) (fun K' hK => h K' (fun a' w' hq => hK a' w' ⟨fun hne => absurd hr.2 hne, hr.1.2, hq⟩))
/-- The beginning. -/
theorem wp_region_U {id : Nat} {a : Act} {w : World} (n : Nat) (S : World → Prop) (hm : P.follows .mixedOrders = true) (hS : S w.drew) (h : AtU P .any l Q S n l.length (Array.replicate l.length false) a w.drew) : (Code.region id l.toArray true).wp P Q a w := by
  refine wp_region_any hm (wpAny_of_U (n := n) (S := S) _ _ _ _ ?_)
  have := h.go ⟨by simp, fun j oj _ hl => (by rw [getD_replicate_false] at hl; cases hl), fun t _ ht => getD_in (by simpa using ht) (getD_replicate_false _ _)⟩ hS
  simpa using this
end
end Go.Proofs.Ytpnkhgjjlionnaa
namespace Go.Proofs.Ytpnkhgjjlionnaa
open Go.RowKit Go.Maps

/-! What is there, in order, once. -/
def setL (l : List Int) : List Int := Lib.compact (sortL l)
theorem sortL_mem (l : List Int) (x : Int) : x ∈ sortL l ↔ x ∈ l := by
  unfold sortL
  exact (List.mergeSort_perm l _).mem_iff
theorem sortL_sorted (l : List Int) : (sortL l).Pairwise (· ≤ ·) := by
  have h := List.pairwise_mergeSort (le := fun x y : Int => decide (x ≤ y)) (fun a b c h1 h2 => by simp at h1 h2 ⊢; omega) (fun a b => by simp; omega) l
  exact h.imp (fun h => by simpa using h)
theorem compact_mem (l : List Int) (x : Int) : x ∈ Lib.compact l ↔ x ∈ l := by
  unfold Lib.compact Lib.compactUpTo
  rw [List.mem_map]
  constructor
  · rintro ⟨j, hj, rfl⟩
    have hl := List.mem_range.1 (List.mem_filter.1 hj).1
    rw [List.getElem!_toArray, getElem!_pos l j hl]
    exact List.getElem_mem hl
  · intro hx
    -- the first place where it stands
    have key : ∀ j (hj : j < l.length), l[j] = x → ∃ i, i ∈ (List.range l.length).filter (Lib.keeps l.toArray) ∧ l.toArray[i]! = x := by
      intro j
      induction j with
      | zero =>
        intro hj e
        refine ⟨0, List.mem_filter.2 ⟨List.mem_range.2 hj, by simp [Lib.keeps]⟩, ?_⟩
        rw [List.getElem!_toArray, getElem!_pos l 0 hj, e]
      | succ j ih =>
        intro hj e
        by_cases h : l[j] = x
        · exact ih (by omega) h
        · refine ⟨j + 1, List.mem_filter.2 ⟨List.mem_range.2 hj, ?_⟩, ?_⟩
          · refine Lib.keeps_pos ?_
            rw [List.getElem!_toArray, List.getElem!_toArray, getElem!_pos l (j + 1) hj, show j + 1 - 1 = j from rfl, getElem!_pos l j (by omega), e]
            exact fun e2 => h e2.symm
          · rw [List.getElem!_toArray, getElem!_pos l (j + 1) hj, e]
    obtain ⟨j, hj, e⟩ := List.getElem_of_mem hx
    exact key j hj e
theorem compact_rise {l : List Int} (h : l.Pairwise (· ≤ ·)) : (Lib.compact l).Pairwise (· < ·) := by
  unfold Lib.compact Lib.compactUpTo
  rw [List.pairwise_map]
  have hr : ((List.range l.toArray.toList.length).filter (Lib.keeps l.toArray)).Pairwise (· < ·) := List.Pairwise.sublist List.filter_sublist List.pairwise_lt_range
  refine hr.imp_of_mem ?_
  intro a b ha hb hab
  have hla := List.mem_range.1 (List.mem_filter.1 ha).1
  obtain ⟨hb1, hb2⟩ := List.mem_filter.1 hb
  have hlb := List.mem_range.1 hb1
  simp only at hla hlb
  have hp := List.pairwise_iff_getElem.1 h
  have e1 : ∀ i (hi : i < l.length), l.toArray[i]! = l[i] := fun i hi => by rw [List.getElem!_toArray, getElem!_pos l i hi]
  rw [e1 a hla, e1 b hlb]
  unfold Lib.keeps at hb2
  have hb3 := of_decide_eq_true hb2
  rcases hb3 with hb3 | hb3
  · omega
  · rw [e1 b hlb, e1 (b - 1) (by omega)] at hb3
    have h1 : l[a] ≤ l[b - 1] := by
      by_cases e : a = b - 1
      · simp [e]
      · exact hp a (b - 1) hla (by omega) (by omega)
    have h2 := hp (b - 1) b (by omega) hlb (by omega)
    omega
theorem setL_mem (l : List Int) (x : Int) : x ∈ setL l ↔ x ∈ l := by unfold setL; rw [compact_mem, sortL_mem]
theorem setL_rise (l : List Int) : (setL l).Pairwise (· < ·) := compact_rise (sortL_sorted l)
theorem setL_len (l : List Int) : (setL l).length ≤ l.length := by
  unfold setL
  exact Nat.le_trans (Lib.compact_length_le _) (Nat.le_of_eq (sortL_length l))
theorem rise_one : ∀ {a b : List Int}, a.Pairwise (· < ·) → b.Pairwise (· < ·) → (∀ x, x ∈ a ↔ x ∈ b) → a = b
  | [], [], _, _, _ => rfl
  | [], y :: b, _, _, h => by have := (h y).2 (List.mem_cons_self ..); cases this
  | x :: a, [], _, _, h => by have := (h x).1 (List.mem_cons_self ..); cases this
  | x :: a, y :: b, ha, hb, h => by
    obtain ⟨a1, a2⟩ := List.pairwise_cons.1 ha
    obtain ⟨b1, b2⟩ := List.pairwise_cons.1 hb
    have hxy : x = y := by
      have h1 := (h x).1 (List.mem_cons_self ..)
      have h2 := (h y).2 (List.mem_cons_self ..)
      rcases List.mem_cons.1 h1 with e | h1
      · exact e
      · rcases List.mem_cons.1 h2 with e | h2
        · exact e.symm
        · have := a1 y h2
          have := b1 x h1
          omega
    subst hxy
    rw [rise_one a2 b2 (fun z => ?_)]
    have hz := h z
    rw [List.mem_cons, List.mem_cons] at hz
    constructor
    · intro hm
      rcases hz.1 (.inr hm) with e | h3
      · have := a1 z hm
        omega
      · exact h3
    · intro hm
      rcases hz.2 (.inr hm) with e | h3
      · have := b1 z hm
        omega
      · exact h3
/-! Rows. -/
theorem own_lowerT {w : World} {base base2 : Nat} {e : TypeId} {size n : Nat} {v : Value} {xs : List Value} (h : w.ownsRow base e size v n xs) (hb : base2 ≤ base) : w.ownsRow base2 e size v n xs := by
  rcases h.2 with ⟨e1, e2⟩ | ⟨g, c, cur, e1, k0, k⟩
  · exact ⟨h.1, .inl ⟨e1, e2⟩⟩
  · exact ⟨h.1, .inr ⟨g, c, cur, e1, Nat.le_trans hb k0, k⟩⟩
theorem own_cut {w : World} {base g cap n k : Nat} {e : TypeId} {xs : List Value} (h : w.ownsRow base e 1 (.slice (some ⟨g, 0, none⟩) n cap) n xs) (hk : k ≤ n) : w.ownsRow base e 1 (.slice (some ⟨g, 0, none⟩) k cap) k (xs.take k) := by
  have hl := h.1
  rcases h.2 with ⟨e1, _⟩ | ⟨g', c, cur, e1, k0, k1, k2, k3, k4, k5⟩
  · cases e1
  · cases e1
    refine ⟨by rw [List.length_take]; omega, .inr ⟨g, cap, cur, rfl, k0, k1, by omega, k3, k4, ?_⟩⟩
    rw [← k5, List.take_take]
    congr 1
    omega
theorem sortRow_any (w : World) (base g cap : Nat) (zs : List Int) (h : w.ownsRow base 3 1 (.slice (some ⟨g, 0, none⟩) zs.length cap) zs.length (intsV zs)) (hz : zs.length ≤ 1000000) :
    Calls Try.prog 56 #[.slice (some ⟨g, 0, none⟩) zs.length cap] w fun e w' => e = .returned (.tuple #[]) ∧ w'.ownsRow base 3 1 (.slice (some ⟨g, 0, none⟩) zs.length cap) zs.length (intsV (sortL zs)) ∧ w.grownBy w' (some g) := by
  rcases h.2 with ⟨e1, _⟩ | ⟨g', c, cur, e1, k0, k1, k2, k3, k4, k5⟩
  · cases e1
  · cases e1
    have hlt : g < w.heap.size := Blk.lt k1
    have hH : Go.Sort.Holds (Value.int .i64) w g 0 zs.toArray := holds_of_blockI k1 (by rw [Nat.mul_one] at k5; exact k5)
    refine (Try.slices_Sort_int g 0 cap zs w hH hlt (by omega)).mono ?_
    rintro e w' ⟨rfl, n, os, rfl⟩
    exact ⟨rfl, ownsRow_sortedI (ss := zs) (ts := sortL zs) (sortL_length zs) k0 k1 k2 k3 (by rw [k4]), grownBy_sortedI _⟩
theorem compactRow_any (w : World) (base g cap : Nat) (zs : List Int) (h : w.ownsRow base 3 1 (.slice (some ⟨g, 0, none⟩) zs.length cap) zs.length (intsV zs)) (hz : zs.length ≤ 1000000) :
    Calls Try.prog 58 #[.slice (some ⟨g, 0, none⟩) zs.length cap] w fun e w' => e = .returned (.slice (some ⟨g, 0, none⟩) (Lib.compact zs).length cap) ∧ w'.ownsRow base 3 1 (.slice (some ⟨g, 0, none⟩) (Lib.compact zs).length cap) (Lib.compact zs).length (intsV (Lib.compact zs)) ∧ w.grownBy w' (some g) := by
  rcases h.2 with ⟨e1, _⟩ | ⟨g', c, cur, e1, k0, k1, k2, k3, k4, k5⟩
  · cases e1
  · cases e1
    have hH : Go.Sort.Holds (Value.int .i64) w g 0 zs.toArray := holds_of_blockI k1 (by rw [Nat.mul_one] at k5; exact k5)
    refine (Try.slices_Compact_int g 0 cap zs w hH (by omega) k2).mono ?_
    rintro e w' ⟨rfl, q, rfl⟩
    have hcl := Lib.compact_length_le zs
    have e0 : Go.Sort.putRow (Value.int .i64) (Go.Sort.ahead w q) g 0 (Lib.compact zs ++ List.replicate (zs.length - (Lib.compact zs).length) 0).toArray = Go.Sort.grow (Go.Sort.putRow (Value.int .i64) (Go.Sort.ahead w q) g 0 (Lib.compact zs ++ List.replicate (zs.length - (Lib.compact zs).length) 0).toArray) #[] := (Go.Sort.grow_empty _).symm
    rw [e0]
    have h1 := ownsRow_sortedI (n := q) (os := #[]) (ss := zs) (ts := Lib.compact zs ++ List.replicate (zs.length - (Lib.compact zs).length) 0) (by simp; omega) k0 k1 k2 k3 (by rw [k4])
    have h2 := own_cut h1 hcl
    refine ⟨rfl, ?_, grownBy_sortedI _⟩
    have e2 : ((Lib.compact zs ++ List.replicate (zs.length - (Lib.compact zs).length) 0).map (Value.int .i64)).take (Lib.compact zs).length = intsV (Lib.compact zs) := by
      unfold intsV
      rw [← List.map_take, List.take_left]
    rw [e2] at h2
    exact h2
set_option maxRecDepth 100000 in
set_option maxHeartbeats 1000000 in
theorem cloneI_any (v : Value) (T : List Int) (w : World) (h : IntsRd w v T) (hl : T.length ≤ 1000000) : Calls Try.prog 57 #[v] w fun e w' => ∃ v', e = .returned v' ∧ w'.ownsRow w.heap.size 3 1 v' T.length (intsV T) ∧ Below w.heap.size w w' := by
  obtain ⟨i1, hi', hy0, hy1, hy2⟩ := info_parts infoInt
  have h0 := h
  obtain ⟨a, c, rfl, hc1, hr⟩ := h
  cases a with
  | none =>
    have hT : T = [] := by
      cases T with
      | nil => rfl
      | cons t r =>
        obtain ⟨b, o, e, _⟩ := hr 0 t rfl
        cases e
    subst hT
    have q := fun (W : World) => Lib.run_eql_slice_nil (P := Try.prog) W 35 3 none 0 c 0 0 Try.underlying35
    clear h0 hr
    go_enter Try.func57, Try.ntmps57
    go_wp2
    go_ret
    exact ⟨_, rfl, World.ownsRow_nil _ _ _ _, Below.refl _ _⟩
  | some ad =>
    have hcell : ∀ j u, (intsV T)[j]? = some u → (w.alloc (.cells #[] 3)).cell? (ad.add j) = some u := by
      intro j u hu
      have hj : j < T.length := by
        have := (List.getElem?_eq_some_iff.1 hu).1
        simpa [intsV] using this
      obtain ⟨b, o, c', e, hb, hh⟩ := (h0.below ((Below.refl _ _).alloc (Nat.le_refl _) (.cells #[] 3))).news (by intro e; rw [e] at hj; simp at hj)
      cases e
      exact hh j u hu
    have HC := Lib.hid hcell
    have hrow := World.ownsRow_lit w (base := w.heap.size) (e := 3) (size := 1) #[] 0 (Nat.le_refl _) (by decide) rfl
    have HL := Lib.hid (show (intsV T).length = T.length * 1 from by simp [intsV])
    obtain ⟨n, hn⟩ : ∃ n, T.length = n := ⟨_, rfl⟩
    rw [hn] at hl hc1 HL ⊢
    have hb : Below w.heap.size w (w.alloc (.cells #[] 3)) := (Below.refl _ _).alloc (Nat.le_refl _) _
    have c3 : 0 + n ≤ maxLen := by unfold maxLen; omega
    have c4 : (0 + n) * 8 ≤ 140737488355328 := by omega
    have q := fun (W : World) => Lib.run_eql_slice_nil (P := Try.prog) W 35 3 (some ad) n c 0 0 Try.underlying35
    clear h0 hr hcell hn
    go_enter Try.func57, Try.ntmps57
    go_wp2_with (at_builtin; refine wpList_append_own _ rfl (.tmp 5) (.tmp 6) 35 rfl w.heap.size 3 i1 _ 1 8 Try.underlying35 hi' hy0 hy1 hy2 rfl (by decide) _ 0 [] rfl hrow ad n c (intsV T) rfl HL.out HC.out (intsV_one T) c3 c4 (by rw [size_alloc']; omega) ?_; intro v' w' h1' h2' _; have HW := Lib.hid h1'; clear h1')
    go_ret
    exact ⟨_, rfl, by have := HW.out; simpa using this, hb.grown h2' hb.size (fun j e => by have := (hrow.lt j e).1; omega)⟩
set_option maxRecDepth 100000 in
set_option maxHeartbeats 2000000 in
theorem tabSoup_any (g : Nat) (N : Int) (T : List Tr) (w : World) (h : Tab w g N T) : Calls Try.prog 54 #[.pointer (some ⟨g, 0, none⟩)] w fun e w' => ∃ v', e = .returned (.agg #[.int .i64 N, v']) ∧ w'.ownsRow w.heap.size 61 3 v' T.length (ws3 T) ∧ Below w.heap.size w w' := by
  obtain ⟨vT, m, vF, hb, hr, -, -⟩ := h.tx
  have hl := h.len
  have b2 := Blk.new w 24 #[.int .i64 0, .slice none 0 0]
  have hB0 : Below w.heap.size w (w.alloc (.cells #[.int .i64 0, .slice none 0 0] 24)) := (Below.refl _ _).alloc (Nat.le_refl _) _
  have hb1 := hb.alloc (.cells #[.int .i64 0, .slice none 0 0] 24)
  have HCl := Lib.hid (cloneT_any vT T (w.alloc (.cells #[.int .i64 0, .slice none 0 0] 24)).drew (hr.alloc _) (by omega))
  obtain ⟨aT, cT, rfl, -⟩ := hr
  obtain ⟨F, hF⟩ : ∃ F, T.length = F := ⟨_, rfl⟩
  rw [hF] at HCl hb1 ⊢
  have HB2 := Lib.hid b2
  have HB0 := Lib.hid hB0
  have lg := hb1.lt
  have x0 : _ = some _ := hb1.cell 0
  have x1 : _ = some _ := hb1.cell 1
  have l2 := b2.lt
  clear hb hb1 b2 hB0 hF hl h
  go_enter Try.func54, Try.ntmps54
  go_upto_region 3 with fail
  generalize hw1 : w.alloc (.cells #[.int .i64 0, .slice none 0 0] 24) = w1 at *
  refine wp_region_U 12 (fun w' => w'.cell? ⟨g, 0, none⟩ = some (.int .i64 N) ∧ w'.cell? ⟨g, 1, none⟩ = some (.slice aT F cT)) (by kernel_rfl) ⟨x0, x1⟩ ?_
  change AtU _ _ _ _ _ _ 13 (Array.replicate 13 false) _ _
  refine AtU.take (i := 0) (v := ?_) rfl (by kernel_rfl) (by kernel_rfl) (fun _ _ _ h => h) (by rfl) ?_ ?_
  rotate_left 1
  · intro w9 hSw; (try dsimp only at hSw); go_simp; try with_reducible rfl
  try simp only [Act.put, List.setIfInBounds_toArray, List.set_cons_zero, List.set_cons_succ]
  refine AtU.take (i := 1) (v := ?_) rfl (by kernel_rfl) (by kernel_rfl) (fun _ _ _ h => h) (by rfl) ?_ ?_
  rotate_left 1
  · intro w9 hSw; (try dsimp only at hSw); go_simp; try with_reducible rfl
  try simp only [Act.put, List.setIfInBounds_toArray, List.set_cons_zero, List.set_cons_succ]
  refine AtU.take (i := 2) (v := ?_) rfl (by kernel_rfl) (by kernel_rfl) (fun _ _ _ h => h) (by rfl) ?_ ?_
  rotate_left 1
  · intro w9 hSw; (try dsimp only at hSw); go_simp; try with_reducible rfl
  try simp only [Act.put, List.setIfInBounds_toArray, List.set_cons_zero, List.set_cons_succ]
  refine AtU.take (i := 3) (v := ?_) rfl (by kernel_rfl) (by kernel_rfl) (fun _ _ _ h => h) (by rfl) ?_ ?_
  rotate_left 1
  · intro w9 hSw; (try dsimp only at hSw); go_simp; try with_reducible rfl
  try simp only [Act.put, List.setIfInBounds_toArray, List.set_cons_zero, List.set_cons_succ]
  refine AtU.take (i := 4) (v := ?_) rfl (by kernel_rfl) (by kernel_rfl) (fun _ _ _ h => h) (by rfl) ?_ ?_
  rotate_left 1
  · intro w9 hSw; (try dsimp only at hSw); go_simp; try with_reducible rfl
  try simp only [Act.put, List.setIfInBounds_toArray, List.set_cons_zero, List.set_cons_succ]
  refine AtU.take (i := 5) (v := ?_) rfl (by kernel_rfl) (by kernel_rfl) (fun _ _ _ h => h) (by rfl) ?_ ?_
  rotate_left 1
  · intro w9 hSw; (try dsimp only at hSw); go_simp; try with_reducible rfl
  try simp only [Act.put, List.setIfInBounds_toArray, List.set_cons_zero, List.set_cons_succ]
  refine AtU.take (i := 6) (v := ?_) rfl (by kernel_rfl) (by kernel_rfl) (fun _ _ _ h => h) (by rfl) ?_ ?_
  rotate_left 1
  · intro w9 hSw; (try dsimp only at hSw); go_simp; try with_reducible rfl
  try simp only [Act.put, List.setIfInBounds_toArray, List.set_cons_zero, List.set_cons_succ]
  refine AtU.take (i := 7) (v := ?_) rfl (by kernel_rfl) (by kernel_rfl) (fun _ _ _ h => h) (by rfl) ?_ ?_
  rotate_left 1
  · intro w9 hSw; (try dsimp only at hSw); go_simp; try with_reducible rfl
  try simp only [Act.put, List.setIfInBounds_toArray, List.set_cons_zero, List.set_cons_succ]
  refine AtU.take (i := 8) (v := ?_) rfl (by kernel_rfl) (by kernel_rfl) (fun _ _ _ h => h) (by rfl) ?_ ?_
  rotate_left 1
  · intro w9 hSw; (try dsimp only at hSw); go_simp; try with_reducible rfl
  try simp only [Act.put, List.setIfInBounds_toArray, List.set_cons_zero, List.set_cons_succ]
  refine AtU.take (i := 9) (v := ?_) rfl (by kernel_rfl) (by kernel_rfl) (fun _ _ _ h => h) (by rfl) ?_ ?_
  rotate_left 1
  · intro w9 hSw; (try dsimp only at hSw); go_simp; try with_reducible rfl
  try simp only [Act.put, List.setIfInBounds_toArray, List.set_cons_zero, List.set_cons_succ]
  refine AtU.step (i := 10) rfl (by kernel_rfl) (fun K hK => ?_)
  go_wp2_with (go_at_call 42; refine HCl.out.mono ?_; rintro e9 w10 ⟨vR, rfl, hrR, hw10⟩; obtain ⟨aR, cR, rfl⟩ := ownsRow_slice hrR)
  have x0_ := (hw10.cell (p := ⟨g, 0, none⟩) lg).trans x0
  have x1_ := (hw10.cell (p := ⟨g, 1, none⟩) lg).trans x1
  refine hK.out _ _ ⟨x0_, x1_⟩ ?_
  clear hK K
  try simp only [Act.put, List.setIfInBounds_toArray, List.set_cons_zero, List.set_cons_succ]
  refine AtU.take (i := 11) (v := ?_) rfl (by kernel_rfl) (by kernel_rfl) (fun _ _ _ h => h) (by rfl) ?_ ?_
  rotate_left 1
  · intro w9 hSw; (try dsimp only at hSw); go_simp; try with_reducible rfl
  try simp only [Act.put, List.setIfInBounds_toArray, List.set_cons_zero, List.set_cons_succ]
  have hb10 := HB2.out.drew.below hw10 HB2.out.lt
  obtain ⟨l4, y0, f0, y1, f1⟩ := hb10.two
  have hK := (hb10.set_ 0 (.int .i64 N)).set_ 1 (.slice aR F cR)
  have HK := Lib.hid (show Blk _ w.heap.size 24 #[.int .i64 N, .slice aR F cR] from by simpa using hK)
  have HO := Lib.hid (own_alloc_st (i := 1) (u := .slice aR F cR) (own_alloc_st (i := 0) (u := .int .i64 N) hrR hb10 (by decide)) (hb10.set_ 0 (.int .i64 N)) (by decide))
  have HBe := Lib.hid ((((below_d HB0.out).trans (hw10.mono (below_d HB0.out).size)).setCell (p := ⟨w.heap.size, 0, none⟩) (Nat.le_refl _) (.int .i64 N)).setCell (p := ⟨w.heap.size, 1, none⟩) (Nat.le_refl _) (.slice aR F cR))
  have hz1 := HB0.out.size
  refine AtU.last (i := 12) rfl (by kernel_rfl) (fun K hK => ?_)
  go_simp
  refine hK.out _ _ ?_
  clear hK K
  clear hK hb10 x0_ x1_ y0 y1 f0 f1 l4 hrR hw10
  go_wp2
  obtain ⟨-, p0, -, p1, -⟩ := HK.out.two
  refine bodyPost_ret (v := .agg #[.int .i64 N, .slice aR F cR]) (by simp [results, Try.results54, go_sem, p0, p1]) rfl ?_
  exact ⟨_, rfl, own_lowerT HO.out hz1, HBe.out⟩
end Go.Proofs.Ytpnkhgjjlionnaa
namespace Go.Proofs.Ytpnkhgjjlionnaa
open Go.RowKit Go.Maps

def Apart (p q : Value × List Int) : Prop := p.1.ownBlock = none ∨ p.1.ownBlock ≠ q.1.ownBlock
theorem Apart.symm {p q : Value × List Int} (h : Apart p q) : Apart q p := by
  rcases h with h | h
  · by_cases e : q.1.ownBlock = none
    · exact .inl e
    · exact .inr (by rw [h]; exact e)
  · exact .inr (Ne.symm h)
structure RwL (W : World) (base : Nat) (l : List (Value × List Int)) : Prop where
  own : ∀ p ∈ l, W.ownsRow base 3 1 p.1 p.2.length (intsV p.2)
  ne : l.Pairwise Apart
section
variable {W W' : World} {base : Nat} {l l1 l2 : List (Value × List Int)} {v v' : Value} {xs xs' : List Int}
theorem RwL.get (h : RwL W base (l1 ++ (v, xs) :: l2)) : W.ownsRow base 3 1 v xs.length (intsV xs) := h.own (v, xs) (by simp)
theorem RwL.below (h : RwL W base l) (hb : Below W.heap.size W W') : RwL W' base l :=
  ⟨fun p hp => own_below (h.own p hp) hb, h.ne⟩
theorem RwL.far (h : RwL W base l) {q j : Nat} {t : TypeId} {cs : Array Value} {u : Value} (hq : Blk W q t cs) (ht : 3 ≠ t) : RwL (W.setCell ⟨q, j, none⟩ u) base l :=
  ⟨fun p hp => own_alloc_st (h.own p hp) hq ht, h.ne⟩
theorem RwL.mid (h : RwL W base (l1 ++ (v, xs) :: l2)) : (∀ p ∈ l1, Apart p (v, xs)) ∧ (∀ p ∈ l2, Apart (v, xs) p) ∧ (l1 ++ l2).Pairwise Apart := by
  have h1 := List.pairwise_append.1 h.ne
  have h2 := List.pairwise_cons.1 h1.2.1
  exact ⟨fun p hp => h1.2.2 p hp _ (List.mem_cons_self ..), h2.1, List.pairwise_append.2 ⟨h1.1, h2.2, fun a ha b hb => h1.2.2 a ha b (List.mem_cons_of_mem _ hb)⟩⟩
theorem RwL.put (h : RwL W base (l1 ++ (v, xs) :: l2)) (hk : ∀ p ∈ l1 ++ l2, W'.ownsRow base 3 1 p.1 p.2.length (intsV p.2)) (hr : W'.ownsRow base 3 1 v' xs'.length (intsV xs')) (hat : v'.ownBlock = v.ownBlock ∨ ∃ q, v'.ownBlock = some q ∧ W.heap.size ≤ q) : RwL W' base (l1 ++ (v', xs') :: l2) := by
  obtain ⟨m1, m2, m3⟩ := h.mid
  have ap : ∀ p ∈ l1 ++ l2, Apart (v', xs') p := fun p hp => by
    have ho : Apart (v, xs) p := by
      rcases List.mem_append.1 hp with hp | hp
      · exact (m1 p hp).symm
      · exact m2 p hp
    rcases hat with e | ⟨q, e, hq⟩
    · unfold Apart at ho ⊢
      simp only at ho ⊢
      rw [e]
      exact ho
    · refine .inr (fun e2 => ?_)
      have e3 : p.1.ownBlock = some q := by rw [← e2]; exact e
      have hp2 : p ∈ l1 ++ (v, xs) :: l2 := by
        rcases List.mem_append.1 hp with hp | hp
        · exact List.mem_append_left _ hp
        · exact List.mem_append_right _ (List.mem_cons_of_mem _ hp)
      have := ((h.own p hp2).lt q e3).2
      omega
  have m4 := List.pairwise_append.1 m3
  refine ⟨fun p hp => ?_, List.pairwise_append.2 ⟨m4.1, List.pairwise_cons.2 ⟨fun p hp => ap p (List.mem_append_right _ hp), m4.2.1⟩, fun a ha b hb => ?_⟩⟩
  · rcases List.mem_append.1 hp with hp | hp
    · exact hk p (List.mem_append_left _ hp)
    · rcases List.mem_cons.1 hp with rfl | hp
      · exact hr
      · exact hk p (List.mem_append_right _ hp)
  · rcases List.mem_cons.1 hb with rfl | hb
    · exact (ap a (List.mem_append_left _ ha)).symm
    · exact m4.2.2 a ha b hb
theorem RwL.mem12 (h : RwL W base (l1 ++ (v, xs) :: l2)) : ∀ p ∈ l1 ++ l2, W.ownsRow base 3 1 p.1 p.2.length (intsV p.2) ∧ (p.1.ownBlock = none ∨ p.1.ownBlock ≠ v.ownBlock) := fun p hp => by
  obtain ⟨m1, m2, m3⟩ := h.mid
  rcases List.mem_append.1 hp with hp | hp
  · exact ⟨h.own p (List.mem_append_left _ hp), m1 p hp⟩
  · exact ⟨h.own p (List.mem_append_right _ (List.mem_cons_of_mem _ hp)), (m2 p hp).symm⟩
/-- One row grows. -/
theorem RwL.app (h : RwL W base (l1 ++ (v, xs) :: l2)) (hg : W.grownBy W' v.ownBlock) (hr : W'.ownsRow base 3 1 v' xs'.length (intsV xs')) (hat : v'.ownBlock = v.ownBlock ∨ ∃ q, v'.ownBlock = some q ∧ W.heap.size ≤ q) : RwL W' base (l1 ++ (v', xs') :: l2) :=
  h.put (fun p hp => ((h.mem12 p hp).1).kept hg (h.mem12 p hp).2) hr hat
end
end Go.Proofs.Ytpnkhgjjlionnaa
namespace Go.Proofs.Ytpnkhgjjlionnaa
open Go.RowKit Go.Maps

/-- A part as it lies, and what is meant. -/
structure PtV where
  n : Int
  vS : Value
  vV : Value
  vI : Value
  S : List Tr
  V : List Int
  I : List Int
instance : Inhabited PtV := ⟨⟨0, .slice none 0 0, .slice none 0 0, .slice none 0 0, [], [], []⟩⟩
def PtV.enc (p : PtV) : List Value := [.int .i64 p.n, p.vS, p.vV, p.vI]
theorem PtV.enc_len (p : PtV) : p.enc.length = 4 := rfl
theorem flat_set1 {α : Type} {f : α → List Value} {c : Nat} (hc : ∀ x, (f x).length = c) {xs : List α} {k j : Nat} {x p' : α} {u : Value} (hk : xs[k]? = some x) (hj : j < c) (he : f p' = (f x).set j u) : (xs.flatMap f).set (k * c + j) u = (xs.set k p').flatMap f := by
  obtain ⟨hkl, hx⟩ := List.getElem?_eq_some_iff.1 hk
  have e1 : xs = xs.take k ++ x :: xs.drop (k + 1) := by rw [← hx, List.getElem_cons_drop, List.take_append_drop]
  have e2 : xs.set k p' = xs.take k ++ p' :: xs.drop (k + 1) := by rw [List.set_eq_take_append_cons_drop, if_pos hkl]
  have hA : ((xs.take k).flatMap f).length = k * c := by rw [flatMap_len hc, List.length_take]; congr 1; omega
  rw [e2]
  conv => lhs; rw [e1]
  simp only [List.flatMap_append, List.flatMap_cons]
  rw [List.set_append_right _ _ (by omega), hA, show k * c + j - k * c = j from by omega, List.set_append_left _ _ (by rw [hc]; exact hj), he]
theorem flat_get1 {α : Type} {f : α → List Value} {c : Nat} (hc : ∀ x, (f x).length = c) {xs : List α} {k j : Nat} {x : α} (hk : xs[k]? = some x) (hj : j < c) : (xs.flatMap f)[k * c + j]? = (f x)[j]? := by
  obtain ⟨hkl, hx⟩ := List.getElem?_eq_some_iff.1 hk
  have e1 : xs = xs.take k ++ x :: xs.drop (k + 1) := by rw [← hx, List.getElem_cons_drop, List.take_append_drop]
  have hA : ((xs.take k).flatMap f).length = k * c := by rw [flatMap_len hc, List.length_take]; congr 1; omega
  conv => lhs; rw [e1]
  simp only [List.flatMap_append, List.flatMap_cons]
  rw [List.getElem?_append_right (by omega), hA, show k * c + j - k * c = j from by omega, List.getElem?_append_left (by rw [hc]; exact hj)]
/-- The parts in a block, and the cell that holds them. -/
structure PtSt (w W : World) (bx pb m : Nat) (l : List PtV) : Prop where
  k : Blk W bx 53 #[.slice (some ⟨pb, 0, none⟩) m m]
  b : Blk W pb 56 (l.flatMap PtV.enc).toArray
  len : l.length = m
  bel : Below w.heap.size w W
  hp : w.heap.size ≤ pb
  hx : w.heap.size ≤ bx
section
variable {w W W' : World} {bx pb m k : Nat} {l : List PtV} {p : PtV}
theorem PtSt.below (h : PtSt w W bx pb m l) (hb : Below W.heap.size W W') : PtSt w W' bx pb m l := ⟨h.k.below hb h.k.lt, h.b.below hb h.b.lt, h.len, h.bel.trans (hb.mono h.bel.size), h.hp, h.hx⟩
theorem PtSt.cell (h : PtSt w W bx pb m l) (hk : l[k]? = some p) {j : Nat} (hj : j < 4) : W.cell? ⟨pb, k * 4 + j, none⟩ = p.enc[j]? := by
  rw [h.b.cell, ← flat_get1 PtV.enc_len hk hj]
  simp
theorem PtSt.frozen (h : PtSt w W bx pb m l) (i : Nat) : W.frozen? ⟨pb, i, none⟩ = false := h.b.frozen i
theorem PtSt.grown (h : PtSt w W bx pb m l) {row : Option Nat} (hg : W.grownBy W' row) (h1 : row ≠ some bx) (h2 : row ≠ some pb) (h3 : ∀ j, row = some j → w.heap.size ≤ j) : PtSt w W' bx pb m l :=
  ⟨h.k.grown hg (Ne.symm h1), h.b.grown hg (Ne.symm h2), h.len, h.bel.grown hg h.bel.size h3, h.hp, h.hx⟩
theorem PtSt.set_ (h : PtSt w W bx pb m l) (hk : l[k]? = some p) {p' : PtV} {j : Nat} {u : Value} (hj : j < 4) (he : p'.enc = p.enc.set j u) : PtSt w (W.setCell ⟨pb, k * 4 + j, none⟩ u) bx pb m (l.set k p') := by
  refine ⟨h.k.far (Blk.ne_ h.k h.b (by decide)) _, ?_, by rw [List.length_set]; exact h.len, h.bel.setCell (p := ⟨pb, k * 4 + j, none⟩) h.hp _, h.hp, h.hx⟩
  have := h.b.set_ (k * 4 + j) u
  rw [← flat_set1 PtV.enc_len hk hj he]
  simpa using this
end
/-- The numbers of the parts' triangles, as they lie. -/
def iRows (l : List PtV) : List (Value × List Int) := l.map fun p => (p.vI, p.I)
/-- No part has more than its triangles yet. -/
def Fresh (p : PtV) : Prop := p.n = 0 ∧ p.vS = .slice none 0 0 ∧ p.vV = .slice none 0 0 ∧ p.S = [] ∧ p.V = []
def GatherPost (w W : World) (B bx pb m k : Nat) (l : List PtV) (p : PtV) (i : Int) (e : Ending) (W' : World) : Prop :=
  e = .returned (.tuple #[]) ∧ ∃ v, PtSt w W' bx pb m (l.set k { p with vI := v, I := p.I ++ [i] }) ∧ RwL W' B (iRows (l.set k { p with vI := v, I := p.I ++ [i] })) ∧ ∀ W0 : World, W0.heap.size ≤ B → W0.grownBy W (some pb) → W0.grownBy W' (some pb)
theorem rows_split {l : List PtV} {k : Nat} {p q : PtV} (hk : l[k]? = some p) : iRows l = iRows (l.take k) ++ (p.vI, p.I) :: iRows (l.drop (k + 1)) ∧ iRows (l.set k q) = iRows (l.take k) ++ (q.vI, q.I) :: iRows (l.drop (k + 1)) := by
  obtain ⟨hkl, hx⟩ := List.getElem?_eq_some_iff.1 hk
  have e1 : l = l.take k ++ p :: l.drop (k + 1) := by rw [← hx, List.getElem_cons_drop, List.take_append_drop]
  constructor
  · conv => lhs; rw [e1]
    simp [iRows]
  · rw [List.set_eq_take_append_cons_drop, if_pos hkl]
    simp [iRows]
set_option maxRecDepth 100000 in
set_option maxHeartbeats 4000000 in
theorem gather_any {w W : World} {B bx pb m k : Nat} {l : List PtV} {p : PtV} (i : Int) (hB : w.heap.size ≤ B) (hBW : B ≤ W.heap.size) (h : PtSt w W bx pb m l) (hr : RwL W B (iRows l)) (hk : l[k]? = some p) (hn : p.I.length ≤ 100000) (_hm : m ≤ 100000) :
    Calls Try.prog 55 #[.int .i64 (k : Int), .int .i64 i, .pointer (some ⟨bx, 0, none⟩)] W (GatherPost w W B bx pb m k l p i) := by
  obtain ⟨i2, hj', hz0, hz1, hz2⟩ := info_parts infoInt
  obtain ⟨hkl, -⟩ := List.getElem?_eq_some_iff.1 hk
  have hkm : k < m := by rw [← h.len]; exact hkl
  have hki : (k : Int) < (m : Int) := by omega
  have hrow := hr
  rw [(rows_split (q := p) hk).1] at hrow
  have hI := hrow.get
  obtain ⟨aI, cI, eI⟩ := ownsRow_slice hI
  have x0 : W.cell? ⟨bx, 0, none⟩ = some _ := h.k.cell 0
  have l0 := h.k.lt
  have y0 : W.cell? ⟨pb, k * 4 + 3, none⟩ = some (.slice aI p.I.length cI) := by
    rw [← eI]
    exact h.cell hk (j := 3) (by decide)
  have HS := Lib.hid h
  have HR := Lib.hid hrow
  have HK := Lib.hid hk
  have hp63 : p.I.length + 1 ≤ maxLen := by unfold maxLen; omega
  obtain ⟨nI, hnI⟩ : ∃ n, p.I.length = n := ⟨_, rfl⟩
  have HN := Lib.hid hnI
  have HE := Lib.hid eI
  rw [hnI] at y0 hn hp63 eI
  rw [eI, hnI] at hI
  have HI := Lib.hid hI
  have bk := Blk.new W.drew 3 #[.int .i64 i]
  have hB2 := (below_d (Below.refl W.heap.size W)).alloc (Nat.le_refl _) (.cells #[.int .i64 i] 3)
  have HB2 := Lib.hid hB2
  clear hrow hr hk hnI eI h hI
  go_enter Try.func55, Try.ntmps55
  go_upto_region 0 with fail
  refine wp_region_U 12 (fun w' => w'.cell? ⟨bx, 0, none⟩ = some (.slice (some ⟨pb, 0, none⟩) m m) ∧ w'.cell? ⟨pb, k * 4 + 3, none⟩ = some (.slice aI nI cI)) (by kernel_rfl) ⟨x0, y0⟩ ?_
  change AtU _ _ _ _ _ _ 13 (Array.replicate 13 false) _ _
  refine AtU.take (i := 0) (v := ?_) rfl (by kernel_rfl) (by kernel_rfl) (fun _ _ _ h => h) (by rfl) ?_ ?_
  rotate_left 1
  · intro w9 hSw; (try dsimp only at hSw); go_simp; try with_reducible rfl
  try simp only [Act.put, List.setIfInBounds_toArray, List.set_cons_zero, List.set_cons_succ]
  refine AtU.take (i := 1) (v := ?_) rfl (by kernel_rfl) (by kernel_rfl) (fun _ _ _ h => h) (by rfl) ?_ ?_
  rotate_left 1
  · intro w9 hSw; (try dsimp only at hSw); go_simp; try with_reducible rfl
  try simp only [Act.put, List.setIfInBounds_toArray, List.set_cons_zero, List.set_cons_succ]
  refine AtU.take (i := 2) (v := ?_) rfl (by kernel_rfl) (by kernel_rfl) (fun _ _ _ h => h) (by rfl) ?_ ?_
  rotate_left 1
  · intro w9 hSw; (try dsimp only at hSw); go_simp; try with_reducible rfl
  try simp only [Act.put, List.setIfInBounds_toArray, List.set_cons_zero, List.set_cons_succ]
  refine AtU.take (i := 3) (v := ?_) rfl (by kernel_rfl) (by kernel_rfl) (fun _ _ _ h => h) (by rfl) ?_ ?_
  rotate_left 1
  · intro w9 hSw; (try dsimp only at hSw); go_simp; try with_reducible rfl
  try simp only [Act.put, List.setIfInBounds_toArray, List.set_cons_zero, List.set_cons_succ]
  refine AtU.take (i := 4) (v := ?_) rfl (by kernel_rfl) (by kernel_rfl) (fun _ _ _ h => h) (by rfl) ?_ ?_
  rotate_left 1
  · intro w9 hSw; (try dsimp only at hSw); go_simp; try with_reducible rfl
  try simp only [Act.put, List.setIfInBounds_toArray, List.set_cons_zero, List.set_cons_succ]
  refine AtU.take (i := 5) (v := ?_) rfl (by kernel_rfl) (by kernel_rfl) (fun _ _ _ h => h) (by rfl) ?_ ?_
  rotate_left 1
  · intro w9 hSw; (try dsimp only at hSw); go_simp; try with_reducible rfl
  try simp only [Act.put, List.setIfInBounds_toArray, List.set_cons_zero, List.set_cons_succ]
  refine AtU.take (i := 6) (v := ?_) rfl (by kernel_rfl) (by kernel_rfl) (fun _ _ _ h => h) (by rfl) ?_ ?_
  rotate_left 1
  · intro w9 hSw; (try dsimp only at hSw); go_simp; try with_reducible rfl
  try simp only [Act.put, List.setIfInBounds_toArray, List.set_cons_zero, List.set_cons_succ]
  refine AtU.take (i := 7) (v := ?_) rfl (by kernel_rfl) (by kernel_rfl) (fun _ _ _ h => h) (by rfl) ?_ ?_
  rotate_left 1
  · intro w9 hSw; (try dsimp only at hSw); go_simp; try with_reducible rfl
  try simp only [Act.put, List.setIfInBounds_toArray, List.set_cons_zero, List.set_cons_succ]
  refine AtU.step (i := 8) rfl (by kernel_rfl) (fun K hK => ?_)
  go_simp
  refine hK.out _ _ ⟨(hB2.cell (p := ⟨bx, 0, none⟩) HS.out.k.lt).trans x0, (hB2.cell (p := ⟨pb, k * 4 + 3, none⟩) HS.out.b.lt).trans y0⟩ ?_
  clear hK K
  try simp only [Act.put, List.setIfInBounds_toArray, List.set_cons_zero, List.set_cons_succ]
  refine AtU.step (i := 9) rfl (by kernel_rfl) (fun K hK => ?_)
  refine step_append_lies _ rfl (.tmp 11) (.tmp 13) 35 rfl B 3 i2 _ 1 8 Try.underlying35 hj' hz0 hz1 hz2 rfl (by decide) (.slice aI nI cI) nI (intsV p.I) (by rfl) (own_below HI.out hB2) ⟨W.heap.size, 0, none⟩ 1 1 [.int .i64 i] (by rfl) rfl (fun jj u hu => by rw [Addr.add_lit, show (0 : Nat) + jj = jj from by omega]; exact (bk.cell jj).trans (by simpa using hu)) (by simp [Value.oneCell']) (by decide) hp63 (by omega) (Nat.le_trans hBW hB2.size) _ rfl ?_
  intro g5 c5 W5 hr5 hg5 hat5 hlt5
  have hbl : ∀ j, (Value.slice aI nI cI).ownBlock = some j → w.heap.size ≤ j := fun j e => Nat.le_trans hB (HI.out.lt j e).1
  have hS5 := (HS.out.below hB2).grown hg5 (by have := own_blk_ne HI.out HS.out.k (by decide); exact this) (by have := own_blk_ne HI.out HS.out.b (by decide); exact this) hbl
  refine hK.out _ _ ⟨hS5.k.cell 0, by rw [hS5.cell HK.out (j := 3) (by decide)]; show some p.vI = _; rw [HE.out, HN.out]⟩ ?_
  clear hK K
  try simp only [Act.put, List.setIfInBounds_toArray, List.set_cons_zero, List.set_cons_succ]
  refine AtU.take (i := 10) (v := ?_) rfl (by kernel_rfl) (by kernel_rfl) (fun _ _ _ h => h) (by rfl) ?_ ?_
  rotate_left 1
  · intro w9 hSw; (try dsimp only at hSw); go_simp; try with_reducible rfl
  try simp only [Act.put, List.setIfInBounds_toArray, List.set_cons_zero, List.set_cons_succ]
  refine AtU.take (i := 11) (v := ?_) rfl (by kernel_rfl) (by kernel_rfl) (fun _ _ _ h => h) (by rfl) ?_ ?_
  rotate_left 1
  · intro w9 hSw; (try dsimp only at hSw); go_simp; try with_reducible rfl
  try simp only [Act.put, List.setIfInBounds_toArray, List.set_cons_zero, List.set_cons_succ]
  obtain ⟨lp, z0⟩ : ∃ u, W5.cell? ⟨pb, k * 4 + 3, none⟩ = some u := ⟨_, hS5.cell HK.out (j := 3) (by decide)⟩
  have zf := hS5.frozen (k * 4 + 3)
  refine AtU.last (i := 12) rfl (by kernel_rfl) (fun K hK => ?_)
  go_simp
  refine hK.out _ _ ?_
  clear hK K
  refine bodyPost_end (results_none rfl _ _ _) rfl ?_
  refine ⟨rfl, .slice (some ⟨g5, 0, none⟩) (nI + 1) c5, hS5.set_ HK.out (j := 3) (by decide) (by simp [PtV.enc]), ?_⟩
  rw [(rows_split HK.out).2]
  have hR5 := (HR.out.below hB2).app (v' := .slice (some ⟨g5, 0, none⟩) (nI + 1) c5) (xs' := p.I ++ [i]) (by rw [HE.out, HN.out]; exact hg5) (by rw [List.length_append, HN.out]; simpa [intsV] using hr5) (by
    rw [HE.out, HN.out]
    rcases hat5 with e | e
    · exact .inl e.symm
    · exact .inr ⟨g5, rfl, by rw [e]; exact Nat.le_refl _⟩)
  refine ⟨hR5.far hS5.b (by decide), fun W0 hW0 hg0 => ?_⟩
  have hq1 : W0.grownBy W5 (some pb) := ⟨hg5.os.trans (hB2.os.trans hg0.os), hg5.tape.trans (hB2.tape.trans hg0.tape), hg5.output.trans (hB2.output.trans hg0.output), Nat.le_trans hg0.size (Nat.le_trans hB2.size hg5.size), fun j hj hne => by
    exact (hg5.block j (Nat.lt_of_lt_of_le hj (Nat.le_trans hg0.size hB2.size)) (fun e => by have := (HI.out.lt j e.symm).1; omega)).trans ((hB2.block j (Nat.lt_of_lt_of_le hj hg0.size)).trans (hg0.block j hj hne))⟩
  exact ⟨hq1.os, hq1.tape, hq1.output, by simpa using hq1.size, fun j hj hne => by rw [Below.heap_setCell W5 ⟨pb, k * 4 + 3, none⟩ _ j (fun e => hne (by rw [e])), hq1.block j hj hne]⟩
end Go.Proofs.Ytpnkhgjjlionnaa
