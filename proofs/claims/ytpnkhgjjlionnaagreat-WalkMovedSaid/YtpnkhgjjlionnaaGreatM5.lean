/-
  Texts joined by program, what the law uses alone: IsoW Mvd HeldU SurA Ren ApR EachR Join Rnm Pick Insert Kept Way.
-/
import Derived.OrdersHeld
import Derived.StillTail
import Derived.Deep.RegionHeld3
import Derived.RegionTactic
import Derived.BigRegion
import Derived.BigQuiet
import Derived.Deep.QuietTactic
import Derived.Deep.DeepCutAuto
import Derived.Deep.AppendLies
import Derived.Deep.Upon
import Derived.Lib.Hide
import Derived.Shelf.Spec.SlicesInsert
import Derived.Shelf.Spec.SlicesInsertGrow
import Derived.Test.YtpnkhgjjlionnaaGreatM4
import Derived.Test.YtpnkhgjjlionnaaGreatM1
import Derived.Test.YtpnkhgjjlionnaaGreatM3
namespace Go.Proofs.YtpnkhgjjlionnaaGreat
open Go.RowKit

def WSt.ren (g : Int → Int) (s : WSt) : WSt := ⟨s.come.map g, s.loop.map g, s.wait.map (List.map g)⟩
def WStep.ren (φ : Nat → Nat) (x : WStep) : WStep := ⟨x.letter, ((φ x.corner.toNat : Nat) : Int), x.loops, x.length⟩
/-- Each vertex is a corner's. -/
structure StOk (T : List Tr) (s : WSt) : Prop where
  come : VOk T s.come
  loop : VOk T s.loop
  wait : ∀ l ∈ s.wait, VOk T l
section
variable {T T' : List Tr} {φ : Nat → Nat} {g : Int → Int}
theorem Iso.fac (h : Iso T T' φ g) (hE' : (T'.flatMap edges3).Nodup) {a b : Int} {c : Nat} (hf : facI T (a, b) = (c : Int)) : facI T' (g a, g b) = ((φ c : Nat) : Int) := by
  obtain ⟨hc, e⟩ := facI_some hf
  have h1 := facI_of hE' (o := φ c) (by rw [h.len]; exact h.lt c hc)
  rw [h.edge hc, e] at h1
  exact h1
theorem Iso.idxF (h : Iso T T' φ g) : ∀ {l : List Int} (_ : VOk T l) {c : Nat} (_ : c < 3 * T.length) (i : Nat), Lib.idxFrom (l.map g) (g (vertN T c)) i = Lib.idxFrom l (vertN T c) i
  | [], _, _, _, _ => rfl
  | a :: l, hv, c, hc, i => by
    obtain ⟨d, hd, e⟩ := hv a (List.mem_cons_self ..)
    have ih := Iso.idxF h (l := l) (fun u hu => hv u (List.mem_cons_of_mem _ hu)) hc (i + 1)
    simp only [List.map_cons, Lib.idxFrom]
    by_cases e2 : a = vertN T c
    · have e3 : g a = g (vertN T c) := by rw [e2]
      simp [e2]
    · have e3 : g a ≠ g (vertN T c) := fun e3 => e2 (by rw [e] at e3 ⊢; exact h.ginj _ _ hd hc e3)
      simp [e2, e3, ih]
theorem Iso.idx (h : Iso T T' φ g) {l : List Int} (hv : VOk T l) {c : Nat} (hc : c < 3 * T.length) : Lib.idxOf (l.map g) (g (vertN T c)) = Lib.idxOf l (vertN T c) := h.idxF hv hc 0
theorem Iso.mem (h : Iso T T' φ g) {l : List Int} (hv : VOk T l) {c : Nat} (hc : c < 3 * T.length) : g (vertN T c) ∈ l.map g ↔ vertN T c ∈ l := by
  constructor
  · intro hm
    obtain ⟨u, hu, e⟩ := List.mem_map.1 hm
    obtain ⟨d, hd, rfl⟩ := hv u hu
    rw [← h.ginj _ _ hd hc e]
    exact hu
  · exact fun hm => List.mem_map_of_mem hm
theorem VOk.sub {l m : List Int} (hv : VOk T m) (h : ∀ x ∈ l, x ∈ m) : VOk T l := fun u hu => hv u (h u hu)
theorem VOk.one {c : Nat} (hc : c < 3 * T.length) : VOk T [vertN T c] := fun _ hu => ⟨c, hc, List.mem_singleton.1 hu⟩
theorem VOk.append {l m : List Int} (h1 : VOk T l) (h2 : VOk T m) : VOk T (l ++ m) := fun u hu => (List.mem_append.1 hu).elim (h1 u) (h2 u)
theorem VOk.cons {l : List Int} {c : Nat} (hc : c < 3 * T.length) (h : VOk T l) : VOk T (vertN T c :: l) := (VOk.one hc).append h
/-- A step, in other numbers. -/
theorem Iso.stepM (h : Iso T T' φ g) (hE' : (T'.flatMap edges3).Nodup) {s s' : WSt} {x : WStep} (ok : StOk T s) (hs : stepM T s = some (x, s')) : stepM T' (s.ren g) = some (x.ren φ, s'.ren g) ∧ StOk T s' := by
  obtain ⟨come, loop, wait⟩ := s
  unfold Proofs.YtpnkhgjjlionnaaGreat.stepM at hs
  match loop, ok, hs with
  | [], _, hs => cases hs
  | [a], _, hs => cases hs
  | a :: b :: r, ok, hs =>
    simp only at hs
    by_cases hf : facI T (a, b) < 0
    · rw [if_pos hf] at hs
      cases hs
    rw [if_neg hf] at hs
    obtain ⟨c, hc⟩ : ∃ c : Nat, facI T (a, b) = (c : Int) := ⟨(facI T (a, b)).toNat, by omega⟩
    obtain ⟨hcl, -⟩ := facI_some hc
    have hc' := h.fac hE' hc
    have hv : vertI T (c : Int) = vertN T c := vertI_nat hcl
    have hv' : vertI T' ((φ c : Nat) : Int) = g (vertN T c) := by
      rw [vertI_nat (by rw [h.len]; exact h.lt c hcl), h.vert c hcl]
    rw [hc, hv] at hs
    have hm := h.mem ok.come hcl
    have hi := h.idx ok.loop hcl
    simp only [List.map_cons] at hi
    have hlen : (r.map g).length = r.length := by simp
    have hwl : (wait.map (List.map g)).length = wait.length := by simp
    have oka : VOk T [a] := ok.loop.sub (by simp)
    have okb : VOk T (b :: r) := ok.loop.sub (fun x hx => List.mem_cons_of_mem _ hx)
    have okr : VOk T r := ok.loop.sub (fun x hx => by simp [hx])
    unfold Proofs.YtpnkhgjjlionnaaGreat.stepM WSt.ren
    simp only [List.map_cons, hc', hv']
    rw [if_neg (by omega), hi, hlen, hwl]
    by_cases h1 : vertN T c ∈ come
    · rw [if_neg (by simpa using h1)] at hs
      rw [if_neg (by simpa [hm] using h1)]
      by_cases h2 : r.length = 1
      · rw [if_pos h2] at hs
        rw [if_pos h2]
        cases hs
        refine ⟨?_, ⟨ok.come, ?_, fun l hl => ok.wait l (List.dropLast_subset _ hl)⟩⟩
        · simp only [WStep.ren, Int.toNat_natCast, Option.some.injEq, Prod.mk.injEq, true_and, WSt.mk.injEq, List.map_dropLast]
          rw [List.getLast?_map]
          cases wait.getLast? <;> simp
        · cases hg : wait.getLast? with
          | none => intro u hu; cases hu
          | some l => exact ok.wait l (List.mem_of_getLast? hg)
      · rw [if_neg h2] at hs
        rw [if_neg h2]
        by_cases h3 : Lib.idxOf (a :: b :: r) (vertN T c) = r.length + 1
        · rw [if_pos h3] at hs
          rw [if_pos h3]
          cases hs
          refine ⟨?_, ⟨ok.come, VOk.cons hcl (okb.sub fun x hx => List.dropLast_subset _ hx), ok.wait⟩⟩
          simp [WStep.ren, List.map_dropLast]
        · rw [if_neg h3] at hs
          rw [if_neg h3]
          by_cases h4 : Lib.idxOf (a :: b :: r) (vertN T c) = 2
          · rw [if_pos h4] at hs
            rw [if_pos h4]
            cases hs
            refine ⟨?_, ⟨ok.come, oka.append okr, ok.wait⟩⟩
            simp [WStep.ren]
          · rw [if_neg h4] at hs
            rw [if_neg h4]
            by_cases h5 : 2 < Lib.idxOf (a :: b :: r) (vertN T c)
            · rw [if_pos h5] at hs
              rw [if_pos h5]
              cases hs
              refine ⟨?_, ⟨ok.come, oka.append (ok.loop.sub fun x hx => List.mem_of_mem_drop hx), fun l hl => ?_⟩⟩
              · simp [WStep.ren, List.map_drop, List.map_take]
              · rcases List.mem_append.1 hl with hl | hl
                · exact ok.wait l hl
                · rw [List.mem_singleton.1 hl]
                  exact VOk.cons hcl (okb.sub fun x hx => List.mem_of_mem_take hx)
            · rw [if_neg h5] at hs
              cases hs
    · rw [if_pos (by simpa using h1)] at hs
      rw [if_pos (by simpa [hm] using h1)]
      cases hs
      refine ⟨?_, ⟨ok.come.append (VOk.one hcl), oka.append (VOk.cons hcl okb), ok.wait⟩⟩
      simp [WStep.ren]
theorem Iso.begin_ (h : Iso T T' φ g) {c : Nat} (hc : c < 3 * T.length) : beginS T' (φ c) = (beginS T c).ren g ∧ StOk T (beginS T c) := by
  have h1 := h.vert c hc
  have h2 := h.vert _ (Jor.nx_lt hc)
  have h3 := h.vert _ (Jor.pv_lt hc)
  rw [h.nx c hc] at h2
  rw [h.pv hc] at h3
  refine ⟨?_, ⟨?_, ?_, fun l hl => by cases hl⟩⟩
  · simp [beginS, WSt.ren, h1, h2, h3]
  · exact VOk.cons hc (VOk.cons (Jor.nx_lt hc) (VOk.one (Jor.pv_lt hc)))
  · exact VOk.cons (Jor.nx_lt hc) (VOk.cons hc (VOk.one (Jor.pv_lt hc)))
theorem Iso.ran (h : Iso T T' φ g) (hE' : (T'.flatMap edges3).Nodup) {c : Nat} (hc : c < 3 * T.length) {L : List WStep} {s : WSt} (R : Ran T (beginS T c) L s) : Ran T' (beginS T' (φ c)) (L.map (WStep.ren φ)) (s.ren g) ∧ StOk T s := by
  obtain ⟨e, ok⟩ := h.begin_ hc
  rw [e]
  induction R with
  | nil => exact ⟨.nil, ok⟩
  | @snoc L s s' x _ h2 ih =>
    obtain ⟨h3, h4⟩ := h.stepM hE' ih.2 h2
    rw [List.map_append]
    exact ⟨.snoc ih.1 h3, h4⟩
/-- The walk from the other corner. -/
theorem Iso.steps (h : Iso T T' φ g) {N N' : Int} (hS : Simp N T) (hS' : Simp N' T') {c : Nat} (hc : c < 3 * T.length) : stepsM T' (φ c) = (stepsM T c).map (WStep.ren φ) := by
  obtain ⟨L, s, R, e⟩ := ends hS hc
  have h1 := R.steps hS hc e
  obtain ⟨R', -⟩ := h.ran hS'.surf.twice hc R
  have h2 := R'.steps hS' (by rw [h.len]; exact h.lt c hc) (by simp [WSt.ren, e])
  rw [← h2, h1]
end
end Go.Proofs.YtpnkhgjjlionnaaGreat
namespace Go.Proofs.YtpnkhgjjlionnaaGreat
open Go.RowKit

def renT (g : Int → Int) (t : Tr) : Tr := (g t.1, g t.2.1, g t.2.2)
/-- The number that a list gives. -/
def toF (tw : List Int) (x : Int) : Int := at_ tw x.toNat
/-- A triangle, from one of its corners on. -/
def turnAt (T : List Tr) (c : Nat) : Tr := (vertN T c, vertN T (Jor.nx c), vertN T (Jor.pv c))
def pickM (T : List Tr) (p : List Nat) : List Tr := p.map (turnAt T)
/-- A list of all numbers below n. -/
structure AllN (n : Nat) (tw : List Int) : Prop where
  len : tw.length = n
  nd : tw.Nodup
  rng : ∀ x ∈ tw, 0 ≤ x ∧ x < n
/-- A corner of each triangle. -/
structure AllC (F : Nat) (p : List Nat) : Prop where
  len : p.length = F
  nd : (p.map (· / 3)).Nodup
  rng : ∀ x ∈ p, x < 3 * F
theorem at_get {l : List Int} {j : Nat} (h : j < l.length) : at_ l j = l[j] := by simp [at_, List.getD, List.getElem?_eq_getElem h]
section
variable {n F : Nat} {tw : List Int} {p : List Nat} {T : List Tr}
theorem AllN.all (h : AllN n tw) {x : Int} (h0 : 0 ≤ x) (h1 : x < n) : x ∈ tw := by
  refine Classical.byContradiction fun hno => ?_
  have h2 : ((x :: tw).map Int.toNat).Nodup := nodup_map_on (List.nodup_cons.2 ⟨hno, h.nd⟩) (fun a ha b hb e => by
    have ha' : 0 ≤ a := by
      rcases List.mem_cons.1 ha with rfl | ha
      · exact h0
      · exact (h.rng a ha).1
    have hb' : 0 ≤ b := by
      rcases List.mem_cons.1 hb with rfl | hb
      · exact h0
      · exact (h.rng b hb).1
    omega)
  have h3 := Jor.nodup_le h2 (m := List.range n) (fun y hy => by
    obtain ⟨a, ha, rfl⟩ := List.mem_map.1 hy
    refine List.mem_range.2 ?_
    rcases List.mem_cons.1 ha with rfl | ha
    · omega
    · have := h.rng a ha
      omega)
  simp [h.len] at h3
  omega
theorem AllN.inj (h : AllN n tw) {x y : Int} (hx : 0 ≤ x ∧ x < n) (hy : 0 ≤ y ∧ y < n) (e : toF tw x = toF tw y) : x = y := by
  unfold toF at e
  have lx : x.toNat < tw.length := by rw [h.len]; omega
  have ly : y.toNat < tw.length := by rw [h.len]; omega
  rw [at_get lx, at_get ly] at e
  have hp := List.pairwise_iff_getElem.1 (List.nodup_iff_pairwise_ne.1 h.nd)
  rcases Nat.lt_trichotomy x.toNat y.toNat with h1 | h1 | h1
  · exact absurd e (hp _ _ lx ly h1)
  · omega
  · exact absurd e.symm (hp _ _ ly lx h1)
theorem AllN.in_ (h : AllN n tw) {x : Int} (hx : 0 ≤ x ∧ x < n) : 0 ≤ toF tw x ∧ toF tw x < n := by
  unfold toF
  have lx : x.toNat < tw.length := by rw [h.len]; omega
  rw [at_get lx]
  exact h.rng _ (List.getElem_mem lx)
theorem AllN.on (h : AllN n tw) {u : Int} (hu : 0 ≤ u ∧ u < n) : ∃ x : Int, (0 ≤ x ∧ x < n) ∧ toF tw x = u := by
  obtain ⟨j, hj, e⟩ := List.getElem_of_mem (h.all hu.1 hu.2)
  have := h.len
  refine ⟨(j : Int), by omega, ?_⟩
  unfold toF
  rw [Int.toNat_natCast, at_get hj, e]
/-- What undoes it. -/
theorem AllN.back (h : AllN n tw) : ∃ f : Int → Int, ∀ x : Int, 0 ≤ x → x < n → f (toF tw x) = x := by
  have key : ∀ v : Int, ∃ u : Int, ∀ x : Int, 0 ≤ x → x < n → toF tw x = v → u = x := fun v => by
    by_cases hv : ∃ x : Int, (0 ≤ x ∧ x < n) ∧ toF tw x = v
    · obtain ⟨x, hx, e⟩ := hv
      exact ⟨x, fun y h0 h1 e2 => h.inj hx ⟨h0, h1⟩ (e.trans e2.symm)⟩
    · exact ⟨0, fun x h0 h1 e => absurd ⟨x, ⟨h0, h1⟩, e⟩ hv⟩
  obtain ⟨f, hf⟩ := Classical.axiomOfChoice key
  exact ⟨f, fun x h0 h1 => hf _ x h0 h1 rfl⟩
theorem AllC.all (h : AllC F p) {i : Nat} (hi : i < F) : ∃ k, k < p.length ∧ ∃ c, p[k]? = some c ∧ c / 3 = i := by
  have h1 : ((p.map (· / 3))).Perm (List.range F) := by
    refine (List.perm_ext_iff_of_nodup h.nd List.nodup_range).2 fun x => ⟨fun hx => ?_, fun hx => ?_⟩
    · obtain ⟨c, hc, rfl⟩ := List.mem_map.1 hx
      have := h.rng c hc
      exact List.mem_range.2 (by omega)
    · refine Classical.byContradiction fun hno => ?_
      have h3 := Jor.nodup_le (List.nodup_cons.2 ⟨hno, h.nd⟩) (m := List.range F) (fun y hy => by
        rcases List.mem_cons.1 hy with rfl | hy
        · exact hx
        · obtain ⟨c, hc, rfl⟩ := List.mem_map.1 hy
          have := h.rng c hc
          exact List.mem_range.2 (by omega))
      simp [h.len] at h3
      omega
  obtain ⟨c, hc, e⟩ := List.mem_map.1 (h1.mem_iff.2 (List.mem_range.2 hi))
  obtain ⟨k, hk, e2⟩ := List.getElem_of_mem hc
  exact ⟨k, hk, c, by rw [List.getElem?_eq_getElem hk, e2], e⟩
theorem AllC.one (h : AllC F p) {i j c d : Nat} (hi : p[i]? = some c) (hj : p[j]? = some d) (e : c / 3 = d / 3) : i = j := by
  refine nodup_idx h.nd (x := c / 3) ?_ ?_
  · rw [List.getElem?_map, hi]; rfl
  · rw [List.getElem?_map, hj, e]; rfl
/-- The corner here of which a corner there comes. -/
def srcC (p : List Nat) (d : Nat) : Nat := turnN (d % 3) (p.getD (d / 3) 0)
theorem turnN_nx (k d : Nat) : Jor.nx (turnN (k % 3) d) = turnN ((k + 1) % 3) d := by
  rcases (by omega : k % 3 = 0 ∨ k % 3 = 1 ∨ k % 3 = 2) with h | h | h
  · have : (k + 1) % 3 = 1 := by omega
    rw [h, this]; rfl
  · have : (k + 1) % 3 = 2 := by omega
    rw [h, this]; exact Jor.nx_nx d
  · have : (k + 1) % 3 = 0 := by omega
    rw [h, this]; exact Jor.nx_pv d
theorem vert_turnAt (T : List Tr) {M : List Tr} {d c : Nat} (h : M[d / 3]? = some (turnAt T c)) : vertN M d = vertN T (turnN (d % 3) c) := by
  unfold vertN triAt
  rw [h]
  rcases (by omega : d % 3 = 0 ∨ d % 3 = 1 ∨ d % 3 = 2) with hm | hm | hm
  · rw [if_pos hm, hm]; rfl
  · rw [if_neg (by omega), if_pos hm, hm]; rfl
  · rw [if_neg (by omega), if_neg (by omega), hm]; rfl
theorem vert_ren {g : Int → Int} {c : Nat} (hc : c < 3 * T.length) : vertN (T.map (renT g)) c = g (vertN T c) := by
  have hl : c / 3 < T.length := by omega
  have e : triAt (T.map (renT g)) c = renT g (triAt T c) := by
    unfold triAt
    rw [List.getElem?_map, List.getElem?_eq_getElem hl]
    rfl
  unfold vertN
  rw [e]
  split
  · rfl
  · split <;> rfl
/-- What was moved is what it was, in other numbers. -/
theorem moved_iso (hS : Surf (n : Int) T) (hto : AllN n tw) (hp : AllC T.length p) : ∃ f : Int → Int, (∀ x : Int, 0 ≤ x → x < n → f (toF tw x) = x) ∧ Iso (pickM (T.map (renT (toF tw))) p) T (srcC p) f := by
  obtain ⟨f, hf⟩ := hto.back
  refine ⟨f, hf, ?_⟩
  have hml : (pickM (T.map (renT (toF tw))) p).length = T.length := by rw [pickM, List.length_map, hp.len]
  have hgt : ∀ d, d < 3 * T.length → ∃ c, p[d / 3]? = some c ∧ p.getD (d / 3) 0 = c ∧ c < 3 * T.length := fun d hd => by
    have hl : d / 3 < p.length := by rw [hp.len]; omega
    exact ⟨p[d / 3], List.getElem?_eq_getElem hl, by simp [List.getD, List.getElem?_eq_getElem hl], hp.rng _ (List.getElem_mem hl)⟩
  have hv : ∀ d, d < 3 * T.length → srcC p d < 3 * T.length ∧ vertN (pickM (T.map (renT (toF tw))) p) d = toF tw (vertN T (srcC p d)) := fun d hd => by
    obtain ⟨c, e1, e2, e3⟩ := hgt d hd
    have h1 := turnN_tri (d % 3) c
    have h2 : srcC p d < 3 * T.length := by unfold srcC; rw [e2]; omega
    refine ⟨h2, ?_⟩
    rw [vert_turnAt (T.map (renT (toF tw))) (c := c) (by rw [pickM, List.getElem?_map, e1]; rfl)]
    have h3 : turnN (d % 3) c = srcC p d := by unfold srcC; rw [e2]
    rw [h3, vert_ren h2]
  have hfv : ∀ d, d < 3 * T.length → f (vertN (pickM (T.map (renT (toF tw))) p) d) = vertN T (srcC p d) := fun d hd => by
    obtain ⟨h1, h2⟩ := hv d hd
    have h3 := vert_inr hS h1
    rw [h2]
    exact hf _ h3.1 h3.2
  refine ⟨hml.symm, fun d hd => ?_, fun d b hd hb e => ?_, fun d hd => ?_, fun d hd => ?_, fun d b hd hb e => ?_⟩
  · rw [hml] at hd ⊢
    exact (hv d hd).1
  · rw [hml] at hd hb
    obtain ⟨c, d1, d2, d3⟩ := hgt d hd
    obtain ⟨c', b1, b2, b3⟩ := hgt b hb
    unfold srcC at e
    rw [d2, b2] at e
    have h3 : c / 3 = c' / 3 := by rw [← turnN_tri (d % 3) c, e, turnN_tri]
    have hij := hp.one d1 b1 h3
    rw [hij, b1] at d1
    cases d1
    have := turnN_inj (Nat.mod_lt _ (by decide)) (Nat.mod_lt _ (by decide)) e
    omega
  · rw [hml] at hd
    have n3 : Jor.nx d / 3 = d / 3 := by unfold Jor.nx; omega
    have m3 : Jor.nx d % 3 = (d % 3 + 1) % 3 := by unfold Jor.nx; omega
    unfold srcC
    rw [n3, m3, ← turnN_nx, Nat.mod_mod]
  · rw [hml] at hd
    exact (hfv d hd).symm
  · rw [hml] at hd hb
    obtain ⟨h1, h2⟩ := hv d hd
    obtain ⟨h1', h2'⟩ := hv b hb
    rw [hfv d hd, hfv b hb] at e
    rw [h2, h2', e]
theorem turned_at {g : Int → Int} {t : Tr} {i c : Nat} (ht : T[i]? = some t) (hc : c / 3 = i) : Turned false g t (turnAt (T.map (renT g)) c) := by
  have hl := (List.getElem?_eq_some_iff.1 ht).1
  have ta : ∀ d, d / 3 = i → triAt T d = t := fun d hd => by unfold triAt; rw [hd, ht]; rfl
  have n3 : Jor.nx c / 3 = i := by unfold Jor.nx; omega
  have p3 : Jor.pv c / 3 = i := by unfold Jor.pv; omega
  unfold turnAt
  rw [vert_ren (by omega), vert_ren (by omega), vert_ren (by omega)]
  unfold vertN
  rw [ta c hc, ta _ n3, ta _ p3]
  rcases (by omega : c % 3 = 0 ∨ c % 3 = 1 ∨ c % 3 = 2) with hm | hm | hm
  · have h1 : Jor.nx c % 3 = 1 := by unfold Jor.nx; omega
    have h2 : Jor.pv c % 3 = 2 := by unfold Jor.pv; omega
    simp only [hm, h1, h2]
    exact .inl rfl
  · have h1 : Jor.nx c % 3 = 2 := by unfold Jor.nx; omega
    have h2 : Jor.pv c % 3 = 0 := by unfold Jor.pv; omega
    simp only [hm, h1, h2]
    exact .inr (.inl rfl)
  · have h1 : Jor.nx c % 3 = 0 := by unfold Jor.nx; omega
    have h2 : Jor.pv c % 3 = 1 := by unfold Jor.pv; omega
    simp only [hm, h1, h2]
    exact .inr (.inr rfl)
/-- What was moved is a surface. -/
theorem moved_surf (hS : Surf (n : Int) T) (hto : AllN n tw) (hp : AllC T.length p) : Surf (n : Int) (pickM (T.map (renT (toF tw))) p) := by
  have hr : ∀ t ∈ T, ∀ x, hasV t x → 0 ≤ x ∧ x < n := fun t ht x hx => in3_has.1 (hS.inr t ht) x hx
  have key : ∀ i : Nat, ∃ k : Nat, i < T.length → ∃ c, p[k]? = some c ∧ c / 3 = i := fun i => by
    by_cases hi : i < T.length
    · obtain ⟨k, -, c, h1, h2⟩ := hp.all hi
      exact ⟨k, fun _ => ⟨c, h1, h2⟩⟩
    · exact ⟨0, fun h => absurd h hi⟩
  obtain ⟨π, hπ⟩ := Classical.axiomOfChoice key
  have hM : Mv false T (pickM (T.map (renT (toF tw))) p) π (toF tw) := by
    refine ⟨by rw [pickM, List.length_map, hp.len], fun i hi => ?_, fun i j hi hj e => ?_, fun i t ht => ?_, fun t ht s hs x y hx hy e => hto.inj (hr t ht x hx) (hr s hs y hy) e⟩
    · obtain ⟨c, h1, -⟩ := hπ i hi
      have := (List.getElem?_eq_some_iff.1 h1).1
      rw [hp.len] at this
      exact this
    · obtain ⟨c, h1, h2⟩ := hπ i hi
      obtain ⟨d, h3, h4⟩ := hπ j hj
      rw [e, h3] at h1
      cases h1
      omega
    · obtain ⟨c, h1, h2⟩ := hπ i (List.getElem?_eq_some_iff.1 ht).1
      exact ⟨_, by rw [pickM, List.getElem?_map, h1]; rfl, turned_at ht h2⟩
  exact hM.surf hS hS.n0 hS.n1 (fun x hx => hto.in_ hx) (fun u hu => by
    obtain ⟨x, hx, e⟩ := hto.on hu
    exact ⟨x, hx, e⟩)
end
end Go.Proofs.YtpnkhgjjlionnaaGreat
namespace Go.Proofs.YtpnkhgjjlionnaaGreat
open Go.RowKit

section
variable {P : Program} {l : List Oper} {Q : Exit → Act → World → Prop} {md : Region.Mode} {S : World → Prop} {n : Nat}

/-- Whatever order is picked from here on; behind each operation but the last one S holds. -/
def wpAnyU (P : Program) (md : Region.Mode) (l : List Oper) (Q : Exit → Act → World → Prop) (S : World → Prop) (n : Nat) : Nat → Array Bool → Act → World → Prop
  | 0, listed, a, w => Region.ready md l.toArray listed = [] ∧ Q .normal a w
  | f + 1, listed, a, w => (Region.ready md l.toArray listed = [] → Q .normal a w) ∧
    ∀ i ∈ Region.ready md l.toArray listed, wpOp P l.toArray Q i (fun a' w' => (i ≠ n → S w') ∧ wpAnyU P md l Q S n f (listed.setIfInBounds i true) a' w') a w
theorem wpAny_of_U : ∀ (f : Nat) (listed : Array Bool) (a : Act) (w : World), wpAnyU P md l Q S n f listed a w → wpAny P md l.toArray Q f listed a w
  | 0, _, _, _, h => h
  | f + 1, _, _, _, h => ⟨h.1, fun i hi => wpOp_mono (fun a' w' h' => wpAny_of_U f _ a' w' h'.2) (h.2 i hi)⟩
/-- Who waits for all is behind who has not come up. -/
theorem last_waits {listed : Array Bool} (hs : Region.sinkB md l.toArray n = true) (hc : Region.chainB md l.toArray n = true) (hn : n + 1 = l.length) (inv : HeadInv md l.toArray n listed) {i : Nat} (hi : i < n) (hun : listed.getD i true = false) : ∀ j ∈ Region.ready md l.toArray listed, j < n := fun j hj => by
  rcases Nat.lt_or_ge j n with h | h
  · exact h
  · exact absurd hj (tail_waits hs hc (by simp; omega) inv _ i rfl hi hun j h)
theorem wpAnyU_first {i : Nat} {oi : Oper} {v : Value} (hi : l[i]? = some oi) (hsel : ∀ (j : Nat) (o : Oper) cs b, l.toArray[j]? = some o → o.op ≠ .select cs b)
    (hs : Region.sinkB md l.toArray n = true) (hc : Region.chainB md l.toArray n = true) (hn : n + 1 = l.length) (hin : i < n)
    (hQ : ∀ c a w, Q (.panic c) (a.put oi.dst v) w → Q (.panic c) a w) :
    ∀ (f : Nat) (listed : Array Bool) (a : Act) (w : World), HeadInv md l.toArray n listed →
      (∀ j oj, l.toArray[j]? = some oj → j ≠ i → listed.getD j true = false → (∀ e ∈ oj.after, Region.binds md e = true → e.on ≠ i) → oi.apart l.toArray oj = true) →
      i ∈ Region.ready md l.toArray listed → YieldsIf P l.toArray S oi v a → S w →
      wpAnyU P md l Q S n f (listed.setIfInBounds i true) (a.put oi.dst v) w → wpAnyU P md l Q S n (f + 1) listed a w := by
  have hi' : l.toArray[i]? = some oi := by simpa using hi
  intro f
  induction f with
  | zero =>
    intro listed a w inv _ hr hy hS H
    refine ⟨fun h => (by rw [h] at hr; cases hr), fun j hj => ?_⟩
    by_cases hji : j = i
    · subst hji
      exact hy.wpOp hi' hS ⟨fun _ => hS, H⟩
    · have := ready_mono hj hji
      rw [H.1] at this
      cases this
  | succ f ih =>
    intro listed a w inv hfree hr hy hS H
    have hun := (mem_ready.1 hr).1
    refine ⟨fun h => (by rw [h] at hr; cases hr), fun j hj => ?_⟩
    by_cases hji : j = i
    · subst hji
      exact hy.wpOp hi' hS ⟨fun _ => hS, H⟩
    · have hjn := last_waits hs hc hn inv hin hun j hj
      have h1 := H.2 j (ready_mono hj hji)
      obtain ⟨hjun, oj, hoj, hall⟩ := mem_ready.1 hj
      have hnot : ∀ e ∈ oj.after, Region.binds md e = true → e.on ≠ i := fun e he hb heq => by
        have h3 := hall e he hb
        rw [heq, getD_both hun] at h3
        cases h3
      have h2 := wpOp_putIf hoj (hfree j oj hoj hji hjun hnot) (fun cs b => hsel i oi cs b hi') (fun cs b => hsel j oj cs b hoj) hQ hy h1
      refine wpOp_mono (fun a' w' h3 => ⟨h3.2.1, ih (listed.setIfInBounds j true) a' w' (inv.set hj hjn) ?_ (ready_mono hr (Ne.symm hji)) h3.1 (h3.2.1 (by omega)) ?_⟩) h2
      · intro k ok hk hki hu hno
        refine hfree k ok hk hki ?_ hno
        by_cases hjk : j = k
        · subst hjk
          exact hjun
        · rw [getD_set_ne true hjk] at hu
          exact hu
      · rw [Array.setIfInBounds_comm _ _ hji]
        exact h3.2.2
/-- The state of a walk through the region: who has come up, and what holds. -/
structure AtU (P : Program) (md : Region.Mode) (l : List Oper) (Q : Exit → Act → World → Prop) (S : World → Prop) (n f : Nat) (listed : Array Bool) (a : Act) (w : World) : Prop where
  go : HeadInv md l.toArray n listed → S w → wpAnyU P md l Q S n f listed a w
/-- What the region is, once. -/
def okU (md : Region.Mode) (l : List Oper) (n : Nat) : Bool := Region.noSelect l.toArray && Region.sinkB md l.toArray n && Region.chainB md l.toArray n && decide (n + 1 = l.length)
theorem AtU.take {i f : Nat} {oi : Oper} {v : Value} {listed : Array Bool} {a : Act} {w : World} (hi : l[i]? = some oi) (hok : okU md l n = true) (hf : (decide (i < n) && Region.free md l.toArray listed i && (Region.ready md l.toArray listed).contains i) = true)
    (hQ : ∀ c a w, Q (.panic c) (a.put oi.dst v) w → Q (.panic c) a w) (hw : Region.wanted oi (yielded l.toArray a.tmps) = true) (hy : ∀ w, S w → (execOp a.eval oi).run P w = .ok (.value v) w)
    (h : AtU P md l Q S n f (listed.setIfInBounds i true) (a.put oi.dst v) w) : AtU P md l Q S n (f + 1) listed a w := by
  simp only [okU, Bool.and_eq_true, decide_eq_true_eq] at hok hf
  obtain ⟨⟨⟨h1, h2⟩, h3⟩, h4⟩ := hok
  obtain ⟨⟨h5, h6⟩, h7⟩ := hf
  have hr : i ∈ Region.ready md l.toArray listed := by simpa using h7
  exact ⟨fun inv hS => wpAnyU_first hi (Region.noSelect_spec h1) h2 h3 h4 h5 hQ f listed a w inv (Region.free_spec (by simpa using hi) h6) hr (.inl ⟨hw, hy⟩) hS (h.go (inv.set hr h5) hS)⟩
/-- One alone may come up. -/
theorem AtU.step {i f : Nat} {o : Oper} {listed : Array Bool} {a : Act} {w : World} (hi : l[i]? = some o) (hr : (decide (Region.ready md l.toArray listed = [i]) && decide (i < n)) = true)
    (h : ∀ K' : Act → World → Prop, Shut (∀ a' w', S w' → AtU P md l Q S n f (listed.setIfInBounds i true) a' w' → K' a' w') → if Region.wanted o (yielded l.toArray a.tmps) = true then Oper.wp P o a w K' Q else K' (a.put o.dst undef) w) : AtU P md l Q S n (f + 1) listed a w := by
  simp only [Bool.and_eq_true, decide_eq_true_eq] at hr
  refine ⟨fun inv hS => ⟨fun h0 => (by rw [hr.1] at h0; cases h0), fun j hj => ?_⟩⟩
  have hjr := hj
  rw [hr.1] at hj
  have : j = i := by simpa using hj
  subst this
  exact wpOp_step (o := o) (by simpa using hi) (fun K' hK => h K' (fun a' w' hS' hA => hK a' w' ⟨fun _ => hS', hA.go (inv.set hjr hr.2) hS'⟩))
/-- The last one. -/
theorem AtU.last {i : Nat} {o : Oper} {listed : Array Bool} {a : Act} {w : World} (hi : l[i]? = some o) (hr : (decide (Region.ready md l.toArray listed = [i]) && (Region.ready md l.toArray (listed.setIfInBounds i true)).isEmpty && decide (i = n)) = true)
    (h : ∀ K' : Act → World → Prop, Shut (∀ a' w', Q .normal a' w' → K' a' w') → if Region.wanted o (yielded l.toArray a.tmps) = true then Oper.wp P o a w K' Q else K' (a.put o.dst undef) w) : AtU P md l Q S n 1 listed a w := by
  simp only [Bool.and_eq_true, decide_eq_true_eq, List.isEmpty_iff] at hr
  refine ⟨fun inv hS => ⟨fun h0 => (by rw [hr.1.1] at h0; cases h0), fun j hj => ?_⟩⟩
  rw [hr.1.1] at hj
  have : j = i := by simpa using hj
  subst this
  exact wpOp_step (o := o) (by simpa using hi) (fun K' hK => h K' (fun a' w' hq => hK a' w' ⟨fun hne => absurd hr.2 hne, hr.1.2, hq⟩))
/-- The beginning. -/
theorem wp_region_U {id : Nat} {a : Act} {w : World} (n : Nat) (S : World → Prop) (hm : P.follows .mixedOrders = true) (hS : S w.drew) (h : AtU P .any l Q S n l.length (Array.replicate l.length false) a w.drew) : (Code.region id l.toArray true).wp P Q a w := by
  refine wp_region_any hm (wpAny_of_U (n := n) (S := S) _ _ _ _ ?_)
  have := h.go ⟨by simp, fun j oj _ hl => (by rw [getD_replicate_false] at hl; cases hl), fun t _ ht => getD_in (by simpa using ht) (getD_replicate_false _ _)⟩ hS
  simpa using this
end
end Go.Proofs.YtpnkhgjjlionnaaGreat
namespace Go.Proofs.YtpnkhgjjlionnaaGreat
open Go.RowKit

theorem TrisRd.at9 {w : World} {a : Option Addr} {m c : Nat} {T : List Tr} (h : TrisRd w (.slice a m c) T) {t k : Nat} (ht : t < T.length) (hk : k < 3) :
    ∃ b o x, a = some ⟨b, o, none⟩ ∧ b < w.heap.size ∧ w.cell? ⟨b, o + t * 3 + k, none⟩ = some (.int .i64 x) := by
  obtain ⟨a', c', e, -, -, hr⟩ := h
  cases e
  obtain ⟨⟨x, y, z⟩, hx⟩ : ∃ q, T[t]? = some q := ⟨T[t], List.getElem?_eq_getElem _⟩
  obtain ⟨b, o, rfl, hb, s0, s1, s2⟩ := hr t x y z hx
  have : k = 0 ∨ k = 1 ∨ k = 2 := by omega
  rcases this with rfl | rfl | rfl
  · exact ⟨b, o, x, rfl, hb, s0⟩
  · exact ⟨b, o, y, rfl, hb, s1⟩
  · exact ⟨b, o, z, rfl, hb, s2⟩
theorem below_dn {B : Nat} {w a : World} (h : Below B w a) (n : Nat) : Below B w (a.drewN n) := ⟨h.os, h.tape, h.output, h.size, h.block⟩
theorem below_d {B : Nat} {w a : World} (h : Below B w a) : Below B w a.drew := ⟨h.os, h.tape, h.output, h.size, h.block⟩
theorem own_below9 {w w' : World} {base n s : Nat} {e : TypeId} {v : Value} {xs : List Value} (h : w.ownsRow base e s v n xs) (hb : Below w.heap.size w w') : w'.ownsRow base e s v n xs :=
  h.kept (grown_of_below hb none) (by cases e : v.ownBlock; exact .inl rfl; exact .inr (by simp))
theorem blk_new9 {w : World} {g : Nat} {t : TypeId} {cs : Array Value} (h : g = w.heap.size) : Blk (w.alloc (.cells cs t)) g t cs := by
  rw [h]
  exact Blk.new w t cs
/-- A call that hands back some bool. -/
def RetB (w : World) (e : Ending) (w' : World) : Prop := (∃ b : Bool, e = .returned (.bool b)) ∧ Below w.heap.size w w'
set_option maxHeartbeats 1000000 in
theorem edge9_any (x y z a b : Int) (w : World) : Calls Tryz.prog 145 #[.agg #[.int .i64 x, .int .i64 y, .int .i64 z], .int .i64 a, .int .i64 b] w (RetB w) := by
  have b1 := Blk.new w 60 #[.int .i64 x, .int .i64 y, .int .i64 z]
  obtain ⟨l0, p0, -, p1, -, p2, -⟩ := b1.three
  clear b1
  go_enter Tryz.func145, Tryz.ntmps145
  go_wp2
  all_goals
    go_ret
    exact ⟨⟨_, rfl⟩, (Below.refl _ _).alloc (Nat.le_refl _) _⟩
set_option maxHeartbeats 1000000 in
theorem has9_any (x y z a : Int) (w : World) : Calls Tryz.prog 107 #[.agg #[.int .i64 x, .int .i64 y, .int .i64 z], .int .i64 a] w (RetB w) := by
  have b1 := Blk.new w 60 #[.int .i64 x, .int .i64 y, .int .i64 z]
  obtain ⟨l0, p0, -, p1, -, p2, -⟩ := b1.three
  clear b1
  go_enter Tryz.func107, Tryz.ntmps107
  go_wp2
  all_goals
    go_ret
    exact ⟨⟨_, rfl⟩, (Below.refl _ _).alloc (Nat.le_refl _) _⟩
theorem infoWit9 : (Tryz.prog.info? 166).map (fun i => (i.zero, i.size, i.bytes)) = some (some (.agg #[.int .i64 0, .int .i64 0, .int .i64 0]), 3, 24) := by kernel_rfl
/-- A call that hands back a row of witnesses. -/
def RetW (w : World) (m : Nat) (e : Ending) (w' : World) : Prop := ∃ v n xs, e = .returned v ∧ w'.ownsRow w.heap.size 166 3 v n xs ∧ n ≤ m ∧ Below w.heap.size w w'
set_option maxHeartbeats 1000000 in
theorem twice9_any (x y z x' y' z' : Int) (w : World) : Calls Tryz.prog 130 #[.agg #[.int .i64 x, .int .i64 y, .int .i64 z], .agg #[.int .i64 x', .int .i64 y', .int .i64 z']] w (RetB w) := by
  have HE := Lib.hid edge9_any
  have bt := (Blk.new w 60 #[.int .i64 x, .int .i64 y, .int .i64 z]).alloc (.cells #[.int .i64 x', .int .i64 y', .int .i64 z'] 60)
  have bu : Blk ((w.alloc (.cells #[.int .i64 x, .int .i64 y, .int .i64 z] 60)).alloc (.cells #[.int .i64 x', .int .i64 y', .int .i64 z'] 60)) (w.heap.size + 1) 60 #[.int .i64 x', .int .i64 y', .int .i64 z'] := blk_new9 (by simp)
  have hB : Below w.heap.size w ((w.alloc (.cells #[.int .i64 x, .int .i64 y, .int .i64 z] 60)).alloc (.cells #[.int .i64 x', .int .i64 y', .int .i64 z'] 60)) := ((Below.refl _ _).alloc (Nat.le_refl _) _).alloc (by simp) _
  obtain ⟨l0, p0, -, p1, -, p2, -⟩ := bt.three
  obtain ⟨l1, q0, -, q1, -, q2, -⟩ := bu.three
  go_enter Tryz.func130, Tryz.ntmps130
  go_wp2_with fail
  generalize (w.alloc (.cells #[.int .i64 x, .int .i64 y, .int .i64 z] 60)).alloc (.cells #[.int .i64 x', .int .i64 y', .int .i64 z'] 60) = W0 at *
  have HX := Lib.hid (fun (W : World) (hW : Below W0.heap.size W0 W) => And.intro (bt.below hW l0) (bu.below hW l1))
  have HB := Lib.hid hB
  clear bt bu p0 p1 p2 q0 q1 q2 hB
  refine (HE.out _ _ _ _ _ _).mono ?_
  rintro e w1 ⟨⟨b1, rfl⟩, hb1⟩
  obtain ⟨bt, bu⟩ := HX.out _ hb1
  obtain ⟨m0, p0, -, p1, -, p2, -⟩ := bt.three
  obtain ⟨m1, q0, -, q1, -, q2, -⟩ := bu.three
  have HB1 := Lib.hid (HB.out.trans (hb1.mono HB.out.size))
  have Hb1 := Lib.hid hb1
  clear hb1 bt bu
  cases b1
  · go_wp2_with fail
    refine (HE.out _ _ _ _ _ _).mono ?_
    rintro e w2 ⟨⟨b2, rfl⟩, hb2⟩
    have hb2' := Hb1.out.trans (hb2.mono Hb1.out.size)
    clear p0 p1 p2 q0 q1 q2 m0 m1
    obtain ⟨bt, bu⟩ := HX.out _ hb2'
    obtain ⟨m0, p0, -, p1, -, p2, -⟩ := bt.three
    obtain ⟨m1, q0, -, q1, -, q2, -⟩ := bu.three
    have HB2 := Lib.hid (HB.out.trans (hb2'.mono HB.out.size))
    clear hb2 hb2' bt bu
    cases b2
    · go_wp2_with fail
      refine (HE.out _ _ _ _ _ _).mono ?_
      rintro e w3 ⟨⟨b3, rfl⟩, hb3⟩
      have HB3 := Lib.hid (HB2.out.trans (hb3.mono HB2.out.size))
      clear hb3
      go_wp2
      go_ret
      exact ⟨⟨_, rfl⟩, HB3.out⟩
    · go_wp2
      go_ret
      exact ⟨⟨_, rfl⟩, HB2.out⟩
  · go_wp2
    go_ret
    exact ⟨⟨_, rfl⟩, HB1.out⟩
set_option maxRecDepth 100000 in
set_option maxHeartbeats 2000000 in
theorem index9_any (N : Int) (v : Value) (T : List Tr) (w : World) (h : TrisRd w v T) (hl : T.length ≤ 40) : Calls Tryz.prog 105 #[.agg #[.int .i64 N, v]] w (RetW w 40) := by
  obtain ⟨i1, hi', hy0, hy1, hy2⟩ := info_parts infoWit9
  obtain ⟨a, c, rfl, hc1, hc2, hr⟩ := id h
  have b1 := Blk.new w 24 #[.int .i64 N, .slice a T.length c]
  obtain ⟨l0, x0, -, x1, -⟩ := b1.two
  have hB0 : Below w.heap.size w (w.alloc (.cells #[.int .i64 N, .slice a T.length c] 24)) := (Below.refl _ _).alloc (Nat.le_refl _) _
  have HH := Lib.hid h
  obtain ⟨n, hn⟩ : ∃ n, T.length = n := ⟨_, rfl⟩
  rw [hn] at hl hc1 x0 x1 hB0 b1 l0 ⊢
  have HN := Lib.hid hn
  have g3 : ¬ 8192 < (n : Int) := by omega
  have hrow := World.ownsRow_lit (w.alloc (.cells #[.int .i64 N, .slice a n c] 24)) (base := w.heap.size) (e := 166) (size := 3) #[.int .i64 1, .int .i64 (-1), .int .i64 0] 1 (by simp) (by decide) rfl
  rw [size_alloc'] at hrow
  have Hrow := Lib.hid hrow
  have HBr := Lib.hid (hB0.alloc hB0.size (.cells #[.int .i64 1, .int .i64 (-1), .int .i64 0] 166))
  have HB0 := Lib.hid hB0
  have Hb1 := Lib.hid b1
  clear hr hn h hrow b1 hB0
  by_cases h1 : N < 0
  · go_enter Tryz.func105, Tryz.ntmps105
    go_wp2
    go_ret
    exact ⟨_, _, _, rfl, Hrow.out, by omega, HBr.out⟩
  · by_cases h2 : 4096 < N
    · go_enter Tryz.func105, Tryz.ntmps105
      go_wp2
      go_ret
      exact ⟨_, _, _, rfl, Hrow.out, by omega, HBr.out⟩
    · clear Hrow HBr
      go_enter Tryz.func105, Tryz.ntmps105
      go_wp2
      go_loopw [3, 4] (fun v3 i wr => ∃ (k : Nat) (m : Nat) (xs : List Value) (v' : Value), v' = v3 ∧ k ≤ n ∧ i = .int .i64 k ∧ wr.ownsRow w.heap.size 166 3 v' m xs ∧ m ≤ k ∧ Blk wr w.heap.size 24 #[.int .i64 N, .slice a n c] ∧ Below w.heap.size w wr) (fun _ i _ => n - (intOf i).toNat)
      case atStart => exact ⟨0, 0, _, _, rfl, Nat.zero_le _, rfl, World.ownsRow_nil _ _ _ _, Nat.le_refl _, Hb1.out, HB0.out⟩
      case round =>
        obtain ⟨k, m, xs, v3, rfl, hk, rfl, hrow, hm, hS, hB⟩ := hrel
        rename World => wr
        clear x0 x1 l0
        obtain ⟨ly, y0, -, y1, -⟩ := hS.two
        have htr := (HH.out.below hB)
        have HS := Lib.hid hS
        have HB := Lib.hid hB
        have Hro := Lib.hid hrow
        have hsz := hB.size
        clear hS hB hrow
        by_cases hlt : k < n
        · have hk3 : (k : Int) < (n : Int) := by omega
          have hk0 : (0 : Int) ≤ (k : Int) := by omega
          have c3 : m + 1 ≤ maxLen := by unfold maxLen; omega
          have c4 : (m + 1) * 24 ≤ 140737488355328 := by omega
          have HAt := Lib.hid (fun (j : Nat) (hj : j < 3) => htr.at9 (t := k) (k := j) (by have := HN.out; omega) hj)
          clear htr
          go_wp2
          go_loopw [5, 6] (fun v5 i wq => ∃ (j : Nat) (b : Bool), j ≤ 3 ∧ i = .int .i64 j ∧ v5 = .bool b ∧ (Below wr.heap.size wr wq)) (fun _ i _ => 3 - (intOf i).toNat)
          case atStart => exact ⟨0, false, by omega, rfl, rfl, Below.refl _ _⟩
          case round =>
            obtain ⟨j, b, hj, rfl, rfl, hq⟩ := hrel
            rename World => wq
            obtain ⟨lz, z0, -, z1, -⟩ := (HS.out.below hq ly).two
            have HBq := Lib.hid hq
            have hszq := hq.size
            by_cases hj3 : j < 3
            · obtain ⟨bb, o, x, rfl, hbl, hcell⟩ := HAt.out j hj3
              have hcell' := (hq.cell (p := ⟨bb, _, none⟩) hbl).trans hcell
              have hj4 : (j : Int) < 3 := by omega
              have hj0 : (0 : Int) ≤ (j : Int) := by omega
              clear hcell hq
              cases b
              · by_cases u1 : x < 0
                · go_wp2
                  go_quiet (fail)
                  go_wp2
                  go_roundw
                  case measure => simp [intOf]; omega
                  case rel => exact ⟨j + 1, _, by omega, by go_num, rfl, below_dn HBq.out _⟩
                · by_cases u2 : N ≤ x
                  · go_wp2
                    go_quiet (fail)
                    go_wp2
                    go_roundw
                    case measure => simp [intOf]; omega
                    case rel => exact ⟨j + 1, _, by omega, by go_num, rfl, below_dn HBq.out _⟩
                  · go_wp2
                    go_quiet (fail)
                    go_wp2
                    go_roundw
                    case measure => simp [intOf]; omega
                    case rel => exact ⟨j + 1, _, by omega, by go_num, rfl, below_dn HBq.out _⟩
              · go_wp2
                go_quiet (fail)
                go_wp2
                go_roundw
                case measure => simp [intOf]; omega
                case rel => exact ⟨j + 1, _, by omega, by go_num, rfl, below_dn HBq.out _⟩
            · obtain rfl : j = 3 := by omega
              clear HAt hq
              cases b
              · go_wp2
                go_roundw
                case measure => simp [intOf]; omega
                case rel => exact ⟨k + 1, m, xs, _, rfl, by omega, by go_num, own_below9 Hro.out HBq.out, by omega, HS.out.below HBq.out ly, HB.out.trans (HBq.out.mono hsz)⟩
              · have hrq := own_below9 Hro.out HBq.out
                have HSq := Lib.hid (HS.out.below HBq.out ly)
                go_wp2_with (at_builtin; refine wpList_append_lies _ rfl (.tmp 58) (.tmp 61) 145 rfl w.heap.size 166 i1 _ 3 24 Tryz.underlying145 hi' hy0 hy1 hy2 rfl (by decide) _ _ _ rfl (hrq.alloc _) ⟨wq.heap.size, 0, none⟩ 1 1 [.int .i64 1, .int .i64 k, .int .i64 0] rfl rfl (World.news_of_block (heap_alloc_new _ _)) (by simp [Value.oneCell']) (by decide) c3 c4 (by rw [size_alloc']; omega) (wq.heap.size + 1) (by simp) ?_; intro g4 cap4 W4 hr4 hg4 _ _)
                go_roundw
                case measure => simp [intOf]; omega
                case rel => exact ⟨k + 1, m + 1, _, _, rfl, by omega, by go_num, hr4, by omega, (HSq.out.alloc _).grown hg4 (fun e => own_blk_ne hrq HSq.out (by decide) e.symm), (HB.out.trans (HBq.out.mono hsz)).grown (gGrown (World.grownBy_alloc _ _ _) hg4 (row := v3.ownBlock) (fun _ e => .inl e)) (by omega) (fun j e => (hrq.lt j e).1)⟩
        · obtain rfl : k = n := by omega
          clear htr
          go_wp2
          go_ret
          exact ⟨_, _, _, rfl, Hro.out, by omega, HB.out⟩
end Go.Proofs.YtpnkhgjjlionnaaGreat
namespace Go.Proofs.YtpnkhgjjlionnaaGreat
open Go.RowKit Go.Maps

set_option maxRecDepth 100000 in
set_option maxHeartbeats 4000000 in
theorem ren1_any (q n : Nat) (vO : Value) (tw : List Int) (t : Tr) (W : World) (hO : IntsRd W vO tw) (hn : tw.length = n) (hq : W.cell? ⟨q, 0, none⟩ = some vO) (hql : q < W.heap.size) (ht : in3 n t) (_hn9 : n ≤ 1000000) :
    Calls Tryz.prog 30 #[.agg #[.int .i64 t.1, .int .i64 t.2.1, .int .i64 t.2.2], .pointer (some ⟨q, 0, none⟩)] W fun e W' => e = .returned (.agg #[.int .i64 (renT (toF tw) t).1, .int .i64 (renT (toF tw) t).2.1, .int .i64 (renT (toF tw) t).2.2]) ∧ Below W.heap.size W W' := by
  obtain ⟨x, y, z⟩ := t
  obtain ⟨⟨x0, x1⟩, ⟨y0, y1⟩, ⟨z0, z1⟩⟩ := ht
  simp only at x0 x1 y0 y1 z0 z1 ⊢
  unfold renT toF
  obtain ⟨x, rfl⟩ : ∃ k : Nat, x = k := ⟨x.toNat, by omega⟩
  obtain ⟨y, rfl⟩ : ∃ k : Nat, y = k := ⟨y.toNat, by omega⟩
  obtain ⟨z, rfl⟩ : ∃ k : Nat, z = k := ⟨z.toNat, by omega⟩
  simp only [Int.toNat_natCast]
  obtain ⟨aO, cO, rfl, hlO, hrO⟩ := hO
  rw [hn] at hlO hq
  have hx : x < tw.length := by omega
  have hy : y < tw.length := by omega
  have hz : z < tw.length := by omega
  obtain ⟨gO, oO, rfl, hg, cx⟩ := hrO x _ (List.getElem?_eq_getElem hx)
  obtain ⟨gO', oO', e', -, cy⟩ := hrO y _ (List.getElem?_eq_getElem hy)
  cases e'
  obtain ⟨gO', oO', e', -, cz⟩ := hrO z _ (List.getElem?_eq_getElem hz)
  cases e'
  rw [← at_get hx] at cx
  rw [← at_get hy] at cy
  rw [← at_get hz] at cz
  have b0 := (Blk.new W 60 #[.int .i64 (x : Int), .int .i64 (y : Int), .int .i64 (z : Int)]).alloc (.cells #[.int .i64 0, .int .i64 0, .int .i64 0] 60)
  have b1 : Blk ((W.alloc (.cells #[.int .i64 (x : Int), .int .i64 (y : Int), .int .i64 (z : Int)] 60)).alloc (.cells #[.int .i64 0, .int .i64 0, .int .i64 0] 60)) (W.heap.size + 1) 60 #[.int .i64 0, .int .i64 0, .int .i64 0] := blk_new_at (by simp)
  have hB : Below W.heap.size W ((W.alloc (.cells #[.int .i64 (x : Int), .int .i64 (y : Int), .int .i64 (z : Int)] 60)).alloc (.cells #[.int .i64 0, .int .i64 0, .int .i64 0] 60)) := ((Below.refl _ _).alloc (Nat.le_refl _) _).alloc (by simp) _
  have dq := (hB.cell (p := ⟨q, 0, none⟩) hql).trans hq
  have dx := (hB.cell (p := ⟨gO, oO + x, none⟩) hg).trans cx
  have dy := (hB.cell (p := ⟨gO, oO + y, none⟩) hg).trans cy
  have dz := (hB.cell (p := ⟨gO, oO + z, none⟩) hg).trans cz
  have HB := Lib.hid hB
  have HB1 := Lib.hid b1
  obtain ⟨l0, s0, f0, s1, f1, s2, f2⟩ := b0.three
  obtain ⟨l1, u0, g0, u1, g1, u2, g2⟩ := b1.three
  generalize at_ tw x = X at *
  generalize at_ tw y = Y at *
  generalize at_ tw z = Z at *
  have kx : (x : Int) < (n : Int) := by omega
  have ky : (y : Int) < (n : Int) := by omega
  have kz : (z : Int) < (n : Int) := by omega
  have ix0 := @index_t0
  have ix1 := @index_t1
  have ix2 := @index_t2
  clear hB b0 b1 cx cy cz hrO hq hx hy hz
  go_enter Tryz.func30, Tryz.ntmps30
  go_upto_region 1 with fail
  refine wp_region_U 16 (fun w' => w'.cell? ⟨q, 0, none⟩ = some (.slice (some ⟨gO, oO, none⟩) n cO) ∧ w'.cell? ⟨W.heap.size, 0, none⟩ = some (.int .i64 (x : Int)) ∧ w'.cell? ⟨W.heap.size, 1, none⟩ = some (.int .i64 (y : Int)) ∧ w'.cell? ⟨W.heap.size, 2, none⟩ = some (.int .i64 (z : Int)) ∧ w'.cell? ⟨gO, oO + x, none⟩ = some (.int .i64 X) ∧ w'.cell? ⟨gO, oO + y, none⟩ = some (.int .i64 Y) ∧ w'.cell? ⟨gO, oO + z, none⟩ = some (.int .i64 Z)) (by kernel_rfl) ⟨dq, s0, s1, s2, dx, dy, dz⟩ ?_
  change AtU _ _ _ _ _ _ 17 (Array.replicate 17 false) _ _
  refine AtU.take (i := 0) (v := ?_) rfl (by kernel_rfl) (by kernel_rfl) (fun _ _ _ h => h) (by rfl) ?_ ?_
  rotate_left 1
  · intro w9 hSw; (try dsimp only at hSw); go_simp; try with_reducible rfl
  try simp only [Act.put, List.setIfInBounds_toArray, List.set_cons_zero, List.set_cons_succ]
  refine AtU.take (i := 1) (v := ?_) rfl (by kernel_rfl) (by kernel_rfl) (fun _ _ _ h => h) (by rfl) ?_ ?_
  rotate_left 1
  · intro w9 hSw; (try dsimp only at hSw); go_simp; try with_reducible rfl
  try simp only [Act.put, List.setIfInBounds_toArray, List.set_cons_zero, List.set_cons_succ]
  refine AtU.take (i := 2) (v := ?_) rfl (by kernel_rfl) (by kernel_rfl) (fun _ _ _ h => h) (by rfl) ?_ ?_
  rotate_left 1
  · intro w9 hSw; (try dsimp only at hSw); go_simp; try with_reducible rfl
  try simp only [Act.put, List.setIfInBounds_toArray, List.set_cons_zero, List.set_cons_succ]
  refine AtU.take (i := 3) (v := ?_) rfl (by kernel_rfl) (by kernel_rfl) (fun _ _ _ h => h) (by rfl) ?_ ?_
  rotate_left 1
  · intro w9 hSw; (try dsimp only at hSw); go_simp; try with_reducible rfl
  try simp only [Act.put, List.setIfInBounds_toArray, List.set_cons_zero, List.set_cons_succ]
  refine AtU.take (i := 4) (v := ?_) rfl (by kernel_rfl) (by kernel_rfl) (fun _ _ _ h => h) (by rfl) ?_ ?_
  rotate_left 1
  · intro w9 hSw; (try dsimp only at hSw); go_simp; try with_reducible rfl
  try simp only [Act.put, List.setIfInBounds_toArray, List.set_cons_zero, List.set_cons_succ]
  refine AtU.take (i := 5) (v := ?_) rfl (by kernel_rfl) (by kernel_rfl) (fun _ _ _ h => h) (by rfl) ?_ ?_
  rotate_left 1
  · intro w9 hSw; (try dsimp only at hSw); go_simp; try with_reducible rfl
  try simp only [Act.put, List.setIfInBounds_toArray, List.set_cons_zero, List.set_cons_succ]
  refine AtU.take (i := 6) (v := ?_) rfl (by kernel_rfl) (by kernel_rfl) (fun _ _ _ h => h) (by rfl) ?_ ?_
  rotate_left 1
  · intro w9 hSw; (try dsimp only at hSw); go_simp; try with_reducible rfl
  try simp only [Act.put, List.setIfInBounds_toArray, List.set_cons_zero, List.set_cons_succ]
  refine AtU.take (i := 7) (v := ?_) rfl (by kernel_rfl) (by kernel_rfl) (fun _ _ _ h => h) (by rfl) ?_ ?_
  rotate_left 1
  · intro w9 hSw; (try dsimp only at hSw); go_simp; try with_reducible rfl
  try simp only [Act.put, List.setIfInBounds_toArray, List.set_cons_zero, List.set_cons_succ]
  refine AtU.take (i := 8) (v := ?_) rfl (by kernel_rfl) (by kernel_rfl) (fun _ _ _ h => h) (by rfl) ?_ ?_
  rotate_left 1
  · intro w9 hSw; (try dsimp only at hSw); go_simp; try with_reducible rfl
  try simp only [Act.put, List.setIfInBounds_toArray, List.set_cons_zero, List.set_cons_succ]
  refine AtU.take (i := 9) (v := ?_) rfl (by kernel_rfl) (by kernel_rfl) (fun _ _ _ h => h) (by rfl) ?_ ?_
  rotate_left 1
  · intro w9 hSw; (try dsimp only at hSw); go_simp; try with_reducible rfl
  try simp only [Act.put, List.setIfInBounds_toArray, List.set_cons_zero, List.set_cons_succ]
  refine AtU.take (i := 10) (v := ?_) rfl (by kernel_rfl) (by kernel_rfl) (fun _ _ _ h => h) (by rfl) ?_ ?_
  rotate_left 1
  · intro w9 hSw; (try dsimp only at hSw); go_simp; try with_reducible rfl
  try simp only [Act.put, List.setIfInBounds_toArray, List.set_cons_zero, List.set_cons_succ]
  refine AtU.take (i := 11) (v := ?_) rfl (by kernel_rfl) (by kernel_rfl) (fun _ _ _ h => h) (by rfl) ?_ ?_
  rotate_left 1
  · intro w9 hSw; (try dsimp only at hSw); go_simp; try with_reducible rfl
  try simp only [Act.put, List.setIfInBounds_toArray, List.set_cons_zero, List.set_cons_succ]
  refine AtU.take (i := 12) (v := ?_) rfl (by kernel_rfl) (by kernel_rfl) (fun _ _ _ h => h) (by rfl) ?_ ?_
  rotate_left 1
  · intro w9 hSw; (try dsimp only at hSw); go_simp; try with_reducible rfl
  try simp only [Act.put, List.setIfInBounds_toArray, List.set_cons_zero, List.set_cons_succ]
  refine AtU.take (i := 13) (v := ?_) rfl (by kernel_rfl) (by kernel_rfl) (fun _ _ _ h => h) (by rfl) ?_ ?_
  rotate_left 1
  · intro w9 hSw; (try dsimp only at hSw); go_simp; try with_reducible rfl
  try simp only [Act.put, List.setIfInBounds_toArray, List.set_cons_zero, List.set_cons_succ]
  refine AtU.take (i := 14) (v := ?_) rfl (by kernel_rfl) (by kernel_rfl) (fun _ _ _ h => h) (by rfl) ?_ ?_
  rotate_left 1
  · intro w9 hSw; (try dsimp only at hSw); go_simp; try with_reducible rfl
  try simp only [Act.put, List.setIfInBounds_toArray, List.set_cons_zero, List.set_cons_succ]
  refine AtU.take (i := 15) (v := ?_) rfl (by kernel_rfl) (by kernel_rfl) (fun _ _ _ h => h) (by rfl) ?_ ?_
  rotate_left 1
  · intro w9 hSw; (try dsimp only at hSw); go_simp; try with_reducible rfl
  try simp only [Act.put, List.setIfInBounds_toArray, List.set_cons_zero, List.set_cons_succ]
  refine AtU.last (i := 16) rfl (by kernel_rfl) (fun K hK => ?_)
  go_simp
  refine hK.out _ _ ?_
  clear hK K
  go_wp2
  have hF2 : Blk ((W.alloc (.cells #[.int .i64 (x : Int), .int .i64 (y : Int), .int .i64 (z : Int)] 60)).alloc (.cells #[.int .i64 X, .int .i64 Y, .int .i64 Z] 60)) (W.heap.size + 1) 60 #[.int .i64 X, .int .i64 Y, .int .i64 Z] := blk_new_at (by simp)
  obtain ⟨-, p0, -, p1, -, p2, -⟩ := hF2.drew.three
  refine bodyPost_ret (v := .agg #[.int .i64 X, .int .i64 Y, .int .i64 Z]) (by simp [results, Tryz.results30, go_sem, p0, p1, p2]) rfl ?_
  exact ⟨rfl, below_d (((Below.refl _ _).alloc (Nat.le_refl _) _).alloc (by simp) _)⟩
end Go.Proofs.YtpnkhgjjlionnaaGreat
namespace Go.Proofs.YtpnkhgjjlionnaaGreat
open Go.RowKit

theorem run_append_any {P : Program} (w : World) (base : Nat) (t ty e : TypeId) (i : TypeInfo) (z : Value) (size bytes : Nat) (ht : P.underlying t = some (.slice e)) (hi : P.info? e = some i) (hz : i.zero = some z)
    (hsize : i.size = size) (hby : i.bytes = bytes) (hzs : z.cells.size = size) (hsz : 0 < size) (v : Value) (n : Nat) (xs : List Value) (hown : w.ownsRow base e size v n xs)
    (b2 : Nat) (u : Value) (m : Nat) (news : List Value) (hsrc : w.ownsRow b2 e size u m news) (h1 : ∀ y ∈ news, y.oneCell' = true) (h63 : n + m ≤ maxLen) (hbytes : (n + m) * bytes ≤ 140737488355328) (hbase : base ≤ w.heap.size) :
    ∃ v' w', (Builtin.append_ #[t, t] ty #[v, u]).run P w = .ok v' w' ∧ w'.ownsRow base e size v' (n + m) (xs ++ news) ∧ w.grownBy w' v.ownBlock ∧ (v'.ownBlock = v.ownBlock ∨ v'.ownBlock = some w.heap.size) := by
  rcases hsrc.2 with ⟨e0, e1⟩ | ⟨g, cap, cur, e0, hb, hg, hc1, hc2, hc3, hc4⟩
  · subst e0
    have hm : m = 0 := e1
    subst hm
    have hn : news = [] := List.eq_nil_of_length_eq_zero (by rw [hsrc.1]; simp)
    subst hn
    refine ⟨v, w, ?_, by simpa using hown, World.grownBy.refl _ _, .inl rfl⟩
    obtain ⟨b, len, c, ev, hle⟩ : ∃ b len c, v = .slice b len c ∧ len ≤ c := by
      rcases hown.2 with ⟨e2, _⟩ | ⟨g, cap, cur, e2, _, _, hc, _⟩
      · exact ⟨_, _, _, e2, Nat.le_refl _⟩
      · exact ⟨_, _, _, e2, hc⟩
    subst ev
    exact run_append_nothing w t t ty e i ht hi b len c hle _ (Src.ofNil w ht 0)
  · subst e0
    have hcell : ∀ j y, news[j]? = some y → w.cell? ((⟨g, 0, none⟩ : Addr).add j) = some y := by
      intro j y hy
      have hj : j < m * size := by
        have := (List.getElem?_eq_some_iff.1 hy).1
        rw [hsrc.1] at this
        exact this
      have hadd : (⟨g, 0, none⟩ : Addr).add j = ⟨g, j, none⟩ := by unfold Addr.add; split <;> simp_all
      rw [hadd, hsrc.cellAt j hj, hy]
    obtain ⟨v', w', hr, h2, h3, -, h5⟩ := run_append_own_at (P := P) w base t ty e i z size bytes ht hi hz hsize hby hzs hsz v n xs hown ⟨g, 0, none⟩ m cap news hsrc.1 hcell h1 h63 hbytes hbase
    exact ⟨v', w', hr, h2, h3, h5⟩
theorem wp_append_any {P : Program} {w : World} {o : Oper} {a : Act} {K : Act → World → Prop} {Q : Exit → Act → World → Prop} (s x : Operand) (t : TypeId)
    (ho : o.op = .call { callee := .builtin .append, args := #[s, x], argTypes := #[t, t] })
    (base : Nat) (e : TypeId) (i : TypeInfo) (z : Value) (size bytes : Nat) (ht : P.underlying t = some (.slice e)) (hi : P.info? e = some i) (hz : i.zero = some z)
    (hsize : i.size = size) (hby : i.bytes = bytes) (hzs : z.cells.size = size) (hsz : 0 < size)
    (v : Value) (n : Nat) (xs : List Value) (hs : a.eval s = v) (hown : w.ownsRow base e size v n xs)
    (b2 : Nat) (u : Value) (m : Nat) (news : List Value) (hx : a.eval x = u) (hsrc : w.ownsRow b2 e size u m news) (h1 : ∀ y ∈ news, y.oneCell' = true) (h63 : n + m ≤ maxLen) (hbytes : (n + m) * bytes ≤ 140737488355328) (hbase : base ≤ w.heap.size)
    (h : ∀ v' w', w'.ownsRow base e size v' (n + m) (xs ++ news) → w.grownBy w' v.ownBlock → (v'.ownBlock = v.ownBlock ∨ v'.ownBlock = some w.heap.size) → K (a.put o.dst v') w') : o.wp P a w K Q := by
  obtain ⟨v', w', hr, h2, h3, h4⟩ := run_append_any (P := P) w base t o.type e i z size bytes ht hi hz hsize hby hzs hsz v n xs hown b2 u m news hsrc h1 h63 hbytes hbase
  unfold Oper.wp execOp
  simp only [ho, resolve, invoke, builtin, Sem.run_bind, Sem.run_pure, Result.andThen_ok, List.map_toArray, List.map_cons, List.map_nil, hs, hx, hr]
  exact h v' w' h2 h3 h4
/-- At a step of a region that draws its order. -/
theorem step_append_any {P : Program} (w : World) {ops : Array Oper} {o : Oper} {a : Act} {K : Act → World → Prop} {Q : Exit → Act → World → Prop} {E : Prop} (hgd : o.guard = none) (s x : Operand) (t : TypeId)
    (ho : o.op = .call { callee := .builtin .append, args := #[s, x], argTypes := #[t, t] })
    (base : Nat) (e : TypeId) (i : TypeInfo) (z : Value) (size bytes : Nat) (ht : P.underlying t = some (.slice e)) (hi : P.info? e = some i) (hz : i.zero = some z)
    (hsize : i.size = size) (hby : i.bytes = bytes) (hzs : z.cells.size = size) (hsz : 0 < size)
    (v : Value) (n : Nat) (xs : List Value) (hs : a.eval s = v) (hown : w.ownsRow base e size v n xs)
    (b2 : Nat) (u : Value) (m : Nat) (news : List Value) (hx : a.eval x = u) (hsrc : w.ownsRow b2 e size u m news) (h1 : ∀ y ∈ news, y.oneCell' = true) (h63 : n + m ≤ maxLen) (hbytes : (n + m) * bytes ≤ 140737488355328) (hbase : base ≤ w.heap.size)
    (h : ∀ v' w', w'.ownsRow base e size v' (n + m) (xs ++ news) → w.grownBy w' v.ownBlock → (v'.ownBlock = v.ownBlock ∨ v'.ownBlock = some w.heap.size) → K (a.put o.dst v') w') :
    if Region.wanted o (yielded ops a.tmps) = true then Oper.wp P o a w K Q else E := by
  have hw : Region.wanted o (yielded ops a.tmps) = true := by simp [Region.wanted, hgd]
  rw [if_pos hw]
  exact wp_append_any s x t ho base e i z size bytes ht hi hz hsize hby hzs hsz v n xs hs hown b2 u m news hx hsrc h1 h63 hbytes hbase h
end Go.Proofs.YtpnkhgjjlionnaaGreat
namespace Go.Proofs.YtpnkhgjjlionnaaGreat
open Go.RowKit Go.Maps

theorem infoTriER : (Tryz.prog.info? 60).map (fun i => (i.zero, i.size, i.bytes)) = some (some (.agg #[.int .i64 0, .int .i64 0, .int .i64 0]), 3, 24) := by kernel_rfl
theorem own_one_tri {W : World} {base g : Nat} {a b c : Value} (h : Blk W g 60 #[a, b, c]) (hb : base ≤ g) : W.ownsRow base 60 3 (.slice (some ⟨g, 0, none⟩) 1 1) 1 [a, b, c] := ⟨rfl, .inr ⟨g, 1, #[a, b, c], rfl, hb, h, Nat.le_refl _, by decide, rfl, rfl⟩⟩
/-- What is made so far: the soup at b4, the results' cells at b2. -/
structure EaStR (w W : World) (b2 b4 : Nat) (N : Int) (T : List Tr) (vT : Value) : Prop where
  k2 : Blk W b2 24 #[.int .i64 0, .slice none 0 0]
  k4 : Blk W b4 24 #[.int .i64 N, vT]
  rT : W.ownsRow w.heap.size 60 3 vT T.length (ws3 T)
  bel : Below w.heap.size w W
  l2 : w.heap.size ≤ b2
  l4 : w.heap.size ≤ b4
  ne : b2 ≠ b4
section
variable {w W W' w4 : World} {b2 b4 : Nat} {N N' : Int} {T : List Tr} {vT : Value}
theorem EaStR.below (h : EaStR w W b2 b4 N T vT) (hb : Below W.heap.size W W') : EaStR w W' b2 b4 N T vT :=
  ⟨h.k2.below hb h.k2.lt, h.k4.below hb h.k4.lt, own_below h.rT hb, h.bel.trans (hb.mono h.bel.size), h.l2, h.l4, h.ne⟩
theorem EaStR.alloc (h : EaStR w W b2 b4 N T vT) (o : Obj) : EaStR w (W.alloc o) b2 b4 N T vT := h.below ((Below.refl _ _).alloc (Nat.le_refl _) _)
theorem EaStR.drew (h : EaStR w W b2 b4 N T vT) : EaStR w W.drew b2 b4 N T vT := h.below (below_d (Below.refl _ _))
theorem EaStR.app (h : EaStR w W b2 b4 N T vT) (hg : W.grownBy w4 vT.ownBlock) {v4 : Value} {T4 : List Tr} (hr : w4.ownsRow w.heap.size 60 3 v4 T4.length (ws3 T4)) :
    Blk w4 b4 24 #[.int .i64 N, vT] ∧ EaStR w (w4.setCell ⟨b4, 1, none⟩ v4) b2 b4 N T4 v4 := by
  have c4 := h.k4.grown hg (fun e => own_blk_ne h.rT h.k4 (by decide) e.symm)
  have c2 := h.k2.grown hg (fun e => own_blk_ne h.rT h.k2 (by decide) e.symm)
  have hS : w4.grownBy (w4.setCell ⟨b4, 1, none⟩ v4) (some b4) := gStR (World.grownBy.refl _ _)
  exact ⟨c4, ⟨c2.far (p := ⟨b4, 1, none⟩) h.ne v4, by simpa using c4.set_ 1 v4, hr.kept hS (.inr (own_blk_ne hr c4 (by decide))), (h.bel.grown hg h.bel.size (fun j e => (h.rT.lt j e).1)).setCell h.l4 _, h.l2, h.l4, h.ne⟩⟩
end
set_option maxRecDepth 100000 in
set_option maxHeartbeats 4000000 in
theorem eachR_any (N : Int) (v : Value) (T : List Tr) (lb : Array Value) (F : Tr → Tr) (w : World) (h : TrisRd w v T) (hl : T.length ≤ 8192)
    (hp : ∀ (W : World) (t : Tr), t ∈ T → Below w.heap.size w W → Calls Tryz.prog 30 (#[.agg #[.int .i64 t.1, .int .i64 t.2.1, .int .i64 t.2.2]] ++ lb) W fun e W' => e = .returned (.agg #[.int .i64 (F t).1, .int .i64 (F t).2.1, .int .i64 (F t).2.2]) ∧ Below W.heap.size W W') :
    Calls Tryz.prog 29 #[.agg #[.int .i64 N, v], .func (.func 30) #[] lb] w fun e w' => ∃ vT, e = .returned (.agg #[.int .i64 N, vT]) ∧ w'.ownsRow w.heap.size 60 3 vT T.length (ws3 (T.map F)) ∧ Below w.heap.size w w' := by
  have HV := Lib.hid (fun (W : World) (hW : Below w.heap.size w W) => h.below hW)
  obtain ⟨aL, cL, rfl, -, -, hrd⟩ := h
  obtain ⟨n, hn⟩ : ∃ n, T.length = n := ⟨_, rfl⟩
  obtain ⟨i0, hi, hz0, hz1, hz2⟩ := info_parts infoTriER
  have HP := Lib.hid hp
  rw [hn] at hl ⊢
  have b0 := (((Blk.new w 24 #[.int .i64 N, .slice aL n cL]).alloc (.cells #[.int .i64 0, .slice none 0 0] 24)).alloc (.cells #[.int .i64 N, .slice none 0 0] 24))
  have hI0 : EaStR w (((w.alloc (.cells #[.int .i64 N, .slice aL n cL] 24)).alloc (.cells #[.int .i64 0, .slice none 0 0] 24)).alloc (.cells #[.int .i64 N, .slice none 0 0] 24)) (w.heap.size + 1) (w.heap.size + 1 + 1) N [] (.slice none 0 0) :=
    ⟨(blk_new_at (by simp)).alloc _, blk_new_at (by simp), World.ownsRow_nil _ _ _ _, (((Below.refl _ _).alloc (Nat.le_refl _) _).alloc (by simp) _).alloc (by simp; omega) _, by omega, by omega, by omega⟩
  have HI0 := Lib.hid hI0
  have HB0 := Lib.hid b0
  have Hn := Lib.hid hn
  clear hI0 hrd hn hp b0
  go_enter Tryz.func29, Tryz.ntmps29
  go_wp2
  go_loopw [14] (fun i wr => ∃ k : Nat, k ≤ n ∧ i = .int .i64 k ∧ ∃ vS, EaStR w wr (w.heap.size + 1) (w.heap.size + 1 + 1) N ((T.take k).map F) vS) (fun i _ => n - (intOf i).toNat)
  case atStart => exact ⟨0, Nat.zero_le _, rfl, _, HI0.out⟩
  case round =>
    rename World => wr
    obtain ⟨k, hk, rfl, vS, hI⟩ := hrel
    by_cases hlt : k < n
    · have hkl : k < T.length := by rw [Hn.out]; exact hlt
      obtain ⟨⟨px, py, pz⟩, hp⟩ : ∃ t, T[k]? = some t := ⟨T[k], List.getElem?_eq_getElem hkl⟩
      obtain ⟨a', c', e', -, -, hr⟩ := HV.out wr hI.bel
      rw [Hn.out] at e'
      cases e'
      obtain ⟨bT, oT, rfl, hbT, s0, s1, s2⟩ := hr k px py pz hp
      have hki : (k : Int) < (n : Int) := by omega
      have HI := Lib.hid hI
      have bq := Blk.new wr 60 #[.int .i64 px, .int .i64 py, .int .i64 pz]
      have hI' := hI.alloc (.cells #[.int .i64 px, .int .i64 py, .int .i64 pz] 60)
      have HPc := Lib.hid (HP.out (wr.alloc (.cells #[.int .i64 px, .int .i64 py, .int .i64 pz] 60)).drew (px, py, pz) (List.mem_of_getElem? hp) (below_d (hI.bel.alloc hI.bel.size _)))
      clear hI
      go_upto_region 5 with fail
      refine wp_region_U 8 (fun w' => w'.cell? ⟨w.heap.size + 1 + 1, 1, none⟩ = some vS ∧ w'.cell? ⟨wr.heap.size, 0, none⟩ = some (.int .i64 px) ∧ w'.cell? ⟨wr.heap.size, 1, none⟩ = some (.int .i64 py) ∧ w'.cell? ⟨wr.heap.size, 2, none⟩ = some (.int .i64 pz)) (by kernel_rfl) ⟨hI'.drew.k4.cell 1, bq.drew.cell 0, bq.drew.cell 1, bq.drew.cell 2⟩ ?_
      change AtU _ _ _ _ _ _ 9 (Array.replicate 9 false) _ _
      refine AtU.take (i := 0) (v := ?_) rfl (by kernel_rfl) (by kernel_rfl) (fun _ _ _ h => h) (by rfl) ?_ ?_
      rotate_left 1
      · intro w9 hSw; (try dsimp only at hSw); go_simp; try with_reducible rfl
      try simp only [Act.put, List.setIfInBounds_toArray, List.set_cons_zero, List.set_cons_succ]
      refine AtU.take (i := 1) (v := ?_) rfl (by kernel_rfl) (by kernel_rfl) (fun _ _ _ h => h) (by rfl) ?_ ?_
      rotate_left 1
      · intro w9 hSw; (try dsimp only at hSw); go_simp; try with_reducible rfl
      try simp only [Act.put, List.setIfInBounds_toArray, List.set_cons_zero, List.set_cons_succ]
      refine AtU.take (i := 2) (v := ?_) rfl (by kernel_rfl) (by kernel_rfl) (fun _ _ _ h => h) (by rfl) ?_ ?_
      rotate_left 1
      · intro w9 hSw; (try dsimp only at hSw); go_simp; try with_reducible rfl
      try simp only [Act.put, List.setIfInBounds_toArray, List.set_cons_zero, List.set_cons_succ]
      refine AtU.take (i := 3) (v := ?_) rfl (by kernel_rfl) (by kernel_rfl) (fun _ _ _ h => h) (by rfl) ?_ ?_
      rotate_left 1
      · intro w9 hSw; (try dsimp only at hSw); go_simp; try with_reducible rfl
      try simp only [Act.put, List.setIfInBounds_toArray, List.set_cons_zero, List.set_cons_succ]
      refine AtU.step (i := 4) rfl (by kernel_rfl) (fun K hK => ?_)
      go_wp2_with (go_at_call 30; go_loud (refine (HPc.out).mono ?_; rintro e w5 ⟨rfl, hb5⟩))
      have H5 := (hI'.drew.below hb5)
      have B5 := bq.drew.below hb5 (by simp)
      refine hK.out _ _ ⟨H5.k4.cell 1, B5.cell 0, B5.cell 1, B5.cell 2⟩ ?_
      clear hK K
      try simp only [Act.put, List.setIfInBounds_toArray, List.set_cons_zero, List.set_cons_succ]
      refine AtU.step (i := 5) rfl (by kernel_rfl) (fun K hK => ?_)
      go_simp
      have H6 := H5.alloc (.cells #[.int .i64 (F (px, py, pz)).1, .int .i64 (F (px, py, pz)).2.1, .int .i64 (F (px, py, pz)).2.2] 60)
      have B6 := B5.alloc (.cells #[.int .i64 (F (px, py, pz)).1, .int .i64 (F (px, py, pz)).2.1, .int .i64 (F (px, py, pz)).2.2] 60)
      have N6 := own_one_tri (Blk.new w5 60 #[.int .i64 (F (px, py, pz)).1, .int .i64 (F (px, py, pz)).2.1, .int .i64 (F (px, py, pz)).2.2]) (Nat.le_refl _)
      refine hK.out _ _ ⟨H6.k4.cell 1, B6.cell 0, B6.cell 1, B6.cell 2⟩ ?_
      clear hK K
      try simp only [Act.put, List.setIfInBounds_toArray, List.set_cons_zero, List.set_cons_succ]
      refine AtU.step (i := 6) rfl (by kernel_rfl) (fun K hK => ?_)
      obtain ⟨S9, hS9⟩ : ∃ S9, (T.take k).map F = S9 := ⟨_, rfl⟩
      have hl9 : S9.length ≤ 8192 := by rw [← hS9, List.length_map, List.length_take]; have := Hn.out; omega
      have HS9 := Lib.hid (show (T.take (k + 1)).map F = S9 ++ [F (px, py, pz)] from by
        rw [List.take_succ_eq_append_getElem hkl, List.map_append, hS9]
        have : T[k] = (px, py, pz) := by rw [List.getElem?_eq_getElem hkl] at hp; exact Option.some.inj hp
        rw [this]
        rfl)
      rw [hS9] at H6
      refine step_append_any _ (by rfl) (.tmp 19) (.tmp 23) 22 (by rfl) w.heap.size 60 i0 _ 3 24 Tryz.underlying22 hi hz0 hz1 hz2 (by rfl) (by decide) vS S9.length (ws3 S9) (by rfl) H6.rT w5.heap.size (.slice (some ⟨w5.heap.size, 0, none⟩) 1 1) 1 _ (by rfl) N6 (by simp [Value.oneCell']) (by unfold maxLen; omega) (by omega) H6.bel.size ?_
      intro v8 W8 hr8 hg8 hat8
      obtain ⟨a8, c8, rfl⟩ := ownsRow_slice hr8
      have h9 := H6.app hg8 (T4 := S9 ++ [F (px, py, pz)]) (v4 := .slice a8 (S9.length + 1) c8) (by rw [ws3_snoc, List.length_append]; exact hr8)
      obtain ⟨lx8, y0, r0, y1, r1⟩ := h9.1.two
      have B9 := B6.grown hg8 (fun e => absurd (HI.out.rT.lt _ e.symm).2 (Nat.lt_irrefl _))
      refine hK.out _ _ ⟨h9.1.cell 1, B9.cell 0, B9.cell 1, B9.cell 2⟩ ?_
      clear hK K
      try simp only [Act.put, List.setIfInBounds_toArray, List.set_cons_zero, List.set_cons_succ]
      refine AtU.take (i := 7) (v := ?_) rfl (by kernel_rfl) (by kernel_rfl) (fun _ _ _ h => h) (by rfl) ?_ ?_
      rotate_left 1
      · intro w9 hSw; (try dsimp only at hSw); go_simp; try with_reducible rfl
      try simp only [Act.put, List.setIfInBounds_toArray, List.set_cons_zero, List.set_cons_succ]
      refine AtU.last (i := 8) rfl (by kernel_rfl) (fun K hK => ?_)
      go_simp
      refine hK.out _ _ ?_
      clear hK K
      have HF9 := Lib.hid h9.2
      generalize W8.setCell ⟨w.heap.size + 1 + 1, 1, none⟩ _ = W9 at *
      clear y0 r0 y1 r1 lx8 hr8 hg8 hat8 h9 B9 H6 B6 N6 H5 B5 hI' bq hb5
      go_wp2
      go_roundw
      case measure => simp [intOf]; omega
      case rel => exact ⟨k + 1, by omega, by go_num, _, by rw [HS9.out]; exact HF9.out⟩
    · obtain rfl : k = n := by omega
      rw [List.take_of_length_le (by rw [Hn.out]; exact Nat.le_refl _)] at hI
      obtain ⟨aS, cS, hvS⟩ := ownsRow_slice hI.rT
      subst hvS
      have hln : (T.map F).length = k := by rw [List.length_map, Hn.out]
      rw [hln] at hI
      have HI := Lib.hid hI
      obtain ⟨l4, y0, f0, y1, f1⟩ := hI.k4.two
      obtain ⟨l2, z0, q0, z1, q1⟩ := hI.k2.two
      have hB2 := (hI.k2.set_ 0 (.int .i64 N)).set_ 1 (.slice aS k cS)
      have HF := Lib.hid (And.intro (show Blk _ (w.heap.size + 1) 24 #[.int .i64 N, .slice aS k cS] from by simpa using hB2) (And.intro (own_alloc_st (i := 1) (u := .slice aS k cS) (own_alloc_st (i := 0) (u := .int .i64 N) (hln ▸ hI.rT) hI.k2 (by decide)) (hI.k2.set_ 0 (.int .i64 N)) (by decide)) ((hI.bel.setCell (p := ⟨w.heap.size + 1, 0, none⟩) (by simp) (.int .i64 N)).setCell (p := ⟨w.heap.size + 1, 1, none⟩) (by simp) (.slice aS k cS))))
      clear hI hB2
      go_wp2
      obtain ⟨hb2, hr2, hbel⟩ := HF.out
      obtain ⟨-, p0, -, p1, -⟩ := hb2.two
      refine bodyPost_ret (v := .agg #[.int .i64 N, .slice aS k cS]) (by simp [results, Tryz.results29, go_sem, p0, p1]) rfl ?_
      exact ⟨_, rfl, hr2, hbel⟩
end Go.Proofs.YtpnkhgjjlionnaaGreat
namespace Go.Proofs.YtpnkhgjjlionnaaGreat
open Go.RowKit Go.Maps

section
variable {w W W' w4 : World} {b2 b4 : Nat} {N N' : Int} {T : List Tr} {vT : Value}
end
theorem fitsS_n {N : Int} {T : List Tr} (h : fitsS N T = true) : 0 ≤ N ∧ N ≤ 4096 ∧ T.length ≤ 8192 := by
  unfold fitsS at h
  rw [Bool.and_eq_true] at h
  exact of_decide_eq_true h.1
theorem fitsS_t {N : Int} {T : List Tr} (h : fitsS N T = true) : ∀ t ∈ T, fitsM t N := by
  unfold fitsS at h
  rw [Bool.and_eq_true, Bool.not_eq_true', List.any_eq_false] at h
  intro t ht
  have := h.2 t ht
  simpa using this
end Go.Proofs.YtpnkhgjjlionnaaGreat
namespace Go.Proofs.YtpnkhgjjlionnaaGreat
open Go.RowKit Go.Maps

theorem own_lower9 {w : World} {base base' : Nat} {e : TypeId} {size n : Nat} {v : Value} {xs : List Value} (h : w.ownsRow base e size v n xs) (hb : base' ≤ base) : w.ownsRow base' e size v n xs := by
  refine ⟨h.1, ?_⟩
  rcases h.2 with hn | ⟨g, cap, cur, rfl, hb1, rest⟩
  · exact .inl hn
  · exact .inr ⟨g, cap, cur, rfl, Nat.le_trans hb hb1, rest⟩
/-- Where things lie in soup.Rename. -/
structure RnSt (w W : World) (q n F : Nat) (aT : Option Addr) (cT : Nat) (aO : Option Addr) (cO : Nat) (bs : List Bool) : Prop where
  k0 : Blk W w.heap.size 24 #[.int .i64 (n : Int), .slice aT F cT]
  k1 : Blk W (w.heap.size + 1) 30 #[.slice aO n cO]
  k2 : Blk W (w.heap.size + 1 + 1) 24 #[.int .i64 0, .slice none 0 0]
  row : W.ownsRow w.heap.size 4 1 (.slice (some ⟨q, 0, none⟩) n n) n (bools bs)
  bel : Below w.heap.size w W
theorem RnSt.mark {w W : World} {q n F : Nat} {aT : Option Addr} {cT : Nat} {aO : Option Addr} {cO : Nat} {bs : List Bool} (h : RnSt w W q n F aT cT aO cO bs) (hq : w.heap.size + 3 ≤ q) (u : Nat) : RnSt w (W.setCell ⟨q, u, none⟩ (.bool true)) q n F aT cT aO cO (bs.set u true) where
  k0 := h.k0.far (p := ⟨q, u, none⟩) (by simp only; omega) _
  k1 := h.k1.far (p := ⟨q, u, none⟩) (by simp only; omega) _
  k2 := h.k2.far (p := ⟨q, u, none⟩) (by simp only; omega) _
  row := by rw [← bools_set]; exact (h.row.stored u _).1
  bel := h.bel.setCell (p := ⟨q, u, none⟩) (by simp only; omega) _
set_option maxRecDepth 100000 in
set_option maxHeartbeats 4000000 in
theorem rename_any (n : Nat) (v vO : Value) (T : List Tr) (tw : List Int) (w : World) (hT : TrisRd w v T) (hO : IntsRd w vO tw) (hf : fitsS (n : Int) T = true) (hto : AllN n tw) :
    Calls Tryz.prog 10 #[.agg #[.int .i64 (n : Int), v], vO] w fun e w' => ∃ vT, e = .returned (.tuple #[.agg #[.int .i64 (n : Int), vT], .int .i64 0]) ∧ w'.ownsRow w.heap.size 60 3 vT T.length (ws3 (T.map (renT (toF tw)))) ∧ Below w.heap.size w w' := by
  obtain ⟨i2, hj', hz0, hz1, hz2⟩ := info_parts infoBool
  have hfn := fitsS_n hf
  have HIN := Lib.hid (show ∀ t ∈ T, in3 n t from fun t ht => by
    have := fitsS_t hf t ht
    exact ⟨this.1, this.2.1, this.2.2.1⟩)
  have HRT := Lib.hid (fun (W : World) (hW : Below w.heap.size w W) => hT.below hW)
  have HRO := Lib.hid (fun (W : World) (hW : Below w.heap.size w W) => hO.below hW)
  have HFt := Lib.hid (fun (W : World) (hW : Below w.heap.size w W) => (soupFits_any (n : Int) v T W (hT.below hW) (by omega)).mono (fun e w' h => by rw [hf] at h; exact h))
  have HTo := Lib.hid hto
  obtain ⟨aT, cT, rfl, -⟩ := hT
  obtain ⟨aO, cO, rfl, -, hrO⟩ := hO
  have hml := hto.len
  rw [hml] at HRO ⊢
  obtain ⟨F, hF⟩ : ∃ F, T.length = F := ⟨_, rfl⟩
  have HFl := Lib.hid hF
  rw [hF] at HRT HFt hfn ⊢
  have hB0 : Below w.heap.size w (((w.alloc (.cells #[.int .i64 (n : Int), .slice aT F cT] 24)).alloc (.cells #[.slice aO n cO] 30)).alloc (.cells #[.int .i64 0, .slice none 0 0] 24)) := (((Below.refl _ _).alloc (Nat.le_refl _) _).alloc (by simp) _).alloc (by simp; omega) _
  have b0 := ((Blk.new w 24 #[.int .i64 (n : Int), .slice aT F cT]).alloc (.cells #[.slice aO n cO] 30)).alloc (.cells #[.int .i64 0, .slice none 0 0] 24)
  have b1 : Blk (((w.alloc (.cells #[.int .i64 (n : Int), .slice aT F cT] 24)).alloc (.cells #[.slice aO n cO] 30)).alloc (.cells #[.int .i64 0, .slice none 0 0] 24)) (w.heap.size + 1) 30 #[.slice aO n cO] := (blk_new_at (by simp)).alloc _
  have b2 : Blk (((w.alloc (.cells #[.int .i64 (n : Int), .slice aT F cT] 24)).alloc (.cells #[.slice aO n cO] 30)).alloc (.cells #[.int .i64 0, .slice none 0 0] 24)) (w.heap.size + 1 + 1) 24 #[.int .i64 0, .slice none 0 0] := blk_new_at (by simp)
  have HB0 := Lib.hid hB0
  have HB := Lib.hid (And.intro b0 (And.intro b1 b2))
  obtain ⟨l0, x0, -, x1, -⟩ := b0.two
  clear hB0 b0 b1 b2 hF hml
  go_enter Tryz.func10, Tryz.ntmps10
  go_wp2_with fail
  refine (HFt.out _ HB0.out).mono ?_
  rintro e w1 ⟨rfl, hb1⟩
  have hBW := HB0.out.trans (hb1.mono HB0.out.size)
  have k0 := HB.out.1.below hb1 HB.out.1.lt
  have k1 := HB.out.2.1.below hb1 HB.out.2.1.lt
  have k2 := HB.out.2.2.below hb1 HB.out.2.2.lt
  have hs1 := hb1.size
  simp only [size_alloc'] at hs1
  clear x0 x1 l0 HFt hb1
  obtain ⟨l0, x0, -, x1, -⟩ := k0.two
  obtain ⟨l1, y0, f0⟩ := k1.one
  go_upto_region 4 with (at_make; refine wpList_make_full _ rfl (.tmp 14) (.tmp 14) 66 rfl w.heap.size 4 i2 _ 1 Tryz.underlying66 hj' hz0 hz1 .i64 .i64 _ _ n rfl rfl rfl rfl (by rw [hz2]; omega) (by unfold maxLen; omega) (by omega) ?_; intro w2 hr2 hg2)
  rw [made_bools] at hr2
  have hI0 : RnSt w w2 w1.heap.size n F aT cT aO cO (List.replicate n false) :=
    ⟨k0.grown hg2 (by simp), k1.grown hg2 (by simp), k2.grown hg2 (by simp), hr2, hBW.grown hg2 (by omega) (fun j e => by cases e)⟩
  have HI0 := Lib.hid hI0
  have hq3 : w.heap.size + 3 ≤ w1.heap.size := by omega
  have k1' := hI0.k1
  obtain ⟨l1', y0', f0'⟩ := k1'.one
  clear hI0 hr2 hg2 hBW k0 k1 k2 k1' x0 x1 l0 l1 y0 f0 hs1 HB HB0 hrO
  generalize w1.heap.size = q at *
  go_wp2
  clear l1' y0' f0'
  go_loopw [18] (fun i wr => ∃ (k : Nat) (bs : List Bool), k ≤ n ∧ i = .int .i64 k ∧ RnSt w wr q n F aT cT aO cO bs ∧ BitsOf bs n (tw.take k)) (fun i _ => n - (intOf i).toNat)
  case atStart => exact ⟨0, _, Nat.zero_le _, rfl, HI0.out, BitsOf.none_ n⟩
  case round =>
    rename World => wr
    obtain ⟨k, bs, hk, rfl, hI, hbs⟩ := hrel
    by_cases hlt : k < n
    · have hkl : k < tw.length := by rw [HTo.out.len]; exact hlt
      obtain ⟨a', c', e', -, hr⟩ := HRO.out wr hI.bel
      rw [HTo.out.len] at e'
      cases e'
      obtain ⟨b, o, rfl, hbl, cv⟩ := hr k _ (List.getElem?_eq_getElem hkl)
      obtain ⟨x, hx⟩ : ∃ x, tw[k] = x := ⟨_, rfl⟩
      rw [hx] at cv
      have hxr := HTo.out.rng x (by rw [← hx]; exact List.getElem_mem hkl)
      have htk : tw.take (k + 1) = tw.take k ++ [x] := by rw [List.take_succ_eq_append_getElem hkl, hx]
      have hnd : x ∉ tw.take k := by
        have h2 := (List.nodup_append.1 (by rw [List.take_append_drop]; exact HTo.out.nd : (tw.take (k + 1) ++ tw.drop (k + 1)).Nodup)).1
        rw [htk] at h2
        exact fun hm => (List.nodup_append.1 h2).2.2 _ hm _ (List.mem_singleton_self _) rfl
      obtain ⟨x, rfl⟩ : ∃ u : Nat, x = u := ⟨x.toNat, by omega⟩
      have hcb : bs[x]? = some false := by
        obtain ⟨cb, hcb⟩ : ∃ cb, bs[x]? = some cb := ⟨bs[x]'(by rw [hbs.1]; omega), List.getElem?_eq_getElem _⟩
        cases cb with
        | false => exact hcb
        | true => exact absurd ((hbs.2 x (by omega)).1 hcb) hnd
      have hc : wr.cell? ⟨q, x, none⟩ = some (.bool false) := by rw [hI.row.cellAt x (by omega), bools, List.getElem?_map, hcb]; rfl
      have hfz := hI.row.frozenAt x
      have hlq := (hI.row.lt q rfl).2
      have hk3 : (k : Int) < (n : Int) := by omega
      have hk0 : (0 : Int) ≤ (k : Int) := by omega
      have hx3 : (x : Int) < (n : Int) := by omega
      have hx1 : ¬ (n : Int) ≤ (x : Int) := by omega
      have hx0 : ¬ (x : Int) < 0 := by omega
      obtain ⟨l0, x0, -, x1, -⟩ := hI.k0.two
      have HI := Lib.hid (hI.mark hq3 x)
      have HBs := Lib.hid (show BitsOf (bs.set x true) n (tw.take (k + 1)) from by rw [htk]; exact hbs.mark (by omega))
      clear hI hbs hr hx hxr htk hnd hcb hkl
      go_wp2
      go_roundw
      case measure => simp [intOf]; omega
      case rel => exact ⟨k + 1, _, by omega, by go_num, HI.out, HBs.out⟩
    · obtain rfl : k = n := by omega
      obtain ⟨l0, x0, -, x1, -⟩ := hI.k0.two
      obtain ⟨l1, y0, f0⟩ := hI.k1.one
      have HE := Lib.hid (eachR_any (k : Int) (.slice aT F cT) T #[.pointer (some ⟨w.heap.size + 1, 0, none⟩)] (renT (toF tw)) wr (HRT.out _ hI.bel) (by rw [HFl.out]; omega) (fun W t ht hW => ren1_any (w.heap.size + 1) k (.slice aO k cO) tw t W (HRO.out W (hI.bel.trans (hW.mono hI.bel.size))) HTo.out.len ((hW.cell (p := ⟨w.heap.size + 1, 0, none⟩) l1).trans y0) (Nat.lt_of_lt_of_le l1 hW.size) (HIN.out t ht) (by omega)))
      have HI := Lib.hid hI
      clear hI hbs
      go_wp2_with (go_at_call 29; refine HE.out.mono ?_; rintro e w3 ⟨vT, rfl, hrT, hb3⟩; obtain ⟨a9, c9, rfl⟩ := ownsRow_slice hrT; obtain ⟨l2, z0, g0, z1, g1⟩ := (HI.out.k2.below hb3 HI.out.k2.lt).two)
      have h2 := HI.out.k2.below hb3 HI.out.k2.lt
      have hK := (h2.set_ 0 (.int .i64 (k : Int))).set_ 1 (.slice a9 T.length c9)
      have hK2 : Blk ((w3.setCell ⟨w.heap.size + 1 + 1, 0, none⟩ (.int .i64 (k : Int))).setCell ⟨w.heap.size + 1 + 1, 1, none⟩ (.slice a9 T.length c9)) (w.heap.size + 1 + 1) 24 #[.int .i64 (k : Int), .slice a9 T.length c9] := by simpa using hK
      obtain ⟨-, p0, -, p1, -⟩ := hK2.two
      refine bodyPost_ret (v := .tuple #[.agg #[.int .i64 (k : Int), .slice a9 T.length c9], .int .i64 0]) (by simp [results, Tryz.results10, go_sem, p0, p1]) rfl ?_
      have hsz := HI.out.bel.size
      rw [← HFl.out]
      exact ⟨_, rfl, own_lower9 (own_alloc_st (i := 1) (u := .slice a9 T.length c9) (own_alloc_st (i := 0) (u := .int .i64 (k : Int)) hrT h2 (by decide)) (h2.set_ 0 (.int .i64 (k : Int))) (by decide)) hsz, ((HI.out.bel.trans (hb3.mono hsz)).setCell (p := ⟨w.heap.size + 1 + 1, 0, none⟩) (by simp only; omega) _).setCell (p := ⟨w.heap.size + 1 + 1, 1, none⟩) (by simp only; omega) _⟩
end Go.Proofs.YtpnkhgjjlionnaaGreat
namespace Go.Proofs.YtpnkhgjjlionnaaGreat
open Go.RowKit Go.Maps

theorem infoTriP : (Tryz.prog.info? 60).map (fun i => (i.zero, i.size, i.bytes)) = some (some (.agg #[.int .i64 0, .int .i64 0, .int .i64 0]), 3, 24) := by kernel_rfl
/-- The triple of a corner's triangle, from that corner on, out of the triangle itself. -/
def rotT (t : Tr) (k : Nat) : Tr := if k = 0 then t else if k = 1 then (t.2.1, t.2.2, t.1) else (t.2.2, t.1, t.2.1)
theorem turnAt_rot {T : List Tr} {c : Nat} {t : Tr} (h : T[c / 3]? = some t) : turnAt T c = rotT t (c % 3) := by
  have ta : ∀ e, e / 3 = c / 3 → triAt T e = t := fun e he => by unfold triAt; rw [he, h]; rfl
  have n3 : Jor.nx c / 3 = c / 3 := by unfold Jor.nx; omega
  have p3 : Jor.pv c / 3 = c / 3 := by unfold Jor.pv; omega
  unfold turnAt vertN rotT
  rw [ta c rfl, ta _ n3, ta _ p3]
  rcases (by omega : c % 3 = 0 ∨ c % 3 = 1 ∨ c % 3 = 2) with hm | hm | hm
  · have h1 : Jor.nx c % 3 = 1 := by unfold Jor.nx; omega
    have h2 : Jor.pv c % 3 = 2 := by unfold Jor.pv; omega
    simp only [hm, h1, h2]
    rfl
  · have h1 : Jor.nx c % 3 = 2 := by unfold Jor.nx; omega
    have h2 : Jor.pv c % 3 = 0 := by unfold Jor.pv; omega
    simp only [hm, h1, h2]
    rfl
  · have h1 : Jor.nx c % 3 = 0 := by unfold Jor.nx; omega
    have h2 : Jor.pv c % 3 = 1 := by unfold Jor.pv; omega
    simp only [hm, h1, h2]
    rfl
/-- Where things lie in soup.Pick. -/
structure PkSt (w W : World) (q : Nat) (N : Int) (aT : Option Addr) (F cT : Nat) (M : List Tr) (vT : Value) : Prop where
  k0 : Blk W w.heap.size 24 #[.int .i64 N, .slice aT F cT]
  e : EaStR w W (w.heap.size + 1) q N M vT
  ne : w.heap.size ≠ q
theorem PkSt.alloc {w W : World} {q : Nat} {N : Int} {aT : Option Addr} {F cT : Nat} {M : List Tr} {vT : Value} (h : PkSt w W q N aT F cT M vT) (o : Obj) : PkSt w (W.alloc o) q N aT F cT M vT := ⟨h.k0.alloc o, h.e.alloc o, h.ne⟩
theorem PkSt.drew {w W : World} {q : Nat} {N : Int} {aT : Option Addr} {F cT : Nat} {M : List Tr} {vT : Value} (h : PkSt w W q N aT F cT M vT) : PkSt w W.drew q N aT F cT M vT := ⟨h.k0.drew, h.e.drew, h.ne⟩
theorem PkSt.app {w W w4 : World} {q : Nat} {N : Int} {aT : Option Addr} {F cT : Nat} {M : List Tr} {vT : Value} (h : PkSt w W q N aT F cT M vT) (hg : W.grownBy w4 vT.ownBlock) {v4 : Value} {T4 : List Tr} (hr : w4.ownsRow w.heap.size 60 3 v4 T4.length (ws3 T4)) :
    Blk w4 q 24 #[.int .i64 N, vT] ∧ PkSt w (w4.setCell ⟨q, 1, none⟩ v4) q N aT F cT T4 v4 := by
  obtain ⟨h1, h2⟩ := h.e.app hg hr
  have c0 := h.k0.grown hg (fun e => own_blk_ne h.e.rT h.k0 (by decide) e.symm)
  exact ⟨h1, c0.far (p := ⟨q, 1, none⟩) h.ne _, h2, h.ne⟩
set_option maxRecDepth 100000 in
set_option maxHeartbeats 8000000 in
theorem pick_any (N : Int) (v vP : Value) (T : List Tr) (p : List Nat) (w : World) (hT : TrisRd w v T) (hP : IntsRd w vP (p.map fun c : Nat => (c : Int))) (hf : fitsS N T = true) (hpr : ∀ c ∈ p, c < 3 * T.length) (hl : p.length ≤ 8192) :
    Calls Tryz.prog 11 #[.agg #[.int .i64 N, v], vP] w fun e w' => ∃ vT, e = .returned (.tuple #[.agg #[.int .i64 N, vT], .int .i64 0]) ∧ w'.ownsRow w.heap.size 60 3 vT p.length (ws3 (pickM T p)) ∧ Below w.heap.size w w' := by
  obtain ⟨i0, hi, hz0, hz1, hz2⟩ := info_parts infoTriP
  have hfn := fitsS_n hf
  have HRT := Lib.hid (fun (W : World) (hW : Below w.heap.size w W) => hT.below hW)
  have HRP := Lib.hid (fun (W : World) (hW : Below w.heap.size w W) => hP.below hW)
  have HFt := Lib.hid (fun (W : World) (hW : Below w.heap.size w W) => (soupFits_any N v T W (hT.below hW) (by omega)).mono (fun e w' h => by rw [hf] at h; exact h))
  obtain ⟨aT, cT, rfl, -⟩ := hT
  obtain ⟨aP, cP, rfl, -⟩ := hP
  obtain ⟨F, hF⟩ : ∃ F, T.length = F := ⟨_, rfl⟩
  obtain ⟨n, hn⟩ : ∃ n, p.length = n := ⟨_, rfl⟩
  have hn' : (p.map fun c : Nat => (c : Int)).length = n := by rw [List.length_map, hn]
  have HL := Lib.hid (And.intro hF hn)
  have HL' := Lib.hid hn'
  rw [hF] at HRT HFt hfn hpr ⊢
  rw [hn'] at HRP ⊢
  rw [hn] at hl ⊢
  have HPr := Lib.hid hpr
  have hB0 : Below w.heap.size w ((w.alloc (.cells #[.int .i64 N, .slice aT F cT] 24)).alloc (.cells #[.int .i64 0, .slice none 0 0] 24)) := ((Below.refl _ _).alloc (Nat.le_refl _) _).alloc (by simp) _
  have b0 := (Blk.new w 24 #[.int .i64 N, .slice aT F cT]).alloc (.cells #[.int .i64 0, .slice none 0 0] 24)
  have b1 : Blk ((w.alloc (.cells #[.int .i64 N, .slice aT F cT] 24)).alloc (.cells #[.int .i64 0, .slice none 0 0] 24)) (w.heap.size + 1) 24 #[.int .i64 0, .slice none 0 0] := blk_new_at (by simp)
  have HB0 := Lib.hid hB0
  have HB := Lib.hid (And.intro b0 b1)
  obtain ⟨l0, x0, -, x1, -⟩ := b0.two
  clear hB0 b0 b1 hF hn hn' hpr
  go_enter Tryz.func11, Tryz.ntmps11
  go_wp2_with fail
  refine (HFt.out _ HB0.out).mono ?_
  rintro e w1 ⟨rfl, hb1⟩
  have hBW := HB0.out.trans (hb1.mono HB0.out.size)
  have k0 := HB.out.1.below hb1 HB.out.1.lt
  have k1 := HB.out.2.below hb1 HB.out.2.lt
  have hs1 := hb1.size
  simp only [size_alloc'] at hs1
  clear x0 x1 l0 HFt hb1
  obtain ⟨l0, x0, -, x1, -⟩ := k0.two
  have hI0 : PkSt w (w1.alloc (.cells #[.int .i64 N, .slice none 0 0] 24)) w1.heap.size N aT F cT [] (.slice none 0 0) :=
    ⟨k0.alloc _, ⟨k1.alloc _, Blk.new _ _ _, World.ownsRow_nil _ _ _ _, hBW.alloc hBW.size _, by omega, by omega, by omega⟩, by omega⟩
  have HI0 := Lib.hid hI0
  go_upto_region 4 with fail
  generalize hW2 : w1.alloc (.cells #[.int .i64 N, .slice none 0 0] 24) = w2 at *
  clear hI0 k0 k1 x0 x1 l0 hBW HB HB0
  go_wp2
  go_loopw [22] (fun i wr => ∃ k : Nat, k ≤ n ∧ i = .int .i64 k ∧ PkSt w wr w1.heap.size N aT F cT [] (.slice none 0 0)) (fun i _ => n - (intOf i).toNat)
  case atStart => exact ⟨0, Nat.zero_le _, rfl, HI0.out⟩
  case round =>
    rename World => wr
    obtain ⟨k, hk, rfl, hI⟩ := hrel
    by_cases hlt : k < n
    · have hkl : k < p.length := by rw [HL.out.2]; exact hlt
      obtain ⟨c, hc⟩ : ∃ c, p[k]? = some c := ⟨p[k], List.getElem?_eq_getElem hkl⟩
      obtain ⟨a', c', e', -, hr⟩ := HRP.out wr hI.e.bel
      rw [HL'.out] at e'
      cases e'
      obtain ⟨b, o, rfl, hbl, cv⟩ := hr k (c : Int) (by rw [List.getElem?_map, hc]; rfl)
      have hcr := HPr.out c (List.mem_of_getElem? hc)
      have hk3 : (k : Int) < (n : Int) := by omega
      have hc0 : ¬ (c : Int) < 0 := by omega
      have hc1 : ¬ 3 * (F : Int) ≤ (c : Int) := by omega
      obtain ⟨l0, x0, -, x1, -⟩ := hI.k0.two
      have HI := Lib.hid hI
      clear hI hr hc hcr hkl
      go_wp2
      go_roundw
      case measure => simp [intOf]; omega
      case rel => exact ⟨k + 1, by omega, by go_num, HI.out⟩
    · obtain rfl : k = n := by omega
      have HI := Lib.hid hI
      have d8 : ¬ (8192 : Int) < (k : Int) := by omega
      clear hI
      go_wp2
      go_loopw [44] (fun i wr => ∃ j : Nat, j ≤ k ∧ i = .int .i64 j ∧ ∃ vS, PkSt w wr w1.heap.size N aT F cT ((p.take j).map (turnAt T)) vS) (fun i _ => k - (intOf i).toNat)
      case atStart => exact ⟨0, Nat.zero_le _, rfl, _, HI.out⟩
      case round =>
        clear HI
        rename World => wr
        obtain ⟨j, hj, rfl, vS, hI⟩ := hrel
        by_cases hlj : j < k
        · have hjl : j < p.length := by rw [HL.out.2]; exact hlj
          obtain ⟨c, hc⟩ : ∃ c, p[j]? = some c := ⟨p[j], List.getElem?_eq_getElem hjl⟩
          obtain ⟨a', c', e', -, hr⟩ := HRP.out wr hI.e.bel
          rw [HL'.out] at e'
          cases e'
          obtain ⟨b, o, rfl, hbl, cv⟩ := hr j (c : Int) (by rw [List.getElem?_map, hc]; rfl)
          have hcr := HPr.out c (List.mem_of_getElem? hc)
          have hk3 : (j : Int) < (k : Int) := by omega
          have hcl : c / 3 < T.length := by rw [HL.out.1]; omega
          obtain ⟨⟨px, py, pz⟩, hp⟩ : ∃ t, T[c / 3]? = some t := ⟨T[c / 3], List.getElem?_eq_getElem hcl⟩
          obtain ⟨a', c', e', -, -, hrT⟩ := HRT.out wr hI.e.bel
          rw [HL.out.1] at e'
          cases e'
          obtain ⟨bT, oT, rfl, hbT, s0, s1, s2⟩ := hrT (c / 3) px py pz hp
          obtain ⟨ct, hct⟩ : ∃ ct, c / 3 = ct := ⟨_, rfl⟩
          obtain ⟨ck, hck⟩ : ∃ ck, c % 3 = ck := ⟨_, rfl⟩
          have hck3 : ck = 0 ∨ ck = 1 ∨ ck = 2 := by omega
          have e1 : (c : Int).tdiv 3 = (ct : Int) := by rw [Int.tdiv_eq_ediv_of_nonneg (by omega)]; omega
          have e2 : (c : Int).tmod 3 = (ck : Int) := by rw [Int.tmod_eq_emod_of_nonneg (by omega)]; omega
          have hct3 : (ct : Int) < (F : Int) := by omega
          have hct0 : (0 : Int) ≤ (ct : Int) := by omega
          obtain ⟨S9, hS9⟩ : ∃ S9, (p.take j).map (turnAt T) = S9 := ⟨_, rfl⟩
          have hl9 : S9.length ≤ 8192 := by rw [← hS9, List.length_map, List.length_take]; have := HL.out.2; omega
          have hS9' : (p.take (j + 1)).map (turnAt T) = S9 ++ [rotT (px, py, pz) ck] := by
            rw [List.take_succ_eq_append_getElem hjl, List.map_append, hS9]
            have h1 : p[j] = c := by rw [List.getElem?_eq_getElem hjl] at hc; exact Option.some.inj hc
            rw [h1]
            show S9 ++ [turnAt T c] = _
            rw [turnAt_rot hp, hck]
          rw [hS9] at hI
          rw [hct] at s0 s1 s2
          obtain ⟨l0, x0, -, x1, -⟩ := hI.k0.two
          have HI := Lib.hid hI
          have HI' := Lib.hid (hI.alloc (.cells #[.int .i64 px, .int .i64 py, .int .i64 pz] 60))
          have HBq := Lib.hid (Blk.new wr 60 #[.int .i64 px, .int .i64 py, .int .i64 pz])
          have HS9 := Lib.hid hS9'
          clear hI hr hrT hc hcr hp hjl hcl hck hct hS9 hS9'
          have w1' : (IntKind.i64.wrap 1).tmod 3 = 1 := by decide
          have w2' : (IntKind.i64.wrap 2).tmod 3 = 2 := by decide
          have w3' : (IntKind.i64.wrap 3).tmod 3 = 0 := by decide
          have w4' : (IntKind.i64.wrap 4).tmod 3 = 1 := by decide
          rcases hck3 with rfl | rfl | rfl
          · skip
            push_cast
            go_upto_region 16 with fail
            refine wp_region_U 19 (fun w' => w'.cell? ⟨w1.heap.size, 1, none⟩ = some vS ∧ w'.cell? ⟨wr.heap.size, 0, none⟩ = some (.int .i64 px) ∧ w'.cell? ⟨wr.heap.size, 1, none⟩ = some (.int .i64 py) ∧ w'.cell? ⟨wr.heap.size, 2, none⟩ = some (.int .i64 pz)) (by kernel_rfl) ⟨HI'.out.e.drew.k4.cell 1, HBq.out.drew.cell 0, HBq.out.drew.cell 1, HBq.out.drew.cell 2⟩ ?_
            change AtU _ _ _ _ _ _ 20 (Array.replicate 20 false) _ _
            refine AtU.take (i := 0) (v := ?_) rfl (by kernel_rfl) (by kernel_rfl) (fun _ _ _ h => h) (by rfl) ?_ ?_
            rotate_left 1
            · intro w9 hSw; (try dsimp only at hSw); go_simp; try with_reducible rfl
            try simp only [Act.put, List.setIfInBounds_toArray, List.set_cons_zero, List.set_cons_succ]
            refine AtU.take (i := 1) (v := ?_) rfl (by kernel_rfl) (by kernel_rfl) (fun _ _ _ h => h) (by rfl) ?_ ?_
            rotate_left 1
            · intro w9 hSw; (try dsimp only at hSw); go_simp; try with_reducible rfl
            try simp only [Act.put, List.setIfInBounds_toArray, List.set_cons_zero, List.set_cons_succ]
            refine AtU.take (i := 2) (v := ?_) rfl (by kernel_rfl) (by kernel_rfl) (fun _ _ _ h => h) (by rfl) ?_ ?_
            rotate_left 1
            · intro w9 hSw; (try dsimp only at hSw); go_simp; try with_reducible rfl
            try simp only [Act.put, List.setIfInBounds_toArray, List.set_cons_zero, List.set_cons_succ]
            refine AtU.take (i := 3) (v := ?_) rfl (by kernel_rfl) (by kernel_rfl) (fun _ _ _ h => h) (by rfl) ?_ ?_
            rotate_left 1
            · intro w9 hSw; (try dsimp only at hSw); go_simp; try with_reducible rfl
            try simp only [Act.put, List.setIfInBounds_toArray, List.set_cons_zero, List.set_cons_succ]
            refine AtU.take (i := 4) (v := ?_) rfl (by kernel_rfl) (by kernel_rfl) (fun _ _ _ h => h) (by rfl) ?_ ?_
            rotate_left 1
            · intro w9 hSw; (try dsimp only at hSw); go_simp; try with_reducible rfl
            try simp only [Act.put, List.setIfInBounds_toArray, List.set_cons_zero, List.set_cons_succ]
            refine AtU.take (i := 5) (v := ?_) rfl (by kernel_rfl) (by kernel_rfl) (fun _ _ _ h => h) (by rfl) ?_ ?_
            rotate_left 1
            · intro w9 hSw; (try dsimp only at hSw); go_simp; try with_reducible rfl
            try simp only [Act.put, List.setIfInBounds_toArray, List.set_cons_zero, List.set_cons_succ]
            refine AtU.take (i := 6) (v := ?_) rfl (by kernel_rfl) (by kernel_rfl) (fun _ _ _ h => h) (by rfl) ?_ ?_
            rotate_left 1
            · intro w9 hSw; (try dsimp only at hSw); go_simp; try with_reducible rfl
            try simp only [Act.put, List.setIfInBounds_toArray, List.set_cons_zero, List.set_cons_succ]
            refine AtU.take (i := 7) (v := ?_) rfl (by kernel_rfl) (by kernel_rfl) (fun _ _ _ h => h) (by rfl) ?_ ?_
            rotate_left 1
            · intro w9 hSw; (try dsimp only at hSw); go_simp; try with_reducible rfl
            try simp only [Act.put, List.setIfInBounds_toArray, List.set_cons_zero, List.set_cons_succ]
            refine AtU.take (i := 8) (v := ?_) rfl (by kernel_rfl) (by kernel_rfl) (fun _ _ _ h => h) (by rfl) ?_ ?_
            rotate_left 1
            · intro w9 hSw; (try dsimp only at hSw); go_simp; try with_reducible rfl
            try simp only [Act.put, List.setIfInBounds_toArray, List.set_cons_zero, List.set_cons_succ]
            refine AtU.take (i := 9) (v := ?_) rfl (by kernel_rfl) (by kernel_rfl) (fun _ _ _ h => h) (by rfl) ?_ ?_
            rotate_left 1
            · intro w9 hSw; (try dsimp only at hSw); go_simp; try with_reducible rfl
            try simp only [Act.put, List.setIfInBounds_toArray, List.set_cons_zero, List.set_cons_succ]
            refine AtU.take (i := 10) (v := ?_) rfl (by kernel_rfl) (by kernel_rfl) (fun _ _ _ h => h) (by rfl) ?_ ?_
            rotate_left 1
            · intro w9 hSw; (try dsimp only at hSw); go_simp; try with_reducible rfl
            try simp only [Act.put, List.setIfInBounds_toArray, List.set_cons_zero, List.set_cons_succ]
            refine AtU.take (i := 11) (v := ?_) rfl (by kernel_rfl) (by kernel_rfl) (fun _ _ _ h => h) (by rfl) ?_ ?_
            rotate_left 1
            · intro w9 hSw; (try dsimp only at hSw); go_simp; try with_reducible rfl
            try simp only [Act.put, List.setIfInBounds_toArray, List.set_cons_zero, List.set_cons_succ]
            refine AtU.take (i := 12) (v := ?_) rfl (by kernel_rfl) (by kernel_rfl) (fun _ _ _ h => h) (by rfl) ?_ ?_
            rotate_left 1
            · intro w9 hSw; (try dsimp only at hSw); go_simp; try with_reducible rfl
            try simp only [Act.put, List.setIfInBounds_toArray, List.set_cons_zero, List.set_cons_succ]
            refine AtU.take (i := 13) (v := ?_) rfl (by kernel_rfl) (by kernel_rfl) (fun _ _ _ h => h) (by rfl) ?_ ?_
            rotate_left 1
            · intro w9 hSw; (try dsimp only at hSw); go_simp; try with_reducible rfl
            try simp only [Act.put, List.setIfInBounds_toArray, List.set_cons_zero, List.set_cons_succ]
            refine AtU.take (i := 14) (v := ?_) rfl (by kernel_rfl) (by kernel_rfl) (fun _ _ _ h => h) (by rfl) ?_ ?_
            rotate_left 1
            · intro w9 hSw; (try dsimp only at hSw); go_simp; try with_reducible rfl
            try simp only [Act.put, List.setIfInBounds_toArray, List.set_cons_zero, List.set_cons_succ]
            refine AtU.take (i := 15) (v := ?_) rfl (by kernel_rfl) (by kernel_rfl) (fun _ _ _ h => h) (by rfl) ?_ ?_
            rotate_left 1
            · intro w9 hSw; (try dsimp only at hSw); go_simp; try with_reducible rfl
            try simp only [Act.put, List.setIfInBounds_toArray, List.set_cons_zero, List.set_cons_succ]
            refine AtU.step (i := 16) rfl (by kernel_rfl) (fun K hK => ?_)
            go_simp
            have H6 := HI'.out.drew.alloc (.cells #[.int .i64 px, .int .i64 py, .int .i64 pz] 60)
            have B6 := HBq.out.drew.alloc (.cells #[.int .i64 px, .int .i64 py, .int .i64 pz] 60)
            have N6 : ((wr.alloc (.cells #[.int .i64 px, .int .i64 py, .int .i64 pz] 60)).drew.alloc (.cells #[.int .i64 px, .int .i64 py, .int .i64 pz] 60)).ownsRow (wr.heap.size + 1) 60 3 (.slice (some ⟨wr.heap.size + 1, 0, none⟩) 1 1) 1 [.int .i64 px, .int .i64 py, .int .i64 pz] := own_one_tri (by have hb9 := Blk.new (wr.alloc (.cells #[.int .i64 px, .int .i64 py, .int .i64 pz] 60)).drew 60 #[.int .i64 px, .int .i64 py, .int .i64 pz]; rwa [show (wr.alloc (.cells #[.int .i64 px, .int .i64 py, .int .i64 pz] 60)).drew.heap.size = wr.heap.size + 1 from size_alloc' _ _] at hb9) (Nat.le_refl _)
            refine hK.out _ _ ⟨H6.e.k4.cell 1, B6.cell 0, B6.cell 1, B6.cell 2⟩ ?_
            clear hK K
            try simp only [Act.put, List.setIfInBounds_toArray, List.set_cons_zero, List.set_cons_succ]
            refine AtU.step (i := 17) rfl (by kernel_rfl) (fun K hK => ?_)
            refine step_append_any _ (by rfl) (.tmp 57) (.tmp 72) 22 (by rfl) w.heap.size 60 i0 _ 3 24 Tryz.underlying22 hi hz0 hz1 hz2 (by rfl) (by decide) vS S9.length (ws3 S9) (by rfl) H6.e.rT (wr.heap.size + 1) (.slice (some ⟨wr.heap.size + 1, 0, none⟩) 1 1) 1 _ (by rfl) N6 (by simp [Value.oneCell']) (by unfold maxLen; omega) (by omega) H6.e.bel.size ?_
            intro v8 W8 hr8 hg8 hat8
            obtain ⟨a8, c8, rfl⟩ := ownsRow_slice hr8
            have h9 := H6.app hg8 (T4 := S9 ++ [(px, py, pz)]) (v4 := .slice a8 (S9.length + 1) c8) (by rw [ws3_snoc, List.length_append]; exact hr8)
            obtain ⟨lx8, y0, r0, y1, r1⟩ := h9.1.two
            have B9 := B6.grown hg8 (fun e => absurd (HI.out.e.rT.lt _ e.symm).2 (Nat.lt_irrefl _))
            refine hK.out _ _ ⟨h9.1.cell 1, B9.cell 0, B9.cell 1, B9.cell 2⟩ ?_
            clear hK K
            try simp only [Act.put, List.setIfInBounds_toArray, List.set_cons_zero, List.set_cons_succ]
            refine AtU.take (i := 18) (v := ?_) rfl (by kernel_rfl) (by kernel_rfl) (fun _ _ _ h => h) (by rfl) ?_ ?_
            rotate_left 1
            · intro w9 hSw; (try dsimp only at hSw); go_simp; try with_reducible rfl
            try simp only [Act.put, List.setIfInBounds_toArray, List.set_cons_zero, List.set_cons_succ]
            refine AtU.last (i := 19) rfl (by kernel_rfl) (fun K hK => ?_)
            go_simp
            refine hK.out _ _ ?_
            clear hK K
            have HF9 := Lib.hid h9.2
            generalize W8.setCell ⟨w1.heap.size, 1, none⟩ _ = W9 at *
            clear y0 r0 y1 r1 lx8 hr8 hg8 hat8 h9 B9 H6 B6 N6
            go_wp2
            go_roundw
            case measure => simp [intOf]; omega
            case rel => exact ⟨j + 1, by omega, by go_num, _, by rw [HS9.out]; exact HF9.out⟩
          · skip
            push_cast
            go_upto_region 16 with fail
            refine wp_region_U 19 (fun w' => w'.cell? ⟨w1.heap.size, 1, none⟩ = some vS ∧ w'.cell? ⟨wr.heap.size, 0, none⟩ = some (.int .i64 px) ∧ w'.cell? ⟨wr.heap.size, 1, none⟩ = some (.int .i64 py) ∧ w'.cell? ⟨wr.heap.size, 2, none⟩ = some (.int .i64 pz)) (by kernel_rfl) ⟨HI'.out.e.drew.k4.cell 1, HBq.out.drew.cell 0, HBq.out.drew.cell 1, HBq.out.drew.cell 2⟩ ?_
            change AtU _ _ _ _ _ _ 20 (Array.replicate 20 false) _ _
            refine AtU.take (i := 0) (v := ?_) rfl (by kernel_rfl) (by kernel_rfl) (fun _ _ _ h => h) (by rfl) ?_ ?_
            rotate_left 1
            · intro w9 hSw; (try dsimp only at hSw); go_simp; try with_reducible rfl
            try simp only [Act.put, List.setIfInBounds_toArray, List.set_cons_zero, List.set_cons_succ]
            refine AtU.take (i := 1) (v := ?_) rfl (by kernel_rfl) (by kernel_rfl) (fun _ _ _ h => h) (by rfl) ?_ ?_
            rotate_left 1
            · intro w9 hSw; (try dsimp only at hSw); go_simp; try with_reducible rfl
            try simp only [Act.put, List.setIfInBounds_toArray, List.set_cons_zero, List.set_cons_succ]
            refine AtU.take (i := 2) (v := ?_) rfl (by kernel_rfl) (by kernel_rfl) (fun _ _ _ h => h) (by rfl) ?_ ?_
            rotate_left 1
            · intro w9 hSw; (try dsimp only at hSw); go_simp; try with_reducible rfl
            try simp only [Act.put, List.setIfInBounds_toArray, List.set_cons_zero, List.set_cons_succ]
            refine AtU.take (i := 3) (v := ?_) rfl (by kernel_rfl) (by kernel_rfl) (fun _ _ _ h => h) (by rfl) ?_ ?_
            rotate_left 1
            · intro w9 hSw; (try dsimp only at hSw); go_simp; try with_reducible rfl
            try simp only [Act.put, List.setIfInBounds_toArray, List.set_cons_zero, List.set_cons_succ]
            refine AtU.take (i := 4) (v := ?_) rfl (by kernel_rfl) (by kernel_rfl) (fun _ _ _ h => h) (by rfl) ?_ ?_
            rotate_left 1
            · intro w9 hSw; (try dsimp only at hSw); go_simp; try with_reducible rfl
            try simp only [Act.put, List.setIfInBounds_toArray, List.set_cons_zero, List.set_cons_succ]
            refine AtU.take (i := 5) (v := ?_) rfl (by kernel_rfl) (by kernel_rfl) (fun _ _ _ h => h) (by rfl) ?_ ?_
            rotate_left 1
            · intro w9 hSw; (try dsimp only at hSw); go_simp; try with_reducible rfl
            try simp only [Act.put, List.setIfInBounds_toArray, List.set_cons_zero, List.set_cons_succ]
            refine AtU.take (i := 6) (v := ?_) rfl (by kernel_rfl) (by kernel_rfl) (fun _ _ _ h => h) (by rfl) ?_ ?_
            rotate_left 1
            · intro w9 hSw; (try dsimp only at hSw); go_simp; try with_reducible rfl
            try simp only [Act.put, List.setIfInBounds_toArray, List.set_cons_zero, List.set_cons_succ]
            refine AtU.take (i := 7) (v := ?_) rfl (by kernel_rfl) (by kernel_rfl) (fun _ _ _ h => h) (by rfl) ?_ ?_
            rotate_left 1
            · intro w9 hSw; (try dsimp only at hSw); go_simp; try with_reducible rfl
            try simp only [Act.put, List.setIfInBounds_toArray, List.set_cons_zero, List.set_cons_succ]
            refine AtU.take (i := 8) (v := ?_) rfl (by kernel_rfl) (by kernel_rfl) (fun _ _ _ h => h) (by rfl) ?_ ?_
            rotate_left 1
            · intro w9 hSw; (try dsimp only at hSw); go_simp; try with_reducible rfl
            try simp only [Act.put, List.setIfInBounds_toArray, List.set_cons_zero, List.set_cons_succ]
            refine AtU.take (i := 9) (v := ?_) rfl (by kernel_rfl) (by kernel_rfl) (fun _ _ _ h => h) (by rfl) ?_ ?_
            rotate_left 1
            · intro w9 hSw; (try dsimp only at hSw); go_simp; try with_reducible rfl
            try simp only [Act.put, List.setIfInBounds_toArray, List.set_cons_zero, List.set_cons_succ]
            refine AtU.take (i := 10) (v := ?_) rfl (by kernel_rfl) (by kernel_rfl) (fun _ _ _ h => h) (by rfl) ?_ ?_
            rotate_left 1
            · intro w9 hSw; (try dsimp only at hSw); go_simp; try with_reducible rfl
            try simp only [Act.put, List.setIfInBounds_toArray, List.set_cons_zero, List.set_cons_succ]
            refine AtU.take (i := 11) (v := ?_) rfl (by kernel_rfl) (by kernel_rfl) (fun _ _ _ h => h) (by rfl) ?_ ?_
            rotate_left 1
            · intro w9 hSw; (try dsimp only at hSw); go_simp; try with_reducible rfl
            try simp only [Act.put, List.setIfInBounds_toArray, List.set_cons_zero, List.set_cons_succ]
            refine AtU.take (i := 12) (v := ?_) rfl (by kernel_rfl) (by kernel_rfl) (fun _ _ _ h => h) (by rfl) ?_ ?_
            rotate_left 1
            · intro w9 hSw; (try dsimp only at hSw); go_simp; try with_reducible rfl
            try simp only [Act.put, List.setIfInBounds_toArray, List.set_cons_zero, List.set_cons_succ]
            refine AtU.take (i := 13) (v := ?_) rfl (by kernel_rfl) (by kernel_rfl) (fun _ _ _ h => h) (by rfl) ?_ ?_
            rotate_left 1
            · intro w9 hSw; (try dsimp only at hSw); go_simp; try with_reducible rfl
            try simp only [Act.put, List.setIfInBounds_toArray, List.set_cons_zero, List.set_cons_succ]
            refine AtU.take (i := 14) (v := ?_) rfl (by kernel_rfl) (by kernel_rfl) (fun _ _ _ h => h) (by rfl) ?_ ?_
            rotate_left 1
            · intro w9 hSw; (try dsimp only at hSw); go_simp; try with_reducible rfl
            try simp only [Act.put, List.setIfInBounds_toArray, List.set_cons_zero, List.set_cons_succ]
            refine AtU.take (i := 15) (v := ?_) rfl (by kernel_rfl) (by kernel_rfl) (fun _ _ _ h => h) (by rfl) ?_ ?_
            rotate_left 1
            · intro w9 hSw; (try dsimp only at hSw); go_simp; try with_reducible rfl
            try simp only [Act.put, List.setIfInBounds_toArray, List.set_cons_zero, List.set_cons_succ]
            refine AtU.step (i := 16) rfl (by kernel_rfl) (fun K hK => ?_)
            go_simp
            have H6 := HI'.out.drew.alloc (.cells #[.int .i64 py, .int .i64 pz, .int .i64 px] 60)
            have B6 := HBq.out.drew.alloc (.cells #[.int .i64 py, .int .i64 pz, .int .i64 px] 60)
            have N6 : ((wr.alloc (.cells #[.int .i64 px, .int .i64 py, .int .i64 pz] 60)).drew.alloc (.cells #[.int .i64 py, .int .i64 pz, .int .i64 px] 60)).ownsRow (wr.heap.size + 1) 60 3 (.slice (some ⟨wr.heap.size + 1, 0, none⟩) 1 1) 1 [.int .i64 py, .int .i64 pz, .int .i64 px] := own_one_tri (by have hb9 := Blk.new (wr.alloc (.cells #[.int .i64 px, .int .i64 py, .int .i64 pz] 60)).drew 60 #[.int .i64 py, .int .i64 pz, .int .i64 px]; rwa [show (wr.alloc (.cells #[.int .i64 px, .int .i64 py, .int .i64 pz] 60)).drew.heap.size = wr.heap.size + 1 from size_alloc' _ _] at hb9) (Nat.le_refl _)
            refine hK.out _ _ ⟨H6.e.k4.cell 1, B6.cell 0, B6.cell 1, B6.cell 2⟩ ?_
            clear hK K
            try simp only [Act.put, List.setIfInBounds_toArray, List.set_cons_zero, List.set_cons_succ]
            refine AtU.step (i := 17) rfl (by kernel_rfl) (fun K hK => ?_)
            refine step_append_any _ (by rfl) (.tmp 57) (.tmp 72) 22 (by rfl) w.heap.size 60 i0 _ 3 24 Tryz.underlying22 hi hz0 hz1 hz2 (by rfl) (by decide) vS S9.length (ws3 S9) (by rfl) H6.e.rT (wr.heap.size + 1) (.slice (some ⟨wr.heap.size + 1, 0, none⟩) 1 1) 1 _ (by rfl) N6 (by simp [Value.oneCell']) (by unfold maxLen; omega) (by omega) H6.e.bel.size ?_
            intro v8 W8 hr8 hg8 hat8
            obtain ⟨a8, c8, rfl⟩ := ownsRow_slice hr8
            have h9 := H6.app hg8 (T4 := S9 ++ [(py, pz, px)]) (v4 := .slice a8 (S9.length + 1) c8) (by rw [ws3_snoc, List.length_append]; exact hr8)
            obtain ⟨lx8, y0, r0, y1, r1⟩ := h9.1.two
            have B9 := B6.grown hg8 (fun e => absurd (HI.out.e.rT.lt _ e.symm).2 (Nat.lt_irrefl _))
            refine hK.out _ _ ⟨h9.1.cell 1, B9.cell 0, B9.cell 1, B9.cell 2⟩ ?_
            clear hK K
            try simp only [Act.put, List.setIfInBounds_toArray, List.set_cons_zero, List.set_cons_succ]
            refine AtU.take (i := 18) (v := ?_) rfl (by kernel_rfl) (by kernel_rfl) (fun _ _ _ h => h) (by rfl) ?_ ?_
            rotate_left 1
            · intro w9 hSw; (try dsimp only at hSw); go_simp; try with_reducible rfl
            try simp only [Act.put, List.setIfInBounds_toArray, List.set_cons_zero, List.set_cons_succ]
            refine AtU.last (i := 19) rfl (by kernel_rfl) (fun K hK => ?_)
            go_simp
            refine hK.out _ _ ?_
            clear hK K
            have HF9 := Lib.hid h9.2
            generalize W8.setCell ⟨w1.heap.size, 1, none⟩ _ = W9 at *
            clear y0 r0 y1 r1 lx8 hr8 hg8 hat8 h9 B9 H6 B6 N6
            go_wp2
            go_roundw
            case measure => simp [intOf]; omega
            case rel => exact ⟨j + 1, by omega, by go_num, _, by rw [HS9.out]; exact HF9.out⟩
          · skip
            push_cast
            go_upto_region 16 with fail
            refine wp_region_U 19 (fun w' => w'.cell? ⟨w1.heap.size, 1, none⟩ = some vS ∧ w'.cell? ⟨wr.heap.size, 0, none⟩ = some (.int .i64 px) ∧ w'.cell? ⟨wr.heap.size, 1, none⟩ = some (.int .i64 py) ∧ w'.cell? ⟨wr.heap.size, 2, none⟩ = some (.int .i64 pz)) (by kernel_rfl) ⟨HI'.out.e.drew.k4.cell 1, HBq.out.drew.cell 0, HBq.out.drew.cell 1, HBq.out.drew.cell 2⟩ ?_
            change AtU _ _ _ _ _ _ 20 (Array.replicate 20 false) _ _
            refine AtU.take (i := 0) (v := ?_) rfl (by kernel_rfl) (by kernel_rfl) (fun _ _ _ h => h) (by rfl) ?_ ?_
            rotate_left 1
            · intro w9 hSw; (try dsimp only at hSw); go_simp; try with_reducible rfl
            try simp only [Act.put, List.setIfInBounds_toArray, List.set_cons_zero, List.set_cons_succ]
            refine AtU.take (i := 1) (v := ?_) rfl (by kernel_rfl) (by kernel_rfl) (fun _ _ _ h => h) (by rfl) ?_ ?_
            rotate_left 1
            · intro w9 hSw; (try dsimp only at hSw); go_simp; try with_reducible rfl
            try simp only [Act.put, List.setIfInBounds_toArray, List.set_cons_zero, List.set_cons_succ]
            refine AtU.take (i := 2) (v := ?_) rfl (by kernel_rfl) (by kernel_rfl) (fun _ _ _ h => h) (by rfl) ?_ ?_
            rotate_left 1
            · intro w9 hSw; (try dsimp only at hSw); go_simp; try with_reducible rfl
            try simp only [Act.put, List.setIfInBounds_toArray, List.set_cons_zero, List.set_cons_succ]
            refine AtU.take (i := 3) (v := ?_) rfl (by kernel_rfl) (by kernel_rfl) (fun _ _ _ h => h) (by rfl) ?_ ?_
            rotate_left 1
            · intro w9 hSw; (try dsimp only at hSw); go_simp; try with_reducible rfl
            try simp only [Act.put, List.setIfInBounds_toArray, List.set_cons_zero, List.set_cons_succ]
            refine AtU.take (i := 4) (v := ?_) rfl (by kernel_rfl) (by kernel_rfl) (fun _ _ _ h => h) (by rfl) ?_ ?_
            rotate_left 1
            · intro w9 hSw; (try dsimp only at hSw); go_simp; try with_reducible rfl
            try simp only [Act.put, List.setIfInBounds_toArray, List.set_cons_zero, List.set_cons_succ]
            refine AtU.take (i := 5) (v := ?_) rfl (by kernel_rfl) (by kernel_rfl) (fun _ _ _ h => h) (by rfl) ?_ ?_
            rotate_left 1
            · intro w9 hSw; (try dsimp only at hSw); go_simp; try with_reducible rfl
            try simp only [Act.put, List.setIfInBounds_toArray, List.set_cons_zero, List.set_cons_succ]
            refine AtU.take (i := 6) (v := ?_) rfl (by kernel_rfl) (by kernel_rfl) (fun _ _ _ h => h) (by rfl) ?_ ?_
            rotate_left 1
            · intro w9 hSw; (try dsimp only at hSw); go_simp; try with_reducible rfl
            try simp only [Act.put, List.setIfInBounds_toArray, List.set_cons_zero, List.set_cons_succ]
            refine AtU.take (i := 7) (v := ?_) rfl (by kernel_rfl) (by kernel_rfl) (fun _ _ _ h => h) (by rfl) ?_ ?_
            rotate_left 1
            · intro w9 hSw; (try dsimp only at hSw); go_simp; try with_reducible rfl
            try simp only [Act.put, List.setIfInBounds_toArray, List.set_cons_zero, List.set_cons_succ]
            refine AtU.take (i := 8) (v := ?_) rfl (by kernel_rfl) (by kernel_rfl) (fun _ _ _ h => h) (by rfl) ?_ ?_
            rotate_left 1
            · intro w9 hSw; (try dsimp only at hSw); go_simp; try with_reducible rfl
            try simp only [Act.put, List.setIfInBounds_toArray, List.set_cons_zero, List.set_cons_succ]
            refine AtU.take (i := 9) (v := ?_) rfl (by kernel_rfl) (by kernel_rfl) (fun _ _ _ h => h) (by rfl) ?_ ?_
            rotate_left 1
            · intro w9 hSw; (try dsimp only at hSw); go_simp; try with_reducible rfl
            try simp only [Act.put, List.setIfInBounds_toArray, List.set_cons_zero, List.set_cons_succ]
            refine AtU.take (i := 10) (v := ?_) rfl (by kernel_rfl) (by kernel_rfl) (fun _ _ _ h => h) (by rfl) ?_ ?_
            rotate_left 1
            · intro w9 hSw; (try dsimp only at hSw); go_simp; try with_reducible rfl
            try simp only [Act.put, List.setIfInBounds_toArray, List.set_cons_zero, List.set_cons_succ]
            refine AtU.take (i := 11) (v := ?_) rfl (by kernel_rfl) (by kernel_rfl) (fun _ _ _ h => h) (by rfl) ?_ ?_
            rotate_left 1
            · intro w9 hSw; (try dsimp only at hSw); go_simp; try with_reducible rfl
            try simp only [Act.put, List.setIfInBounds_toArray, List.set_cons_zero, List.set_cons_succ]
            refine AtU.take (i := 12) (v := ?_) rfl (by kernel_rfl) (by kernel_rfl) (fun _ _ _ h => h) (by rfl) ?_ ?_
            rotate_left 1
            · intro w9 hSw; (try dsimp only at hSw); go_simp; try with_reducible rfl
            try simp only [Act.put, List.setIfInBounds_toArray, List.set_cons_zero, List.set_cons_succ]
            refine AtU.take (i := 13) (v := ?_) rfl (by kernel_rfl) (by kernel_rfl) (fun _ _ _ h => h) (by rfl) ?_ ?_
            rotate_left 1
            · intro w9 hSw; (try dsimp only at hSw); go_simp; try with_reducible rfl
            try simp only [Act.put, List.setIfInBounds_toArray, List.set_cons_zero, List.set_cons_succ]
            refine AtU.take (i := 14) (v := ?_) rfl (by kernel_rfl) (by kernel_rfl) (fun _ _ _ h => h) (by rfl) ?_ ?_
            rotate_left 1
            · intro w9 hSw; (try dsimp only at hSw); go_simp; try with_reducible rfl
            try simp only [Act.put, List.setIfInBounds_toArray, List.set_cons_zero, List.set_cons_succ]
            refine AtU.take (i := 15) (v := ?_) rfl (by kernel_rfl) (by kernel_rfl) (fun _ _ _ h => h) (by rfl) ?_ ?_
            rotate_left 1
            · intro w9 hSw; (try dsimp only at hSw); go_simp; try with_reducible rfl
            try simp only [Act.put, List.setIfInBounds_toArray, List.set_cons_zero, List.set_cons_succ]
            refine AtU.step (i := 16) rfl (by kernel_rfl) (fun K hK => ?_)
            go_simp
            have H6 := HI'.out.drew.alloc (.cells #[.int .i64 pz, .int .i64 px, .int .i64 py] 60)
            have B6 := HBq.out.drew.alloc (.cells #[.int .i64 pz, .int .i64 px, .int .i64 py] 60)
            have N6 : ((wr.alloc (.cells #[.int .i64 px, .int .i64 py, .int .i64 pz] 60)).drew.alloc (.cells #[.int .i64 pz, .int .i64 px, .int .i64 py] 60)).ownsRow (wr.heap.size + 1) 60 3 (.slice (some ⟨wr.heap.size + 1, 0, none⟩) 1 1) 1 [.int .i64 pz, .int .i64 px, .int .i64 py] := own_one_tri (by have hb9 := Blk.new (wr.alloc (.cells #[.int .i64 px, .int .i64 py, .int .i64 pz] 60)).drew 60 #[.int .i64 pz, .int .i64 px, .int .i64 py]; rwa [show (wr.alloc (.cells #[.int .i64 px, .int .i64 py, .int .i64 pz] 60)).drew.heap.size = wr.heap.size + 1 from size_alloc' _ _] at hb9) (Nat.le_refl _)
            refine hK.out _ _ ⟨H6.e.k4.cell 1, B6.cell 0, B6.cell 1, B6.cell 2⟩ ?_
            clear hK K
            try simp only [Act.put, List.setIfInBounds_toArray, List.set_cons_zero, List.set_cons_succ]
            refine AtU.step (i := 17) rfl (by kernel_rfl) (fun K hK => ?_)
            refine step_append_any _ (by rfl) (.tmp 57) (.tmp 72) 22 (by rfl) w.heap.size 60 i0 _ 3 24 Tryz.underlying22 hi hz0 hz1 hz2 (by rfl) (by decide) vS S9.length (ws3 S9) (by rfl) H6.e.rT (wr.heap.size + 1) (.slice (some ⟨wr.heap.size + 1, 0, none⟩) 1 1) 1 _ (by rfl) N6 (by simp [Value.oneCell']) (by unfold maxLen; omega) (by omega) H6.e.bel.size ?_
            intro v8 W8 hr8 hg8 hat8
            obtain ⟨a8, c8, rfl⟩ := ownsRow_slice hr8
            have h9 := H6.app hg8 (T4 := S9 ++ [(pz, px, py)]) (v4 := .slice a8 (S9.length + 1) c8) (by rw [ws3_snoc, List.length_append]; exact hr8)
            obtain ⟨lx8, y0, r0, y1, r1⟩ := h9.1.two
            have B9 := B6.grown hg8 (fun e => absurd (HI.out.e.rT.lt _ e.symm).2 (Nat.lt_irrefl _))
            refine hK.out _ _ ⟨h9.1.cell 1, B9.cell 0, B9.cell 1, B9.cell 2⟩ ?_
            clear hK K
            try simp only [Act.put, List.setIfInBounds_toArray, List.set_cons_zero, List.set_cons_succ]
            refine AtU.take (i := 18) (v := ?_) rfl (by kernel_rfl) (by kernel_rfl) (fun _ _ _ h => h) (by rfl) ?_ ?_
            rotate_left 1
            · intro w9 hSw; (try dsimp only at hSw); go_simp; try with_reducible rfl
            try simp only [Act.put, List.setIfInBounds_toArray, List.set_cons_zero, List.set_cons_succ]
            refine AtU.last (i := 19) rfl (by kernel_rfl) (fun K hK => ?_)
            go_simp
            refine hK.out _ _ ?_
            clear hK K
            have HF9 := Lib.hid h9.2
            generalize W8.setCell ⟨w1.heap.size, 1, none⟩ _ = W9 at *
            clear y0 r0 y1 r1 lx8 hr8 hg8 hat8 h9 B9 H6 B6 N6
            go_wp2
            go_roundw
            case measure => simp [intOf]; omega
            case rel => exact ⟨j + 1, by omega, by go_num, _, by rw [HS9.out]; exact HF9.out⟩
        · obtain rfl : j = k := by omega
          rw [List.take_of_length_le (by rw [HL.out.2]; exact Nat.le_refl _)] at hI
          obtain ⟨aS, cS, rfl⟩ := ownsRow_slice hI.e.rT
          have hln : (p.map (turnAt T)).length = j := by rw [List.length_map, HL.out.2]
          rw [hln] at hI
          have HI := Lib.hid hI
          obtain ⟨l4, y0, f0, y1, f1⟩ := hI.e.k4.two
          obtain ⟨l2, z0, q0, z1, q1⟩ := hI.e.k2.two
          have hB2 := (hI.e.k2.set_ 0 (.int .i64 N)).set_ 1 (.slice aS j cS)
          have HF := Lib.hid (And.intro (show Blk _ (w.heap.size + 1) 24 #[.int .i64 N, .slice aS j cS] from by simpa using hB2) (And.intro (own_alloc_st (i := 1) (u := .slice aS j cS) (own_alloc_st (i := 0) (u := .int .i64 N) (hln ▸ hI.e.rT) hI.e.k2 (by decide)) (hI.e.k2.set_ 0 (.int .i64 N)) (by decide)) ((hI.e.bel.setCell (p := ⟨w.heap.size + 1, 0, none⟩) (by simp) (.int .i64 N)).setCell (p := ⟨w.heap.size + 1, 1, none⟩) (by simp) (.slice aS j cS))))
          clear hI hB2
          go_wp2
          obtain ⟨hb2, hr2, hbel⟩ := HF.out
          obtain ⟨-, p0, -, p1, -⟩ := hb2.two
          refine bodyPost_ret (v := .tuple #[.agg #[.int .i64 N, .slice aS j cS], .int .i64 0]) (by simp [results, Tryz.results11, go_sem, p0, p1]) rfl ?_
          exact ⟨_, rfl, hr2, hbel⟩
end Go.Proofs.YtpnkhgjjlionnaaGreat
namespace Go.Proofs.YtpnkhgjjlionnaaGreat
open Go.RowKit

def insRen : Go.Shelf.Ren := ⟨fun | 21 => 95 | 27 => 116 | 28 => 117 | 35 => 139 | 39 => 78 | n => n, fun | 22 => 30 | 3 => 3 | 4 => 4 | n => n, fun | n => n⟩
theorem infoInt9 : (Tryz.prog.info? 3).map (fun i => (i.zero, i.size, i.bytes)) = some (some (.int .i64 0), 1, 8) := by kernel_rfl
theorem insLays : Go.Proofs.Lays2.n21 Tryz.prog insRen := {
  mixed := by kernel_rfl
  f21 := Tryz.func95.trans (congrArg some (by kernel_rfl))
  f27 := Tryz.func116.trans (congrArg some (by kernel_rfl))
  f28 := Tryz.func117.trans (congrArg some (by kernel_rfl))
  f35 := Tryz.func139.trans (congrArg some (by kernel_rfl))
  f39 := Tryz.func78.trans (congrArg some (by kernel_rfl))
  t0 := Tryz.underlying0
  a0 := Tryz.isAgg0
  z0 := Tryz.sizeOf0
  v0 := Tryz.zeroValue0
  t3 := Tryz.underlying3
  a3 := Tryz.isAgg3
  z3 := Tryz.sizeOf3
  v3 := Tryz.zeroValue3
  t4 := Tryz.underlying4
  a4 := Tryz.isAgg4
  z4 := Tryz.sizeOf4
  v4 := Tryz.zeroValue4
  t22 := Tryz.underlying30
  a22 := Tryz.isAgg30
  z22 := Tryz.sizeOf30
  v22 := Tryz.zeroValue30
  i3 := infoInt9 }

/-! Cells stored one behind the other. -/
theorem setCells_row {g : Nat} {t : TypeId} {fr : Nat × Nat} : ∀ (vs : List Value) (o : Nat) (w : World) (C : List Value), w.heap[g]? = some (.cells C.toArray t fr) → o + vs.length ≤ C.length → (w.setCells g o vs).heap[g]? = some (.cells (C.take o ++ vs ++ C.drop (o + vs.length)).toArray t fr)
  | [], o, w, C, h, _ => by
    rw [World.setCells, h]
    simp
  | v :: vs, o, w, C, h, hl => by
    rw [World.setCells]
    simp only [List.length_cons] at hl
    have h1 : (w.setCell ⟨g, o, none⟩ v).heap[g]? = some (.cells (C.set o v).toArray t fr) := by
      simp [World.setCell, Array.getElem?_modify, h]
    rw [setCells_row vs (o + 1) _ _ h1 (by simp; omega)]
    have e1 : (C.set o v).take (o + 1) = C.take o ++ [v] := by
      rw [List.take_succ_eq_append_getElem (by simp; omega), List.take_set, List.set_eq_of_length_le (by rw [List.length_take]; omega)]
      simp
    have e2 : (C.set o v).drop (o + 1 + vs.length) = C.drop (o + (v :: vs).length) := by
      rw [List.drop_set_of_lt (by omega)]
      congr 1
      simp only [List.length_cons]
      omega
    rw [e1, e2]
    simp
theorem setCells_row2 {g : Nat} {t : TypeId} {fr : Nat × Nat} (vs us : List Value) (o p : Nat) (w : World) (C : List Value) (h : w.heap[g]? = some (.cells C.toArray t fr)) (h1 : o + vs.length ≤ C.length) (h2 : p + us.length ≤ C.length) :
    ((w.setCells g o vs).drew.setCells g p us).heap[g]? = some (.cells ((C.take o ++ vs ++ C.drop (o + vs.length)).take p ++ us ++ (C.take o ++ vs ++ C.drop (o + vs.length)).drop (p + us.length)).toArray t fr) :=
  setCells_row us p (w.setCells g o vs).drew (C.take o ++ vs ++ C.drop (o + vs.length)) (setCells_row vs o w C h h1) (by simp only [List.length_append, List.length_take, List.length_drop]; omega)
theorem gSets {w : World} {row : Option Nat} {g : Nat} (hp : row = some g ∨ w.heap.size ≤ g) : ∀ (vs : List Value) (o : Nat) (a : World), w.grownBy a row → w.grownBy (a.setCells g o vs) row
  | [], _, _, h => h
  | v :: vs, o, a, h => by
    rw [World.setCells]
    exact gSets hp vs (o + 1) _ (gSt h hp)
set_option maxRecDepth 100000 in
theorem insert_any (base b : Nat) (vL : Value) (a v : Int) (l : List Int) (w : World) (h : w.ownsRow base 3 1 vL (l.length + 1) ((a :: l).map (Value.int .i64))) (hl : 0 < l.length) (hlen : l.length ≤ 100000) (hb : Blk w b 3 #[.int .i64 v]) (hne : vL.ownBlock ≠ some b) (hbase : base ≤ w.heap.size) :
    Calls Tryz.prog 95 #[vL, .int .i64 1, .slice (some ⟨b, 0, none⟩) 1 1] w fun e w' => ∃ v', e = .returned v' ∧ w'.ownsRow base 3 1 v' (l.length + 2) ((a :: v :: l).map (Value.int .i64)) ∧ w.grownBy w' vL.ownBlock ∧ (v'.ownBlock = vL.ownBlock ∨ ∃ g, v'.ownBlock = some g ∧ w.heap.size ≤ g) := by
  rcases h.2 with ⟨_, e0⟩ | ⟨g, cap, cur, rfl, hg0, hg, hn, hcm, hcs, hct⟩
  · omega
  have hgb : b ≠ g := fun e => hne (by rw [e]; rfl)
  have hgl : g < w.heap.size := (Array.getElem?_eq_some_iff.1 hg).1
  obtain ⟨C⟩ := cur
  simp only [Nat.mul_one, List.size_toArray] at hcs hct
  have hC : C.take (l.length + 1) = (a :: l).map (Value.int .i64) := by simpa using hct
  have hcell : ∀ j u, ((a :: l).map (Value.int .i64))[j]? = some u → w.cell? ⟨g, 0 + j, none⟩ = some u := by
    intro j u hj
    rw [Nat.zero_add, cell_of_row w g j _ _ _ hg]
    rw [← hC] at hj
    have hj2 := (List.getElem?_eq_some_iff.1 hj).1
    rw [List.length_take] at hj2
    rw [List.getElem?_take_of_lt (by omega)] at hj
    simpa using hj
  have hv : ∀ j u, [Value.int .i64 v][j]? = some u → w.cell? ⟨b, 0 + j, none⟩ = some u := by
    intro j u hj
    rw [Nat.zero_add, hb.cell]
    simpa using hj
  have h1c : ∀ u ∈ (a :: l).map (Value.int .i64), u.oneCell' = true := by
    intro u hu
    obtain ⟨x, _, rfl⟩ := List.mem_map.1 hu
    rfl
  have h1v : ∀ u ∈ [Value.int .i64 v], u.oneCell' = true := by
    intro u hu
    rw [List.mem_singleton.1 hu]
    rfl
  by_cases hroom : l.length + 1 + 1 ≤ cap
  · refine (Any2.slices_Insert_int_shift insLays g 0 (l.length + 1) cap 1 b 0 1 1 ((a :: l).map (Value.int .i64)) [.int .i64 v] w (by omega) (by omega) hroom (by unfold maxLen at hcm; omega) hgb (by simp) rfl hcell
      (fun j hj => by rw [Nat.zero_add, cell_of_row w g j _ _ _ hg]; simp; omega) (fun j _ => by simp [World.frozen?, hg]) hv h1c h1v 3 3 1 cap (by unfold Blk at hb; simp [World.shape?, hb]) (by simp [World.shape?, hg, hcs]) (by omega) (hb.frozen 0) (hb.frozen 1)).mono ?_
    rintro e w' ⟨rfl, rfl⟩
    have h1 := setCells_row ((((a :: l).map (Value.int .i64))).drop 1) (0 + (1 + 1)) w.drew C hg (by simp; omega)
    have h2 := setCells_row [Value.int .i64 v] (0 + 1) _ _ h1 (by simp; omega)
    refine ⟨_, rfl, ⟨by simp, .inr ⟨g, cap, _, rfl, hg0, h2, hroom, hcm, ?_, ?_⟩⟩, gSets (.inl rfl) _ _ _ (gSets (.inl rfl) _ _ _ (gDrew (World.grownBy.refl _ _))), .inl rfl⟩
    · simp
      omega
    · simp only [List.map_cons, List.drop_succ_cons, List.drop_zero, Nat.zero_add, List.length_cons, List.length_nil, Nat.mul_one]
      obtain ⟨c0, C', rfl⟩ : ∃ c0 C', C = c0 :: C' := List.exists_cons_of_ne_nil (by rintro rfl; simp at hcs; omega)
      simp only [List.take_succ_cons, List.map_cons, List.cons.injEq] at hC
      obtain ⟨rfl, hC'⟩ := hC
      obtain ⟨c1, C'', rfl⟩ : ∃ c1 C'', C' = c1 :: C'' := List.exists_cons_of_ne_nil (by rintro rfl; simp at hcs; omega)
      simp
  · refine (Any2.slices_Insert_int_grow insLays g 0 (l.length + 1) cap 1 b 0 1 1 ((a :: l).map (Value.int .i64)) [.int .i64 v] w (by omega) (by omega) hn (by omega) (by omega) (by simp) rfl hcell hv h1c h1v).mono ?_
    rintro e w' ⟨rfl, rfl⟩
    obtain ⟨k, hk⟩ : ∃ k, grownCap w (l.length + 1 + 1) cap (insRen.t 3) = k := ⟨_, rfl⟩
    have hk1 : l.length + 1 + 1 ≤ k := by rw [← hk]; exact grownCap_ge ..
    have hk2 : k ≤ maxLen := by rw [← hk]; exact grownCap_le_maxLen _ _ _ _ (by unfold maxLen; omega)
    rw [hk]
    have hz : ∀ n, (Builtin.zeroCells (Value.int .i64 0).cells n) = (List.replicate n (Value.int .i64 0)).toArray := by
      intro n
      apply Array.ext'
      simp [Builtin.zeroCells, Value.cells, Nat.mod_one, List.map_const']
    rw [hz, hz]
    have e0 : (List.take 1 ((a :: l).map (Value.int .i64))).toArray ++ (List.replicate (l.length + 1 + 1 - 1) (Value.int .i64 0)).toArray ++ (List.replicate (k - (l.length + 1 + 1)) (Value.int .i64 0)).toArray = (([Value.int .i64 a] ++ List.replicate (l.length + 1) (Value.int .i64 0)) ++ List.replicate (k - (l.length + 1 + 1)) (Value.int .i64 0)).toArray := by
      simp
    rw [e0]
    have h0 := heap_alloc_new w (.cells (([Value.int .i64 a] ++ List.replicate (l.length + 1) (Value.int .i64 0)) ++ List.replicate (k - (l.length + 1 + 1)) (Value.int .i64 0)).toArray (insRen.t 3))
    have h2 := setCells_row2 [Value.int .i64 v] ((((a :: l).map (Value.int .i64))).drop 1) 1 (1 + 1) (w.alloc (.cells (([Value.int .i64 a] ++ List.replicate (l.length + 1) (Value.int .i64 0)) ++ List.replicate (k - (l.length + 1 + 1)) (Value.int .i64 0)).toArray (insRen.t 3))).drew _ h0 (by simp; omega) (by simp; omega)
    refine ⟨_, rfl, ⟨by simp, .inr ⟨w.heap.size, k, _, rfl, hbase, h2, hk1, hk2, ?_, ?_⟩⟩, gSets (.inr (Nat.le_refl _)) _ _ _ (gDrew (gSets (.inr (Nat.le_refl _)) _ _ _ (gDrew (gAlloc (World.grownBy.refl _ _) _)))), .inr ⟨_, rfl, Nat.le_refl _⟩⟩
    · simp
      omega
    · simp
end Go.Proofs.YtpnkhgjjlionnaaGreat
namespace Go.Proofs.YtpnkhgjjlionnaaGreat
open Go.RowKit

/-- Of the blocks that lay there only those of S may be others now. -/
structure Kept (S : Nat → Prop) (w w' : World) : Prop where
  os : w'.os = w.os
  tape : w'.tape = w.tape
  output : w'.output = w.output
  size : w.heap.size ≤ w'.heap.size
  block : ∀ k, k < w.heap.size → ¬ S k → w'.heap[k]? = w.heap[k]?
section
variable {S S' : Nat → Prop} {a b c w w' : World}
theorem Kept.refl (S : Nat → Prop) (w : World) : Kept S w w := ⟨rfl, rfl, rfl, Nat.le_refl _, fun _ _ _ => rfl⟩
theorem Kept.trans (h : Kept S a b) (k : Kept S b c) : Kept S a c :=
  ⟨k.os.trans h.os, k.tape.trans h.tape, k.output.trans h.output, Nat.le_trans h.size k.size, fun i hi hs => (k.block i (Nat.lt_of_lt_of_le hi h.size) hs).trans (h.block i hi hs)⟩
theorem Kept.mono (h : Kept S w w') (hs : ∀ k, S k → S' k) : Kept S' w w' := ⟨h.os, h.tape, h.output, h.size, fun k hk hn => h.block k hk (fun x => hn (hs k x))⟩
theorem Kept.of (h : Below w.heap.size w w') : Kept S w w' := ⟨h.os, h.tape, h.output, h.size, fun k hk _ => h.block k hk⟩
theorem Kept.below {B : Nat} (h : Kept S w w') (hs : ∀ k, S k → B ≤ k) (hB : B ≤ w.heap.size) : Below B w w' := ⟨h.os, h.tape, h.output, h.size, fun k hk => h.block k (by omega) (fun x => by have := hs k x; omega)⟩
theorem Kept.drew (h : Kept S a w) : Kept S a w.drew := ⟨h.os, h.tape, h.output, h.size, h.block⟩
theorem Kept.alloc (h : Kept S a w) (o : Obj) : Kept S a (w.alloc o) :=
  ⟨h.os, h.tape, h.output, by rw [World.size_alloc]; have := h.size; omega, fun k hk hs => (Below.heap_alloc w o k (Nat.lt_of_lt_of_le hk h.size)).trans (h.block k hk hs)⟩
theorem Kept.setCell (h : Kept S a w) {p : Addr} (hp : S p.block ∨ a.heap.size ≤ p.block) (u : Value) : Kept S a (w.setCell p u) := by
  have hz : (w.setCell p u).heap.size = w.heap.size := by simp [World.setCell]
  exact ⟨h.os, h.tape, h.output, by rw [hz]; exact h.size, fun k hk hs => (Below.heap_setCell w p u k (fun e => by
    subst e
    rcases hp with hp | hp
    · exact hs hp
    · omega)).trans (h.block k hk hs)⟩
theorem Kept.grown (h : Kept S a w) {row : Option Nat} (hg : w.grownBy w' row) (hr : ∀ k, row = some k → S k ∨ a.heap.size ≤ k) : Kept S a w' :=
  ⟨hg.os.trans h.os, hg.tape.trans h.tape, hg.output.trans h.output, Nat.le_trans h.size hg.size, fun k hk hs => (hg.block k (Nat.lt_of_lt_of_le hk h.size) (fun e => by
    rcases hr k e.symm with x | x
    · exact hs x
    · omega)).trans (h.block k hk hs)⟩
theorem Kept.frown (h : Kept S a b) (k : Kept S' b c) (hs : ∀ k, S' k → S k ∨ a.heap.size ≤ k) : Kept S a c :=
  ⟨k.os.trans h.os, k.tape.trans h.tape, k.output.trans h.output, Nat.le_trans h.size k.size, fun i hi hn => (k.block i (Nat.lt_of_lt_of_le hi h.size) (fun x => by
    rcases hs i x with x | x
    · exact hn x
    · omega)).trans (h.block i hi hn)⟩
theorem own_same {base n s : Nat} {e : TypeId} {v : Value} {xs : List Value} (h : w.ownsRow base e s v n xs) (hs : ∀ k, v.ownBlock = some k → w'.heap[k]? = w.heap[k]?) : w'.ownsRow base e s v n xs := by
  obtain ⟨h1, h2 | ⟨g, cap, cur, rfl, a1, a2, a3⟩⟩ := h
  · exact ⟨h1, .inl h2⟩
  · exact ⟨h1, .inr ⟨g, cap, cur, rfl, a1, (hs g rfl).trans a2, a3⟩⟩
theorem blk_same {q : Nat} {t : TypeId} {cs : Array Value} (h : Blk w q t cs) (hs : w'.heap[q]? = w.heap[q]?) : Blk w' q t cs := hs.trans h
end
end Go.Proofs.YtpnkhgjjlionnaaGreat
namespace Go.Proofs.YtpnkhgjjlionnaaGreat
open Go.RowKit

/-- Values own blocks of their own, each another one. -/
def Own2 (l : List Value) : Prop := (∀ v ∈ l, ∃ g, v.ownBlock = some g) ∧ (l.map Value.ownBlock).Nodup
theorem Own2.cons_new {l : List Value} (h : Own2 l) {v : Value} {g : Nat} (hv : v.ownBlock = some g) (hn : ∀ u ∈ l, ∀ j, u.ownBlock = some j → j ≠ g) : Own2 (v :: l) := by
  refine ⟨fun u hu => ?_, ?_⟩
  · rcases List.mem_cons.1 hu with rfl | hu
    · exact ⟨g, hv⟩
    · exact h.1 u hu
  · rw [List.map_cons, List.nodup_cons]
    refine ⟨fun hm => ?_, h.2⟩
    obtain ⟨u, hu, e⟩ := List.mem_map.1 hm
    exact hn u hu g (by rw [e, hv]) rfl
theorem Own2.tail {l : List Value} {v : Value} (h : Own2 (v :: l)) : Own2 l := ⟨fun u hu => h.1 u (List.mem_cons_of_mem _ hu), (List.nodup_cons.1 h.2).2⟩
theorem Own2.ne {l : List Value} {v u : Value} (h : Own2 (v :: l)) (hu : u ∈ l) : u.ownBlock ≠ v.ownBlock := fun e => (List.nodup_cons.1 h.2).1 (List.mem_map.2 ⟨u, hu, e⟩)
/-- Block b is a walk that is on its way; all that it owns lies at base or behind. -/
structure WayAt (w : World) (base g b : Nat) (vC vL vW : Value) (vs : List Value) (n : Nat) (s : WSt) : Prop where
  blk : Blk w b 154 #[.pointer (some ⟨g, 0, none⟩), vC, vL, vW]
  hb : base ≤ b
  C : ∃ bs, w.ownsRow base 4 1 vC n (bools bs) ∧ BitsOf bs n s.come
  L : w.ownsRow base 3 1 vL s.loop.length (intsV s.loop)
  W : w.ownsRow base 30 1 vW s.wait.length vs
  rows : ∀ (i : Nat) (u : Value) (r : List Int), vs[i]? = some u → s.wait[i]? = some r → w.ownsRow base 3 1 u r.length (intsV r)
  apart : Own2 (vL :: vs)
  nn : s.loop ≠ []
section
variable {w w' : World} {base g b n : Nat} {vC vL vW : Value} {vs : List Value} {s : WSt}
theorem WayAt.vlen (h : WayAt w base g b vC vL vW vs n s) : vs.length = s.wait.length := by
  have := h.W.1
  omega
theorem WayAt.ble (h : WayAt w base g b vC vL vW vs n s) : base ≤ w.heap.size := Nat.le_trans h.hb (Nat.le_of_lt h.blk.lt)
theorem WayAt.below (h : WayAt w base g b vC vL vW vs n s) (hb : Below w.heap.size w w') : WayAt w' base g b vC vL vW vs n s :=
  ⟨h.blk.below hb h.blk.lt, h.hb, by obtain ⟨bs, h1, h2⟩ := h.C; exact ⟨bs, own_below h1 hb, h2⟩, own_below h.L hb, own_below h.W hb, fun i u r hu hr => own_below (h.rows i u r hu hr) hb, h.apart, h.nn⟩
theorem WayAt.alloc (h : WayAt w base g b vC vL vW vs n s) (o : Obj) : WayAt (w.alloc o) base g b vC vL vW vs n s := h.below ((Below.refl _ _).alloc (Nat.le_refl _) _)
theorem WayAt.drew (h : WayAt w base g b vC vL vW vs n s) : WayAt w.drew base g b vC vL vW vs n s := h.below (Below.refl _ _).drew
/-- A block of another kind is written. -/
theorem WayAt.far (h : WayAt w base g b vC vL vW vs n s) {q j : Nat} {t : TypeId} {cs : Array Value} {u : Value} (hq : Blk w q t cs) (h1 : t ≠ 154) (h2 : t ≠ 4) (h3 : t ≠ 3) (h4 : t ≠ 30) : WayAt (w.setCell ⟨q, j, none⟩ u) base g b vC vL vW vs n s :=
  ⟨h.blk.far (fun e => Blk.ne_ hq h.blk h1 e.symm) _, h.hb, by obtain ⟨bs, a, c⟩ := h.C; exact ⟨bs, own_alloc_st a hq (Ne.symm h2), c⟩, own_alloc_st h.L hq (Ne.symm h3), own_alloc_st h.W hq (Ne.symm h4), fun i x r hu hr => own_alloc_st (h.rows i x r hu hr) hq (Ne.symm h3), h.apart, h.nn⟩
theorem WayAt.mark (h : WayAt w base g b vC vL vW vs n s) {gC capC v : Nat} (hC : vC = .slice (some ⟨gC, 0, none⟩) n capC) (hv : v < n) : WayAt (w.setCell ⟨gC, v, none⟩ (.bool true)) base g b vC vL vW vs n ⟨s.come ++ [(v : Int)], s.loop, s.wait⟩ := by
  subst hC
  obtain ⟨bs, h1, h2⟩ := h.C
  obtain ⟨k1, k2⟩ := h1.stored v (.bool true)
  exact ⟨h.blk.grown k2 (fun e => own_blk_ne h1 h.blk (by decide) e.symm), h.hb, ⟨bs.set v true, by rw [← bools_set]; exact k1, h2.mark hv⟩, h.L.kept k2 (own_own_ne h.L h1 (by decide)), h.W.kept k2 (own_own_ne h.W h1 (by decide)),
    fun i u r hu hr => (h.rows i u r hu hr).kept k2 (own_own_ne (h.rows i u r hu hr) h1 (by decide)), h.apart, h.nn⟩
/-- The loop is another one. -/
theorem WayAt.reloop (h : WayAt w base g b vC vL vW vs n s) {v' : Value} {l : List Int} (hg : w.grownBy w' vL.ownBlock) (hr : w'.ownsRow base 3 1 v' l.length (intsV l)) (hat : v'.ownBlock = vL.ownBlock ∨ ∃ q, v'.ownBlock = some q ∧ w.heap.size ≤ q) (hl : l ≠ []) :
    WayAt (w'.setCell ⟨b, 2, none⟩ v') base g b vC v' vW vs n ⟨s.come, l, s.wait⟩ := by
  have k0 := h.blk.grown hg (fun e => own_blk_ne h.L h.blk (by decide) e.symm)
  obtain ⟨bs, h1, h2⟩ := h.C
  have lt : ∀ u ∈ vs, ∀ j, u.ownBlock = some j → j < w.heap.size := by
    intro u hu j hj
    obtain ⟨i, hi, e⟩ := List.getElem_of_mem hu
    have hi2 : i < s.wait.length := by rw [← h.vlen]; exact hi
    exact ((h.rows i u s.wait[i] (by rw [List.getElem?_eq_getElem hi, e]) (List.getElem?_eq_getElem hi2)).lt j hj).2
  refine ⟨by simpa using k0.set_ 2 v', h.hb, ⟨bs, own_alloc_st (h1.kept hg (own_own_ne h1 h.L (by decide))) k0 (by decide), h2⟩, own_alloc_st hr k0 (by decide), own_alloc_st (h.W.kept hg (own_own_ne h.W h.L (by decide))) k0 (by decide), ?_, ?_, hl⟩
  · intro i u r hu hr'
    exact own_alloc_st ((h.rows i u r hu hr').kept hg (.inr (h.apart.ne (List.mem_of_getElem? hu)))) k0 (by decide)
  · rcases hat with e | ⟨q, e, hq⟩
    · refine ⟨fun u hu => ?_, ?_⟩
      · rcases List.mem_cons.1 hu with rfl | hu
        · obtain ⟨j, hj⟩ := h.apart.1 vL (List.mem_cons_self ..)
          exact ⟨j, e.trans hj⟩
        · exact h.apart.1 u (List.mem_cons_of_mem _ hu)
      · have := h.apart.2
        rw [List.map_cons] at this ⊢
        rw [e]
        exact this
    · exact h.apart.tail.cons_new e (fun u hu j hj e2 => by
        have := lt u hu j hj
        omega)
/-- A part of the loop, as it is read. -/
theorem WayAt.part {gl m cap : Nat} (h : WayAt w base g b vC (.slice (some ⟨gl, 0, none⟩) m cap) vW vs n s) (hm : s.loop.length = m) (a k : Nat) (hak : a + k ≤ m) : ∀ j u, (((s.loop.drop a).take k).map (Value.int .i64))[j]? = some u → w.cell? ((⟨gl, a, none⟩ : Addr).add j) = some u := by
  intro j u hj
  have hl := h.L
  rw [hm] at hl
  rw [List.getElem?_map] at hj
  have hj' : j < k := by
    rcases Nat.lt_or_ge j k with h | h
    · exact h
    · rw [List.getElem?_eq_none (by rw [List.length_take]; omega)] at hj
      cases hj
  rw [Addr.add_lit]
  show w.cell? ⟨gl, a + j, none⟩ = some u
  rw [hl.cellAt (a + j) (by omega), ← hj]
  simp [intsV, hj', List.getElem?_drop]
theorem own_one {q : Nat} {v : Int} (h : Blk w q 3 #[.int .i64 v]) (hb : base ≤ q) : w.ownsRow base 3 1 (.slice (some ⟨q, 0, none⟩) 1 1) 1 [.int .i64 v] :=
  ⟨rfl, .inr ⟨q, 1, _, rfl, hb, h, Nat.le_refl _, by decide, rfl, rfl⟩⟩
/-- One loop more waits. -/
theorem WayAt.rewait (h : WayAt w base g b vC vL vW vs n s) {w4 w5 : World} {tmp : Obj} {u v5 : Value} {l : List Int} {q : Nat} (hb4 : Below w.heap.size w w4) (hr4 : w4.ownsRow base 3 1 u l.length (intsV l)) (hu : u.ownBlock = some q) (hq : w.heap.size ≤ q)
    (hg5 : (w4.alloc tmp).grownBy w5 vW.ownBlock) (hr5 : w5.ownsRow base 30 1 v5 (s.wait.length + 1) (vs ++ [u])) : WayAt (w5.setCell ⟨b, 3, none⟩ v5) base g b vC vL v5 (vs ++ [u]) n ⟨s.come, s.loop, s.wait ++ [l]⟩ := by
  have h4 := (h.below hb4).alloc tmp
  have ne : ∀ {e : TypeId} {k : Nat} {x : Value} {xs : List Value}, e ≠ 30 → (w4.alloc tmp).ownsRow base e 1 x k xs → (w5.setCell ⟨b, 3, none⟩ v5).ownsRow base e 1 x k xs ∨ e = 154 := by
    intro e k x xs he hx
    by_cases hw : e = 154
    · exact .inr hw
    · exact .inl (own_alloc_st (hx.kept hg5 (own_own_ne hx h4.W he)) (h4.blk.grown hg5 (fun e => own_blk_ne h4.W h4.blk (by decide) e.symm)) hw)
  have k5 := h4.blk.grown hg5 (fun e => own_blk_ne h4.W h4.blk (by decide) e.symm)
  have hl := h.vlen
  have lt : ∀ x ∈ vL :: vs, ∀ j, x.ownBlock = some j → j < w.heap.size := by
    intro x hx j hj
    rcases List.mem_cons.1 hx with rfl | hx
    · exact (h.L.lt j hj).2
    · obtain ⟨i, hi, e⟩ := List.getElem_of_mem hx
      have hi2 : i < s.wait.length := by rw [← hl]; exact hi
      exact ((h.rows i x s.wait[i] (by rw [List.getElem?_eq_getElem hi, e]) (List.getElem?_eq_getElem hi2)).lt j hj).2
  refine ⟨by simpa using k5.set_ 3 v5, h.hb, ?_, ?_, ?_, ?_, ?_, h.nn⟩
  · obtain ⟨bs, h1, h2⟩ := h4.C
    rcases ne (by decide) h1 with h1 | h1
    · exact ⟨bs, h1, h2⟩
    · exact absurd h1 (by decide)
  · rcases ne (by decide) h4.L with h1 | h1
    · exact h1
    · exact absurd h1 (by decide)
  · rw [List.length_append, List.length_singleton]
    exact own_alloc_st hr5 k5 (by decide)
  · intro i x r hx hr
    rcases Nat.lt_or_ge i vs.length with hi | hi
    · rw [List.getElem?_append_left hi] at hx
      rw [List.getElem?_append_left (by omega)] at hr
      rcases ne (by decide) (h4.rows i x r hx hr) with h1 | h1
      · exact h1
      · exact absurd h1 (by decide)
    · rw [List.getElem?_append_right hi] at hx
      rw [List.getElem?_append_right (by omega)] at hr
      have hi0 : i - vs.length = 0 := by
        have := (List.getElem?_eq_some_iff.1 hx).1
        simp at this
        omega
      rw [hi0] at hx
      rw [← hl, hi0] at hr
      simp only [List.getElem?_cons_zero, Option.some.injEq] at hx hr
      subst hx
      subst hr
      rcases ne (by decide) (hr4.alloc tmp) with h1 | h1
      · exact h1
      · exact absurd h1 (by decide)
  · have ha : Own2 (u :: vL :: vs) := h.apart.cons_new hu (fun x hx j hj => by
      have := lt x hx j hj
      omega)
    have hp : (u :: vL :: vs).Perm (vL :: (vs ++ [u])) := (List.Perm.swap vL u vs).trans (List.Perm.cons _ (List.perm_append_singleton u vs).symm)
    exact ⟨fun x hx => ha.1 x (hp.mem_iff.2 hx), (hp.map _).nodup_iff.1 ha.2⟩
/-- The loop that waits last is gone on with. -/
theorem WayAt.pop (h : WayAt w base g b vC vL vW vs n s) {vs' : List Value} {u : Value} {ws : List (List Int)} {l : List Int} {aW : Option Addr} {k cW : Nat} (hvs : vs = vs' ++ [u]) (hws : s.wait = ws ++ [l]) (hW : vW = .slice aW (k + 1) cW) (hk : ws.length = k) (hl : l ≠ [])
    (hg : w.grownBy w' (some b)) (hb' : Blk w' b 154 #[.pointer (some ⟨g, 0, none⟩), vC, u, .slice aW k cW]) : WayAt w' base g b vC u (.slice aW k cW) vs' n ⟨s.come, l, ws⟩ := by
  subst hvs hW
  have hlen := h.vlen
  rw [hws] at hlen
  simp only [List.length_append, List.length_singleton] at hlen
  have hW := h.W
  rw [hws, List.length_append, List.length_singleton, hk] at hW
  have hW2 : w.ownsRow base 30 1 (.slice aW k cW) k vs' := by
    rcases hW.2 with ⟨_, h0⟩ | ⟨q, cap, cur, e, h1, h2, h3, h4, h5, h6⟩
    · omega
    · injection e with e1 e2 e3
      subst e1 e3
      refine ⟨by omega, .inr ⟨q, cW, cur, rfl, h1, h2, by omega, h4, h5, ?_⟩⟩
      have : (cur.toList.take ((k + 1) * 1)).take (k * 1) = (vs' ++ [u]).take (k * 1) := by rw [h6]
      rw [List.take_take, show min (k * 1) ((k + 1) * 1) = k * 1 from by omega] at this
      rw [this, show k * 1 = vs'.length from by omega, List.take_left]
  obtain ⟨bs, c1, c2⟩ := h.C
  have st : ∀ {e : TypeId} {k' : Nat} {x : Value} {xs : List Value}, e ≠ 154 → w.ownsRow base e 1 x k' xs → w'.ownsRow base e 1 x k' xs := fun he hx => hx.kept hg (.inr (own_blk_ne hx h.blk he))
  refine ⟨hb', h.hb, ⟨bs, st (by decide) c1, c2⟩, ?_, ?_, ?_, ?_, hl⟩
  · refine st (by decide) (h.rows vs'.length u l (by simp) ?_)
    rw [hws, show vs'.length = ws.length from by omega]
    simp
  · rw [hk]
    exact st (by decide) hW2
  · intro i x r hx hr
    have hi := (List.getElem?_eq_some_iff.1 hx).1
    have hi2 := (List.getElem?_eq_some_iff.1 hr).1
    refine st (by decide) (h.rows i x r (by rw [List.getElem?_append_left hi]; exact hx) ?_)
    rw [hws, List.getElem?_append_left hi2]
    exact hr
  · have hp : (vs' ++ [u]).Perm (u :: vs') := List.perm_append_singleton u vs'
    have ha := h.apart.tail
    exact ⟨fun x hx => ha.1 x (hp.mem_iff.2 hx), (hp.map _).nodup_iff.1 ha.2⟩
/-- The blocks of a walk that is on its way. -/
def OwnA (b : Nat) (vC vL vW : Value) (vs : List Value) (k : Nat) : Prop := k = b ∨ vC.ownBlock = some k ∨ vL.ownBlock = some k ∨ vW.ownBlock = some k ∨ ∃ v ∈ vs, v.ownBlock = some k
/-- What a step may change, and whose the blocks are then. -/
structure Kind (w w' : World) (b : Nat) (vC vL vW : Value) (vs : List Value) (vL' vW' : Value) (vs' : List Value) : Prop where
  kept : Kept (OwnA b vC vL vW vs) w w'
  own : ∀ k, OwnA b vC vL' vW' vs' k → OwnA b vC vL vW vs k ∨ w.heap.size ≤ k
theorem own_reloop {b : Nat} {vC vL vL' vW : Value} {vs : List Value} {z : Nat} (h : vL'.ownBlock = vL.ownBlock ∨ ∃ q, vL'.ownBlock = some q ∧ z ≤ q) (k : Nat) (hk : OwnA b vC vL' vW vs k) : OwnA b vC vL vW vs k ∨ z ≤ k := by
  rcases hk with e | e | e | e | e
  · exact .inl (.inl e)
  · exact .inl (.inr (.inl e))
  · rcases h with h | ⟨q, h, hq⟩
    · exact .inl (.inr (.inr (.inl (by rw [← h]; exact e))))
    · rw [h] at e
      cases e
      exact .inr hq
  · exact .inl (.inr (.inr (.inr (.inl e))))
  · exact .inl (.inr (.inr (.inr (.inr e))))
theorem WayAt.own_ge (h : WayAt w base g b vC vL vW vs n s) {k : Nat} (hk : OwnA b vC vL vW vs k) : base ≤ k ∧ k < w.heap.size := by
  rcases hk with rfl | e | e | e | ⟨v, hv, e⟩
  · exact ⟨h.hb, h.blk.lt⟩
  · obtain ⟨bs, h1, _⟩ := h.C
    exact h1.lt k e
  · exact h.L.lt k e
  · exact h.W.lt k e
  · obtain ⟨i, hi, e2⟩ := List.getElem_of_mem hv
    have hi2 : i < s.wait.length := by rw [← h.vlen]; exact hi
    exact (h.rows i v s.wait[i] (by rw [List.getElem?_eq_getElem hi, e2]) (List.getElem?_eq_getElem hi2)).lt k e
theorem WayAt.same (h : WayAt w base g b vC vL vW vs n s) (hs : ∀ k, OwnA b vC vL vW vs k → w'.heap[k]? = w.heap[k]?) : WayAt w' base g b vC vL vW vs n s :=
  ⟨blk_same h.blk (hs b (.inl rfl)), h.hb, by obtain ⟨bs, h1, h2⟩ := h.C; exact ⟨bs, own_same h1 (fun k e => hs k (.inr (.inl e))), h2⟩, own_same h.L (fun k e => hs k (.inr (.inr (.inl e)))), own_same h.W (fun k e => hs k (.inr (.inr (.inr (.inl e))))),
    fun i u r hu hr => own_same (h.rows i u r hu hr) (fun k e => hs k (.inr (.inr (.inr (.inr ⟨u, List.mem_of_getElem? hu, e⟩))))), h.apart, h.nn⟩
/-- A step is laid in its cell. -/
theorem WayAt.out4 (h : WayAt w base g b vC vL vW vs n s) {w0 : World} {q : Nat} {x0 x1 x2 x3 : Value} (hq : Blk w q 82 #[x0, x1, x2, x3]) {S : Nat → Prop} (hB : Kept S w0 w) (hbq : w0.heap.size ≤ q) (u0 u1 u2 u3 : Value) :
    WayAt ((((w.setCell ⟨q, 0, none⟩ u0).setCell ⟨q, 1, none⟩ u1).setCell ⟨q, 2, none⟩ u2).setCell ⟨q, 3, none⟩ u3) base g b vC vL vW vs n s ∧ Blk ((((w.setCell ⟨q, 0, none⟩ u0).setCell ⟨q, 1, none⟩ u1).setCell ⟨q, 2, none⟩ u2).setCell ⟨q, 3, none⟩ u3) q 82 #[u0, u1, u2, u3] ∧ Kept S w0 ((((w.setCell ⟨q, 0, none⟩ u0).setCell ⟨q, 1, none⟩ u1).setCell ⟨q, 2, none⟩ u2).setCell ⟨q, 3, none⟩ u3) := by
  have q1 := hq.set_ 0 u0
  have q2 := q1.set_ 1 u1
  have q3 := q2.set_ 2 u2
  have q4 := q3.set_ 3 u3
  exact ⟨(((h.far hq (by decide) (by decide) (by decide) (by decide)).far q1 (by decide) (by decide) (by decide) (by decide)).far q2 (by decide) (by decide) (by decide) (by decide)).far q3 (by decide) (by decide) (by decide) (by decide), by simpa using q4, (((hB.setCell (p := ⟨q, 0, none⟩) (.inr hbq) _).setCell (p := ⟨q, 1, none⟩) (.inr hbq) _).setCell (p := ⟨q, 2, none⟩) (.inr hbq) _).setCell (p := ⟨q, 3, none⟩) (.inr hbq) _⟩
end
end Go.Proofs.YtpnkhgjjlionnaaGreat
