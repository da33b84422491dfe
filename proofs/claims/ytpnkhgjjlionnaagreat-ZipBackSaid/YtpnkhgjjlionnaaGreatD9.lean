/-
  Texts joined by program, what the law uses alone: WkLpM IsoW Mvd WkZ ZpStepLR ZpStepS ZpStepE ZpSeconds ZpWCount ZpBegins ZpAwake24 ZpLeast.
-/
import Derived.Deep.AppendLies
import Derived.Deep.RegionHeld3
import Derived.Deep.DrawnRows
import Derived.Test.YtpnkhgjjlionnaaGreatD8
import Derived.Test.YtpnkhgjjlionnaaGreatD5
import Derived.Test.YtpnkhgjjlionnaaGreatD6
import Derived.Test.YtpnkhgjjlionnaaGreatD1
import Derived.Test.YtpnkhgjjlionnaaGreatD2
namespace Go.Proofs.YtpnkhgjjlionnaaGreat
open Go.RowKit Go.Maps

variable {n c : Nat} {T : List Tr}
theorem ran_inv {s0 s' : WSt} {pre : List WStep} {x : WStep} (R : Ran T s0 (pre ++ [x]) s') : ∃ s, Ran T s0 pre s ∧ stepM T s = some (x, s') := by
  generalize hL : pre ++ [x] = L at R
  cases R with
  | nil => simp at hL
  | @snoc L0 s s' y h1 h2 =>
    obtain ⟨rfl, e⟩ := List.append_inj' hL rfl
    cases e
    exact ⟨s, h1, h2⟩
end Go.Proofs.YtpnkhgjjlionnaaGreat
namespace Go.Proofs.YtpnkhgjjlionnaaGreat
open Go.RowKit

def WSt.ren (g : Int → Int) (s : WSt) : WSt := ⟨s.come.map g, s.loop.map g, s.wait.map (List.map g)⟩
def WStep.ren (φ : Nat → Nat) (x : WStep) : WStep := ⟨x.letter, ((φ x.corner.toNat : Nat) : Int), x.loops, x.length⟩
/-- Each vertex is a corner's. -/
structure StOk (T : List Tr) (s : WSt) : Prop where
  come : VOk T s.come
  loop : VOk T s.loop
  wait : ∀ l ∈ s.wait, VOk T l
section
variable {T T' : List Tr} {φ : Nat → Nat} {g : Int → Int}
theorem Iso.fac (h : Iso T T' φ g) (hE' : (T'.flatMap edges3).Nodup) {a b : Int} {c : Nat} (hf : facI T (a, b) = (c : Int)) : facI T' (g a, g b) = ((φ c : Nat) : Int) := by
  obtain ⟨hc, e⟩ := facI_some hf
  have h1 := facI_of hE' (o := φ c) (by rw [h.len]; exact h.lt c hc)
  rw [h.edge hc, e] at h1
  exact h1
theorem Iso.idxF (h : Iso T T' φ g) : ∀ {l : List Int} (_ : VOk T l) {c : Nat} (_ : c < 3 * T.length) (i : Nat), Lib.idxFrom (l.map g) (g (vertN T c)) i = Lib.idxFrom l (vertN T c) i
  | [], _, _, _, _ => rfl
  | a :: l, hv, c, hc, i => by
    obtain ⟨d, hd, e⟩ := hv a (List.mem_cons_self ..)
    have ih := Iso.idxF h (l := l) (fun u hu => hv u (List.mem_cons_of_mem _ hu)) hc (i + 1)
    simp only [List.map_cons, Lib.idxFrom]
    by_cases e2 : a = vertN T c
    · have e3 : g a = g (vertN T c) := by rw [e2]
      simp [e2]
    · have e3 : g a ≠ g (vertN T c) := fun e3 => e2 (by rw [e] at e3 ⊢; exact h.ginj _ _ hd hc e3)
      simp [e2, e3, ih]
theorem Iso.idx (h : Iso T T' φ g) {l : List Int} (hv : VOk T l) {c : Nat} (hc : c < 3 * T.length) : Lib.idxOf (l.map g) (g (vertN T c)) = Lib.idxOf l (vertN T c) := h.idxF hv hc 0
theorem Iso.mem (h : Iso T T' φ g) {l : List Int} (hv : VOk T l) {c : Nat} (hc : c < 3 * T.length) : g (vertN T c) ∈ l.map g ↔ vertN T c ∈ l := by
  constructor
  · intro hm
    obtain ⟨u, hu, e⟩ := List.mem_map.1 hm
    obtain ⟨d, hd, rfl⟩ := hv u hu
    rw [← h.ginj _ _ hd hc e]
    exact hu
  · exact fun hm => List.mem_map_of_mem hm
theorem VOk.sub {l m : List Int} (hv : VOk T m) (h : ∀ x ∈ l, x ∈ m) : VOk T l := fun u hu => hv u (h u hu)
theorem VOk.one {c : Nat} (hc : c < 3 * T.length) : VOk T [vertN T c] := fun _ hu => ⟨c, hc, List.mem_singleton.1 hu⟩
theorem VOk.append {l m : List Int} (h1 : VOk T l) (h2 : VOk T m) : VOk T (l ++ m) := fun u hu => (List.mem_append.1 hu).elim (h1 u) (h2 u)
theorem VOk.cons {l : List Int} {c : Nat} (hc : c < 3 * T.length) (h : VOk T l) : VOk T (vertN T c :: l) := (VOk.one hc).append h
/-- A step, in other numbers. -/
theorem Iso.stepM (h : Iso T T' φ g) (hE' : (T'.flatMap edges3).Nodup) {s s' : WSt} {x : WStep} (ok : StOk T s) (hs : stepM T s = some (x, s')) : stepM T' (s.ren g) = some (x.ren φ, s'.ren g) ∧ StOk T s' := by
  obtain ⟨come, loop, wait⟩ := s
  unfold Proofs.YtpnkhgjjlionnaaGreat.stepM at hs
  match loop, ok, hs with
  | [], _, hs => cases hs
  | [a], _, hs => cases hs
  | a :: b :: r, ok, hs =>
    simp only at hs
    by_cases hf : facI T (a, b) < 0
    · rw [if_pos hf] at hs
      cases hs
    rw [if_neg hf] at hs
    obtain ⟨c, hc⟩ : ∃ c : Nat, facI T (a, b) = (c : Int) := ⟨(facI T (a, b)).toNat, by omega⟩
    obtain ⟨hcl, -⟩ := facI_some hc
    have hc' := h.fac hE' hc
    have hv : vertI T (c : Int) = vertN T c := vertI_nat hcl
    have hv' : vertI T' ((φ c : Nat) : Int) = g (vertN T c) := by
      rw [vertI_nat (by rw [h.len]; exact h.lt c hcl), h.vert c hcl]
    rw [hc, hv] at hs
    have hm := h.mem ok.come hcl
    have hi := h.idx ok.loop hcl
    simp only [List.map_cons] at hi
    have hlen : (r.map g).length = r.length := by simp
    have hwl : (wait.map (List.map g)).length = wait.length := by simp
    have oka : VOk T [a] := ok.loop.sub (by simp)
    have okb : VOk T (b :: r) := ok.loop.sub (fun x hx => List.mem_cons_of_mem _ hx)
    have okr : VOk T r := ok.loop.sub (fun x hx => by simp [hx])
    unfold Proofs.YtpnkhgjjlionnaaGreat.stepM WSt.ren
    simp only [List.map_cons, hc', hv']
    rw [if_neg (by omega), hi, hlen, hwl]
    by_cases h1 : vertN T c ∈ come
    · rw [if_neg (by simpa using h1)] at hs
      rw [if_neg (by simpa [hm] using h1)]
      by_cases h2 : r.length = 1
      · rw [if_pos h2] at hs
        rw [if_pos h2]
        cases hs
        refine ⟨?_, ⟨ok.come, ?_, fun l hl => ok.wait l (List.dropLast_subset _ hl)⟩⟩
        · simp only [WStep.ren, Int.toNat_natCast, Option.some.injEq, Prod.mk.injEq, true_and, WSt.mk.injEq, List.map_dropLast]
          rw [List.getLast?_map]
          cases wait.getLast? <;> simp
        · cases hg : wait.getLast? with
          | none => intro u hu; cases hu
          | some l => exact ok.wait l (List.mem_of_getLast? hg)
      · rw [if_neg h2] at hs
        rw [if_neg h2]
        by_cases h3 : Lib.idxOf (a :: b :: r) (vertN T c) = r.length + 1
        · rw [if_pos h3] at hs
          rw [if_pos h3]
          cases hs
          refine ⟨?_, ⟨ok.come, VOk.cons hcl (okb.sub fun x hx => List.dropLast_subset _ hx), ok.wait⟩⟩
          simp [WStep.ren, List.map_dropLast]
        · rw [if_neg h3] at hs
          rw [if_neg h3]
          by_cases h4 : Lib.idxOf (a :: b :: r) (vertN T c) = 2
          · rw [if_pos h4] at hs
            rw [if_pos h4]
            cases hs
            refine ⟨?_, ⟨ok.come, oka.append okr, ok.wait⟩⟩
            simp [WStep.ren]
          · rw [if_neg h4] at hs
            rw [if_neg h4]
            by_cases h5 : 2 < Lib.idxOf (a :: b :: r) (vertN T c)
            · rw [if_pos h5] at hs
              rw [if_pos h5]
              cases hs
              refine ⟨?_, ⟨ok.come, oka.append (ok.loop.sub fun x hx => List.mem_of_mem_drop hx), fun l hl => ?_⟩⟩
              · simp [WStep.ren, List.map_drop, List.map_take]
              · rcases List.mem_append.1 hl with hl | hl
                · exact ok.wait l hl
                · rw [List.mem_singleton.1 hl]
                  exact VOk.cons hcl (okb.sub fun x hx => List.mem_of_mem_take hx)
            · rw [if_neg h5] at hs
              cases hs
    · rw [if_pos (by simpa using h1)] at hs
      rw [if_pos (by simpa [hm] using h1)]
      cases hs
      refine ⟨?_, ⟨ok.come.append (VOk.one hcl), oka.append (VOk.cons hcl okb), ok.wait⟩⟩
      simp [WStep.ren]
theorem Iso.begin_ (h : Iso T T' φ g) {c : Nat} (hc : c < 3 * T.length) : beginS T' (φ c) = (beginS T c).ren g ∧ StOk T (beginS T c) := by
  have h1 := h.vert c hc
  have h2 := h.vert _ (Jor.nx_lt hc)
  have h3 := h.vert _ (Jor.pv_lt hc)
  rw [h.nx c hc] at h2
  rw [h.pv hc] at h3
  refine ⟨?_, ⟨?_, ?_, fun l hl => by cases hl⟩⟩
  · simp [beginS, WSt.ren, h1, h2, h3]
  · exact VOk.cons hc (VOk.cons (Jor.nx_lt hc) (VOk.one (Jor.pv_lt hc)))
  · exact VOk.cons (Jor.nx_lt hc) (VOk.cons hc (VOk.one (Jor.pv_lt hc)))
theorem Iso.ran (h : Iso T T' φ g) (hE' : (T'.flatMap edges3).Nodup) {c : Nat} (hc : c < 3 * T.length) {L : List WStep} {s : WSt} (R : Ran T (beginS T c) L s) : Ran T' (beginS T' (φ c)) (L.map (WStep.ren φ)) (s.ren g) ∧ StOk T s := by
  obtain ⟨e, ok⟩ := h.begin_ hc
  rw [e]
  induction R with
  | nil => exact ⟨.nil, ok⟩
  | @snoc L s s' x _ h2 ih =>
    obtain ⟨h3, h4⟩ := h.stepM hE' ih.2 h2
    rw [List.map_append]
    exact ⟨.snoc ih.1 h3, h4⟩
/-- The walk from the other corner. -/
theorem Iso.steps (h : Iso T T' φ g) {N N' : Int} (hS : Simp N T) (hS' : Simp N' T') {c : Nat} (hc : c < 3 * T.length) : stepsM T' (φ c) = (stepsM T c).map (WStep.ren φ) := by
  obtain ⟨L, s, R, e⟩ := ends hS hc
  have h1 := R.steps hS hc e
  obtain ⟨R', -⟩ := h.ran hS'.surf.twice hc R
  have h2 := R'.steps hS' (by rw [h.len]; exact h.lt c hc) (by simp [WSt.ren, e])
  rw [← h2, h1]
end
end Go.Proofs.YtpnkhgjjlionnaaGreat
namespace Go.Proofs.YtpnkhgjjlionnaaGreat
open Go.RowKit

def renT (g : Int → Int) (t : Tr) : Tr := (g t.1, g t.2.1, g t.2.2)
/-- The number that a list gives. -/
def toF (tw : List Int) (x : Int) : Int := at_ tw x.toNat
/-- A triangle, from one of its corners on. -/
def turnAt (T : List Tr) (c : Nat) : Tr := (vertN T c, vertN T (Jor.nx c), vertN T (Jor.pv c))
def pickM (T : List Tr) (p : List Nat) : List Tr := p.map (turnAt T)
/-- A list of all numbers below n. -/
structure AllN (n : Nat) (tw : List Int) : Prop where
  len : tw.length = n
  nd : tw.Nodup
  rng : ∀ x ∈ tw, 0 ≤ x ∧ x < n
/-- A corner of each triangle. -/
structure AllC (F : Nat) (p : List Nat) : Prop where
  len : p.length = F
  nd : (p.map (· / 3)).Nodup
  rng : ∀ x ∈ p, x < 3 * F
theorem at_get {l : List Int} {j : Nat} (h : j < l.length) : at_ l j = l[j] := by simp [at_, List.getD, List.getElem?_eq_getElem h]
section
variable {n F : Nat} {tw : List Int} {p : List Nat} {T : List Tr}
theorem AllN.all (h : AllN n tw) {x : Int} (h0 : 0 ≤ x) (h1 : x < n) : x ∈ tw := by
  refine Classical.byContradiction fun hno => ?_
  have h2 : ((x :: tw).map Int.toNat).Nodup := nodup_map_on (List.nodup_cons.2 ⟨hno, h.nd⟩) (fun a ha b hb e => by
    have ha' : 0 ≤ a := by
      rcases List.mem_cons.1 ha with rfl | ha
      · exact h0
      · exact (h.rng a ha).1
    have hb' : 0 ≤ b := by
      rcases List.mem_cons.1 hb with rfl | hb
      · exact h0
      · exact (h.rng b hb).1
    omega)
  have h3 := Jor.nodup_le h2 (m := List.range n) (fun y hy => by
    obtain ⟨a, ha, rfl⟩ := List.mem_map.1 hy
    refine List.mem_range.2 ?_
    rcases List.mem_cons.1 ha with rfl | ha
    · omega
    · have := h.rng a ha
      omega)
  simp [h.len] at h3
  omega
theorem AllN.inj (h : AllN n tw) {x y : Int} (hx : 0 ≤ x ∧ x < n) (hy : 0 ≤ y ∧ y < n) (e : toF tw x = toF tw y) : x = y := by
  unfold toF at e
  have lx : x.toNat < tw.length := by rw [h.len]; omega
  have ly : y.toNat < tw.length := by rw [h.len]; omega
  rw [at_get lx, at_get ly] at e
  have hp := List.pairwise_iff_getElem.1 (List.nodup_iff_pairwise_ne.1 h.nd)
  rcases Nat.lt_trichotomy x.toNat y.toNat with h1 | h1 | h1
  · exact absurd e (hp _ _ lx ly h1)
  · omega
  · exact absurd e.symm (hp _ _ ly lx h1)
theorem AllN.in_ (h : AllN n tw) {x : Int} (hx : 0 ≤ x ∧ x < n) : 0 ≤ toF tw x ∧ toF tw x < n := by
  unfold toF
  have lx : x.toNat < tw.length := by rw [h.len]; omega
  rw [at_get lx]
  exact h.rng _ (List.getElem_mem lx)
theorem AllN.on (h : AllN n tw) {u : Int} (hu : 0 ≤ u ∧ u < n) : ∃ x : Int, (0 ≤ x ∧ x < n) ∧ toF tw x = u := by
  obtain ⟨j, hj, e⟩ := List.getElem_of_mem (h.all hu.1 hu.2)
  have := h.len
  refine ⟨(j : Int), by omega, ?_⟩
  unfold toF
  rw [Int.toNat_natCast, at_get hj, e]
/-- What undoes it. -/
theorem AllN.back (h : AllN n tw) : ∃ f : Int → Int, ∀ x : Int, 0 ≤ x → x < n → f (toF tw x) = x := by
  have key : ∀ v : Int, ∃ u : Int, ∀ x : Int, 0 ≤ x → x < n → toF tw x = v → u = x := fun v => by
    by_cases hv : ∃ x : Int, (0 ≤ x ∧ x < n) ∧ toF tw x = v
    · obtain ⟨x, hx, e⟩ := hv
      exact ⟨x, fun y h0 h1 e2 => h.inj hx ⟨h0, h1⟩ (e.trans e2.symm)⟩
    · exact ⟨0, fun x h0 h1 e => absurd ⟨x, ⟨h0, h1⟩, e⟩ hv⟩
  obtain ⟨f, hf⟩ := Classical.axiomOfChoice key
  exact ⟨f, fun x h0 h1 => hf _ x h0 h1 rfl⟩
theorem AllC.all (h : AllC F p) {i : Nat} (hi : i < F) : ∃ k, k < p.length ∧ ∃ c, p[k]? = some c ∧ c / 3 = i := by
  have h1 : ((p.map (· / 3))).Perm (List.range F) := by
    refine (List.perm_ext_iff_of_nodup h.nd List.nodup_range).2 fun x => ⟨fun hx => ?_, fun hx => ?_⟩
    · obtain ⟨c, hc, rfl⟩ := List.mem_map.1 hx
      have := h.rng c hc
      exact List.mem_range.2 (by omega)
    · refine Classical.byContradiction fun hno => ?_
      have h3 := Jor.nodup_le (List.nodup_cons.2 ⟨hno, h.nd⟩) (m := List.range F) (fun y hy => by
        rcases List.mem_cons.1 hy with rfl | hy
        · exact hx
        · obtain ⟨c, hc, rfl⟩ := List.mem_map.1 hy
          have := h.rng c hc
          exact List.mem_range.2 (by omega))
      simp [h.len] at h3
      omega
  obtain ⟨c, hc, e⟩ := List.mem_map.1 (h1.mem_iff.2 (List.mem_range.2 hi))
  obtain ⟨k, hk, e2⟩ := List.getElem_of_mem hc
  exact ⟨k, hk, c, by rw [List.getElem?_eq_getElem hk, e2], e⟩
theorem AllC.one (h : AllC F p) {i j c d : Nat} (hi : p[i]? = some c) (hj : p[j]? = some d) (e : c / 3 = d / 3) : i = j := by
  refine nodup_idx h.nd (x := c / 3) ?_ ?_
  · rw [List.getElem?_map, hi]; rfl
  · rw [List.getElem?_map, hj, e]; rfl
/-- The corner here of which a corner there comes. -/
def srcC (p : List Nat) (d : Nat) : Nat := turnN (d % 3) (p.getD (d / 3) 0)
theorem turnN_nx (k d : Nat) : Jor.nx (turnN (k % 3) d) = turnN ((k + 1) % 3) d := by
  rcases (by omega : k % 3 = 0 ∨ k % 3 = 1 ∨ k % 3 = 2) with h | h | h
  · have : (k + 1) % 3 = 1 := by omega
    rw [h, this]; rfl
  · have : (k + 1) % 3 = 2 := by omega
    rw [h, this]; exact Jor.nx_nx d
  · have : (k + 1) % 3 = 0 := by omega
    rw [h, this]; exact Jor.nx_pv d
theorem vert_turnAt (T : List Tr) {M : List Tr} {d c : Nat} (h : M[d / 3]? = some (turnAt T c)) : vertN M d = vertN T (turnN (d % 3) c) := by
  unfold vertN triAt
  rw [h]
  rcases (by omega : d % 3 = 0 ∨ d % 3 = 1 ∨ d % 3 = 2) with hm | hm | hm
  · rw [if_pos hm, hm]; rfl
  · rw [if_neg (by omega), if_pos hm, hm]; rfl
  · rw [if_neg (by omega), if_neg (by omega), hm]; rfl
theorem vert_ren {g : Int → Int} {c : Nat} (hc : c < 3 * T.length) : vertN (T.map (renT g)) c = g (vertN T c) := by
  have hl : c / 3 < T.length := by omega
  have e : triAt (T.map (renT g)) c = renT g (triAt T c) := by
    unfold triAt
    rw [List.getElem?_map, List.getElem?_eq_getElem hl]
    rfl
  unfold vertN
  rw [e]
  split
  · rfl
  · split <;> rfl
/-- What was moved is what it was, in other numbers. -/
theorem moved_iso (hS : Surf (n : Int) T) (hto : AllN n tw) (hp : AllC T.length p) : ∃ f : Int → Int, (∀ x : Int, 0 ≤ x → x < n → f (toF tw x) = x) ∧ Iso (pickM (T.map (renT (toF tw))) p) T (srcC p) f := by
  obtain ⟨f, hf⟩ := hto.back
  refine ⟨f, hf, ?_⟩
  have hml : (pickM (T.map (renT (toF tw))) p).length = T.length := by rw [pickM, List.length_map, hp.len]
  have hgt : ∀ d, d < 3 * T.length → ∃ c, p[d / 3]? = some c ∧ p.getD (d / 3) 0 = c ∧ c < 3 * T.length := fun d hd => by
    have hl : d / 3 < p.length := by rw [hp.len]; omega
    exact ⟨p[d / 3], List.getElem?_eq_getElem hl, by simp [List.getD, List.getElem?_eq_getElem hl], hp.rng _ (List.getElem_mem hl)⟩
  have hv : ∀ d, d < 3 * T.length → srcC p d < 3 * T.length ∧ vertN (pickM (T.map (renT (toF tw))) p) d = toF tw (vertN T (srcC p d)) := fun d hd => by
    obtain ⟨c, e1, e2, e3⟩ := hgt d hd
    have h1 := turnN_tri (d % 3) c
    have h2 : srcC p d < 3 * T.length := by unfold srcC; rw [e2]; omega
    refine ⟨h2, ?_⟩
    rw [vert_turnAt (T.map (renT (toF tw))) (c := c) (by rw [pickM, List.getElem?_map, e1]; rfl)]
    have h3 : turnN (d % 3) c = srcC p d := by unfold srcC; rw [e2]
    rw [h3, vert_ren h2]
  have hfv : ∀ d, d < 3 * T.length → f (vertN (pickM (T.map (renT (toF tw))) p) d) = vertN T (srcC p d) := fun d hd => by
    obtain ⟨h1, h2⟩ := hv d hd
    have h3 := vert_inr hS h1
    rw [h2]
    exact hf _ h3.1 h3.2
  refine ⟨hml.symm, fun d hd => ?_, fun d b hd hb e => ?_, fun d hd => ?_, fun d hd => ?_, fun d b hd hb e => ?_⟩
  · rw [hml] at hd ⊢
    exact (hv d hd).1
  · rw [hml] at hd hb
    obtain ⟨c, d1, d2, d3⟩ := hgt d hd
    obtain ⟨c', b1, b2, b3⟩ := hgt b hb
    unfold srcC at e
    rw [d2, b2] at e
    have h3 : c / 3 = c' / 3 := by rw [← turnN_tri (d % 3) c, e, turnN_tri]
    have hij := hp.one d1 b1 h3
    rw [hij, b1] at d1
    cases d1
    have := turnN_inj (Nat.mod_lt _ (by decide)) (Nat.mod_lt _ (by decide)) e
    omega
  · rw [hml] at hd
    have n3 : Jor.nx d / 3 = d / 3 := by unfold Jor.nx; omega
    have m3 : Jor.nx d % 3 = (d % 3 + 1) % 3 := by unfold Jor.nx; omega
    unfold srcC
    rw [n3, m3, ← turnN_nx, Nat.mod_mod]
  · rw [hml] at hd
    exact (hfv d hd).symm
  · rw [hml] at hd hb
    obtain ⟨h1, h2⟩ := hv d hd
    obtain ⟨h1', h2'⟩ := hv b hb
    rw [hfv d hd, hfv b hb] at e
    rw [h2, h2', e]
theorem turned_at {g : Int → Int} {t : Tr} {i c : Nat} (ht : T[i]? = some t) (hc : c / 3 = i) : Turned false g t (turnAt (T.map (renT g)) c) := by
  have hl := (List.getElem?_eq_some_iff.1 ht).1
  have ta : ∀ d, d / 3 = i → triAt T d = t := fun d hd => by unfold triAt; rw [hd, ht]; rfl
  have n3 : Jor.nx c / 3 = i := by unfold Jor.nx; omega
  have p3 : Jor.pv c / 3 = i := by unfold Jor.pv; omega
  unfold turnAt
  rw [vert_ren (by omega), vert_ren (by omega), vert_ren (by omega)]
  unfold vertN
  rw [ta c hc, ta _ n3, ta _ p3]
  rcases (by omega : c % 3 = 0 ∨ c % 3 = 1 ∨ c % 3 = 2) with hm | hm | hm
  · have h1 : Jor.nx c % 3 = 1 := by unfold Jor.nx; omega
    have h2 : Jor.pv c % 3 = 2 := by unfold Jor.pv; omega
    simp only [hm, h1, h2]
    exact .inl rfl
  · have h1 : Jor.nx c % 3 = 2 := by unfold Jor.nx; omega
    have h2 : Jor.pv c % 3 = 0 := by unfold Jor.pv; omega
    simp only [hm, h1, h2]
    exact .inr (.inl rfl)
  · have h1 : Jor.nx c % 3 = 0 := by unfold Jor.nx; omega
    have h2 : Jor.pv c % 3 = 1 := by unfold Jor.pv; omega
    simp only [hm, h1, h2]
    exact .inr (.inr rfl)
/-- What was moved is a surface. -/
theorem moved_surf (hS : Surf (n : Int) T) (hto : AllN n tw) (hp : AllC T.length p) : Surf (n : Int) (pickM (T.map (renT (toF tw))) p) := by
  have hr : ∀ t ∈ T, ∀ x, hasV t x → 0 ≤ x ∧ x < n := fun t ht x hx => in3_has.1 (hS.inr t ht) x hx
  have key : ∀ i : Nat, ∃ k : Nat, i < T.length → ∃ c, p[k]? = some c ∧ c / 3 = i := fun i => by
    by_cases hi : i < T.length
    · obtain ⟨k, -, c, h1, h2⟩ := hp.all hi
      exact ⟨k, fun _ => ⟨c, h1, h2⟩⟩
    · exact ⟨0, fun h => absurd h hi⟩
  obtain ⟨π, hπ⟩ := Classical.axiomOfChoice key
  have hM : Mv false T (pickM (T.map (renT (toF tw))) p) π (toF tw) := by
    refine ⟨by rw [pickM, List.length_map, hp.len], fun i hi => ?_, fun i j hi hj e => ?_, fun i t ht => ?_, fun t ht s hs x y hx hy e => hto.inj (hr t ht x hx) (hr s hs y hy) e⟩
    · obtain ⟨c, h1, -⟩ := hπ i hi
      have := (List.getElem?_eq_some_iff.1 h1).1
      rw [hp.len] at this
      exact this
    · obtain ⟨c, h1, h2⟩ := hπ i hi
      obtain ⟨d, h3, h4⟩ := hπ j hj
      rw [e, h3] at h1
      cases h1
      omega
    · obtain ⟨c, h1, h2⟩ := hπ i (List.getElem?_eq_some_iff.1 ht).1
      exact ⟨_, by rw [pickM, List.getElem?_map, h1]; rfl, turned_at ht h2⟩
  exact hM.surf hS hS.n0 hS.n1 (fun x hx => hto.in_ hx) (fun u hu => by
    obtain ⟨x, hx, e⟩ := hto.on hu
    exact ⟨x, hx, e⟩)
end
end Go.Proofs.YtpnkhgjjlionnaaGreat
namespace Go.Proofs.YtpnkhgjjlionnaaGreat.Zp
open Go.RowKit

theorem idxFrom_ge (x : Int) : ∀ (zs : List Int) (j : Nat), Lib.idxFrom zs x j = -1 ∨ (j : Int) ≤ Lib.idxFrom zs x j
  | [], _ => .inl rfl
  | z :: r, j => by
    unfold Lib.idxFrom
    split
    · exact .inr (Int.le_refl _)
    · rcases idxFrom_ge x r (j + 1) with h | h
      · exact .inl h
      · exact .inr (by omega)
theorem idxFrom_get (x : Int) : ∀ (zs : List Int) (j i : Nat), Lib.idxFrom zs x j = ((i + j : Nat) : Int) → zs[i]? = some x
  | [], j, i, h => by simp only [Lib.idxFrom] at h; omega
  | z :: r, j, i, h => by
    unfold Lib.idxFrom at h
    split at h
    · rename_i e
      have : i = 0 := by omega
      subst this
      rw [e]
      rfl
    · cases i with
      | zero =>
        rcases idxFrom_ge x r (j + 1) with h2 | h2 <;> omega
      | succ i =>
        have := idxFrom_get x r (j + 1) i (by rw [h]; omega)
        simpa using this
theorem idxOf_get {x : Int} {zs : List Int} {i : Nat} (h : Lib.idxOf zs x = (i : Int)) : zs[i]? = some x := idxFrom_get x zs 0 i (by rw [Nat.add_zero]; exact h)
/-- How long the loops are, the present one first. -/
def lensW (s : WSt) : List Int := if s.loop = [] then [] else (s.loop.length : Int) :: s.wait.reverse.map fun l => (l.length : Int)
section
variable {T : List Tr} {N : Nat} {c : Nat}
theorem lensW_cons {come r : List Int} {a : Int} {wait : List (List Int)} : lensW ⟨come, a :: r, wait⟩ = ((a :: r).length : Int) :: wait.reverse.map fun l => (l.length : Int) := by
  unfold lensW
  rw [if_neg (by simp)]
theorem step_lens {s s' : WSt} {x : WStep} (hs : Proofs.YtpnkhgjjlionnaaGreat.stepM T s = some (x, s')) (h3 : 3 ≤ s.loop.length) (hw : ∀ l ∈ s.wait, l ≠ []) : ref24Step (lensW s') x.letter = some (lensW s) := by
  obtain ⟨come, loop, wait⟩ := s
  unfold Proofs.YtpnkhgjjlionnaaGreat.stepM at hs
  match loop, h3, hs with
  | [], _, hs => cases hs
  | [a], _, hs => cases hs
  | a :: b :: r, h3, hs =>
    simp only at hs h3 hw
    by_cases hf : facI T (a, b) < 0
    · rw [if_pos hf] at hs
      cases hs
    rw [if_neg hf] at hs
    simp only [List.length_cons] at h3
    rw [lensW_cons]
    by_cases h1 : vertI T (facI T (a, b)) ∉ come
    · rw [if_pos h1] at hs
      cases hs
      rw [lensW_cons]
      simp only [ref24Step, List.length_cons, Int.reduceEq, if_false, if_true]
      rw [if_neg (by omega)]
      congr 2
      omega
    · rw [if_neg h1] at hs
      by_cases h2 : r.length = 1
      · rw [if_pos h2] at hs
        cases hs
        simp only [ref24Step, if_true, List.length_cons, h2]
        congr 1
        rcases List.eq_nil_or_concat wait with hq | ⟨w0, l, hq⟩
        · subst hq
          rfl
        · have hq : wait = w0 ++ [l] := by simpa using hq
          subst hq
          have hl : l ≠ [] := hw l (by simp)
          have e1 : (w0 ++ [l]).getLast?.getD [] = l := by simp
          have e2 : (w0 ++ [l]).dropLast = w0 := by simp
          rw [e1, e2]
          unfold lensW
          rw [if_neg hl]
          simp
      · rw [if_neg h2] at hs
        by_cases h3' : Lib.idxOf (a :: b :: r) (vertI T (facI T (a, b))) = r.length + 1
        · rw [if_pos h3'] at hs
          cases hs
          rw [lensW_cons]
          simp only [ref24Step, Int.reduceEq, if_false, true_or, if_true, List.length_cons, List.length_dropLast]
          congr 2
          try omega
        · rw [if_neg h3'] at hs
          by_cases h4 : Lib.idxOf (a :: b :: r) (vertI T (facI T (a, b))) = 2
          · rw [if_pos h4] at hs
            cases hs
            rw [lensW_cons]
            simp only [ref24Step, Int.reduceEq, if_false, or_true, if_true, List.length_cons]
            congr 2
            try omega
          · rw [if_neg h4] at hs
            by_cases h5 : 2 < Lib.idxOf (a :: b :: r) (vertI T (facI T (a, b)))
            · rw [if_pos h5] at hs
              cases hs
              have hle := idxOf_le (vertI T (facI T (a, b))) (a :: b :: r)
              simp only [List.length_cons] at hle
              obtain ⟨i, hi⟩ : ∃ i : Nat, Lib.idxOf (a :: b :: r) (vertI T (facI T (a, b))) = i := ⟨_, (Int.toNat_of_nonneg (by omega)).symm⟩
              rw [hi] at hle h5 ⊢
              rw [lensW_cons]
              simp only [ref24Step, Int.reduceEq, if_false, or_self, if_true, List.reverse_append, List.reverse_cons, List.reverse_nil, List.nil_append, List.singleton_append, List.map_cons, List.length_cons, List.length_drop, List.length_take, Int.toNat_natCast]
              congr 2
              omega
            · rw [if_neg h5] at hs
              cases hs
/-- The letters of the walk. -/
def lettersW (T : List Tr) (c : Nat) : List Int := (stepsM T c).map (·.letter)
theorem letters_len (T : List Tr) (c : Nat) : (lettersW T c).length = (stepsM T c).length := by simp [lettersW]
theorem step_prev (h : Simp N T) (hc : c < 3 * T.length) {k : Nat} (hk : k < (stepsM T c).length) {s : WSt} (R : Ran T (beginS T c) ((stepsM T c).take k) s) : ∃ s', Proofs.YtpnkhgjjlionnaaGreat.stepM T s = some ((stepsM T c)[k], s') ∧ Ran T (beginS T c) ((stepsM T c).take (k + 1)) s' := by
  obtain ⟨sE, Xs, RE, -⟩ := walk_end h hc
  obtain ⟨s', R'⟩ := RE.take (k + 1) hk
  have e := List.take_succ_eq_append_getElem hk
  have R2 := R'
  rw [e] at R2
  obtain ⟨s0, R0, hs⟩ := ran_inv R2
  obtain ⟨-, e0⟩ := R0.one R rfl
  subst e0
  exact ⟨s', hs, R'⟩
theorem walk_st (h : Simp N T) (hc : c < 3 * T.length) : ∀ (j k : Nat), k + j = (stepsM T c).length → ∀ s, Ran T (beginS T c) ((stepsM T c).take k) s → stAt (lettersW T c) k = some (lensW s)
  | 0, k, hk, s, R => by
    obtain ⟨sE, Xs, RE, e, -⟩ := walk_end h hc
    rw [List.take_of_length_le (by omega)] at R
    obtain ⟨-, e0⟩ := R.one RE rfl
    subst e0
    have hl := letters_len T c
    have : k = (lettersW T c).length := by omega
    rw [this, stAt_end]
    unfold lensW
    rw [if_pos e]
  | j + 1, k, hk, s, R => by
    have hlt : k < (stepsM T c).length := by omega
    obtain ⟨s', hs, R'⟩ := step_prev h hc hlt R
    have ih := walk_st h hc j (k + 1) (by omega) s' R'
    obtain ⟨Xs, G⟩ := R.gone h hc
    obtain ⟨-, -, -, w4, w5⟩ := G.wants h
    have hne : s.loop ≠ [] := by
      intro e
      unfold Proofs.YtpnkhgjjlionnaaGreat.stepM at hs
      rw [e] at hs
      cases hs
    have hl := letters_len T c
    rw [stAt_step (lettersW T c) k (by omega), ih]
    simp only [Option.bind_some]
    have e : (lettersW T c)[k]'(by omega) = (stepsM T c)[k].letter := by simp [lettersW]
    rw [e]
    exact step_lens hs (w4 hne) w5
/-- The word of a walk is right. -/
theorem walk_right (h : Simp N T) (hc : c < 3 * T.length) : ref24M (lettersW T c) = true := by
  have := walk_st h hc (stepsM T c).length 0 (by omega) (beginS T c) (by rw [List.take_zero]; exact .nil)
  rw [stAt_zero] at this
  unfold ref24M
  rw [this]
  rfl
/-- The vertex that was come to as so manieth. -/
def vOf (T : List Tr) (c : Nat) (j : Int) : Int := (walkV T c).getD j.toNat 0
/-- The corners come to. -/
def cOf (T : List Tr) (c k : Nat) : List Nat := c :: ((stepsM T c).take k).map (·.corner.toNat)
/-- What is zipped so far is what was walked so far, in other numbers. -/
structure Sim (T : List Tr) (c k : Nat) (m : ZM) (s : WSt) : Prop where
  n : m.n = s.come.length
  tri : m.T.map (renT (vOf T c)) = pickM T (cOf T c k)
  loop : k < (stepsM T c).length → s.loop = m.loop.map (vOf T c)
  wait : k < (stepsM T c).length → s.wait = (m.waits.map (List.map (vOf T c))).reverse
theorem come_pre (h : Simp N T) (hc : c < 3 * T.length) {k : Nat} {s : WSt} (R : Ran T (beginS T c) ((stepsM T c).take k) s) : ∃ r, walkV T c = s.come ++ r := by
  obtain ⟨Xs, G⟩ := R.gone h hc
  refine ⟨newV T ((stepsM T c).drop k), ?_⟩
  rw [G.come, List.append_assoc]
  have : newV T (stepsM T c) = newV T ((stepsM T c).take k) ++ newV T ((stepsM T c).drop k) := by
    unfold newV
    rw [← List.map_append, ← List.filter_append, List.take_append_drop]
  rw [← this]
  rfl
theorem turn_fac {a b : Int} {d : Nat} (hf : facI T (a, b) = (d : Int)) : d < 3 * T.length ∧ turnAt T d = (vertI T (facI T (a, b)), a, b) := by
  obtain ⟨h1, h2⟩ := facI_some hf
  refine ⟨h1, ?_⟩
  rw [hf, vertI_nat h1]
  unfold turnAt
  unfold edgeN at h2
  simp only [Prod.mk.injEq] at h2
  rw [h2.1, h2.2]
/-- A vertex that was come to lies in the loop. -/
theorem come_loop (h : Simp N T) {L : List WStep} {s : WSt} {Xs : List (List Nat)} (G : Gone N T c L s Xs) {a b : Int} {r : List Int} (hl : s.loop = a :: b :: r) {d : Nat} (hf : facI T (a, b) = (d : Int)) (hm : vertN T d ∈ s.come) : vertN T d ∈ r := by
  obtain ⟨c0, X, W, rfl⟩ : ∃ c0 X W, Xs = (c0 :: X) :: W := by
    cases Xs with
    | nil => have := G.rel.loop; rw [hl] at this; cases this
    | cons X W =>
      cases X with
      | nil => have := G.rel.loop; rw [hl] at this; cases this
      | cons c0 r => exact ⟨c0, r, W, rfl⟩
  have hX : (c0 :: X) ∈ (c0 :: X) :: W := List.mem_cons_self ..
  have h0 : Jor.Bd T.length (oppN T) (dOf c L) c0 := G.inv.mem hX (List.mem_cons_self ..)
  have hl0 := h0.1
  have ha := Jor.pv_lt hl0
  have hlen := G.inv.len _ hX
  obtain ⟨b', r', rfl⟩ : ∃ b' r', X = b' :: r' := List.exists_cons_of_ne_nil (by rintro rfl; simp at hlen)
  have hbl := (G.inv.mem hX (show b' ∈ c0 :: b' :: r' by simp)).1
  have e1 : vertN T (Jor.pv c0) = hdI T b' := by
    obtain ⟨c', r'', e', hcyc⟩ := G.inv.cyc _ hX
    cases e'
    simp only [List.map_cons, List.cons_append, List.cons.injEq] at hcyc
    exact (verN_eq h.surf ha (Jor.nx_lt hbl)).1 hcyc.1
  have hloop : s.loop = hdI T c0 :: hdI T b' :: r'.map (hdI T) := G.rel.loop
  rw [hl] at hloop
  simp only [List.cons.injEq] at hloop
  obtain ⟨rfl, rfl, rfl⟩ := hloop
  have hfac : facI T (hdI T c0, hdI T b') = (c0 : Int) := by
    rw [← e1]
    exact facI_of h.surf.twice hl0
  have hdc : d = c0 := by rw [hfac] at hf; omega
  subst hdc
  have hcm := (G.rel.come d hl0).1 hm
  have ht := G.inv.touch h.K hX (List.mem_cons_self ..) hl0 rfl hcm
  obtain ⟨e, he, hev⟩ := List.mem_map.1 ht
  have hel := (G.inv.mem hX he).1
  have hev' : hdI T e = vertN T d := (verN_eq h.surf (Jor.nx_lt hel) hl0).1 hev
  obtain ⟨n1, n2, n3⟩ := vert_ne h.surf.simple hl0
  have hmem : vertN T d ∈ (d :: b' :: r').map (hdI T) := by rw [← hev']; exact List.mem_map_of_mem he
  simp only [List.map_cons, List.mem_cons] at hmem
  rcases hmem with e2 | e2 | e2
  · exact absurd e2.symm n1
  · rw [← e1] at e2
    exact absurd e2.symm n2
  · exact e2
theorem sim_zero (_h : Simp N T) (_hc : c < 3 * T.length) : Sim T c 0 (zmAt (lettersW T c) 0) (beginS T c) := by
  have e : walkV T c = [vertN T c, vertN T (Jor.nx c), vertN T (Jor.pv c)] ++ newV T (stepsM T c) := rfl
  have v0 : vOf T c 0 = vertN T c := by unfold vOf; rw [e]; rfl
  have v1 : vOf T c 1 = vertN T (Jor.nx c) := by unfold vOf; rw [e]; rfl
  have v2 : vOf T c 2 = vertN T (Jor.pv c) := by unfold vOf; rw [e]; rfl
  refine ⟨rfl, ?_, fun _ => ?_, fun _ => rfl⟩
  · show [renT (vOf T c) (0, 1, 2)] = [turnAt T c]
    unfold renT turnAt
    simp only [v0, v1, v2]
  · show [vertN T (Jor.nx c), vertN T c, vertN T (Jor.pv c)] = [vOf T c 1, vOf T c 0, vOf T c 2]
    rw [v0, v1, v2]
theorem sim_next (h : Simp N T) (hc : c < 3 * T.length) {k : Nat} (hk : k < (stepsM T c).length) {m : ZM} {s s' : WSt} (S : Sim T c k m s) (R : Ran T (beginS T c) ((stepsM T c).take k) s)
    (hs : Proofs.YtpnkhgjjlionnaaGreat.stepM T s = some ((stepsM T c)[k], s')) (R' : Ran T (beginS T c) ((stepsM T c).take (k + 1)) s') : Sim T c (k + 1) (nextM (lettersW T c) k m) s' := by
  have hl := letters_len T c
  have hz : (lettersW T c).getD k 0 = (stepsM T c)[k].letter := by
    rw [getD_getElem (by omega)]
    simp [lettersW]
  have hst := walk_st h hc ((stepsM T c).length - (k + 1)) (k + 1) (by omega) s' R'
  obtain ⟨rest, hrest⟩ := come_pre h hc R'
  obtain ⟨Xs, G⟩ := R.gone h hc
  obtain ⟨-, -, -, w4, w5⟩ := G.wants h
  have hcOf : cOf T c (k + 1) = cOf T c k ++ [(stepsM T c)[k].corner.toNat] := by
    unfold cOf
    rw [List.take_succ_eq_append_getElem hk, List.map_append]
    rfl
  obtain ⟨x, hx⟩ : ∃ x, (stepsM T c)[k] = x := ⟨_, rfl⟩
  rw [hx] at hs hz hcOf
  obtain ⟨mn, mT, ml, mw⟩ := m
  obtain ⟨sn, stri, sloop, swait⟩ := S
  have sloop := sloop hk
  have swait := swait hk
  simp only at sn stri sloop swait
  obtain ⟨come, loop, wait⟩ := s
  simp only at sn sloop swait w4 w5
  have hne : loop ≠ [] := by
    intro e
    unfold Proofs.YtpnkhgjjlionnaaGreat.stepM at hs
    rw [e] at hs
    cases hs
  have h3 := w4 hne
  have e2 : wait = (mw.map (List.map (vOf T c))).reverse := swait
  have e1 : loop = ml.map (vOf T c) := sloop
  clear swait sloop
  subst e2
  match ml, e1, h3 with
  | [], e1, h3 => rw [e1] at h3; simp at h3
  | [_], e1, h3 => rw [e1] at h3; simp at h3
  | a :: b :: r, e1, h3 =>
    subst e1
    simp only [List.map_cons, List.length_cons, List.length_map] at h3 hs
    have hr1 : 1 ≤ r.length := by omega
    unfold Proofs.YtpnkhgjjlionnaaGreat.stepM at hs
    simp only at hs
    by_cases hf : facI T (vOf T c a, vOf T c b) < 0
    · rw [if_pos hf] at hs
      cases hs
    rw [if_neg hf] at hs
    obtain ⟨d, hd⟩ : ∃ d : Nat, facI T (vOf T c a, vOf T c b) = (d : Int) := ⟨(facI T (vOf T c a, vOf T c b)).toNat, by omega⟩
    obtain ⟨hdl, htu⟩ := turn_fac hd
    rw [hd] at htu
    obtain ⟨u, hu⟩ : ∃ u, vertI T ((d : Nat) : Int) = u := ⟨_, rfl⟩
    rw [hu] at htu
    rw [hd, hu] at hs
    simp only [List.length_map] at hs
    have htri : ∀ v : Int, vOf T c v = u → (mT ++ [(v, a, b)]).map (renT (vOf T c)) = pickM T (cOf T c k ++ [d]) := fun v hv => by
      rw [List.map_append, stri]
      unfold pickM
      rw [List.map_append]
      congr 1
      show [renT (vOf T c) (v, a, b)] = [turnAt T d]
      rw [htu]
      unfold renT
      rw [hv]
    by_cases h1 : u ∉ come
    · rw [if_pos h1] at hs
      cases hs
      have hv : vOf T c (mn : Int) = u := by
        unfold vOf
        rw [hrest, Int.toNat_natCast, sn]
        simp
      try simp only [Int.toNat_natCast] at hcOf
      refine ⟨?_, ?_, fun _ => ?_, fun _ => ?_⟩
      · simp only [nextM, stepM, hz, if_true, List.length_append, List.length_cons, List.length_nil, sn]
      · simp only [nextM, stepM, hz, if_true]
        rw [hcOf]
        exact htri _ hv
      · simp only [nextM, stepM, hz, if_true, List.take_succ_cons, List.take_zero, List.drop_succ_cons, List.drop_zero, List.map_cons, hv, List.cons_append, List.nil_append]
      · simp only [nextM, stepM, hz, if_true]
    · rw [if_neg h1] at hs
      by_cases h2 : r.length = 1
      · rw [if_pos h2] at hs
        cases hs
        obtain ⟨e0, rfl⟩ : ∃ e0, r = [e0] := by
          match r, h2 with
          | [e0], _ => exact ⟨e0, rfl⟩
        try simp only [Int.toNat_natCast] at hcOf
        have hmem := come_loop h G (a := vOf T c a) (b := vOf T c b) (r := [vOf T c e0]) rfl hd (by rw [← vertI_nat hdl, hu]; simpa using h1)
        have hv : vOf T c e0 = u := by
          rw [← hu, vertI_nat hdl]
          exact (List.mem_singleton.1 hmem).symm
        cases mw with
        | nil =>
          have hlast : ¬ (k + 1 < (stepsM T c).length) := fun hlt => by
            obtain ⟨s2, hs2, -⟩ := step_prev h hc hlt R'
            unfold Proofs.YtpnkhgjjlionnaaGreat.stepM at hs2
            cases hs2
          refine ⟨?_, ?_, fun hlt => absurd hlt hlast, fun hlt => absurd hlt hlast⟩
          · simp only [nextM, stepM, hz, if_false, Int.reduceEq, sn]
          · simp only [nextM, stepM, hz, if_false, Int.reduceEq]
            rw [hcOf]
            exact htri _ hv
        | cons l rw_ =>
          refine ⟨?_, ?_, fun _ => ?_, fun _ => ?_⟩
          · simp only [nextM, stepM, hz, if_false, Int.reduceEq, sn]
          · simp only [nextM, stepM, hz, if_false, Int.reduceEq]
            rw [hcOf]
            exact htri _ hv
          · simp only [nextM, stepM, hz, if_false, Int.reduceEq]
            simp
          · simp only [nextM, stepM, hz, if_false, Int.reduceEq]
            simp
      · rw [if_neg h2] at hs
        try simp only [Int.toNat_natCast] at hcOf
        by_cases h3' : Lib.idxOf (vOf T c a :: vOf T c b :: r.map (vOf T c)) u = (r.length : Int) + 1
        · rw [if_pos h3'] at hs
          cases hs
          try simp only [Int.toNat_natCast] at hcOf
          have hg := idxOf_get (i := r.length + 1) (by rw [h3']; rfl)
          have hv : vOf T c ((a :: b :: r).getD (r.length + 1) 0) = u := by
            rw [← List.map_cons, ← List.map_cons, List.getElem?_map] at hg
            rw [getD_getElem (by simp)]
            rw [List.getElem?_eq_getElem (by simp)] at hg
            exact Option.some.inj hg
          refine ⟨?_, ?_, fun _ => ?_, fun _ => ?_⟩
          · simp only [nextM, stepM, hz, if_true, if_false, Int.reduceEq, sn]
          · simp only [nextM, stepM, hz, if_true, if_false, Int.reduceEq]
            rw [hcOf]
            exact htri _ hv
          · simp only [nextM, stepM, hz, if_true, if_false, Int.reduceEq]
            have e1 : (a :: b :: r).drop ((a :: b :: r).length - 1) = [(a :: b :: r).getD (r.length + 1) 0] := by
              rw [show (a :: b :: r).length - 1 = r.length + 1 from by simp, List.drop_eq_getElem_cons (by simp), getD_getElem (by simp), List.drop_eq_nil_of_le (by simp)]
            have e2 : ((a :: b :: r).take ((a :: b :: r).length - 1)).drop 1 = (b :: r).dropLast := by
              rw [← List.dropLast_eq_take]
              rfl
            rw [e1, e2, List.map_append, List.map_cons, List.map_nil, hv, List.map_dropLast]
            rfl
          · simp only [nextM, stepM, hz, if_true, if_false, Int.reduceEq]
        · rw [if_neg h3'] at hs
          by_cases h4 : Lib.idxOf (vOf T c a :: vOf T c b :: r.map (vOf T c)) u = 2
          · rw [if_pos h4] at hs
            cases hs
            try simp only [Int.toNat_natCast] at hcOf
            have hg := idxOf_get (i := 2) (by rw [h4]; rfl)
            have hv : vOf T c ((a :: b :: r).getD 2 0) = u := by
              rw [← List.map_cons, ← List.map_cons, List.getElem?_map] at hg
              rw [getD_getElem (by simp; omega)]
              rw [List.getElem?_eq_getElem (by simp; omega)] at hg
              exact Option.some.inj hg
            refine ⟨?_, ?_, fun _ => ?_, fun _ => ?_⟩
            · simp only [nextM, stepM, hz, if_true, if_false, Int.reduceEq, sn]
            · simp only [nextM, stepM, hz, if_true, if_false, Int.reduceEq]
              rw [hcOf]
              exact htri _ hv
            · simp only [nextM, stepM, hz, if_true, if_false, Int.reduceEq, List.take_succ_cons, List.take_zero, List.drop_succ_cons, List.drop_zero, List.cons_append, List.nil_append, List.map_cons]
            · simp only [nextM, stepM, hz, if_true, if_false, Int.reduceEq]
          · rw [if_neg h4] at hs
            by_cases h5 : 2 < Lib.idxOf (vOf T c a :: vOf T c b :: r.map (vOf T c)) u
            · rw [if_pos h5] at hs
              have hle := idxOf_le u (vOf T c a :: vOf T c b :: r.map (vOf T c))
              simp only [List.length_cons, List.length_map] at hle
              obtain ⟨i, hi⟩ : ∃ i : Nat, Lib.idxOf (vOf T c a :: vOf T c b :: r.map (vOf T c)) u = i := ⟨_, (Int.toNat_of_nonneg (by omega)).symm⟩
              rw [hi] at hs h5 hle h3'
              have hg := idxOf_get hi
              have hv : vOf T c ((a :: b :: r).getD i 0) = u := by
                rw [← List.map_cons, ← List.map_cons, List.getElem?_map] at hg
                rw [getD_getElem (by simp; omega)]
                rw [List.getElem?_eq_getElem (by simp; omega)] at hg
                exact Option.some.inj hg
              cases hs
              try simp only [Int.toNat_natCast] at hcOf
              have hiA : iAt (lettersW T c) k = i := by
                unfold iAt
                rw [if_pos hz, hst, lensW_cons]
                simp only [List.reverse_append, List.reverse_cons, List.reverse_nil, List.nil_append, List.singleton_append, List.map_cons, List.length_cons, List.length_take, List.length_map, Int.toNat_natCast]
                omega
              have hdr : (a :: b :: r).drop i = (a :: b :: r).getD i 0 :: (a :: b :: r).drop (i + 1) := by
                rw [getD_getElem (by simp; omega)]
                exact List.drop_eq_getElem_cons (by simp; omega)
              refine ⟨?_, ?_, fun _ => ?_, fun _ => ?_⟩
              · simp only [nextM, stepM, hz, if_true, if_false, Int.reduceEq, sn]
              · simp only [nextM, stepM, hz, if_true, if_false, Int.reduceEq, hiA]
                rw [hcOf]
                exact htri _ hv
              · simp only [nextM, stepM, hz, if_true, if_false, Int.reduceEq, hiA, List.take_succ_cons, List.take_zero, List.cons_append, List.nil_append, List.map_cons, List.map_drop, Int.toNat_natCast]
              · simp only [nextM, stepM, hz, if_true, if_false, Int.reduceEq, hiA, Int.toNat_natCast]
                rw [hdr]
                obtain ⟨i', rfl⟩ : ∃ i', i = i' + 1 := ⟨i - 1, by omega⟩
                simp only [List.take_succ_cons, List.take_zero, List.drop_succ_cons, List.drop_zero, List.map_cons, List.reverse_cons, List.cons_append, List.nil_append, hv, List.map_take, Nat.add_sub_cancel]
            · rw [if_neg h5] at hs
              cases hs
theorem sim_at (h : Simp N T) (hc : c < 3 * T.length) : ∀ k, k ≤ (stepsM T c).length → ∃ s, Ran T (beginS T c) ((stepsM T c).take k) s ∧ Sim T c k (zmAt (lettersW T c) k) s := by
  intro k
  induction k with
  | zero => intro _; exact ⟨_, by rw [List.take_zero]; exact .nil, sim_zero h hc⟩
  | succ k ih =>
    intro hk
    obtain ⟨s, R, S⟩ := ih (by omega)
    obtain ⟨s', hs, R'⟩ := step_prev h hc hk R
    exact ⟨s', R', sim_next h hc hk S R hs R'⟩
/-- What is zipped of a walk's word. -/
def zipW (T : List Tr) (c : Nat) : ZM := zmAt (lettersW T c) (lettersW T c).length
def cornW (T : List Tr) (c : Nat) : List Nat := c :: (stepsM T c).map (·.corner.toNat)
theorem zipW_tri (h : Simp N T) (hc : c < 3 * T.length) : (zipW T c).T.map (renT (vOf T c)) = pickM T (cornW T c) ∧ (zipW T c).n = N := by
  obtain ⟨s, R, S⟩ := sim_at h hc (stepsM T c).length (Nat.le_refl _)
  have hl := letters_len T c
  obtain ⟨sE, Xs, RE, e, G, -⟩ := walk_end h hc
  rw [List.take_of_length_le (Nat.le_refl _)] at R
  obtain ⟨-, e0⟩ := R.one RE rfl
  subst e0
  unfold zipW
  rw [hl]
  refine ⟨?_, ?_⟩
  · rw [S.tri]
    unfold cOf cornW
    rw [List.take_of_length_le (Nat.le_refl _)]
  · rw [S.n, G.come]
    exact walkV_len h hc
theorem cornW_all (h : Simp N T) (hc : c < 3 * T.length) : AllC T.length (cornW T c) := by
  have hl := walk_len h hc
  obtain ⟨sE, Xs, RE, e, G, -⟩ := walk_end h hc
  refine ⟨by simp [cornW]; omega, ?_, ?_⟩
  · have := G.inv.dnd
    unfold dOf at this
    have h2 := ((List.reverse_perm _).nodup_iff).2 this
    rw [List.reverse_append, List.reverse_reverse] at h2
    unfold cornW
    rw [List.map_cons, List.map_map]
    exact h2
  · intro x hx
    unfold cornW at hx
    rcases List.mem_cons.1 hx with hx | hx
    · rw [hx]; exact hc
    · obtain ⟨y, hy, rfl⟩ := List.mem_map.1 hx
      obtain ⟨d, e1, e2, -⟩ := G.each y hy
      rw [e1]
      simpa using e2
/-- All numbers, as they are. -/
theorem allN_range (n : Nat) : AllN n ((List.range n).map fun i : Nat => (i : Int)) where
  len := by simp
  nd := by
    rw [List.nodup_iff_pairwise_ne, List.pairwise_map]
    exact (List.nodup_iff_pairwise_ne.1 List.nodup_range).imp fun hab e => hab (by omega)
  rng := fun x hx => by
    obtain ⟨i, hi, rfl⟩ := List.mem_map.1 hx
    have := List.mem_range.1 hi
    omega
theorem toF_range {n : Nat} {x : Int} (h0 : 0 ≤ x) (h1 : x < n) : toF ((List.range n).map fun i : Nat => (i : Int)) x = x := by
  unfold toF
  rw [at_get (by simp; omega)]
  simp
  omega
theorem ren_range {n : Nat} (hS : Surf (n : Int) T) : T.map (renT (toF ((List.range n).map fun i : Nat => (i : Int)))) = T := by
  have : T.map (renT (toF ((List.range n).map fun i : Nat => (i : Int)))) = T.map id := by
    refine List.map_congr_left fun t ht => ?_
    obtain ⟨h1, h2, h3⟩ := hS.inr t ht
    unfold renT
    rw [toF_range h1.1 h1.2, toF_range h2.1 h2.2, toF_range h3.1 h3.2]
    rfl
  rw [this, List.map_id]
/-- What is walked over, in the walk's order. -/
theorem pick_surf {n : Nat} (hS : Surf (n : Int) T) {p : List Nat} (hp : AllC T.length p) : Surf (n : Int) (pickM T p) ∧ ∃ f, Iso (pickM T p) T (srcC p) f := by
  have h1 := moved_surf hS (allN_range n) hp
  obtain ⟨f, -, h2⟩ := moved_iso hS (allN_range n) hp
  rw [ren_range hS] at h1 h2
  exact ⟨h1, f, h2⟩
end
theorem flat_ren (g : Int → Int) (M : List Tr) : (M.map (renT g)).flatMap edges3 = (M.flatMap edges3).map fun e => (g e.1, g e.2.1, e.2.2) := by
  rw [List.flatMap_map, List.map_flatMap]
  rfl
theorem nodup_back {g : Int → Int} {M : List Tr} (h : ((M.map (renT g)).flatMap edges3).Nodup) : (M.flatMap edges3).Nodup := by
  rw [flat_ren] at h
  exact List.Pairwise.of_map _ (fun a b hab e => hab (by rw [e])) h
theorem key_back {g : Int → Int} {M : List Tr} (h : ((M.map (renT g)).flatMap key3).Nodup) : (M.flatMap key3).Nodup := by
  refine key3_of fun i j t s hi hj e => ?_
  have hp := sort3_has e
  refine key3_idx h (i := i) (j := j) (t := renT g t) (s := renT g s) (by rw [List.getElem?_map, hi]; rfl) (by rw [List.getElem?_map, hj]; rfl) ?_
  exact sort3_perm (by simpa [renT] using hp.map g)
theorem fits_of {zs : List Int} (hE : ((zmAt zs zs.length).T.flatMap edges3).Nodup) (hK : ((zmAt zs zs.length).T.flatMap key3).Nodup) {k : Nat} (hk : k < zs.length) : fitsAt zs k = true := by
  have hpre : (zmAt zs k).T ++ [triAt zs k] = (zmAt zs zs.length).T.take (k + 1 + 1) := by rw [zmAt_T_take zs (show k + 1 ≤ zs.length from hk), zmAt_T]
  have hM : (zmAt zs zs.length).T = ((zmAt zs k).T ++ [triAt zs k]) ++ (zmAt zs zs.length).T.drop (k + 1 + 1) := by rw [hpre, List.take_append_drop]
  rw [hM, List.flatMap_append, List.nodup_append] at hE hK
  have h1 := hE.1
  have h2 := hK.1
  rw [List.flatMap_append, List.nodup_append] at h1 h2
  obtain ⟨-, a2, a3⟩ := h1
  obtain ⟨-, -, b3⟩ := h2
  simp only [List.flatMap_cons, List.flatMap_nil, List.append_nil, edges3, key3, List.nodup_cons, List.mem_cons, Prod.mk.injEq, and_true, List.not_mem_nil, or_false, not_or, List.nodup_nil, not_false_eq_true] at a2 a3 b3
  unfold fitsAt fitsM
  simp only [Bool.and_eq_true, decide_eq_true_eq, List.mem_cons, Prod.mk.injEq, not_or]
  rw [edgesOf_3, edgesOf_3, edgesOf_3]
  refine ⟨⟨⟨fun hm => ?_, fun hm => a3 _ hm _ (.inl rfl) rfl⟩, fun e => a2.1.1 ⟨e.1.symm, e.2.symm⟩, fun hm => a3 _ hm _ (.inr (.inl rfl)) rfl⟩, fun e => a2.2 ⟨e.1.symm, e.2.symm⟩, fun e => a2.1.2 ⟨e.1.symm, e.2.symm⟩, fun hm => a3 _ hm _ (.inr (.inr rfl)) rfl⟩
  obtain ⟨t, ht, e⟩ := List.mem_map.1 hm
  exact b3 _ (List.mem_flatMap.2 ⟨t, ht, List.mem_singleton.2 e.symm⟩) _ rfl rfl
section
variable {T : List Tr} {N : Nat} {c : Nat}
/-- All of the walk's word can be zipped. -/
theorem walk_fits (h : Simp N T) (hc : c < 3 * T.length) : ∀ k, k < (lettersW T c).length → fitsAt (lettersW T c) k = true := by
  obtain ⟨h1, h2⟩ := zipW_tri h hc
  obtain ⟨hP, -⟩ := pick_surf h.surf (cornW_all h hc)
  have hE := hP.twice
  have hK := hP.mirrored
  rw [← h1] at hE hK
  exact fun k hk => fits_of (nodup_back hE) (key_back hK) hk
end
end Go.Proofs.YtpnkhgjjlionnaaGreat.Zp
namespace Go.Proofs.YtpnkhgjjlionnaaGreat.Zp
open Go.RowKit Go.Maps

theorem loop_cell {w : World} {g n cap k : Nat} {xs : List Int} (h : w.ownsRow 0 3 1 (.slice (some ⟨g, 0, none⟩) n cap) n (xs.map (Value.int .i64))) (hk : k < n) (hn : xs.length = n) : w.cell? ⟨g, k, none⟩ = some (.int .i64 (xs.getD k 0)) := by
  rw [h.cellAt k (by omega), List.getElem?_map, List.getElem?_eq_getElem (by omega)]
  simp [List.getD, List.getElem?_eq_getElem (show k < xs.length by omega)]

set_option maxRecDepth 100000 in
set_option maxHeartbeats 2000000 in
theorem stepL_any {w : World} {base z be bt : Nat} {vT vL vW : Value} {vs : List Value} {m : ZM} (h : ZS w base z be bt vT vL vW vs m) (i : Int) (hn : 3 ≤ m.loop.length) (hn' : m.loop.length ≤ 900000) :
    Calls Tryz.prog 53 #[.pointer (some ⟨z, 0, none⟩), .int .u8 76, .int .i64 i] w fun en w' => en = .returned (.int .i64 (m.loop.getD (m.loop.length - 1) 0)) ∧ (∃ vL', ZS w' base z be bt vT vL' vW vs { m with loop := m.loop.drop (m.loop.length - 1) ++ (m.loop.take (m.loop.length - 1)).drop 1 }) ∧ Below base w w' := by
  obtain ⟨nE, nS, hnE, hnS, h⟩ := h
  have hbase : base ≤ w.heap.size := Nat.le_trans h.hz (Nat.le_of_lt h.blk.lt)
  have H := Lib.hid h
  have hzl := h.blk.lt
  obtain ⟨-, c0, c1, c2, c3, c4, c5, fz⟩ := h.blk.six'
  have hL := h.L
  obtain ⟨g, cap, rfl, hcap, hcap'⟩ := loop_form hL (by omega)
  have hgz : g ≠ z := by simpa [Value.ownBlock] using own_blk_ne hL h.blk (by decide)
  clear h
  obtain ⟨k, en⟩ : ∃ k, m.loop.length = k + 1 := ⟨m.loop.length - 1, by omega⟩
  rw [en] at hn hn' hcap H hL c2 ⊢
  have hA := (H.out.alloc (.cells #[.slice (some ⟨g, k, none⟩) 1 (cap - k), .slice (some ⟨g, 1, none⟩) (k - 1) (cap - 1)] 30)).drew.drew
  have hB : Blk ((w.alloc (.cells #[.slice (some ⟨g, k, none⟩) 1 (cap - k), .slice (some ⟨g, 1, none⟩) (k - 1) (cap - 1)] 30)).drew.drew) w.heap.size 30 #[.slice (some ⟨g, k, none⟩) 1 (cap - k), .slice (some ⟨g, 1, none⟩) (k - 1) (cap - 1)] := Blk.new _ _ _
  have hBl : Below base w ((w.alloc (.cells #[.slice (some ⟨g, k, none⟩) 1 (cap - k), .slice (some ⟨g, 1, none⟩) (k - 1) (cap - 1)] 30)).drew.drew) := (((Below.refl base w).alloc hbase _).drew).drew
  have hA5 := hA.L
  rw [en] at hA5
  have j1 := ints_part hA5 k 1 (cap - k) rfl (by omega) en
  have j2 := ints_part hA5 1 (k - 1) (cap - 1) rfl (by omega) en
  have HA := Lib.hid hA
  have HB := Lib.hid hB
  have HBl := Lib.hid hBl
  have J1 := Lib.hid j1
  have J2 := Lib.hid j2
  have eN : ((m.loop.drop k).take 1 ++ (m.loop.drop 1).take (k - 1)).length = k := by simp; omega
  have e2 : (m.loop.drop k).take 1 ++ (m.loop.drop 1).take (k - 1) = m.loop.drop k ++ (m.loop.take k).drop 1 := by
    rw [List.drop_take, List.take_of_length_le (l := m.loop.drop k) (by simp; omega)]
  have EN := Lib.hid eN
  have E2 := Lib.hid e2
  have En := Lib.hid en
  clear hA hB hBl hA5 j1 j2 hL eN e2 en
  have d1 : IntKind.i64.wrap ((k : Int) + 1 - 1) = (k : Int) := by rw [IntWalk.i64_in _ (by omega)]; omega
  have d1b : IntKind.i64.wrap (k : Int) = (k : Int) := IntWalk.i64_in _ (by omega)
  have d1c : (k : Int) < (k : Int) + 1 := by omega
  have d2 : (0 : Int) ≤ (k : Int) := by omega
  have d3 : (k : Int) ≤ (cap : Int) := by omega
  have d4 : (1 : Int) ≤ (k : Int) := by omega
  have d5 : (k : Int) ≤ (k : Int) + 1 := by omega
  have d6 : k + 1 - 1 = k := by omega
  rw [d6]
  clear d6
  generalize hx : m.loop.getD k 0 = x
  have Hx := Lib.hid hx
  clear hx
  go_enter Tryz.func53, Tryz.ntmps53
  go_wp2
  go_region
  go_wp2
  go_region_with (go_at_call 80; refine (concat_two HB.out J1.out J2.out EN.out (by omega) (by omega)).mono ?_; rintro e w1 ⟨g1, cap1, rfl, hr1, hb1⟩; obtain ⟨-, b0, b1, b2, b3, b4, b5, dz⟩ := (HA.out.below hb1).blk.six'; have r0 := loop_cell (k := k) (by have := (HA.out.below hb1).L; rw [En.out] at this; exact this) (by omega) En.out; rw [Hx.out] at r0)
  all_goals
    go_wp2
    go_ret
    have := step_done HA.out hnE hnS HBl.out hb1 hr1 EN.out E2.out
    exact ⟨rfl, this.1, this.2⟩

set_option maxRecDepth 100000 in
set_option maxHeartbeats 2000000 in
theorem stepR_any {w : World} {base z be bt : Nat} {vT vL vW : Value} {vs : List Value} {m : ZM} (h : ZS w base z be bt vT vL vW vs m) (i : Int) (hn : 3 ≤ m.loop.length) (hn' : m.loop.length ≤ 900000) :
    Calls Tryz.prog 53 #[.pointer (some ⟨z, 0, none⟩), .int .u8 82, .int .i64 i] w fun en w' => en = .returned (.int .i64 (m.loop.getD 2 0)) ∧ (∃ vL', ZS w' base z be bt vT vL' vW vs { m with loop := m.loop.take 1 ++ m.loop.drop 2 }) ∧ Below base w w' := by
  obtain ⟨nE, nS, hnE, hnS, h⟩ := h
  have hbase : base ≤ w.heap.size := Nat.le_trans h.hz (Nat.le_of_lt h.blk.lt)
  have H := Lib.hid h
  have hzl := h.blk.lt
  obtain ⟨-, c0, c1, c2, c3, c4, c5, fz⟩ := h.blk.six'
  have hL := h.L
  obtain ⟨g, cap, rfl, hcap, hcap'⟩ := loop_form hL (by omega)
  have hgz : g ≠ z := by simpa [Value.ownBlock] using own_blk_ne hL h.blk (by decide)
  clear h
  obtain ⟨n, en⟩ : ∃ n, m.loop.length = n := ⟨_, rfl⟩
  rw [en] at hn hn' hcap H hL c2
  have hA := (H.out.alloc (.cells #[.slice (some ⟨g, 0, none⟩) 1 cap, .slice (some ⟨g, 2, none⟩) (n - 2) (cap - 2)] 30)).drew.drew
  have hB : Blk ((w.alloc (.cells #[.slice (some ⟨g, 0, none⟩) 1 cap, .slice (some ⟨g, 2, none⟩) (n - 2) (cap - 2)] 30)).drew.drew) w.heap.size 30 #[.slice (some ⟨g, 0, none⟩) 1 cap, .slice (some ⟨g, 2, none⟩) (n - 2) (cap - 2)] := Blk.new _ _ _
  have hBl : Below base w ((w.alloc (.cells #[.slice (some ⟨g, 0, none⟩) 1 cap, .slice (some ⟨g, 2, none⟩) (n - 2) (cap - 2)] 30)).drew.drew) := (((Below.refl base w).alloc hbase _).drew).drew
  have hA5 := hA.L
  rw [en] at hA5
  have j1 := ints_part hA5 0 1 cap rfl (by omega) en
  have j2 := ints_part hA5 2 (n - 2) (cap - 2) rfl (by omega) en
  have HA := Lib.hid hA
  have HB := Lib.hid hB
  have HBl := Lib.hid hBl
  have J1 := Lib.hid j1
  have J2 := Lib.hid j2
  have eN : ((m.loop.drop 0).take 1 ++ (m.loop.drop 2).take (n - 2)).length = n - 1 := by simp; omega
  have e2 : (m.loop.drop 0).take 1 ++ (m.loop.drop 2).take (n - 2) = m.loop.take 1 ++ m.loop.drop 2 := by
    rw [List.drop_zero, List.take_of_length_le (l := m.loop.drop 2) (by simp; omega)]
  have EN := Lib.hid eN
  have E2 := Lib.hid e2
  have En := Lib.hid en
  clear hA hB hBl hA5 j1 j2 hL eN e2 en
  generalize hx : m.loop.getD 2 0 = x
  have Hx := Lib.hid hx
  clear hx
  go_enter Tryz.func53, Tryz.ntmps53
  go_wp2
  go_region
  go_wp2
  go_region_with (go_at_call 80; refine (concat_two HB.out J1.out J2.out EN.out (by omega) (by omega)).mono ?_; rintro e w1 ⟨g1, cap1, rfl, hr1, hb1⟩; obtain ⟨-, b0, b1, b2, b3, b4, b5, dz⟩ := (HA.out.below hb1).blk.six'; have r0 := loop_cell (k := 2) (by have := (HA.out.below hb1).L; rw [En.out] at this; exact this) (by omega) En.out; rw [Hx.out] at r0)
  all_goals
    go_wp2
    go_ret
    have := step_done HA.out hnE hnS HBl.out hb1 hr1 EN.out E2.out
    exact ⟨rfl, this.1, this.2⟩
end Go.Proofs.YtpnkhgjjlionnaaGreat.Zp
namespace Go.Proofs.YtpnkhgjjlionnaaGreat.Zp
open Go.RowKit Go.Maps

/-- What stands when a loop more waits. -/
theorem wait_done {w W w1 W4 : World} {base z be bt : Nat} {vT vL vW : Value} {vs : List Value} {m : ZM} {nE nS g1 cap1 N g4 cap4 : Nat} {es : List (Int × Int)} {ss : List Tr} {ys ys' : List Int} {tmp : Obj} (hA : ZSX W base z be bt vT vL vW vs m nE es nS ss)
    (hBl : Below base w W) (hb1 : Below W.heap.size W w1) (hr1 : w1.ownsRow 0 3 1 (.slice (some ⟨g1, 0, none⟩) N cap1) N (ys.map (Value.int .i64))) (hN : ys.length = N) (hy : ys = ys')
    (hg4 : (w1.alloc tmp).grownBy W4 vW.ownBlock) (hr4 : W4.ownsRow base 30 1 (.slice (some ⟨g4, 0, none⟩) (m.waits.length + 1) cap4) (m.waits.length + 1) (vs.reverse ++ [.slice (some ⟨g1, 0, none⟩) N cap1])) :
    ZSX (W4.setCell ⟨z, 3, none⟩ (.slice (some ⟨g4, 0, none⟩) (m.waits.length + 1) cap4)) base z be bt vT vL (.slice (some ⟨g4, 0, none⟩) (m.waits.length + 1) cap4) (.slice (some ⟨g1, 0, none⟩) N cap1 :: vs) { m with waits := ys' :: m.waits } nE es nS ss ∧ Below base w (W4.setCell ⟨z, 3, none⟩ (.slice (some ⟨g4, 0, none⟩) (m.waits.length + 1) cap4)) := by
  subst hy
  subst hN
  have h1 := hA.below hb1
  refine ⟨h1.putW hr1 hg4 hr4, ?_⟩
  have hsz : base ≤ W.heap.size := Nat.le_trans hA.hz (Nat.le_of_lt hA.blk.lt)
  have b1 : Below base w w1 := ⟨hb1.os.trans hBl.os, hb1.tape.trans hBl.tape, hb1.output.trans hBl.output, Nat.le_trans hBl.size hb1.size, fun b hb => (hb1.block b (Nat.lt_of_lt_of_le hb hsz)).trans (hBl.block b hb)⟩
  exact (b1.grown (gGrown (World.grownBy_alloc w1 _ _) hg4 (row := vW.ownBlock) (fun j e => .inl e)) (Nat.le_trans hsz hb1.size) (fun j e => (h1.W.lt j e).1)).setCell (p := ⟨z, 3, none⟩) hA.hz _

set_option maxRecDepth 100000 in
set_option maxHeartbeats 4000000 in
theorem stepS_any {w : World} {base z be bt : Nat} {vT vL vW : Value} {vs : List Value} {m : ZM} (h : ZS w base z be bt vT vL vW vs m) (j : Nat) (hn : 3 ≤ m.loop.length) (hn' : m.loop.length ≤ 900000) (hj : 1 ≤ j) (hj2 : j < m.loop.length) (hw : m.waits.length ≤ 900000) :
    Calls Tryz.prog 53 #[.pointer (some ⟨z, 0, none⟩), .int .u8 83, .int .i64 (j : Int)] w fun en w' => en = .returned (.int .i64 (m.loop.getD j 0)) ∧ (∃ vL' vW' vs', ZS w' base z be bt vT vL' vW' vs' { m with loop := m.loop.take 1 ++ m.loop.drop j, waits := ((m.loop.drop j).take 1 ++ (m.loop.take j).drop 1) :: m.waits }) ∧ Below base w w' := by
  obtain ⟨nE, nS, hnE, hnS, h⟩ := h
  obtain ⟨i1, hi', hy0, hy1, hy2⟩ := info_parts info_sl
  have hbase : base ≤ w.heap.size := Nat.le_trans h.hz (Nat.le_of_lt h.blk.lt)
  have H := Lib.hid h
  have hzl := h.blk.lt
  obtain ⟨-, c0, c1, c2, c3, c4, c5, fz⟩ := h.blk.six'
  have hL := h.L
  obtain ⟨g, cap, rfl, hcap, hcap'⟩ := loop_form hL (by omega)
  have hgz : g ≠ z := by simpa [Value.ownBlock] using own_blk_ne hL h.blk (by decide)
  have hzW := own_blk_ne h.W h.blk (by decide)
  clear h
  obtain ⟨k, en⟩ : ∃ k, m.loop.length = k + 1 := ⟨m.loop.length - 1, by omega⟩
  rw [en] at hn hn' hcap H hL c2 hj2
  have hA := (H.out.alloc (.cells #[.slice (some ⟨g, j, none⟩) 1 (cap - j), .slice (some ⟨g, 1, none⟩) (j - 1) (cap - 1)] 30)).drew.drew
  have hB : Blk ((w.alloc (.cells #[.slice (some ⟨g, j, none⟩) 1 (cap - j), .slice (some ⟨g, 1, none⟩) (j - 1) (cap - 1)] 30)).drew.drew) w.heap.size 30 #[.slice (some ⟨g, j, none⟩) 1 (cap - j), .slice (some ⟨g, 1, none⟩) (j - 1) (cap - 1)] := Blk.new _ _ _
  have hBl : Below base w ((w.alloc (.cells #[.slice (some ⟨g, j, none⟩) 1 (cap - j), .slice (some ⟨g, 1, none⟩) (j - 1) (cap - 1)] 30)).drew.drew) := (((Below.refl base w).alloc hbase _).drew).drew
  have hA5 := hA.L
  rw [en] at hA5
  have j1 := ints_part hA5 j 1 (cap - j) rfl (by omega) en
  have j2 := ints_part hA5 1 (j - 1) (cap - 1) rfl (by omega) en
  have HA := Lib.hid hA
  have HB := Lib.hid hB
  have HBl := Lib.hid hBl
  have J1 := Lib.hid j1
  have J2 := Lib.hid j2
  have eN : ((m.loop.drop j).take 1 ++ (m.loop.drop 1).take (j - 1)).length = j := by simp; omega
  have e2 : (m.loop.drop j).take 1 ++ (m.loop.drop 1).take (j - 1) = (m.loop.drop j).take 1 ++ (m.loop.take j).drop 1 := by
    rw [List.drop_take]
  have EN := Lib.hid eN
  have E2 := Lib.hid e2
  have En := Lib.hid en
  have HW := Lib.hid hw
  clear hA hB hBl hA5 j1 j2 hL eN e2 en hw
  have d1 : IntKind.i64.wrap ((j : Int) + 1) = (j : Int) + 1 := IntWalk.i64_in _ (by omega)
  have d2 : (0 : Int) ≤ (j : Int) := by omega
  have d3 : (j : Int) ≤ (cap : Int) := by omega
  have d4 : (1 : Int) ≤ (j : Int) := by omega
  have d5 : (j : Int) ≤ (j : Int) + 1 := by omega
  have d6 : (j : Int) + 1 ≤ (cap : Int) := by omega
  have d7 : (j : Int) ≤ (k : Int) + 1 := by omega
  have d8 : (j : Int) < (k : Int) + 1 := by omega
  have f3 : m.waits.length + 1 ≤ maxLen := by have := HW.out; unfold maxLen; omega
  have f4 : (m.waits.length + 1) * 24 ≤ 140737488355328 := by have := HW.out; omega
  have F3 := Lib.hid f3
  have F4 := Lib.hid f4
  clear f3 f4
  generalize hx : m.loop.getD j 0 = x
  have Hx := Lib.hid hx
  clear hx
  go_enter Tryz.func53, Tryz.ntmps53
  go_wp2
  go_region
  go_wp2
  go_region_law (first
    | (refine step_append_lies _ (by rfl) (.tmp 89) (.tmp 100) 89 (by rfl) base 30 i1 _ 1 24 Tryz.underlying89 hi' hy0 hy1 hy2 (by rfl) (by decide) vW m.waits.length vs.reverse (by rfl) ((HA.out.below hb1).W.alloc _) ⟨w1.heap.size, 0, none⟩ 1 1 [.slice (some ⟨g1, 0, none⟩) j cap1] (by rfl) (by rfl) (World.news_of_block (heap_alloc_new _ _)) (by simp [Value.oneCell']) (by decide) F3.out F4.out (by simp; have := hb1.size; simp at this; omega) (w1.heap.size + 1) (by simp) ?_; intro g4 cap4 W4 hr4 hg4 hat4 hlt4; obtain ⟨-, b0, b1, b2, b3, b4, b5, dz⟩ := (((HA.out.below hb1).blk.alloc _).grown hg4 (fun e => hzW e.symm)).six')
    | (go_simp; go_wp2_with (go_at_call 80; refine (concat_two HB.out J1.out J2.out EN.out (by omega) (by omega)).mono ?_; rintro e w1 ⟨g1, cap1, rfl, hr1, hb1⟩; obtain ⟨-, a0, a1, a2, a3, a4, a5, az⟩ := (HA.out.below hb1).blk.six'; have zl1 := (HA.out.below hb1).blk.lt)))
  all_goals
    have hX := wait_done HA.out HBl.out hb1 hr1 EN.out E2.out hg4 hr4
    have hA2 := (hX.1.alloc (.cells #[.slice (some ⟨g, 0, none⟩) 1 cap, .slice (some ⟨g, j, none⟩) (k + 1 - j) (cap - j)] 30)).drew
    have hB2 : Blk ((W4.setCell ⟨z, 3, none⟩ (.slice (some ⟨g4, 0, none⟩) (m.waits.length + 1) cap4)).alloc (.cells #[.slice (some ⟨g, 0, none⟩) 1 cap, .slice (some ⟨g, j, none⟩) (k + 1 - j) (cap - j)] 30)).drew W4.heap.size 30 #[.slice (some ⟨g, 0, none⟩) 1 cap, .slice (some ⟨g, j, none⟩) (k + 1 - j) (cap - j)] := by
      have := Blk.new (W4.setCell ⟨z, 3, none⟩ (.slice (some ⟨g4, 0, none⟩) (m.waits.length + 1) cap4)) 30 #[.slice (some ⟨g, 0, none⟩) 1 cap, .slice (some ⟨g, j, none⟩) (k + 1 - j) (cap - j)]
      rw [size_setCell'] at this
      exact this
    have hBl2 := (hX.2.alloc (Nat.le_trans hX.1.hz (Nat.le_of_lt hX.1.blk.lt)) (.cells #[.slice (some ⟨g, 0, none⟩) 1 cap, .slice (some ⟨g, j, none⟩) (k + 1 - j) (cap - j)] 30)).drew
    have hA5 := hA2.L
    simp only at hA5
    rw [En.out] at hA5
    have j1 := ints_part hA5 0 1 cap rfl (by have := En.out; omega) En.out
    have j2 := ints_part hA5 j (k + 1 - j) (cap - j) rfl (by have := En.out; omega) En.out
    have eN : ((m.loop.drop 0).take 1 ++ (m.loop.drop j).take (k + 1 - j)).length = k + 1 - j + 1 := by have := En.out; simp; omega
    have e2 : (m.loop.drop 0).take 1 ++ (m.loop.drop j).take (k + 1 - j) = m.loop.take 1 ++ m.loop.drop j := by
      rw [List.drop_zero, List.take_of_length_le (l := m.loop.drop j) (by have := En.out; simp; omega)]
    have HA2 := Lib.hid hA2
    have HB2 := Lib.hid hB2
    have HBl2 := Lib.hid hBl2
    have J3 := Lib.hid j1
    have J4 := Lib.hid j2
    have EN2 := Lib.hid eN
    have E22 := Lib.hid e2
    clear hX hA2 hB2 hBl2 hA5 j1 j2 eN e2
    go_wp2
    go_region_with (go_at_call 80; refine (concat_two HB2.out J3.out J4.out EN2.out (by omega) (by omega)).mono ?_; rintro e w2 ⟨g2, cap2, rfl, hr2, hb2⟩; obtain ⟨-, x0, x1, x2, x3, x4, x5, xz⟩ := (HA2.out.below hb2).blk.six'; have r0 := loop_cell (k := j) (by have := (HA2.out.below hb2).L; simp only at this; rw [En.out] at this; exact this) (by omega) En.out; rw [Hx.out] at r0)
    all_goals
      go_wp2
      go_ret
      have := step_done HA2.out hnE hnS HBl2.out hb2 hr2 EN2.out E22.out
      obtain ⟨⟨vL', h5⟩, h6⟩ := this
      exact ⟨rfl, ⟨_, _, _, h5⟩, h6⟩
end Go.Proofs.YtpnkhgjjlionnaaGreat.Zp
namespace Go.Proofs.YtpnkhgjjlionnaaGreat.Zp
open Go.RowKit Go.Maps

theorem row_form {w : World} {base : Nat} {e : TypeId} {size n : Nat} {v : Value} {xs : List Value} (h : w.ownsRow base e size v n xs) : ∃ a c, v = .slice a n c ∧ n ≤ c ∧ c ≤ 9223372036854775807 := by
  rcases h.2 with ⟨rfl, h0⟩ | ⟨g, cap, cur, rfl, _, _, hn, hm, _⟩
  · exact ⟨none, 0, by rw [h0], by omega, by omega⟩
  · exact ⟨_, _, rfl, hn, by unfold maxLen at hm; omega⟩

theorem ZS.drew {w : World} {base z be bt : Nat} {vT vL vW : Value} {vs : List Value} {m : ZM} (h : ZS w base z be bt vT vL vW vs m) : ZS w.drew base z be bt vT vL vW vs m := by
  obtain ⟨nE, nS, h1, h2, h⟩ := h
  exact ⟨nE, nS, h1, h2, h.drew⟩
set_option maxRecDepth 100000 in
set_option maxHeartbeats 4000000 in
theorem stepE0_any {w : World} {base z be bt : Nat} {vT vL vW : Value} {vs : List Value} {m : ZM} (h : ZS w base z be bt vT vL vW vs m) (i : Int) (hn : 3 ≤ m.loop.length) (hn' : m.loop.length ≤ 900000) (hw : m.waits = []) :
    Calls Tryz.prog 53 #[.pointer (some ⟨z, 0, none⟩), .int .u8 69, .int .i64 i] w fun en w' => en = .returned (.int .i64 (m.loop.getD 2 0)) ∧ ZS w' base z be bt vT vL vW vs m ∧ Below base w w' := by
  have hZ := Lib.hid h
  obtain ⟨nE, nS, hnE, hnS, h⟩ := h
  have hzl := h.blk.lt
  obtain ⟨-, c0, c1, c2, c3, c4, c5, fz⟩ := h.blk.six'
  have hL := h.L
  obtain ⟨g, cap, rfl, hcap, hcap'⟩ := loop_form hL (by omega)
  have hgz : g ≠ z := by simpa [Value.ownBlock] using own_blk_ne hL h.blk (by decide)
  have r0 := loop_cell (k := 2) hL (by omega) rfl
  obtain ⟨aw, cw, rfl, hw1, hw2⟩ := row_form h.W
  rw [hw] at c3 
  generalize m.loop.getD 2 0 = x at *
  generalize m.loop.length = n at *
  clear h hL
  simp only [List.length_nil] at c3
  go_enter Tryz.func53, Tryz.ntmps53
  go_wp2
  go_region
  go_wp2
  go_ret
  exact ⟨rfl, hZ.out.drew, (Below.refl _ _).drew⟩

set_option maxRecDepth 100000 in
set_option maxHeartbeats 4000000 in
theorem stepE1_any {w : World} {base z be bt : Nat} {vT vL vW v : Value} {vs : List Value} {m : ZM} {l : List Int} {r : List (List Int)} (h : ZS w base z be bt vT vL vW (v :: vs) m) (i : Int) (hn : 3 ≤ m.loop.length) (hn' : m.loop.length ≤ 900000) (hw : m.waits = l :: r) (hr : r.length ≤ 900000) :
    Calls Tryz.prog 53 #[.pointer (some ⟨z, 0, none⟩), .int .u8 69, .int .i64 i] w fun en w' => en = .returned (.int .i64 (m.loop.getD 2 0)) ∧ (∃ vL' vW', ZS w' base z be bt vT vL' vW' vs { m with loop := l, waits := r }) ∧ Below base w w' := by
  obtain ⟨nE, nS, hnE, hnS, h⟩ := h
  have hzl := h.blk.lt
  have hR := h.R
  rw [hw] at hR
  obtain ⟨hR1, hR2⟩ := hR.tail
  obtain ⟨av, cv, rfl, -, -⟩ := row_form hR2
  have hA := h.drew.drew.put (vL' := .slice av l.length cv) (vW' := vW) (vs' := .slice av l.length cv :: vs) (m' := { m with loop := l }) 2 (.slice av l.length cv) rfl rfl hR2 h.W h.R
  have hW := hA.W
  have hRR := hA.R
  simp only at hRR
  rw [hw] at hRR
  simp only at hW
  rw [hw, List.length_cons, List.reverse_cons] at hW
  have hW0 := h.W
  rw [hw, List.length_cons, List.reverse_cons] at hW0
  obtain ⟨gw, cw, rfl⟩ := ownsRow_succ hW
  have hwl : vs.reverse.length = r.length := by have := hR1.1; simpa using this
  have hA2 := hA.put (vL' := .slice av l.length cv) (vW' := .slice (some ⟨gw, 0, none⟩) r.length cw) (vs' := vs) (m' := { m with loop := l, waits := r }) 3 (.slice (some ⟨gw, 0, none⟩) r.length cw) rfl rfl hA.L
    (cut_own hW (by simpa using hwl) (by omega)) hRR.tail.1
  have hBl : Below base w (((w.drew.drew).setCell ⟨z, 2, none⟩ (.slice av l.length cv)).setCell ⟨z, 3, none⟩ (.slice (some ⟨gw, 0, none⟩) r.length cw)) := (((Below.refl base w).drew.drew).setCell (p := ⟨z, 2, none⟩) h.hz _).setCell (p := ⟨z, 3, none⟩) h.hz _
  have q0 : w.cell? ⟨gw, r.length, none⟩ = some (.slice av l.length cv) := by
    rw [hW0.cellAt r.length (by omega), List.getElem?_append_right (by omega), hwl]
    simp
  obtain ⟨_, _, eq, hcw, hcw'⟩ := row_form hW0
  cases eq
  have hgwz : gw ≠ z := by simpa [Value.ownBlock] using own_blk_ne hW0 (by have := h.blk; exact this) (by decide)
  obtain ⟨-, c0, c1, c2, c3, c4, c5, fz⟩ := h.blk.six'
  have hL := h.L
  obtain ⟨g, cap, rfl, hcap, hcap'⟩ := loop_form hL (by omega)
  have hgz : g ≠ z := by simpa [Value.ownBlock] using own_blk_ne hL h.blk (by decide)
  have r0 := loop_cell (k := 2) hL (by omega) rfl
  have HA := Lib.hid hA2
  have HBl := Lib.hid hBl
  clear h hA hA2 hBl hW hRR hW0 hL hR hR1 hR2
  generalize m.loop.getD 2 0 = x at *
  generalize m.loop.length = n at *
  have d1 : IntKind.i64.wrap ((r.length : Int) + 1 - 1) = (r.length : Int) := by rw [IntWalk.i64_in _ (by omega)]; omega
  have d2 : IntKind.i64.wrap (r.length : Int) = (r.length : Int) := IntWalk.i64_in _ (by omega)
  have d3 : (0 : Int) ≤ (r.length : Int) := by omega
  have d4 : (r.length : Int) < (r.length : Int) + 1 := by omega
  have d5 : (r.length : Int) ≤ (cw : Int) := by omega
  have d6 : (0 : Int) < (r.length : Int) + 1 := by omega
  go_enter Tryz.func53, Tryz.ntmps53
  go_wp2
  go_region
  go_wp2
  go_region
  go_wp2
  go_ret
  exact ⟨rfl, ⟨_, _, nE, nS, hnE, hnS, HA.out⟩, HBl.out⟩

/-- A step, at any letter of a right word. -/
theorem step_any {w : World} {base z be bt : Nat} {vT vL vW : Value} {vs : List Value} {m : ZM} (h : ZS w base z be bt vT vL vW vs m) (c : Int) (i : Nat) (hc : c = 67 ∨ c = 69 ∨ c = 76 ∨ c = 82 ∨ c = 83) (hn : 3 ≤ m.loop.length) (hn' : m.loop.length ≤ 900000) (hN : m.n ≤ 900000) (hw : m.waits.length ≤ 900000)
    (hi : c = 83 → 1 ≤ i ∧ i < m.loop.length) :
    Calls Tryz.prog 53 #[.pointer (some ⟨z, 0, none⟩), .int .u8 c, .int .i64 (i : Int)] w fun en w' => en = .returned (.int .i64 (stepM c i m).1) ∧ (∃ vL' vW' vs', ZS w' base z be bt vT vL' vW' vs' (stepM c i m).2) ∧ Below base w w' := by
  rcases hc with rfl | rfl | rfl | rfl | rfl
  · refine (stepC_any h i hn hn' hN).mono ?_
    rintro en w' ⟨rfl, ⟨vL', h1⟩, h2⟩
    exact ⟨rfl, ⟨_, _, _, h1⟩, h2⟩
  · cases hws : m.waits with
    | nil =>
      refine (stepE0_any h i hn hn' hws).mono ?_
      rintro en w' ⟨rfl, h1, h2⟩
      have e : stepM 69 i m = (m.loop.getD 2 0, m) := by simp [stepM, hws]
      rw [e]
      exact ⟨rfl, ⟨_, _, _, h1⟩, h2⟩
    | cons l r =>
      obtain ⟨v, vr, rfl⟩ : ∃ v vr, vs = v :: vr := by
        obtain ⟨nE, nS, -, -, h3⟩ := h
        have h4 := h3.R.1
        rw [hws] at h4
        cases vs with
        | nil => simp at h4
        | cons v vr => exact ⟨v, vr, rfl⟩
      refine (stepE1_any h i hn hn' hws (by rw [hws] at hw; simp at hw; omega)).mono ?_
      rintro en w' ⟨rfl, ⟨vL', vW', h1⟩, h2⟩
      have e : stepM 69 i m = (m.loop.getD 2 0, { m with loop := l, waits := r }) := by simp [stepM, hws]
      rw [e]
      exact ⟨rfl, ⟨_, _, _, h1⟩, h2⟩
  · refine (stepL_any h i hn hn').mono ?_
    rintro en w' ⟨rfl, ⟨vL', h1⟩, h2⟩
    exact ⟨rfl, ⟨_, _, _, h1⟩, h2⟩
  · refine (stepR_any h i hn hn').mono ?_
    rintro en w' ⟨rfl, ⟨vL', h1⟩, h2⟩
    exact ⟨rfl, ⟨_, _, _, h1⟩, h2⟩
  · refine (stepS_any h i hn hn' (hi rfl).1 (hi rfl).2 hw).mono ?_
    rintro en w' ⟨rfl, h1, h2⟩
    exact ⟨rfl, h1, h2⟩
end Go.Proofs.YtpnkhgjjlionnaaGreat.Zp
namespace Go.Proofs.YtpnkhgjjlionnaaGreat.Zp
open Go.RowKit Go.Maps
attribute [local go_sem ↓] Go.wp_at_zero Go.wp_at_succ

/-- Places, as cells. -/
def natCells (ps : List Nat) : List Value := ps.map fun p => .int .i64 (p : Nat)
/-- The map of zip.seconds. -/
def SecMap (w : World) (b : Nat) (zs : List Int) : Prop := ∃ n f, MapI Tryz.prog 3 3 .i64 .i64 w b n f ∧ n ≤ zs.length ∧ ∀ j (hj : j < zs.length), zs[j] = 83 → Second zs j (f j)

theorem slice_form {w : World} {base : Nat} {e : TypeId} {size n : Nat} {v : Value} {xs : List Value} (h : w.ownsRow base e size v n xs) : ∃ a c, v = .slice a n c ∧ n ≤ c ∧ c ≤ maxLen := by
  rcases h.2 with ⟨rfl, h0⟩ | ⟨g, cap, cur, rfl, _, _, hn, hm, _⟩
  · exact ⟨none, 0, by rw [h0], by omega, by unfold maxLen; omega⟩
  · exact ⟨_, _, rfl, hn, hm⟩
structure SecRel (w wr : World) (zs : List Int) (v4 v5 : Value) (k : Nat) : Prop where
  ex : ∃ ps f, SecInv zs k ps f ∧ MapI Tryz.prog 3 3 .i64 .i64 wr w.heap.size (zs.length - k) f ∧ wr.ownsRow (w.heap.size + 1) 3 1 v4 ps.length (natCells ps.reverse) ∧ wr.ownsRow (w.heap.size + 1) 3 1 v5 ps.length (natCells (endsOf zs.length ps).reverse) ∧ (v4.ownBlock = none ∨ v4.ownBlock ≠ v5.ownBlock) ∧ ps.length ≤ zs.length
  below : Below w.heap.size w wr
  size : w.heap.size + 1 ≤ wr.heap.size

/-- Two rows that are the call's own and lie apart, appended to one after the other. -/
theorem two_rows {base : Nat} {wr X W4 X' W5 : World} {b4 b5 : Option Nat} {e : TypeId} {g4 n4 cap4 g5 n5 cap5 : Nat} {xs4 xs5 : List Value} (hX : wr.grownBy X none) (hg4 : X.grownBy W4 b4) (hX' : W4.grownBy X' none) (hg5 : X'.grownBy W5 b5)
    (hr4 : W4.ownsRow base e 1 (.slice (some ⟨g4, 0, none⟩) n4 cap4) n4 xs4) (hr5 : W5.ownsRow base e 1 (.slice (some ⟨g5, 0, none⟩) n5 cap5) n5 xs5) (hat4 : b4 = some g4 ∨ g4 = X.heap.size) (hat5 : b5 = some g5 ∨ g5 = X'.heap.size)
    (hb4 : ∀ j, b4 = some j → base ≤ j ∧ j < wr.heap.size) (hb5 : ∀ j, b5 = some j → base ≤ j ∧ j < wr.heap.size) (hne : b5 = none ∨ b5 ≠ b4) (hlt4 : g4 < W4.heap.size) :
    W5.ownsRow base e 1 (.slice (some ⟨g4, 0, none⟩) n4 cap4) n4 xs4 ∧ some g4 ≠ some g5 ∧ (∀ b, b < wr.heap.size → b < base → W5.heap[b]? = wr.heap[b]?) ∧ wr.heap.size ≤ W5.heap.size ∧ W5.os = wr.os ∧ W5.tape = wr.tape ∧ W5.output = wr.output := by
  have s1 := hX.size
  have s2 := hg4.size
  have s3 := hX'.size
  have s4 := hg5.size
  have hne4 : b5 ≠ some g4 := by
    rintro rfl
    rcases hat4 with h | h
    · subst h; simp at hne
    · have := (hb5 g4 rfl).2; omega
  refine ⟨(hr4.kept hX' (.inr (by simp [Value.ownBlock]))).kept hg5 (.inr (by simpa [Value.ownBlock] using fun h => hne4 h.symm)), ?_, ?_, by omega, ?_, ?_, ?_⟩
  · rintro h
    cases h
    rcases hat5 with h | h
    · exact hne4 h
    · omega
  · intro b hb hbb
    rw [hg5.block b (by omega) (by intro h; have := (hb5 b h.symm).1; omega), hX'.block b (by omega) (by simp), hg4.block b (by omega) (by intro h; have := (hb4 b h.symm).1; omega), hX.block b hb (by simp)]
  · rw [hg5.os, hX'.os, hg4.os, hX.os]
  · rw [hg5.tape, hX'.tape, hg4.tape, hX.tape]
  · rw [hg5.output, hX'.output, hg4.output, hX.output]
theorem _root_.Go.Proofs.YtpnkhgjjlionnaaGreat.MapI.block {P : Program} {k e : TypeId} {qk q : IntKind} {w w' : World} {b n : Nat} {f : Int → Int} (h : MapI P k e qk q w b n f) (hb : w'.heap[b]? = w.heap[b]?) : MapI P k e qk q w' b n f := by
  obtain ⟨D, ⟨es, clock, hh, hr⟩, h2⟩ := h
  exact ⟨D, ⟨es, clock, hb.trans hh, hr⟩, h2⟩
theorem SecInv.le {zs l : List Int} {k : Nat} {ps : List Nat} {f : Int → Int} (h : SecInv zs k ps f) (hl : stAt zs k = some l) : ps.length ≤ zs.length := by
  have h1 := h.len l hl
  have h2 := (ref24Run_some hl).2
  simp at h2
  omega
theorem SecInv.one {zs l : List Int} {k : Nat} {ps : List Nat} {f : Int → Int} (h : SecInv zs (k + 1) ps f) (hk : k < zs.length) (hl : stAt zs k = some l) (hc : zs[k] ≠ 69) : ∃ p r, ps = p :: r := by
  have hs := stAt_step zs k hk
  rw [hl] at hs
  cases hq : stAt zs (k + 1) with
  | none => rw [hq] at hs; cases hs
  | some l1 =>
    rw [hq] at hs
    have hlen := h.len l1 hq
    cases ps with
    | cons p r => exact ⟨p, r, rfl⟩
    | nil =>
      exfalso
      have : l1 = [] := by simpa using hlen.symm
      subst this
      simp [ref24Step, hc] at hs
theorem SecInv.two {zs l : List Int} {k : Nat} {ps : List Nat} {f : Int → Int} (h : SecInv zs (k + 1) ps f) (hk : k < zs.length) (hl : stAt zs k = some l) (hc : zs[k] = 83) : ∃ p1 p2 r, ps = p1 :: p2 :: r := by
  have hs := stAt_step zs k hk
  rw [hl] at hs
  cases hq : stAt zs (k + 1) with
  | none => rw [hq] at hs; cases hs
  | some l1 =>
    rw [hq, hc] at hs
    have hlen := h.len l1 hq
    match ps, hlen with
    | p1 :: p2 :: r, _ => exact ⟨p1, p2, r, rfl⟩
    | [p], hlen =>
      exfalso
      obtain ⟨x, rfl⟩ : ∃ x, l1 = [x] := by match l1, hlen with | [x], _ => exact ⟨x, rfl⟩
      simp [ref24Step] at hs
    | [], hlen =>
      exfalso
      have : l1 = [] := by simpa using hlen.symm
      subst this
      simp [ref24Step] at hs
theorem sec_done {w Z W5 : World} {zs l : List Int} {k n g4 n4 cap4 g5 n5 cap5 : Nat} {ps : List Nat} {f : Int → Int} {xs4 xs5 : List Value} (hB : Below w.heap.size w Z) (hsz : w.heap.size + 1 ≤ Z.heap.size) (hinv : SecInv zs k ps f) (hl : stAt zs k = some l)
    (hmap : MapI Tryz.prog 3 3 .i64 .i64 Z w.heap.size n f) (hn : n ≤ zs.length - k)
    (h : W5.ownsRow (w.heap.size + 1) 3 1 (.slice (some ⟨g4, 0, none⟩) n4 cap4) n4 xs4 ∧ some g4 ≠ some g5 ∧ (∀ b, b < Z.heap.size → b < w.heap.size + 1 → W5.heap[b]? = Z.heap[b]?) ∧ Z.heap.size ≤ W5.heap.size ∧ W5.os = Z.os ∧ W5.tape = Z.tape ∧ W5.output = Z.output)
    (hr5 : W5.ownsRow (w.heap.size + 1) 3 1 (.slice (some ⟨g5, 0, none⟩) n5 cap5) n5 xs5) (e4 : n4 = ps.length) (e5 : n5 = ps.length) (ex4 : xs4 = natCells ps.reverse) (ex5 : xs5 = natCells (endsOf zs.length ps).reverse) :
    SecRel w W5 zs (.slice (some ⟨g4, 0, none⟩) n4 cap4) (.slice (some ⟨g5, 0, none⟩) n5 cap5) k := by
  subst e4 e5 ex4 ex5
  obtain ⟨h1, h2, h3, h4, h5, h6, h7⟩ := h
  exact ⟨⟨ps, f, hinv, (hmap.mono hn).block (h3 _ (by omega) (by omega)), h1, hr5, .inr (by simpa [Value.ownBlock] using h2), hinv.le hl⟩, hB.trans ⟨h5, h6, h7, h4, fun b hb => h3 b (by omega) (by omega)⟩, by omega⟩
set_option maxRecDepth 100000 in
set_option maxHeartbeats 1000000 in
theorem seconds_any (s : ByteArray) (hs : s.size ≤ 1000000) (l0 : List Int) (h0 : ref24Run (lettersOf s).reverse = some l0) (w : World) :
    Calls Tryz.prog 51 #[.string s] w fun e w' => e = .returned (.map (some w.heap.size)) ∧ SecMap w' w.heap.size (lettersOf s) ∧ Below w.heap.size w w' := by
  have hmm := @run_makeMap Tryz.prog
  have Hl := Lib.hid (lettersOf_length s)
  have Hst := Lib.hid (stAt_some h0)
  obtain ⟨i1, hi', hy0, hy1, hy2⟩ := info_parts info_int
  clear h0
  go_enter Tryz.func51, Tryz.ntmps51
  go_wp2
  clear hmm
  go_loopw [4, 5, 6] (fun v4 v5 i wr => ∃ (k : Nat) (v4' v5' : Value), v4' = v4 ∧ v5' = v5 ∧ k ≤ s.size ∧ i = .int .i64 ((k : Int) - 1) ∧ SecRel w wr (lettersOf s) v4' v5' k) (fun _ _ i _ => (intOf i + 1).toNat)
  case atStart =>
    refine ⟨s.size, _, _, rfl, rfl, Nat.le_refl _, rfl, ⟨⟨[], fun _ => 0, ?_, ?_, World.ownsRow_nil _ _ _ _, World.ownsRow_nil _ _ _ _, .inl rfl, Nat.zero_le _⟩, (Below.refl _ _).alloc (Nat.le_refl _) _, by simp⟩⟩
    · rw [← Hl.out]; exact SecInv.start _ _
    · rw [Hl.out, Nat.sub_self]; exact MapI.made _ _ _ _ _ _
  case round =>
    obtain ⟨k1, v4, v5, rfl, rfl, hk, rfl, ⟨ps, f, hinv, hmap, ho4, ho5, hne, hpl⟩, hB, hsz⟩ := hrel
    have hpl1 : ps.length ≤ 1000000 := by rw [Hl.out] at hpl; omega
    rcases k1 with _ | k
    · go_wp2
      go_ret
      refine ⟨rfl, ⟨_, f, hmap, Nat.sub_le _ _, fun j hj hz => hinv.map j hj (Nat.zero_le _) hz⟩, hB⟩
    · have hkl : k < (lettersOf s).length := by rw [Hl.out]; omega
      obtain ⟨l, hl⟩ := Hst.out k (by omega)
      obtain ⟨l1, hl1⟩ := Hst.out (k + 1) (by omega)
      have hat := letter_at s k (by omega)
      have hee := hinv.ends_
      have e1 : ((k + 1 : Nat) : Int) - 1 = (k : Int) := by omega
      rw [e1]
      have Hinv := Lib.hid hinv
      have HL := Lib.hid hl
      have HL1 := Lib.hid hl1
      have Hat := Lib.hid hat
      have Hee := Lib.hid hee
      have c3 : ps.length + 1 ≤ maxLen := by unfold maxLen; omega
      have c4 : (ps.length + 1) * 8 ≤ 140737488355328 := by omega
      clear e1 hinv hl hl1 hat hee hpl
      have hne' : v5.ownBlock = none ∨ v5.ownBlock ≠ v4.ownBlock := by
        rcases hne with h | h
        · rw [h]; cases v5.ownBlock <;> simp
        · exact .inr (Ne.symm h)
      obtain ⟨a4, p4, rfl, hn4, hm4⟩ := slice_form ho4
      obtain ⟨a5, p5, rfl, hn5, hm5⟩ := slice_form ho5
      by_cases hE : (s[k]'(by omega)).toNat = 69
      · have hE' : ((s[k]'(by omega)).toNat : Int) = 69 := by omega
        go_wp2_with (first
          | (at_builtin; refine wpList_append_lies _ rfl (.tmp 28) (.tmp 30) 30 rfl (w.heap.size + 1) 3 i1 _ 1 8 Tryz.underlying30 hi' hy0 hy1 hy2 rfl (by decide) _ _ _ rfl (ho4.alloc _) ⟨wr.heap.size, 0, none⟩ 1 1 [.int .i64 k] rfl rfl (World.news_of_block (heap_alloc_new _ _)) (by simp [Value.oneCell']) (by decide) c3 c4 (by simp; omega) (wr.heap.size + 1) (by simp) ?_; intro g4 cap4 W4 hr4 hg4 hat4 hlt4)
          | (at_builtin; refine wpList_append_lies _ rfl (.tmp 32) (.tmp 35) 30 rfl (w.heap.size + 1) 3 i1 _ 1 8 Tryz.underlying30 hi' hy0 hy1 hy2 rfl (by decide) _ _ _ rfl (((ho5.alloc _).kept hg4 hne').alloc _) ⟨W4.heap.size, 0, none⟩ 1 1 [.int .i64 (k + 1)] rfl rfl (World.news_of_block (heap_alloc_new _ _)) (by simp [Value.oneCell']) (by decide) c3 c4 (by have := hg4.size; simp at this ⊢; omega) (W4.heap.size + 1) (by simp) ?_; intro g5 cap5 W5 hr5 hg5 hat5 hlt5))
        go_roundw
        case measure => simp [intOf]
        case rel =>
          have hc := two_rows (World.grownBy_alloc wr _ none) hg4 (World.grownBy_alloc W4 _ none) hg5 hr4 hr5 (by simpa using hat4) (by simpa using hat5) (fun j e => ⟨(ho4.lt j e).1, (ho4.lt j e).2⟩) (fun j e => ⟨(ho5.lt j e).1, (ho5.lt j e).2⟩) hne' hlt4
          refine ⟨k, _, _, rfl, rfl, by omega, rfl, sec_done hB hsz (Hinv.out.stE hkl HL1.out (by rw [Hat.out]; exact hE')) HL.out hmap (by omega) hc hr5 (by simp) (by simp) ?_ ?_⟩
          · simp [natCells]
          · rw [Hee.out]; simp [natCells]
      · have hE' : ¬ ((s[k]'(by omega)).toNat : Int) = 69 := by omega
        have hEb : (((s[k]'(by omega)).toNat : Int) == 69) = false := by simpa using hE'
        obtain ⟨q0, r0, rfl⟩ := Hinv.out.one hkl HL.out (by rw [Hat.out]; exact hE')
        obtain ⟨g4, rfl, hg4b, hg4l⟩ : ∃ g, a4 = some ⟨g, 0, none⟩ ∧ w.heap.size + 1 ≤ g ∧ g < wr.heap.size := by
          obtain ⟨g, cap, e, h1, h2⟩ := ho4.form (by simp)
          cases e; exact ⟨g, rfl, h1, h2⟩
        obtain ⟨g5, rfl, hg5b, hg5l⟩ : ∃ g, a5 = some ⟨g, 0, none⟩ ∧ w.heap.size + 1 ≤ g ∧ g < wr.heap.size := by
          obtain ⟨g, cap, e, h1, h2⟩ := ho5.form (by simp)
          cases e; exact ⟨g, rfl, h1, h2⟩
        have hgg : g5 ≠ g4 := by simpa [Value.ownBlock] using hne'
        clear hE
        by_cases hS : (s[k]'(by omega)).toNat = 83
        · have hS' : ((s[k]'(by omega)).toNat : Int) = 83 := by omega
          clear hS
          obtain ⟨p1, p2, r, hpr⟩ := Hinv.out.two hkl HL.out (by rw [Hat.out]; exact hS')
          obtain ⟨rfl, rfl⟩ : q0 = p1 ∧ r0 = p2 :: r := by simpa using hpr
          clear hpr
          obtain ⟨e, t, het⟩ : ∃ e t, r ++ [(lettersOf s).length] = e :: t := by cases r <;> simp
          have htl : t.length = r.length := by have := congrArg List.length het; simp at this; omega
          have hends : endsOf (lettersOf s).length (q0 :: p2 :: r) = p2 :: e :: t := by simp [endsOf, het]
          rw [hends] at ho5
          have k0 : wr.cell? ⟨g5, r.length + 1, none⟩ = some (.int .i64 (p2 : Nat)) := by
            rw [ho5.cellAt (r.length + 1) (by simp)]; simp [natCells, ← htl]
          have k1 : wr.cell? ⟨g5, r.length, none⟩ = some (.int .i64 (e : Nat)) := by
            rw [ho5.cellAt r.length (by simp; omega)]; simp [natCells, ← htl]
          have hp2 : p2 ≤ 1000000 := by
            have := Hinv.out.at_ l1 HL1.out 1 (by simp)
            simp at this
            have := this.2.1
            rw [Hl.out] at this
            omega
          have hmn : (lettersOf s).length - (k + 1) < maxLen := by rw [Hl.out]; unfold maxLen; omega
          have hl3 : r.length ≤ 1000000 := by simp at hpl1; omega
          simp only [List.length_cons] at hpl1 hn4 hn5 ho4 ho5 ⊢
          go_wp2_with (first
            | (at_mapUpdate; refine wpList_storeI hmap rfl _ _ _ 97 rfl Tryz.underlying3 Tryz.underlying97 Tryz.underlying3 hmn rfl _ _ rfl rfl (WalkArith.wf_i64 (by omega)) (WalkArith.wf_i64 (by omega)) ?_; intro w1 hm1 hgm))
          have ho4m := ho4.kept hgm (.inr (by simp [Value.ownBlock]; omega))
          have ho5m := ho5.kept hgm (.inr (by simp [Value.ownBlock]; omega))
          have k1m : w1.cell? ⟨g5, r.length, none⟩ = some (.int .i64 (e : Nat)) := hgm.cell k1 (by simp; omega)
          have hcut4 : w1.ownsRow (w.heap.size + 1) 3 1 (.slice (some ⟨g4, 0, none⟩) r.length p4) r.length (natCells r.reverse) := by
            have e3 : natCells (q0 :: p2 :: r).reverse = natCells r.reverse ++ [.int .i64 (p2 : Nat), .int .i64 (q0 : Nat)] := by simp [natCells]
            rw [e3] at ho4m
            exact cut_own ho4m (by simp [natCells]) (by omega)
          have hcut5 : w1.ownsRow (w.heap.size + 1) 3 1 (.slice (some ⟨g5, 0, none⟩) r.length p5) r.length (natCells t.reverse) := by
            have e3 : natCells (p2 :: e :: t).reverse = natCells t.reverse ++ [.int .i64 (e : Nat), .int .i64 (p2 : Nat)] := by simp [natCells]
            rw [e3] at ho5m
            exact cut_own ho5m (by simp [natCells, htl]) (by omega)
          have hsz1 := hgm.size
          have hBm : Below w.heap.size w w1 := hB.grown hgm hB.size (fun j e => by cases e; exact Nat.le_refl _)
          have Het := Lib.hid het
          have Hm1 := Lib.hid hm1
          have HBm := Lib.hid hBm
          have H1 := Lib.hid hpl1
          clear ho4 ho5 ho4m ho5m hm1 hBm hB hmap k0 k1 hne hne' hpl1 c3 c4 hends het
          have d1 : IntKind.i64.wrap ((r.length : Int) + 1 + 1 - 2) = (r.length : Int) := by rw [IntWalk.i64_in _ (by omega)]; omega
          have d2 : (0 : Int) ≤ (r.length : Int) := by omega
          have d3 : (r.length : Int) ≤ (p4 : Int) := by omega
          have d4 : (r.length : Int) ≤ (p5 : Int) := by omega
          have d5 : (r.length : Int) < (r.length : Int) + 1 + 1 := by omega
          have c5 : r.length + 1 ≤ maxLen := by unfold maxLen; omega
          have c6 : (r.length + 1) * 8 ≤ 140737488355328 := by omega
          have hgg' := hgg
          have hg5l1 : g5 < w1.heap.size := by omega
          have hg4l1 : g4 < w1.heap.size := by omega
          have nA : Blk ((w1.alloc (.cells #[.int .i64 (k : Nat)] 3)).alloc (.cells #[.int .i64 (e : Nat)] 3)).drew (w1.heap.size + 1) 3 #[.int .i64 (e : Nat)] := by
            have := Blk.new (w1.alloc (.cells #[.int .i64 (k : Nat)] 3)) 3 #[.int .i64 (e : Nat)]
            rw [size_alloc'] at this
            exact this.drew
          have nB : Blk ((w1.alloc (.cells #[.int .i64 (e : Nat)] 3)).alloc (.cells #[.int .i64 (k : Nat)] 3)).drew w1.heap.size 3 #[.int .i64 (e : Nat)] := ((Blk.new _ _ _).alloc _).drew
          have nC : Blk ((w1.alloc (.cells #[.int .i64 (e : Nat)] 3)).alloc (.cells #[.int .i64 (k : Nat)] 3)).drew (w1.heap.size + 1) 3 #[.int .i64 (k : Nat)] := by
            have := Blk.new (w1.alloc (.cells #[.int .i64 (e : Nat)] 3)) 3 #[.int .i64 (k : Nat)]
            rw [size_alloc'] at this
            exact this.drew
          have NC := Lib.hid nC
          clear nC
          have NA := Lib.hid nA
          have NB := Lib.hid nB
          clear nA nB
          go_region_law
            ((first
              | (refine step_append_lies _ (by rfl) (.tmp 49) (.tmp 51) 30 (by rfl) (w.heap.size + 1) 3 i1 _ 1 8 Tryz.underlying30 hi' hy0 hy1 hy2 (by rfl) (by decide) (.slice (some ⟨g4, 0, none⟩) r.length p4) r.length (natCells r.reverse) (by rfl) (by first | exact hcut4.alloc _ | exact (hcut4.alloc _).alloc _) _ 1 1 [.int .i64 (k : Nat)] (by rfl) (by rfl) (by first | exact World.news_of_block (heap_alloc_new _ _) | exact World.news_of_block (Blk.alloc (Blk.new _ _ _) _) | exact World.news_of_block NC.out) (by simp [Value.oneCell']) (by decide) c5 c6 (by simp; omega) _ rfl ?_; intro g4' cap4' W4 hr4 hg4 hat4 hlt4; have kW := hg4.cell (a := ⟨g5, r.length, none⟩) (v := .int .i64 (e : Nat)) (by first | exact (World.cell?_alloc_lt _ _ _ (by simp; omega)).trans k1m | exact (World.cell?_alloc_lt _ _ _ (by simp; omega)).trans ((World.cell?_alloc_lt _ _ _ (by simp; omega)).trans k1m)) (by simpa [Value.ownBlock] using hgg'))
              | (refine step_append_lies _ (by rfl) (.tmp 56) (.tmp 62) 30 (by rfl) (w.heap.size + 1) 3 i1 _ 1 8 Tryz.underlying30 hi' hy0 hy1 hy2 (by rfl) (by decide) (.slice (some ⟨g5, 0, none⟩) r.length p5) r.length (natCells t.reverse) (by rfl) (by first | exact ((hcut5.alloc _).drew.kept hg4 (.inr (by simpa [Value.ownBlock] using hgg'))).alloc _ | exact ((hcut5.drew.alloc _).kept hg4 (.inr (by simpa [Value.ownBlock] using hgg'))).alloc _ | exact ((hcut5.alloc _).alloc _).drew.kept hg4 (.inr (by simpa [Value.ownBlock] using hgg')) | exact ((hcut5.drew.alloc _).alloc _).kept hg4 (.inr (by simpa [Value.ownBlock] using hgg'))) _ 1 1 [.int .i64 (e : Nat)] (by rfl) (by rfl) (by first | exact World.news_of_block (heap_alloc_new _ _) | exact World.news_of_block (NA.out.grown hg4 (by simp [Value.ownBlock]; omega)) | exact World.news_of_block (NB.out.grown hg4 (by simp [Value.ownBlock]; omega))) (by simp [Value.oneCell']) (by decide) c5 c6 (by have := hg4.size; simp at this ⊢; omega) _ rfl ?_; intro g5' cap5' W5 hr5 hg5 hat5 hlt5)))
          all_goals
            go_wp2
            go_roundw
            case measure => simp [intOf]
            case rel =>
              have hc := two_rows (base := w.heap.size + 1) (wr := w1) (by first | exact gDrew (gAlloc (World.grownBy.refl _ _) _) | exact gDrew (gAlloc (gAlloc (World.grownBy.refl _ _) _) _)) hg4 (by first | exact gAlloc (World.grownBy.refl _ _) _ | exact World.grownBy.refl _ _) hg5 hr4 hr5 hat4 hat5
                (fun j e => by simp [Value.ownBlock] at e; omega) (fun j e => by simp [Value.ownBlock] at e; omega) (.inr (by simpa [Value.ownBlock] using hgg)) hlt4
              refine ⟨k, _, _, rfl, rfl, by omega, rfl, sec_done HBm.out (by omega) (Hinv.out.stS hkl HL.out (by rw [Hat.out]; exact hS')) HL.out Hm1.out (by omega) hc hr5 (by simp) (by simp) ?_ ?_⟩
              · simp [natCells]
              · rw [show endsOf (lettersOf s).length (k :: r) = e :: t from Het.out]; simp [natCells]
        · have hS' : ¬ ((s[k]'(by omega)).toNat : Int) = 83 := by omega
          have hSb : (((s[k]'(by omega)).toNat : Int) == 83) = false := by simpa using hS'
          clear hS
          have k0 : wr.cell? ⟨g4, r0.length, none⟩ = some (.int .i64 (q0 : Nat)) := by
            rw [ho4.cellAt r0.length (by simp)]; simp [natCells]
          have f0 := ho4.frozenAt r0.length
          have hl3 : r0.length ≤ 1000000 := by simp at hpl1; omega
          simp only [List.length_cons] at hpl1 hn4 hn5 ho4 ho5 ⊢
          go_wp2
          go_roundw
          case measure => simp [intOf]
          case rel =>
            have hst := ho4.stored r0.length (.int .i64 (k : Nat))
            have e4 : (natCells (q0 :: r0).reverse).set r0.length (.int .i64 (k : Nat)) = natCells (k :: r0).reverse := by
              simp [natCells]
            rw [e4] at hst
            obtain ⟨hs4, hg4⟩ := hst
            have hinv' := Hinv.out.st1 hkl HL.out (by rw [Hat.out]; exact hE') (by rw [Hat.out]; exact hS')
            exact ⟨k, _, _, rfl, rfl, by omega, rfl, ⟨⟨k :: r0, f, hinv', (hmap.mono (by omega)).kept hg4 (by simp; omega), hs4, ho5.kept hg4 (.inr (by simpa [Value.ownBlock] using hgg)), .inr (by simpa [Value.ownBlock] using Ne.symm hgg), hinv'.le HL.out⟩, hB.grown hg4 hB.size (fun j e => by cases e; omega), by have := hg4.size; omega⟩⟩
end Go.Proofs.YtpnkhgjjlionnaaGreat.Zp
namespace Go.Proofs.YtpnkhgjjlionnaaGreat.Zp
open Go.RowKit Go.Maps

theorem zero_int (w : World) : (zeroValue 3).run Tryz.prog w = .ok (.int .i64 0) w := by kernel_rfl
/-- How often each letter stands in a text; what is no letter is not counted. -/
def wcountF (zs : List Int) (c : Int) : Int := if codeN c = 0 then 0 else cnt zs c
theorem wcountF_snoc (zs : List Int) (z : Int) : wcountF (zs ++ [z]) = if codeN z = 0 then wcountF zs else fun y => if y = z then wcountF zs z + 1 else wcountF zs y := by
  by_cases hz : codeN z = 0
  · rw [if_pos hz]
    funext y
    unfold wcountF
    by_cases hy : codeN y = 0
    · rw [if_pos hy, if_pos hy]
    · rw [if_neg hy, if_neg hy, cnt_snoc, if_neg (by rintro rfl; exact hy hz)]
  · rw [if_neg hz]
    funext y
    unfold wcountF
    by_cases hy : codeN y = 0
    · rw [if_pos hy, if_pos hy, if_neg (by rintro rfl; exact hz hy)]
    · rw [if_neg hy, if_neg hy, cnt_snoc, if_neg hz]
      by_cases h : z = y
      · subst h; simp
      · rw [if_neg h, if_neg (fun e => h e.symm)]
theorem wcountF_le (zs : List Int) (c : Int) : 0 ≤ wcountF zs c ∧ wcountF zs c ≤ zs.length := by
  have := cnt_le zs c
  unfold wcountF
  split <;> omega
theorem lettersOf_byte (s : ByteArray) (j : Nat) (hj : j < (lettersOf s).length) : (Lit.int .u8 ((lettersOf s)[j])).wf = true := by
  have hj' : j < s.data.size := by simpa [lettersOf] using hj
  have : (lettersOf s)[j] = ((s.data[j]).toNat : Int) := by simp [lettersOf]
  rw [this]
  have h2 := (s.data[j]).toNat_lt
  have h3 : IntKind.u8.min = 0 := by decide
  have h4 : IntKind.u8.max = 255 := by decide
  simp [Lit.wf, h3, h4]
  omega
/-- The map of these numbers. -/
def WCount (w : World) (b : Nat) (zs : List Int) : Prop := MapI Tryz.prog 5 3 .u8 .i64 w b zs.length (wcountF zs)
set_option maxRecDepth 100000 in
set_option maxHeartbeats 1000000 in
theorem wcount_any (s : ByteArray) (hs : s.size ≤ 1000000) (w : World) :
    Calls Tryz.prog 49 #[.string s] w fun e w' => e = .returned (.map (some w.heap.size)) ∧ WCount w' w.heap.size (lettersOf s) ∧ Below w.heap.size w w' := by
  have hmm := @run_makeMap Tryz.prog
  have hcv : ∀ W, (convert 9 25 (.string s)).run Tryz.prog W = .ok (.slice (some ⟨W.heap.size, 0, none⟩) s.size (grownCap W s.size 0 5)) (Lib.bytesWorld W 5 s) :=
    fun W => Lib.run_convert_string_bytes W _ _ _ s Tryz.underlying9 Tryz.underlying25 Tryz.underlying5
  have hf := bytes_facts (w.alloc (.map #[] 0)) 5 s
  have hm0 := MapI.made w Tryz.prog 5 3 .u8 .i64
  have hB0 : Below w.heap.size w (w.alloc (.map #[] 0)) := (Below.refl _ _).alloc (Nat.le_refl _) _
  go_enter Tryz.func49, Tryz.ntmps49
  go_wp2
  generalize grownCap _ _ _ _ = cap
  generalize hW1 : Lib.bytesWorld _ _ _ = W1 at hf ⊢
  obtain ⟨hz, hg, hcell, -⟩ := hf
  clear hW1 hcv hmm
  have hB1 : Below w.heap.size w W1 := hB0.trans (below_of_grown hg (by simp) (by simp))
  have hm1 := hm0.kept hg (by simp)
  have hl := lettersOf_length s
  rw [← hl]
  have hlen : (lettersOf s).length ≤ 1000000 := by omega
  have hby := lettersOf_byte s
  generalize hzs : lettersOf s = zs at *
  have Hby : ∀ j (hj : j < zs.length), (Lit.int .u8 zs[j]).wf = true := hby
  clear hby
  have Hl := Lib.hid hl
  have Hzs := Lib.hid hzs
  rw [size_alloc'] at hz hcell
  clear hl hg hzs hm0 hB0
  go_loopw [12] (fun i wr => ∃ k : Nat, k ≤ zs.length ∧ i = .int .i64 k ∧ MapI Tryz.prog 5 3 .u8 .i64 wr w.heap.size k (wcountF (zs.take k)) ∧ Below w.heap.size w wr ∧ ∀ j, j < zs.length → wr.cell? ⟨w.heap.size + 1, j, none⟩ = some (.int .u8 (zs[j]?.getD 0))) (fun i _ => zs.length - (intOf i).toNat)
  case atStart =>
    refine ⟨0, Nat.zero_le _, rfl, ?_, hB1, hcell⟩
    have : wcountF (zs.take 0) = fun _ => 0 := by funext y; simp [wcountF, cnt]
    rw [this]
    exact hm1
  case round =>
    obtain ⟨k, hk, rfl, hm, hB, hc⟩ := hrel
    by_cases hlt : k < zs.length
    · have hc1 := hc k hlt
      have hts := take_snoc_int zs k hlt
      have hsn := wcountF_snoc (zs.take k) zs[k]
      rw [← hts] at hsn
      have hle := wcountF_le (zs.take k) zs[k]
      have hl3 : (zs.take k).length ≤ 1000000 := by rw [List.length_take]; omega
      have hwf := Hby k hlt
      have Hsn := Lib.hid hsn
      have Hc := Lib.hid hc
      have Hwf := Lib.hid hwf
      rw [List.getElem?_eq_getElem hlt, Option.getD_some] at hc1
      clear hts hsn hc hcell hwf
      by_cases h0 : codeN zs[k] = 0
      · have hcn : codeN zs[k] = 0 := h0
        have H0 := Lib.hid h0
        have hb : decide (0 < codeN zs[k]) = false := by simp [h0]
        clear h0
        go_wp2_with (go_at_call 75; refine (code_any _ _).mono ?_; rintro e w' ⟨rfl, rfl⟩)
        go_roundw
        case measure => simp [intOf]; omega
        case rel => exact ⟨k + 1, by omega, by go_num, by rw [Hsn.out, if_pos H0.out]; exact hm.mono (Nat.le_succ _), hB, Hc.out⟩
      · have hb : decide (0 < codeN zs[k]) = true := by have := codeN_le zs[k]; simp; omega
        have H0 := Lib.hid h0
        clear h0
        go_wp2_with (first
          | (go_at_call 75; refine (code_any _ _).mono ?_; rintro e w' ⟨rfl, rfl⟩)
          | (at_lookup; refine wpList_lookupI hm rfl _ _ 93 rfl Tryz.underlying5 Tryz.underlying93 Tryz.underlying3 (zero_int _) rfl _ rfl Hwf.out ?_)
          | (at_mapUpdate; refine wpList_storeI hm rfl _ _ _ 93 rfl Tryz.underlying5 Tryz.underlying93 Tryz.underlying3 (by unfold maxLen; omega) rfl _ _ rfl rfl Hwf.out (WalkArith.wf_i64 (by omega)) ?_; intro w1 hm1' hg1))
        go_roundw
        case measure => simp [intOf]; omega
        case rel => exact ⟨k + 1, by omega, by go_num, by rw [Hsn.out, if_neg H0.out]; exact hm1', hB.grown hg1 hB.size (fun j e => by cases e; omega), fun j hj => hg1.cell (Hc.out j hj) (by simp)⟩
    · obtain rfl : k = zs.length := by omega
      rw [List.take_length] at hm
      go_wp2
      go_ret
      refine ⟨rfl, ?_, hB⟩
      unfold WCount
      rw [Hzs.out]
      exact hm
end Go.Proofs.YtpnkhgjjlionnaaGreat.Zp
namespace Go.Proofs.YtpnkhgjjlionnaaGreat.Zp
open Go.RowKit
attribute [local go_sem] Oper.semAt_some

/-- One letter more, from behind: none where it is no letter, or the word is too short. -/
def begStep (st : List Span) (c : Int) : Option (List Span) :=
  if (wordM st c).2.1 = false ∨ (wordM st c).1.1 < 3 then none else some ((wordM st c).1 :: (wordM st c).2.2)
def begRun (cs : List Int) : Option (List Span) := cs.foldlM begStep []
def begEnd : List Span → Bool
  | [] => true
  | [x] => x.1 == 3 || (x.2 && decide (x.1 < 3))
  | _ => false
/-- What word.begins answers. -/
def beginsM (zs : List Int) : Bool :=
  match begRun zs.reverse with
  | none => false
  | some st => begEnd st
theorem begRun_snoc (cs : List Int) (c : Int) : begRun (cs ++ [c]) = (begRun cs).bind (fun p => begStep p c) := by
  simp [begRun, List.foldlM_append]
theorem begRun_some {cs : List Int} {st : List Span} (h : begRun cs = some st) : sumAbs st ≤ 8 * cs.length ∧ st.length ≤ cs.length := by
  suffices H : ∀ (cs : List Int) (p q : List Span), cs.foldlM begStep p = some q → sumAbs q ≤ sumAbs p + 8 * cs.length ∧ q.length ≤ p.length + cs.length by
    have := H cs _ _ h
    simpa [sumAbs] using this
  intro cs
  induction cs with
  | nil => intro p q h; simp at h; subst h; simp
  | cons c r ih =>
    intro p q h
    rw [List.foldlM_cons] at h
    cases hs : begStep p c with
    | none => rw [hs] at h; cases h
    | some p' =>
      rw [hs] at h
      have h' := ih p' q h
      have h1 := sumAbs_word p c
      have h2 := len_word p c
      unfold begStep at hs
      split at hs
      · cases hs
      · cases hs
        simp only [sumAbs, List.length_cons] at h' ⊢
        omega
theorem beginsM_of_run_none {zs : List Int} (h : ∃ k, begRun (zs.reverse.take k) = none) : beginsM zs = false := by
  obtain ⟨k, hk⟩ := h
  have : begRun zs.reverse = none := by
    rw [← List.take_append_drop k zs.reverse]
    unfold begRun at hk ⊢
    rw [List.foldlM_append, hk]
    rfl
  unfold beginsM
  rw [this]

/-- What the loop's rounds keep. -/
structure BegInv (w : World) (pre : List (Nat × Int)) (W : World) : Prop where
  run : ∃ st, begRun (pre.map (·.2)) = some st ∧ StackIn W w.heap.size W.heap.size (w.heap.size + 1) st
  res : Blk W w.heap.size 4 #[.bool false]
  byt : ∃ o, CellsT W (w.heap.size + 1 + 1) 5 o
  box : ∃ o, CellsT W (w.heap.size + 1 + 1 + 1) 25 o
  below : Below w.heap.size w W
theorem BegInv.calm {w W W' : World} {pre : List (Nat × Int)} {row : Option Nat} (h : BegInv w pre W) (hg : W.grownBy W' row) (hr : ∀ r, row = some r → w.heap.size ≤ r ∧ ∃ o : Obj, W.heap[r]? = some o ∧ o.isCells = false) : BegInv w pre W' := by
  obtain ⟨⟨st, h1, h2⟩, h5, ⟨o8, h8⟩, ⟨o9, h9⟩, h7⟩ := h
  have hr' := fun r e => (hr r e).2
  exact ⟨⟨st, h1, (h2.calm hg hr').top hg.size⟩, h5.calm hg hr', ⟨_, h8.calm hg hr'⟩, ⟨_, h9.calm hg hr'⟩, h7.grown hg h7.size (fun k e => (hr k e).1)⟩
/-- How a round leaves. -/
structure BegOut (w : World) (c : Code) (pre : List (Nat × Int)) (W : World) : Prop where
  ret : c = .ret
  run : begRun (pre.map (·.2)) = none
  res : Blk W w.heap.size 4 #[.bool false]
  below : Below w.heap.size w W
theorem BegOut.calm {w W W' : World} {c : Code} {pre : List (Nat × Int)} {row : Option Nat} (h : BegOut w c pre W) (hg : W.grownBy W' row) (hr : ∀ r, row = some r → w.heap.size ≤ r ∧ ∃ o : Obj, W.heap[r]? = some o ∧ o.isCells = false) : BegOut w c pre W' := by
  obtain ⟨h1, h2, h5, h7⟩ := h
  have hr' := fun r e => (hr r e).2
  exact ⟨h1, h2, h5.calm hg hr', h7.grown hg h7.size (fun k e => (hr k e).1)⟩

set_option maxRecDepth 100000 in
set_option maxHeartbeats 1000000 in
theorem begins_any (s : ByteArray) (hs : s.size ≤ 1000000) (w : World) :
    Calls Tryz.prog 74 #[.string s] w fun e w' => e = .returned (.bool (beginsM (lettersOf s))) ∧ Below w.heap.size w w' := by
  have hcv : ∀ W, (convert 9 25 (.string s)).run Tryz.prog W = .ok (.slice (some ⟨W.heap.size, 0, none⟩) s.size (grownCap W s.size 0 5)) (Lib.bytesWorld W 5 s) :=
    fun W => Lib.run_convert_string_bytes W _ _ _ s Tryz.underlying9 Tryz.underlying25 Tryz.underlying5
  obtain ⟨i0, hi, hz0, hz1, hz2⟩ := info_parts info_span
  refine (callsIn_wide (n := 9)).1 ?_
  refine callsIn_of_wp_marks Tryz.func74 rfl trivial ?_ rfl
  simp only [Tryz.ntmps74, List.size_toArray, List.length_cons, List.length_nil, Nat.reduceAdd, Nat.reduceSub, Array.replicate_succ, Array.replicate_zero, List.push_toArray, List.append_toArray, List.nil_append, List.cons_append]
  have hf := bytes_facts ((w.alloc (.cells #[.bool false] 4)).alloc (.cells #[.slice none 0 0] 134)) 5 s
  obtain ⟨b0, b2, bB⟩ : ∃ _ : Blk ((w.alloc (.cells #[.bool false] 4)).alloc (.cells #[.slice none 0 0] 134)) w.heap.size 4 #[.bool false],
      ∃ _ : Blk ((w.alloc (.cells #[.bool false] 4)).alloc (.cells #[.slice none 0 0] 134)) (w.heap.size + 1) 134 #[.slice none 0 0],
      Below w.heap.size w ((w.alloc (.cells #[.bool false] 4)).alloc (.cells #[.slice none 0 0] 134)) := by
    refine ⟨(Blk.new _ _ _).alloc _, ?_, ((Below.refl _ _).alloc (Nat.le_refl _) _).alloc (by simp) _⟩
    have := Blk.new (w.alloc (.cells #[.bool false] 4)) 134 #[.slice none 0 0]
    rwa [size_alloc'] at this
  gi_wp2_with fail
  rw [size_alloc', size_alloc'] at hf
  generalize grownCap _ _ _ _ = cap
  generalize hW1 : Lib.bytesWorld _ _ _ = W1 at hf ⊢
  obtain ⟨hz, hg, hcell, C, fr, hbyt⟩ := hf
  clear hW1 hcv
  refine ⟨trivial, ?_⟩
  refine (back_in Fence.wide 8 trivial rfl _ _ _ _).mono ?_
  rintro e w' ⟨rfl, rfl⟩
  gi_wp2_with fail
  have hl := lettersOf_length s
  rw [← hl]
  have hBB := bB.trans (below_of_grown hg (by simp; omega) (by simp))
  have bx := Blk.new W1 25 #[.slice (some ⟨w.heap.size + 1 + 1, 0, none⟩) (lettersOf s).length cap]
  have hsz : (W1.alloc (.cells #[.slice (some ⟨w.heap.size + 1 + 1, 0, none⟩) (lettersOf s).length cap] 25)).heap.size = w.heap.size + 1 + 1 + 1 + 1 := by rw [size_alloc', hz]
  have hz' : W1.heap.size = w.heap.size + 1 + 1 + 1 := by rw [hz]
  rw [hz'] at bx
  try rw [hz']
  have h0 : BegInv w [] (W1.alloc (.cells #[.slice (some ⟨w.heap.size + 1 + 1, 0, none⟩) (lettersOf s).length cap] 25)) :=
    ⟨⟨[], rfl, StackIn.new _ ((b2.grown hg (by simp)).alloc _)⟩, (b0.grown hg (by simp)).alloc _, ⟨_, CellsT.alloc ⟨hbyt, _, _, rfl⟩ _⟩, ⟨_, bx.cellsT⟩, hBB.alloc (by omega) _⟩
  have hcb : ∀ j, j < (lettersOf s).length → (W1.alloc (.cells #[.slice (some ⟨w.heap.size + 1 + 1, 0, none⟩) (lettersOf s).length cap] 25)).cell? ⟨w.heap.size + 1 + 1, j, none⟩ = some (.int .u8 ((lettersOf s)[j]?.getD 0)) := fun j hj => (World.cell?_alloc_lt _ _ _ (by show w.heap.size + 1 + 1 < W1.heap.size; omega)).trans (hcell j hj)
  generalize (W1.alloc (.cells #[.slice (some ⟨w.heap.size + 1 + 1, 0, none⟩) (lettersOf s).length cap] 25)) = W2 at bx hsz h0 hcb ⊢
  clear hcell hBB hg b0 b2 bB hz hz'
  have hlen : (lettersOf s).length ≤ 1000000 := by omega
  generalize hzs : lettersOf s = zs at *
  have Hl := Lib.hid hl
  have Hzs := Lib.hid hzs
  clear hl hzs
  refine wpIn_rangeFunc_ownG rfl (by omega) (gf := 100) (lb := #[.pointer (some ⟨w.heap.size + 1 + 1 + 1, 0, none⟩)]) rfl trivial (enters_of Tryz.func100 (by kernel_rfl) rfl)
    (back_stops Fence.wide 8 trivial rfl (by omega) (w.heap.size + 1 + 1 + 1) (w.heap.size + 1 + 1) cap zs (by omega) W2 (by omega) (by omega) (bx.cell 0) hcb) KeepTwo.trans (KeepTwo.put (by omega) (by omega)) (Below.refl _ _) (fun _ => rfl)
    (BegInv w) (BegOut w) (fun _ _ _ _ h hg hr => h.calm hg (fun r e => ⟨by have := (hr r e).1; omega, (hr r e).2⟩)) (fun _ _ _ _ _ h hg hr => h.calm hg (fun r e => ⟨by have := (hr r e).1; omega, (hr r e).2⟩))
    h0
    (fun x => { tmps := List.toArray (.string s :: undef :: .pointer (some ⟨w.heap.size, 0, none⟩) :: .pointer (some ⟨w.heap.size + 1, 0, none⟩) :: undef :: .int .u8 x.2 :: undef :: undef :: .string s :: .slice (some ⟨w.heap.size + 1 + 1, 0, none⟩) zs.length cap :: .func (.func 100) #[] #[.pointer (some ⟨w.heap.size + 1 + 1 + 1, 0, none⟩)] :: .int .i64 (x.1 : Nat) :: .int .u8 x.2 :: undef :: undef :: undef :: undef :: undef :: undef :: undef :: undef :: undef :: undef :: undef :: undef :: undef :: undef :: undef :: undef :: undef :: undef :: undef :: undef :: undef :: undef :: undef :: undef :: undef :: undef :: undef :: undef :: undef :: undef :: undef :: undef :: undef :: undef :: undef :: undef :: undef :: undef :: undef :: undef :: undef :: undef :: []), defers := [] }) ?assign ?body ?done ?stop
  case assign =>
    intro l x W K hK
    gi_wp2
    exact hK
  case body =>
    rintro l pre x W ⟨⟨st, hrun, hst⟩, hb0, ⟨ob, hby⟩, ⟨ox, hbx⟩, hB⟩ hlt
    have hrs := begRun_some hrun
    have hsn := begRun_snoc (pre.map (·.2)) x.2
    rw [hrun] at hsn
    simp only [Option.bind_some] at hsn
    have hmap : (pre ++ [x]).map (·.2) = pre.map (·.2) ++ [x.2] := by simp
    rw [← hmap] at hsn
    have Hsn := Lib.hid hsn
    have Hrun := Lib.hid hrun
    clear hsn hmap hrun
    have hlen1 : pre.length ≤ 1000000 := by omega
    have hsum : sumAbs st ≤ 1000000000000 := by have := hrs.1; simp at this; omega
    have hstl : st.length ≤ 1000000 := by have := hrs.2; simp at this; omega
    clear hrs
    gi_wp2_with fail
    refine ⟨trivial, (CallsIn.inRound l (callsIn_wide.2 (word_any _ _ _ st x.2 W hst (Nat.le_refl _) hsum))).mono ?_⟩
    rintro e W3 ⟨rfl, hst3, hg3⟩
    have hB3 := below_of_grown hg3 hB.size (fun j e => by cases e; omega)
    have hb03 := hb0.grown hg3 (by simp)
    obtain ⟨v0, hv0, -⟩ := hst
    obtain ⟨v3, hv3, hr3, hH3⟩ := hst3
    obtain ⟨q0, q1, q2⟩ := hb03.one
    obtain ⟨s0, s1, s2⟩ := hv3.one
    have hsz3 := hB3.size
    have hk3 : KeepsOthers W W3 := KeepsOthers.of_grownBy hg3 (isCells_of_blk hv0)
    by_cases hbad : (wordM st x.2).2.1 = false ∨ (wordM st x.2).1.1 < 3
    · have hnone : begRun ((pre ++ [x]).map (·.2)) = none := by rw [Hsn.out, begStep, if_pos hbad]
      have Hnone := Lib.hid hnone
      clear hnone
      have fin : ∀ (o : Obj), KeepsFrom W2.heap.size W ((W3.setCell ⟨w.heap.size, 0, none⟩ (.bool false)).alloc o) ∧ BegOut w .ret (pre ++ [x]) ((W3.setCell ⟨w.heap.size, 0, none⟩ (.bool false)).alloc o) := fun o =>
        ⟨((hk3.trans (KeepsOthers.setCell _ _ _)).trans (KeepsOthers.alloc _ _)) |>.from _,
          rfl, Hnone.out, (hb03.set1 _).alloc _, ((hB.trans hB3).setCell (p := ⟨w.heap.size, 0, none⟩) (Nat.le_refl _) _).alloc (by simp [World.setCell]; omega) _⟩
      cases h21 : (wordM st x.2).2.1
      · gi_wp2
        exact fin _
      · have hbad' : (wordM st x.2).1.1 < 3 := by rw [h21] at hbad; simpa using hbad
        gi_wp2
        exact fin _
    · have h21 : (wordM st x.2).2.1 = true := by
        cases h : (wordM st x.2).2.1
        · exact absurd (.inl h) hbad
        · rfl
      have h12 : ¬ (wordM st x.2).1.1 < 3 := fun h => hbad (.inr h)
      have hsome : begRun ((pre ++ [x]).map (·.2)) = some ((wordM st x.2).1 :: (wordM st x.2).2.2) := by rw [Hsn.out, begStep, if_neg hbad]
      have Hsome := Lib.hid hsome
      clear hsome hbad
      have hlw := len_word st x.2
      have c3 : (wordM st x.2).2.2.length + 1 ≤ maxLen := by unfold maxLen; omega
      have c4 : ((wordM st x.2).2.2.length + 1) * 16 ≤ 140737488355328 := by omega
      have hca := cells_new (W3.alloc (.cells #[.int .i64 (wordM st x.2).1.1, .bool (wordM st x.2).1.2] 139)) [.int .i64 (wordM st x.2).1.1, .bool (wordM st x.2).1.2] 139
      rw [size_alloc'] at hca
      have Hca := Lib.hid hca
      have bX := Blk.new W3 139 #[.int .i64 (wordM st x.2).1.1, .bool (wordM st x.2).1.2]
      clear hca
      gi_wp2_with (first
        | (gi_at_builtin; refine wpListIn_append_own _ rfl (.tmp 25) (.tmp 27) 134 rfl w.heap.size 139 i0 _ 2 16 Tryz.underlying134 hi hz0 hz1 hz2 rfl (by decide) v3 _ _ rfl ((hr3.alloc _).alloc _) ⟨W3.heap.size + 1, 0, none⟩ 1 1 [.int .i64 (wordM st x.2).1.1, .bool (wordM st x.2).1.2] rfl rfl Hca.out (by simp [Value.oneCell']) c3 c4 (by simp; omega) ?_; intro v4 W4 hr4 hg4 _; obtain ⟨g', cap', rfl⟩ := ownsRow_succ hr4; obtain ⟨m1, m2, m3, m4, m5⟩ := Boxed.appended (Blk.alloc hv3 _) (by decide) (hr3.alloc _) (by simp; omega) (by omega) hr4 hg4; obtain ⟨y0, y1, y2⟩ := Blk.one m1))
      have hby3 := hby.grown hg3 (by simp)
      have hbx3 := hbx.grown hg3 (by simp; omega)
      have hby7 := app_cellsT (u := .slice (some ⟨g', 0, none⟩) ((wordM st x.2).2.2.length + 1) cap') (B := w.heap.size + 1) (hby3.alloc _) (hr3.alloc _) (by decide) hg4 (by omega)
      have hbx7 := app_cellsT (u := .slice (some ⟨g', 0, none⟩) ((wordM st x.2).2.2.length + 1) cap') (B := w.heap.size + 1) (hbx3.alloc _) (hr3.alloc _) (by decide) hg4 (by omega)
      have hb07 := app_blk (u := .slice (some ⟨g', 0, none⟩) ((wordM st x.2).2.2.length + 1) cap') (B := w.heap.size + 1) (hb03.alloc _) (hr3.alloc _) (by decide) hg4 (by omega)
      refine ⟨((hk3.trans (KeepsOthers.alloc _ _)).trans m4).from _, ⟨hby7.1.trans hby.1.symm, hbx7.1.trans hbx.1.symm⟩, ⟨_, Hsome.out, ⟨_, m2, ?_, ?_⟩⟩, hb07, ⟨_, hby7⟩, ⟨_, hbx7⟩, ?_⟩
      · rw [List.reverse_cons, cellsS_append, List.length_cons]
        simpa [cellsS] using m3
      · intro k hk
        have := m3.lt k hk
        omega
      · exact ((hB.trans hB3).alloc (by omega) _).trans m5
  case done =>
    rintro D ys W hD rfl ⟨⟨st, hrun, hst⟩, hb0, -, -, hB⟩ hK
    rw [backs_snd _ _ (Nat.le_refl _), List.take_of_length_le (by simp)] at hrun
    have hrs := begRun_some hrun
    have hsl : st.length ≤ 1000000 := by have := hrs.2; simp at this; omega
    obtain ⟨v0, hv0, hr0, -⟩ := hst
    obtain ⟨q0, q1, q2⟩ := hb0.one
    obtain ⟨s0, s1, s2⟩ := hv0.one
    obtain ⟨a0, cp0, rfl⟩ : ∃ a c, v0 = .slice a st.length c := by
      rcases hr0.2 with ⟨rfl, h⟩ | ⟨g, cap, cur, rfl, _⟩
      · exact ⟨none, 0, by rw [h]⟩
      · exact ⟨_, _, rfl⟩
    have hM : beginsM zs = begEnd st := by unfold beginsM; rw [hrun]
    have HM := Lib.hid hM
    clear hM hrun hrs
    rcases st with _ | ⟨y, _ | ⟨y', r⟩⟩
    · have HM' := Lib.hid (show beginsM zs = true from by rw [HM.out]; rfl)
      gi_wp2
      have hb05 := hb0.set1 (.bool true)
      have hB5 := hB.setCell (p := ⟨w.heap.size, 0, none⟩) (Nat.le_refl _) (.bool true)
      have hK5 := (KeepsOthers.setCell W ⟨w.heap.size, 0, none⟩ (.bool true)).same D _ hK rfl
      generalize (W.setCell ⟨w.heap.size, 0, none⟩ (.bool true)) = W5 at hb05 hB5 hK5 ⊢
      refine ⟨by simp, .inl ⟨_, _, rfl, run_takeDeferred hK5, ?_⟩⟩
      obtain ⟨g1, g2⟩ := put_calm hK5 (.deferred none)
      have k0 := (hb05.calm g1 g2).cell 0
      refine ⟨_, ?_, by rw [Hzs.out, HM'.out], (hB5.grown g1 hB5.size (fun k e => by cases e; omega))⟩
      simp [results, Tryz.results74, go_sem, k0]
    · obtain ⟨g, rfl, hg⟩ : ∃ g, a0 = some ⟨g, 0, none⟩ ∧ g < W.heap.size := by
        rcases hr0.2 with ⟨_, h0⟩ | ⟨g, cap, cur, e, _, hh, _⟩
        · simp at h0
        · cases e; exact ⟨g, rfl, (Array.getElem?_eq_some_iff.1 hh).1⟩
      have hcp : 1 ≤ cp0 := by
        rcases hr0.2 with ⟨_, h0⟩ | ⟨g, cap, cur, e, _, hh, hn, _⟩
        · simp at h0
        · cases e; simpa using hn
      have hcells := hr0.cells (g := g) rfl
      have c0 : W.cell? ⟨g, 0, none⟩ = some (.int .i64 y.1) := by simpa [Addr.add_lit] using hcells 0 (.int .i64 y.1) (by simp [cellsS])
      have c1 : W.cell? ⟨g, 1, none⟩ = some (.bool y.2) := by simpa [Addr.add_lit] using hcells 1 (.bool y.2) (by simp [cellsS])
      have c1' : W.cell? ⟨g, 0 + 1, none⟩ = some (.bool y.2) := c1
      clear hcells
      have HE : beginsM zs = (y.1 == 3 || (y.2 && decide (y.1 < 3))) := HM.out
      simp only [List.length_cons, List.length_nil, Nat.zero_add] at s1
      by_cases h3 : y.1 = 3
      · have HM' := Lib.hid (show beginsM zs = true from by rw [HE, h3]; simp)
        have e3 : (y.1 == 3) = true := by simp [h3]
        clear HE
        gi_wp2
        have hb05 := hb0.set1 (.bool true)
        have hB5 := hB.setCell (p := ⟨w.heap.size, 0, none⟩) (Nat.le_refl _) (.bool true)
        have hK5 := (KeepsOthers.setCell W ⟨w.heap.size, 0, none⟩ (.bool true)).same D _ hK rfl
        generalize (W.setCell ⟨w.heap.size, 0, none⟩ (.bool true)) = W5 at hb05 hB5 hK5 ⊢
        refine ⟨by simp, .inl ⟨_, _, rfl, run_takeDeferred hK5, ?_⟩⟩
        obtain ⟨g1, g2⟩ := put_calm hK5 (.deferred none)
        have k0 := (hb05.calm g1 g2).cell 0
        refine ⟨_, ?_, by rw [Hzs.out, HM'.out], (hB5.grown g1 hB5.size (fun k e => by cases e; omega))⟩
        simp [results, Tryz.results74, go_sem, k0]
      · have e3 : (y.1 == 3) = false := by simp [h3]
        cases h2 : y.2
        · have HM' := Lib.hid (show beginsM zs = false from by rw [HE, e3, h2]; simp)
          rw [h2] at c1 c1'
          clear HE
          gi_wp2
          have hb05 := hb0.set1 (.bool false)
          have hB5 := hB.setCell (p := ⟨w.heap.size, 0, none⟩) (Nat.le_refl _) (.bool false)
          have hK5 := (KeepsOthers.setCell W ⟨w.heap.size, 0, none⟩ (.bool false)).same D _ hK rfl
          generalize (W.setCell ⟨w.heap.size, 0, none⟩ (.bool false)) = W5 at hb05 hB5 hK5 ⊢
          refine ⟨by simp, .inl ⟨_, _, rfl, run_takeDeferred hK5, ?_⟩⟩
          obtain ⟨g1, g2⟩ := put_calm hK5 (.deferred none)
          have k0 := (hb05.calm g1 g2).cell 0
          refine ⟨_, ?_, by rw [Hzs.out, HM'.out], (hB5.grown g1 hB5.size (fun k e => by cases e; omega))⟩
          simp [results, Tryz.results74, go_sem, k0]
        · rw [h2] at c1 c1'
          by_cases h4 : y.1 < 3
          · have HM' := Lib.hid (show beginsM zs = true from by rw [HE, e3, h2]; simp [h4])
            clear HE
            gi_wp2
            have hb05 := hb0.set1 (.bool true)
            have hB5 := hB.setCell (p := ⟨w.heap.size, 0, none⟩) (Nat.le_refl _) (.bool true)
            have hK5 := (KeepsOthers.setCell W ⟨w.heap.size, 0, none⟩ (.bool true)).same D _ hK rfl
            generalize (W.setCell ⟨w.heap.size, 0, none⟩ (.bool true)) = W5 at hb05 hB5 hK5 ⊢
            refine ⟨by simp, .inl ⟨_, _, rfl, run_takeDeferred hK5, ?_⟩⟩
            obtain ⟨g1, g2⟩ := put_calm hK5 (.deferred none)
            have k0 := (hb05.calm g1 g2).cell 0
            refine ⟨_, ?_, by rw [Hzs.out, HM'.out], (hB5.grown g1 hB5.size (fun k e => by cases e; omega))⟩
            simp [results, Tryz.results74, go_sem, k0]
          · have HM' := Lib.hid (show beginsM zs = false from by rw [HE, e3, h2]; simp; omega)
            clear HE
            gi_wp2
            have hb05 := hb0.set1 (.bool false)
            have hB5 := hB.setCell (p := ⟨w.heap.size, 0, none⟩) (Nat.le_refl _) (.bool false)
            have hK5 := (KeepsOthers.setCell W ⟨w.heap.size, 0, none⟩ (.bool false)).same D _ hK rfl
            generalize (W.setCell ⟨w.heap.size, 0, none⟩ (.bool false)) = W5 at hb05 hB5 hK5 ⊢
            refine ⟨by simp, .inl ⟨_, _, rfl, run_takeDeferred hK5, ?_⟩⟩
            obtain ⟨g1, g2⟩ := put_calm hK5 (.deferred none)
            have k0 := (hb05.calm g1 g2).cell 0
            refine ⟨_, ?_, by rw [Hzs.out, HM'.out], (hB5.grown g1 hB5.size (fun k e => by cases e; omega))⟩
            simp [results, Tryz.results74, go_sem, k0]
    · have HM' := Lib.hid (show beginsM zs = false from by rw [HM.out]; rfl)
      have e1 : (((y :: y' :: r).length : Int) == 0) = false := by simp; omega
      have e2 : (((y :: y' :: r).length : Int) == 1) = false := by simp; omega
      gi_wp2
      have hb05 := hb0.set1 (.bool false)
      have hB5 := hB.setCell (p := ⟨w.heap.size, 0, none⟩) (Nat.le_refl _) (.bool false)
      have hK5 := (KeepsOthers.setCell W ⟨w.heap.size, 0, none⟩ (.bool false)).same D _ hK rfl
      generalize (W.setCell ⟨w.heap.size, 0, none⟩ (.bool false)) = W5 at hb05 hB5 hK5 ⊢
      refine ⟨by simp, .inl ⟨_, _, rfl, run_takeDeferred hK5, ?_⟩⟩
      obtain ⟨g1, g2⟩ := put_calm hK5 (.deferred none)
      have k0 := (hb05.calm g1 g2).cell 0
      refine ⟨_, ?_, by rw [Hzs.out, HM'.out], (hB5.grown g1 hB5.size (fun k e => by cases e; omega))⟩
      simp [results, Tryz.results74, go_sem, k0]
  case stop =>
    rintro D c pre W hD ⟨k, hk, rfl⟩ ⟨rfl, hrun, hb0, hB⟩ hK
    rw [backs_snd _ _ hk] at hrun
    have HM' := Lib.hid (beginsM_of_run_none ⟨k, hrun⟩)
    clear hrun
    gi_wp2
    refine ⟨by simp, .inl ⟨_, _, rfl, run_takeDeferred hK, ?_⟩⟩
    obtain ⟨g1, g2⟩ := put_calm hK (.deferred none)
    have k0 := (hb0.calm g1 g2).cell 0
    refine ⟨_, ?_, by rw [Hzs.out, HM'.out], (hB.grown g1 hB.size (fun k e => by cases e; omega))⟩
    simp [results, Tryz.results74, go_sem, k0]
end Go.Proofs.YtpnkhgjjlionnaaGreat.Zp
namespace Go.Proofs.YtpnkhgjjlionnaaGreat.Zp
open Go.RowKit

/-- A callee that kept what lay, behind a block of our own. -/
theorem below_then {B : Nat} {w w1 w2 : World} {o : Obj} (h : Below B w w1) (hB : B ≤ w1.heap.size) (h2 : Below (w1.alloc o).heap.size (w1.alloc o) w2) : Below B w w2 :=
  (h.alloc hB o).trans (h2.mono (by simp; omega))
theorem below_on {B : Nat} {w w1 w2 : World} (h : Below B w w1) (hB : B ≤ w1.heap.size) (h2 : Below w1.heap.size w1 w2) : Below B w w2 := h.trans (h2.mono hB)

end Go.Proofs.YtpnkhgjjlionnaaGreat.Zp
namespace Go.Proofs.YtpnkhgjjlionnaaGreat.Zp
open Go.RowKit

theorem lettersOf_extract (s : ByteArray) (k : Nat) : lettersOf (s.extract 0 k) = (lettersOf s).take k := by
  simp [lettersOf, List.map_take]

theorem least1_any (s : ByteArray) (hs : s.size ≤ 1000000) (k : Nat) (hk : k < s.size) (g : Nat) (w : World) (hc : w.cell? ⟨g, 0, none⟩ = some (.string s)) :
    Calls Tryz.prog 73 #[.int .i64 k, .pointer (some ⟨g, 0, none⟩)] w fun e w' => e = .returned (.bool (!beginsM ((lettersOf s).take (k + 1)))) ∧ Below w.heap.size w w' := by
  have hsz : (s.extract 0 (k + 1)).size ≤ 1000000 := by rw [ByteArray.size_extract]; omega
  have hb := begins_any _ hsz w
  rw [lettersOf_extract] at hb
  go_enter Tryz.func73, Tryz.ntmps73
  go_wp2_with fail
  refine hb.mono ?_
  rintro e w1 ⟨rfl, hb1⟩
  go_wp2
  go_ret
  exact ⟨rfl, hb1⟩
set_option maxRecDepth 100000 in
theorem search_any (s : ByteArray) (hs : s.size ≤ 1000000) (g : Nat) (w : World) (hc : w.cell? ⟨g, 0, none⟩ = some (.string s)) :
    Calls Tryz.prog 72 #[.int .i64 s.size, .func (.func 73) #[] #[.pointer (some ⟨g, 0, none⟩)]] w fun e w' => ∃ r : Nat, e = .returned (.int .i64 r) ∧ r ≤ s.size ∧ (r < s.size → beginsM ((lettersOf s).take (r + 1)) = false) ∧ (0 < r → beginsM ((lettersOf s).take r) = true) ∧ Below w.heap.size w w' := by
  go_enter Tryz.func72, Tryz.ntmps72
  go_wp2
  go_loopw [5, 6] (fun i j wr => ∃ a b : Nat, i = .int .i64 a ∧ j = .int .i64 b ∧ a ≤ b ∧ b ≤ s.size ∧ (b < s.size → beginsM ((lettersOf s).take (b + 1)) = false) ∧ (0 < a → beginsM ((lettersOf s).take a) = true) ∧ Below w.heap.size w wr) (fun i j _ => (intOf j).toNat - (intOf i).toNat)
  case atStart => exact ⟨0, s.size, rfl, rfl, Nat.zero_le _, Nat.le_refl _, fun h => absurd h (Nat.lt_irrefl _), fun h => absurd h (Nat.lt_irrefl _), Below.refl _ _⟩
  case round =>
    obtain ⟨a, b, rfl, rfl, hab, hbs, h1, h2, hB⟩ := hrel
    by_cases hlt : a < b
    · have hm : ∃ m : Nat, m = (a + b) / 2 := ⟨_, rfl⟩
      obtain ⟨m, hm⟩ := hm
      have hm2 : ((a : Int) + (b : Int)) / 2 = (m : Int) := by omega
      have hma : a ≤ m ∧ m < b := by omega
      have H1 := Lib.hid h1
      have H2 := Lib.hid h2
      clear h1 h2
      clear hm
      go_wp2_with fail
      clear hm2
      refine (least1_any s hs m (by omega) g _ (by rw [hB.cell (block_lt_of_cell hc)]; exact hc)).mono ?_
      rintro e w2 ⟨rfl, hb2⟩
      have hB2 := below_on hB hB.size hb2
      cases hp : beginsM ((lettersOf s).take (m + 1))
      · have Hp := Lib.hid hp
        clear hp
        go_wp2
        go_roundw
        case measure => simp [intOf]; omega
        case rel => exact ⟨a, m, rfl, rfl, by omega, by omega, fun _ => Hp.out, H2.out, hB2⟩
      · have Hp := Lib.hid hp
        clear hp
        go_wp2
        go_roundw
        case measure => simp [intOf]; omega
        case rel => exact ⟨m + 1, b, by go_num, rfl, by omega, by omega, H1.out, fun _ => Hp.out, hB2⟩
    · obtain rfl : a = b := by omega
      go_wp2
      go_ret
      exact ⟨a, rfl, hbs, h1, h2, hB⟩

/-- The place that Least tells of a text that is not right: from there on no right word begins so, up to there one does. -/
def LeastAt (zs : List Int) (r : Nat) : Prop := r ≤ zs.length ∧ (r < zs.length → beginsM (zs.take (r + 1)) = false) ∧ (0 < r → beginsM (zs.take r) = true)
theorem least_any (s : ByteArray) (hs : s.size ≤ 1000000) (h : rightM (lettersOf s) = false) (w : World) :
    Calls Tryz.prog 48 #[.string s] w fun e w' => ∃ r : Nat, e = .returned (.int .i64 r) ∧ LeastAt (lettersOf s) r ∧ Below w.heap.size w w' := by
  have b0 := Blk.new w 9 #[.string s]
  have hB0 : Below w.heap.size w (w.alloc (.cells #[.string s] 9)) := (Below.refl _ _).alloc (Nat.le_refl _) _
  go_enter Tryz.func48, Tryz.ntmps48
  go_wp2_with fail
  refine (right_any s hs _).mono ?_
  rw [h]
  rintro e w1 ⟨rfl, hb1⟩
  have b1 := b0.below hb1 (by simp)
  have hB1 := below_on hB0 hB0.size hb1
  obtain ⟨c0, c1, -⟩ := b1.one
  go_wp2_with fail
  refine (search_any s hs w.heap.size _ c1).mono ?_
  rintro e w2 ⟨r, rfl, h1, h2, h3, hb2⟩
  have hB2 := below_on hB1 hB1.size hb2
  go_wp2
  go_ret
  exact ⟨r, rfl, by unfold LeastAt; rw [lettersOf_length]; exact ⟨h1, h2, h3⟩, hB2⟩
end Go.Proofs.YtpnkhgjjlionnaaGreat.Zp
