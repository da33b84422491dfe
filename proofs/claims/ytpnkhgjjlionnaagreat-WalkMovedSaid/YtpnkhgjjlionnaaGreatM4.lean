/-
  Texts joined by program, what the law uses alone: WkJ WkK WkE Eul EulB WkT Fits FitsS FoN Iso IsoF IsoS SurM WkM Ran.
-/
import Derived.Deep.RegionHeld3
import Derived.Sort.Defs
import Derived.Lib.Slices
import Derived.Test.YtpnkhgjjlionnaaGreatM1
import Derived.Test.YtpnkhgjjlionnaaGreatM3
import Derived.Test.YtpnkhgjjlionnaaGreatShelf
namespace Go.Proofs.YtpnkhgjjlionnaaGreat
namespace Jor
section
variable {F N : Nat} {opp vert : Nat → Nat}

theorem xs_mem {n : Nat} {p : Nat → Bool} : ∀ {X : List Nat}, X.Nodup → (∀ c ∈ X, c < n) → xs (List.range n) (fun c => p c && decide (c ∈ X)) = xs X p
  | [], _, _ => by
    rw [xs_nil]
    exact xs_false fun c _ => by simp
  | a :: r, hn, hl => by
    obtain ⟨h1, h2⟩ := List.nodup_cons.1 hn
    have ih := xs_mem (p := p) h2 (fun c hc => hl c (List.mem_cons_of_mem _ hc))
    have e : xs (List.range n) (fun c => p c && decide (c ∈ a :: r)) = xs (List.range n) (fun c => xor (p c && decide (c = a)) (p c && decide (c ∈ r))) := by
      refine xs_congr fun c _ => ?_
      by_cases h : c = a
      · subst h
        simp [h1]
      · simp [h]
    rw [e, xs_xor, ih, xs_cons]
    congr 1
    rw [xs_one (a := a) List.nodup_range (List.mem_range.2 (hl a (List.mem_cons_self ..))) (fun c _ hc => by simp [hc])]
    simp

/-- Where the edge across from a corner begins, and ends. -/
def hd (vert : Nat → Nat) (c : Nat) : Nat := vert (nx c)
def tl (vert : Nat → Nat) (c : Nat) : Nat := vert (pv c)
/-- A corner whose triangle was not gone over, and the one across was. -/
def Bd (F : Nat) (opp : Nat → Nat) (D : List Nat) (c : Nat) : Prop := c < 3 * F ∧ c / 3 ∉ D ∧ opp c / 3 ∈ D
def Come (F : Nat) (vert : Nat → Nat) (D : List Nat) (v : Nat) : Prop := ∃ d, d < 3 * F ∧ d / 3 ∈ D ∧ vert d = v
/-- Round and round. -/
def Cyc (vert : Nat → Nat) (X : List Nat) : Prop := ∃ c r, X = c :: r ∧ X.map (tl vert) = r.map (hd vert) ++ [hd vert c]
theorem Cyc.perm {X : List Nat} (h : Cyc vert X) : (X.map (tl vert)).Perm (X.map (hd vert)) := by
  obtain ⟨c, r, rfl, e⟩ := h
  rw [e, List.map_cons]
  exact List.perm_append_singleton ..
/-- What a surface is, besides, that is walked over. -/
structure Walks (F N : Nat) (opp vert : Nat → Nat) : Prop extends Closed F N opp vert where
  euler : 2 * N = F + 4
  pos : 0 < F
  ei : ∀ c d, c < 3 * F → d < 3 * F → hd vert c = hd vert d → tl vert c = tl vert d → c = d
  ar : ∀ (v : Nat) (S : Nat → Prop), (∃ c, c < 3 * F ∧ vert c = v ∧ S (c / 3)) → (∀ c, c < 3 * F → vert c = v → S (c / 3) → S (opp (nx c) / 3) ∧ S (opp (pv c) / 3)) → ∀ c, c < 3 * F → vert c = v → S (c / 3)
/-- While a walk is on its way: D are the triangles gone over, Xs the loops. -/
structure WInv (F : Nat) (opp vert : Nat → Nat) (d0 : Nat) (D : List Nat) (Xs : List (List Nat)) : Prop where
  dnd : D.Nodup
  dlt : ∀ t ∈ D, t < F
  root : d0 ∈ D
  conn : ∀ S : Nat → Prop, S d0 → (∀ c, c < 3 * F → c / 3 ∈ D → opp c / 3 ∈ D → S (c / 3) → S (opp c / 3)) → ∀ t ∈ D, S t
  len : ∀ X ∈ Xs, 3 ≤ X.length
  cyc : ∀ X ∈ Xs, Cyc vert X
  vnd : ∀ X ∈ Xs, (X.map (hd vert)).Nodup
  nd : Xs.flatten.Nodup
  bd : ∀ c, c ∈ Xs.flatten ↔ Bd F opp D c
variable {d0 : Nat} {D : List Nat} {Xs : List (List Nat)}
theorem WInv.mem (h : WInv F opp vert d0 D Xs) {X : List Nat} (hX : X ∈ Xs) {c : Nat} (hc : c ∈ X) : Bd F opp D c := (h.bd c).1 (List.mem_flatten.2 ⟨X, hX, hc⟩)
theorem nodup_of_map {f : Nat → Nat} {l : List Nat} (h : (l.map f).Nodup) : l.Nodup := List.Pairwise.of_map f (fun a b hab e => hab (by rw [e])) h
theorem WInv.colour (K : Walks F N opp vert) (h : WInv F opp vert d0 D Xs) {X : List Nat} (hX : X ∈ Xs) :
    ∃ f : Nat → Bool, (∀ t ∈ D, f t = f d0) ∧ ∀ c, c < 3 * F → xor (f (c / 3)) (f (opp c / 3)) = (decide (c ∈ X) || decide (opp c ∈ X)) := by
  have hnd : X.Nodup := nodup_of_map (h.vnd X hX)
  have hlt : ∀ c ∈ X, c < 3 * F := fun c hc => (h.mem hX hc).1
  have hx : ∀ c, c < 3 * F → c ∈ X → opp c ∉ X := fun c hc h1 h2 => (h.mem hX h2).2.1 (h.mem hX h1).2.2
  obtain ⟨f, hf⟩ := jordan K.toClosed K.pos K.euler (κ := fun c => decide (c ∈ X) || decide (opp c ∈ X))
    (fun c hc => by simp only [K.inv c hc]; exact Bool.or_comm ..) (fun v hv => by
      have e1 : par F vert (fun c => decide (c ∈ X) || decide (opp c ∈ X)) v = xs (List.range (3 * F)) (fun c => xor (hd vert c == v && decide (c ∈ X)) (hd vert c == v && decide (opp c ∈ X))) := by
        unfold par
        refine xs_congr fun c hc => ?_
        have := hx c (List.mem_range.1 hc)
        unfold hd
        by_cases m1 : c ∈ X
        · simp [m1, this m1]
        · simp [m1]
      have e2 : xs (List.range (3 * F)) (fun c => hd vert c == v && decide (opp c ∈ X)) = xs (List.range (3 * F)) (fun c => tl vert c == v && decide (c ∈ X)) := by
        rw [← xs_perm (perm_map_range opp opp K.lt K.lt K.inv K.inv) (p := fun c => hd vert c == v && decide (opp c ∈ X)), xs_map]
        refine xs_congr fun c hc => ?_
        have hc := List.mem_range.1 hc
        unfold hd tl
        rw [K.vn c hc, K.inv c hc]
      rw [e1, xs_xor, e2, xs_mem hnd hlt, xs_mem hnd hlt]
      have e3 : xs X (fun c => hd vert c == v) = xs X (fun c => tl vert c == v) := by
        rw [← xs_map (hd vert) (p := fun c => c == v), ← xs_map (tl vert) (p := fun c => c == v)]
        exact xs_perm (h.cyc X hX).perm.symm
      rw [e3]
      simp)
  refine ⟨f, ?_, hf⟩
  refine h.conn (fun t => f t = f d0) rfl ?_
  intro c hc h1 h2 e
  have := hf c hc
  have m1 : c ∉ X := fun m => (h.mem hX m).2.1 h1
  have m2 : opp c ∉ X := fun m => (h.mem hX m).2.1 h2
  simp only [m1, m2, decide_false, Bool.or_false] at this
  rw [← e]
  revert this
  cases f (c / 3) <;> cases f (opp c / 3) <;> simp
/-- Two open gates of one triangle lie in one loop. -/
theorem WInv.only (K : Walks F N opp vert) (h : WInv F opp vert d0 D Xs) {X : List Nat} (hX : X ∈ Xs) {c0 c1 : Nat} (h0 : c0 ∈ X) (h1 : Bd F opp D c1) (e : c1 / 3 = c0 / 3) : c1 ∈ X := by
  obtain ⟨f, fD, hf⟩ := h.colour K hX
  have b0 := h.mem hX h0
  have k0 := hf c0 b0.1
  have k1 := hf c1 h1.1
  rw [fD _ b0.2.2] at k0
  rw [fD _ h1.2.2, e] at k1
  have m2 : opp c1 ∉ X := fun m => (h.mem hX m).2.1 h1.2.2
  rw [k0] at k1
  simp only [h0, m2, decide_true, Bool.true_or, decide_false, Bool.or_false] at k1
  simpa using k1.symm
theorem Cyc.tl_mem {X : List Nat} (h : Cyc vert X) {c : Nat} (hc : c ∈ X) : tl vert c ∈ X.map (hd vert) := h.perm.mem_iff.1 (List.mem_map_of_mem hc)
/-- A vertex that was come to, of a triangle at a loop, lies in that loop. -/
theorem WInv.touch (K : Walks F N opp vert) (h : WInv F opp vert d0 D Xs) {X : List Nat} (hX : X ∈ Xs) {c0 c : Nat} (h0 : c0 ∈ X) (hc : c < 3 * F) (e : c / 3 = c0 / 3) (hv : Come F vert D (vert c)) : vert c ∈ X.map (hd vert) := by
  refine Classical.byContradiction fun hne => ?_
  obtain ⟨f, fD, hf⟩ := h.colour K hX
  have b0 := h.mem hX h0
  have k0 := hf c0 b0.1
  rw [fD _ b0.2.2] at k0
  obtain ⟨d, hd1, hd2, hd3⟩ := hv
  have key : ∀ g, g < 3 * F → (hd vert g = vert c ∨ tl vert g = vert c) → f (g / 3) = f (opp g / 3) := by
    intro g hg hgv
    have m1 : g ∉ X := fun m => by
      rcases hgv with e | e
      · exact hne (by rw [← e]; exact List.mem_map_of_mem m)
      · exact hne (by rw [← e]; exact (h.cyc X hX).tl_mem m)
    have m2 : opp g ∉ X := fun m => by
      rcases hgv with e | e
      · have := (h.cyc X hX).tl_mem m
        unfold tl at this
        rw [K.vp g hg] at this
        exact hne (by rw [← e]; exact this)
      · have : hd vert (opp g) ∈ X.map (hd vert) := List.mem_map_of_mem m
        unfold hd at this
        rw [K.vn g hg] at this
        exact hne (by rw [← e]; exact this)
    have := hf g hg
    simp only [m1, m2, decide_false, Bool.or_false] at this
    revert this
    cases f (g / 3) <;> cases f (opp g / 3) <;> simp
  have hS := K.ar (vert c) (fun t => f t = f d0) ⟨d, hd1, hd3, fD _ hd2⟩ (fun g hg hgv hS => by
    refine ⟨?_, ?_⟩
    · rw [← key (nx g) (nx_lt hg) (.inr (by unfold tl; rw [pv_nx]; exact hgv)), nx_div]
      exact hS
    · rw [← key (pv g) (pv_lt hg) (.inl (by unfold hd; rw [nx_pv]; exact hgv)), pv_div]
      exact hS) c hc rfl
  rw [e] at hS
  have hS' : f (c0 / 3) = f d0 := hS
  rw [hS'] at k0
  simp [h0] at k0

/-! One triangle more. -/
theorem bd_step (K : Walks F N opp vert) {c0 : Nat} (h0 : Bd F opp D c0) (c : Nat) :
    Bd F opp (c0 / 3 :: D) c ↔ (Bd F opp D c ∧ c ≠ c0 ∧ c ≠ pv c0 ∧ c ≠ nx c0) ∨ (c = opp (pv c0) ∧ ¬ Bd F opp D (pv c0)) ∨ (c = opp (nx c0) ∧ ¬ Bd F opp D (nx c0)) := by
  obtain ⟨hl, hn, hi⟩ := h0
  have same : ∀ g, g / 3 = c0 / 3 ↔ g = c0 ∨ g = pv c0 ∨ g = nx c0 := fun g => by unfold nx pv; omega
  have ha : pv c0 < 3 * F := pv_lt hl
  have hb : nx c0 < 3 * F := nx_lt hl
  constructor
  · rintro ⟨c1, c2, c3⟩
    have c2' : c / 3 ≠ c0 / 3 ∧ c / 3 ∉ D := by simpa using c2
    have hne := fun e => c2'.1 ((same c).2 e)
    rcases List.mem_cons.1 c3 with c3 | c3
    · rcases (same _).1 c3 with e | e | e
      · exact absurd (show c / 3 ∈ D by rw [← K.inv c c1, e]; exact hi) c2'.2
      · have e2 : c = opp (pv c0) := by rw [← e, K.inv c c1]
        exact .inr (.inl ⟨e2, fun hbd => c2'.2 (by rw [e2]; exact hbd.2.2)⟩)
      · have e2 : c = opp (nx c0) := by rw [← e, K.inv c c1]
        exact .inr (.inr ⟨e2, fun hbd => c2'.2 (by rw [e2]; exact hbd.2.2)⟩)
    · exact .inl ⟨⟨c1, c2'.2, c3⟩, fun e => hne (.inl e), fun e => hne (.inr (.inl e)), fun e => hne (.inr (.inr e))⟩
  · rintro (⟨⟨c1, c2, c3⟩, e1, e2, e3⟩ | ⟨rfl, hbd⟩ | ⟨rfl, hbd⟩)
    · refine ⟨c1, ?_, List.mem_cons_of_mem _ c3⟩
      rw [List.mem_cons, not_or]
      exact ⟨fun e => by rcases (same c).1 e with e | e | e; exact e1 e; exact e2 e; exact e3 e, c2⟩
    · refine ⟨K.lt _ ha, ?_, ?_⟩
      · rw [List.mem_cons, not_or]
        exact ⟨fun e => K.apart _ ha (by rw [e, pv_div]), fun hm => hbd ⟨ha, by rw [pv_div]; exact hn, hm⟩⟩
      · rw [K.inv _ ha, pv_div]
        exact List.mem_cons_self ..
    · refine ⟨K.lt _ hb, ?_, ?_⟩
      · rw [List.mem_cons, not_or]
        exact ⟨fun e => K.apart _ hb (by rw [e, nx_div]), fun hm => hbd ⟨hb, by rw [nx_div]; exact hn, hm⟩⟩
      · rw [K.inv _ hb, nx_div]
        exact List.mem_cons_self ..
/-- .. and what the loops must be then. -/
theorem WInv.step (K : Walks F N opp vert) (h : WInv F opp vert d0 D Xs) {c0 : Nat} (h0 : Bd F opp D c0) {Ys : List (List Nat)}
    (len : ∀ X ∈ Ys, 3 ≤ X.length) (cyc : ∀ X ∈ Ys, Cyc vert X) (vnd : ∀ X ∈ Ys, (X.map (hd vert)).Nodup) (nd : Ys.flatten.Nodup)
    (bd : ∀ c, c ∈ Ys.flatten ↔ (Bd F opp D c ∧ c ≠ c0 ∧ c ≠ pv c0 ∧ c ≠ nx c0) ∨ (c = opp (pv c0) ∧ ¬ Bd F opp D (pv c0)) ∨ (c = opp (nx c0) ∧ ¬ Bd F opp D (nx c0))) : WInv F opp vert d0 (c0 / 3 :: D) Ys where
  dnd := List.nodup_cons.2 ⟨h0.2.1, h.dnd⟩
  dlt := fun t ht => by
    rcases List.mem_cons.1 ht with rfl | ht
    · have := h0.1
      omega
    · exact h.dlt t ht
  root := List.mem_cons_of_mem _ h.root
  conn := fun S s0 sc t ht => by
    have hD := h.conn S s0 (fun c c1 c2 c3 => sc c c1 (List.mem_cons_of_mem _ c2) (List.mem_cons_of_mem _ c3))
    rcases List.mem_cons.1 ht with rfl | ht
    · have := sc (opp c0) (K.lt _ h0.1) (List.mem_cons_of_mem _ h0.2.2) (by rw [K.inv _ h0.1]; exact List.mem_cons_self ..) (hD _ h0.2.2)
      rwa [K.inv _ h0.1] at this
    · exact hD t ht
  len := len
  cyc := cyc
  vnd := vnd
  nd := nd
  bd := fun c => (bd c).trans (bd_step K h0 c).symm
end
end Jor
end Go.Proofs.YtpnkhgjjlionnaaGreat
namespace Go.Proofs.YtpnkhgjjlionnaaGreat
namespace Jor
section
variable {F N : Nat} {opp vert : Nat → Nat} {d0 : Nat} {D : List Nat}

/-- What a step makes of the loops: the vertex was come to, and stands at e. -/
def parted (opp : Nat → Nat) (c0 : Nat) (r1 : List Nat) (e : Nat) (r2 : List Nat) (W : List (List Nat)) : List (List Nat) :=
  (if r2 = [] then [] else [opp (pv c0) :: e :: r2]) ++ ((if r1.length = 1 then [] else [opp (nx c0) :: r1]) ++ W)
theorem bd_not_opp (K : Walks F N opp vert) {c0 g : Nat} (h0 : c0 / 3 ∉ D) (hg : g < 3 * F) (e : g / 3 = c0 / 3) : ¬ Bd F opp D (opp g) := fun h => h0 (by rw [← e, ← K.inv g hg]; exact h.2.2)
theorem map_inj_nodup {f : Nat → Nat} {l : List Nat} (h : (l.map f).Nodup) {a b : Nat} (ha : a ∈ l) (hb : b ∈ l) (e : f a = f b) : a = b := by
  induction l with
  | nil => cases ha
  | cons x l ih =>
    rw [List.map_cons, List.nodup_cons] at h
    rcases List.mem_cons.1 ha with ea | ha1
    · rcases List.mem_cons.1 hb with eb | hb1
      · rw [ea, eb]
      · exact absurd (by rw [← ea, e]; exact List.mem_map_of_mem hb1) h.1
    · rcases List.mem_cons.1 hb with eb | hb1
      · exact absurd (by rw [← eb, ← e]; exact List.mem_map_of_mem ha1) h.1
      · exact ih h.2 ha1 hb1
theorem parted_nodup {oa ob c0 e : Nat} {r1 r2 : List Nat} {W : List (List Nat)} (h : ((c0 :: (r1 ++ e :: r2)) ++ W.flatten).Nodup) (ha : oa ∉ (c0 :: (r1 ++ e :: r2)) ++ W.flatten) (hb : ob ∉ (c0 :: (r1 ++ e :: r2)) ++ W.flatten) (hab : oa ≠ ob) :
    ((if r2 = [] then [] else [oa :: e :: r2]) ++ ((if r1.length = 1 then [] else [ob :: r1]) ++ W)).flatten.Nodup := by
  have full : ((oa :: e :: r2) ++ ((ob :: r1) ++ W.flatten)).Nodup := by
    have h1 : (oa :: ob :: ((r1 ++ e :: r2) ++ W.flatten)).Nodup := by
      simp only [List.cons_append, List.mem_cons, List.nodup_cons, not_or] at h ha hb ⊢
      exact ⟨⟨hab, ha.2⟩, hb.2, h.2⟩
    refine (List.Perm.nodup_iff ?_).1 h1
    refine List.Perm.cons _ ?_
    have p1 : ((r1 ++ e :: r2) ++ W.flatten).Perm ((e :: r2) ++ (r1 ++ W.flatten)) := by
      rw [← List.append_assoc]
      exact List.Perm.append_right _ List.perm_append_comm
    refine (List.Perm.cons ob p1).trans ?_
    exact (List.perm_middle (l₁ := e :: r2) (l₂ := r1 ++ W.flatten) (a := ob)).symm
  refine List.Sublist.nodup ?_ full
  simp only [List.flatten_append]
  refine List.Sublist.append ?_ (List.Sublist.append ?_ (List.Sublist.refl _))
  · split
    · exact List.nil_sublist _
    · simp
  · split
    · exact List.nil_sublist _
    · simp
theorem opp_ne (K : Walks F N opp vert) {a b : Nat} (ha : a < 3 * F) (hb : b < 3 * F) (h : a ≠ b) : opp a ≠ opp b := fun e => h (by rw [← K.inv a ha, e, K.inv b hb])

theorem WInv.next (K : Walks F N opp vert) {c0 : Nat} {r : List Nat} {W : List (List Nat)} (h : WInv F opp vert d0 D ((c0 :: r) :: W)) :
    (¬ Come F vert D (vert c0) ∧ WInv F opp vert d0 (c0 / 3 :: D) ((opp (pv c0) :: opp (nx c0) :: r) :: W)) ∨
    (Come F vert D (vert c0) ∧ ∃ r1 e r2, r = r1 ++ e :: r2 ∧ hd vert e = vert c0 ∧ r1 ≠ [] ∧ WInv F opp vert d0 (c0 / 3 :: D) (parted opp c0 r1 e r2 W)) := by
  have hX : (c0 :: r) ∈ (c0 :: r) :: W := List.mem_cons_self ..
  have h0 : Bd F opp D c0 := h.mem hX (List.mem_cons_self ..)
  have hl0 := h0.1
  have ha : pv c0 < 3 * F := pv_lt hl0
  have hb : nx c0 < 3 * F := nx_lt hl0
  have hlen := h.len _ hX
  have hvnd := h.vnd _ hX
  obtain ⟨c', r', e', hcyc⟩ := h.cyc _ hX
  cases e'
  have hda : hd vert (opp (pv c0)) = hd vert c0 := by unfold hd; rw [K.vn _ ha, pv_pv]
  have hta : tl vert (opp (pv c0)) = vert c0 := by unfold tl; rw [K.vp _ ha, nx_pv]
  have hdb : hd vert (opp (nx c0)) = vert c0 := by unfold hd; rw [K.vn _ hb, pv_nx]
  have htb : tl vert (opp (nx c0)) = tl vert c0 := by unfold tl; rw [K.vp _ hb, nx_nx]
  have hab : opp (pv c0) ≠ opp (nx c0) := opp_ne K ha hb (by unfold nx pv; omega)
  have oa := bd_not_opp K h0.2.1 ha (pv_div c0)
  have ob := bd_not_opp K h0.2.1 hb (nx_div c0)
  have hnd := h.nd
  have hbd := h.bd
  simp only [List.flatten_cons, List.cons_append, List.nodup_cons] at hnd
  by_cases hcome : Come F vert D (vert c0)
  · refine .inr ⟨hcome, ?_⟩
    have ht := h.touch K hX (List.mem_cons_self ..) hl0 rfl hcome
    have hne : hd vert c0 ≠ vert c0 := K.simple c0 hl0
    have hne2 : tl vert c0 ≠ vert c0 := fun e => K.simple (pv c0) ha (by rw [nx_pv]; exact e.symm)
    rw [List.map_cons, List.mem_cons] at ht
    rcases ht with ht | ht
    · exact absurd ht.symm hne
    obtain ⟨e, he, hev⟩ := List.mem_map.1 ht
    obtain ⟨r1, r2, rfl⟩ := List.append_of_mem he
    have hr1 : r1 ≠ [] := by
      rintro rfl
      simp only [List.nil_append, List.map_cons, List.cons_append, List.cons.injEq] at hcyc
      exact hne2 (hcyc.1.trans hev)
    obtain ⟨b, r1', rfl⟩ := List.exists_cons_of_ne_nil hr1
    simp only [List.map_cons, List.map_append, List.cons_append, List.cons.injEq] at hcyc
    obtain ⟨cy1, cy2⟩ := hcyc
    have cy2' : (tl vert b :: r1'.map (tl vert)) ++ (tl vert e :: r2.map (tl vert)) = (r1'.map (hd vert) ++ [hd vert e]) ++ (r2.map (hd vert) ++ [hd vert c0]) := by
      simpa using cy2
    obtain ⟨cy3, cy4⟩ := List.append_inj cy2' (by simp)
    have hbm : b ∈ c0 :: ((b :: r1') ++ e :: r2) := by simp
    have hem : e ∈ c0 :: ((b :: r1') ++ e :: r2) := by simp
    have hv' := hvnd
    simp only [List.map_cons, List.map_append, List.cons_append, List.nodup_cons, List.nodup_append, List.mem_cons, List.mem_append, not_or] at hv'
    have hB : Bd F opp D (nx c0) ↔ r1' = [] := by
      constructor
      · intro hbB
        have m := h.only K hX (List.mem_cons_self ..) hbB (nx_div c0)
        have e1 : nx c0 = b := map_inj_nodup hvnd m hbm (by rw [← cy1]; unfold hd tl; rw [nx_nx])
        have e2 : tl vert b = hd vert e := by rw [← e1, hev]; unfold tl; rw [pv_nx]
        cases r1' with
        | nil => rfl
        | cons b2 r1'' =>
          simp only [List.map_cons, List.cons_append, List.cons.injEq] at cy3
          have : hd vert b2 = hd vert e := cy3.1.symm.trans e2
          have := map_inj_nodup hvnd (a := b2) (b := e) (by simp) hem this
          subst this
          grind
      · rintro rfl
        simp only [List.map_nil, List.nil_append, List.cons.injEq, and_true] at cy3
        have e1 := K.ei b (nx c0) (h.mem hX hbm).1 hb (by rw [← cy1]; unfold hd tl; rw [nx_nx]) (by rw [cy3, hev]; unfold tl; rw [pv_nx])
        rw [← e1]
        exact h.mem hX hbm
    have hA : Bd F opp D (pv c0) ↔ r2 = [] := by
      constructor
      · intro hbA
        have m := h.only K hX (List.mem_cons_self ..) hbA (pv_div c0)
        have e1 : pv c0 = e := map_inj_nodup hvnd m hem (by rw [hev]; unfold hd; rw [nx_pv])
        have e2 : tl vert e = hd vert c0 := by rw [← e1]; unfold tl hd; rw [pv_pv]
        cases r2 with
        | nil => rfl
        | cons b2 r2' =>
          simp only [List.map_cons, List.cons_append, List.cons.injEq] at cy4
          have : hd vert b2 = hd vert c0 := cy4.1.symm.trans e2
          have := map_inj_nodup hvnd (a := b2) (b := c0) (by simp) (by simp) this
          subst this
          grind
      · rintro rfl
        simp only [List.map_nil, List.nil_append, List.cons.injEq, and_true] at cy4
        have e1 := K.ei e (pv c0) (h.mem hX hem).1 ha (by rw [hev]; unfold hd; rw [nx_pv]) (by rw [cy4]; unfold tl hd; rw [pv_pv])
        rw [← e1]
        exact h.mem hX hem
    have hB' : r1' = [] → b = nx c0 := fun e0 => by
      have m := h.only K hX (List.mem_cons_self ..) (hB.2 e0) (nx_div c0)
      exact (map_inj_nodup hvnd m hbm (by rw [← cy1]; unfold hd tl; rw [nx_nx])).symm
    have hA' : r2 = [] → e = pv c0 := fun e0 => by
      have m := h.only K hX (List.mem_cons_self ..) (hA.2 e0) (pv_div c0)
      exact (map_inj_nodup hvnd m hem (by rw [hev]; unfold hd; rw [nx_pv])).symm
    refine ⟨b :: r1', e, r2, rfl, hev, hr1, h.step K h0 ?_ ?_ ?_ ?_ ?_⟩
    · intro X hX'
      unfold parted at hX'
      rw [List.mem_append, List.mem_append] at hX'
      rcases hX' with hX' | hX' | hX'
      · split at hX'
        · cases hX'
        · rw [List.mem_singleton] at hX'
          subst hX'
          rename_i h2
          have := List.length_pos_iff.2 h2
          simp only [List.length_cons]
          omega
      · split at hX'
        · cases hX'
        · rw [List.mem_singleton] at hX'
          subst hX'
          rename_i h2
          simp only [List.length_cons] at h2 ⊢
          omega
      · exact h.len X (List.mem_cons_of_mem _ hX')
    · intro X hX'
      unfold parted at hX'
      rw [List.mem_append, List.mem_append] at hX'
      rcases hX' with hX' | hX' | hX'
      · split at hX'
        · cases hX'
        · rw [List.mem_singleton] at hX'
          subst hX'
          exact ⟨_, _, rfl, by simp only [List.map_cons, List.cons_append, hta, hev, hda, cy4]⟩
      · split at hX'
        · cases hX'
        · rw [List.mem_singleton] at hX'
          subst hX'
          exact ⟨_, _, rfl, by simp only [List.map_cons, List.cons_append, htb, cy1, hdb, cy3, hev]⟩
      · exact h.cyc X (List.mem_cons_of_mem _ hX')
    · intro X hX'
      unfold parted at hX'
      rw [List.mem_append, List.mem_append] at hX'
      rcases hX' with hX' | hX' | hX'
      · split at hX'
        · cases hX'
        · rw [List.mem_singleton] at hX'
          subst hX'
          simp only [List.map_cons, hda, List.nodup_cons, List.mem_cons, not_or]
          grind
      · split at hX'
        · cases hX'
        · rw [List.mem_singleton] at hX'
          subst hX'
          simp only [List.map_cons, hdb, List.nodup_cons, List.mem_cons, not_or]
          grind
      · exact h.vnd X (List.mem_cons_of_mem _ hX')
    · have e1 : ((c0 :: ((b :: r1') ++ e :: r2)) :: W).flatten = (c0 :: ((b :: r1') ++ e :: r2)) ++ W.flatten := List.flatten_cons
      have nn := h.nd
      rw [e1] at nn hbd
      exact parted_nodup nn (fun m => oa ((hbd _).1 m)) (fun m => ob ((hbd _).1 m)) hab
    · intro c
      have hc := hbd c
      have hbdA := hbd (pv c0)
      have hbdB := hbd (nx c0)
      simp only [List.flatten_cons, List.cons_append, List.append_assoc, List.mem_cons, List.mem_append] at hc
      simp only [List.cons_append, List.append_assoc, List.mem_cons, List.mem_append, not_or, List.nodup_cons, List.nodup_append] at hnd
      unfold parted
      rw [hA, hB, ← hc]
      have hc1 : (r1'.length + 1 = 1) ↔ r1' = [] := by
        constructor
        · intro e0
          exact List.eq_nil_of_length_eq_zero (by omega)
        · rintro rfl
          rfl
      have hnA : r2 ≠ [] → ∀ x, Bd F opp D x → x ≠ pv c0 := fun e0 x hx e1 => e0 (hA.1 (by rw [← e1]; exact hx))
      have hnB : r1' ≠ [] → ∀ x, Bd F opp D x → x ≠ nx c0 := fun e0 x hx e1 => e0 (hB.1 (by rw [← e1]; exact hx))
      have hcb := hc
      simp only [List.flatten_append, List.mem_append, List.length_cons]
      by_cases z1 : r1' = [] <;> by_cases z2 : r2 = [] <;> simp only [z1, z2, if_true, if_false, List.flatten_nil, List.flatten_cons, List.append_nil, List.mem_cons, List.not_mem_nil, false_or, List.cons_append, List.length_nil, hc1] at * <;> grind
  · refine .inl ⟨hcome, h.step K h0 ?_ ?_ ?_ ?_ ?_⟩
    · intro X hX'
      rcases List.mem_cons.1 hX' with rfl | hX'
      · simp only [List.length_cons] at hlen ⊢
        omega
      · exact h.len X (List.mem_cons_of_mem _ hX')
    · intro X hX'
      rcases List.mem_cons.1 hX' with rfl | hX'
      · refine ⟨_, _, rfl, ?_⟩
        rw [List.map_cons] at hcyc
        simp only [List.map_cons, hta, htb, hda, hdb, List.cons_append]
        rw [hcyc]
      · exact h.cyc X (List.mem_cons_of_mem _ hX')
    · intro X hX'
      rcases List.mem_cons.1 hX' with rfl | hX'
      · have hnv : ∀ c ∈ c0 :: r, hd vert c ≠ vert c0 := fun c hc e => hcome ⟨pv (opp c), pv_lt (K.lt _ (h.mem hX hc).1), by rw [pv_div]; exact (h.mem hX hc).2.2, by rw [K.vp _ (h.mem hX hc).1]; exact e⟩
        have h1 := hnv c0 (List.mem_cons_self ..)
        have h2 : vert c0 ∉ r.map (hd vert) := fun hm => by
          obtain ⟨c, hc, e⟩ := List.mem_map.1 hm
          exact hnv c (List.mem_cons_of_mem _ hc) e
        simp only [List.map_cons, List.nodup_cons, hda, hdb, List.mem_cons, not_or] at hvnd ⊢
        exact ⟨⟨h1, hvnd.1⟩, h2, hvnd.2⟩
      · exact h.vnd X (List.mem_cons_of_mem _ hX')
    · have na : ∀ c, Bd F opp D c → c ≠ opp (pv c0) := fun c hc e => oa (by rw [← e]; exact hc)
      have nb : ∀ c, Bd F opp D c → c ≠ opp (nx c0) := fun c hc e => ob (by rw [← e]; exact hc)
      simp only [List.flatten_cons, List.cons_append, List.mem_cons, List.mem_append] at hbd
      simp only [List.flatten_cons, List.cons_append, List.nodup_cons, List.mem_cons, List.mem_append] at hnd ⊢
      grind
    · intro c
      have hc := hbd c
      have hnA : ¬ Bd F opp D (pv c0) := fun hb' => hcome ⟨pv (opp (pv c0)), pv_lt (K.lt _ ha), by rw [pv_div]; exact hb'.2.2, hta⟩
      have hnB : ¬ Bd F opp D (nx c0) := fun hb' => hcome ⟨nx (opp (nx c0)), nx_lt (K.lt _ hb), by rw [nx_div]; exact hb'.2.2, hdb⟩
      have e1 : ∀ x, Bd F opp D x → x ≠ pv c0 := fun x hx e => hnA (by rw [← e]; exact hx)
      have e2 : ∀ x, Bd F opp D x → x ≠ nx c0 := fun x hx e => hnB (by rw [← e]; exact hx)
      simp only [List.flatten_cons, List.cons_append, List.mem_cons, List.mem_append] at hc ⊢
      simp only [List.mem_append, not_or] at hnd
      grind
end
end Jor
end Go.Proofs.YtpnkhgjjlionnaaGreat
namespace Go.Proofs.YtpnkhgjjlionnaaGreat
namespace Jor
section
variable {F N : Nat} {opp vert : Nat → Nat} {d0 : Nat} {D : List Nat}

theorem WInv.start (K : Walks F N opp vert) {c : Nat} (hc : c < 3 * F) : WInv F opp vert (c / 3) [c / 3] [[opp (pv c), opp (nx c), opp c]] := by
  have ha : pv c < 3 * F := pv_lt hc
  have hb : nx c < 3 * F := nx_lt hc
  have hda : hd vert (opp (pv c)) = vert (nx c) := by unfold hd; rw [K.vn _ ha, pv_pv]
  have hta : tl vert (opp (pv c)) = vert c := by unfold tl; rw [K.vp _ ha, nx_pv]
  have hdb : hd vert (opp (nx c)) = vert c := by unfold hd; rw [K.vn _ hb, pv_nx]
  have htb : tl vert (opp (nx c)) = vert (pv c) := by unfold tl; rw [K.vp _ hb, nx_nx]
  have hdc : hd vert (opp c) = vert (pv c) := by unfold hd; rw [K.vn _ hc]
  have htc : tl vert (opp c) = vert (nx c) := by unfold tl; rw [K.vp _ hc]
  have s0 := K.simple c hc
  have s1 := K.simple (nx c) hb
  have s2 := K.simple (pv c) ha
  rw [nx_nx] at s1
  rw [nx_pv] at s2
  refine ⟨by simp, fun t ht => by rw [List.mem_singleton.1 ht]; omega, by simp, ?_, ?_, ?_, ?_, ?_, ?_⟩
  · intro S s0 _ t ht
    rw [List.mem_singleton.1 ht]
    exact s0
  · intro X hX
    rw [List.mem_singleton.1 hX]
    simp
  · intro X hX
    rw [List.mem_singleton.1 hX]
    exact ⟨_, _, rfl, by simp [hda, hdb, hta, htb, hdc, htc]⟩
  · intro X hX
    rw [List.mem_singleton.1 hX]
    simp only [List.map_cons, List.map_nil, hda, hdb, hdc]
    simp [s0, s2, Ne.symm s1]
  · have e1 : opp (pv c) ≠ opp (nx c) := opp_ne K ha hb (by unfold nx pv; omega)
    have e2 : opp (pv c) ≠ opp c := opp_ne K ha hc (pv_ne c)
    have e3 : opp (nx c) ≠ opp c := opp_ne K hb hc (nx_ne c)
    simp [e1, e2, e3]
  · intro x
    simp only [List.flatten_cons, List.flatten_nil, List.append_nil, List.mem_cons, List.not_mem_nil, or_false]
    constructor
    · rintro (rfl | rfl | rfl)
      · exact ⟨K.lt _ ha, by rw [List.mem_singleton]; exact fun e => K.apart _ ha (by rw [e, pv_div]), by rw [K.inv _ ha, pv_div]; simp⟩
      · exact ⟨K.lt _ hb, by rw [List.mem_singleton]; exact fun e => K.apart _ hb (by rw [e, nx_div]), by rw [K.inv _ hb, nx_div]; simp⟩
      · exact ⟨K.lt _ hc, by rw [List.mem_singleton]; exact fun e => K.apart _ hc e, by rw [K.inv _ hc]; simp⟩
    · rintro ⟨h1, h2, h3⟩
      rw [List.mem_singleton] at h3
      have : opp x = pv c ∨ opp x = nx c ∨ opp x = c := by unfold nx pv; omega
      rw [← K.inv x h1]
      rcases this with e | e | e <;> rw [e] <;> simp
/-- Where no loop is left, all was gone over. -/
theorem WInv.finish (K : Walks F N opp vert) (h : WInv F opp vert d0 D []) : ∀ t, t < F → t ∈ D := by
  have key : ∀ c, c < 3 * F → ¬ (c / 3 ∉ D ∧ opp c / 3 ∈ D) := fun c hc hn => by
    have := (h.bd c).2 ⟨hc, hn.1, hn.2⟩
    simp at this
  by_cases z : 0 ∈ D
  · refine K.conn (fun t => t ∈ D) z ?_
    intro c hc hm
    refine Classical.byContradiction fun hn => key (opp c) (K.lt c hc) ⟨hn, by rw [K.inv c hc]; exact hm⟩
  · exfalso
    have := K.conn (fun t => t ∉ D) z (fun c hc hm hn => key c hc ⟨hm, hn⟩) d0 (h.dlt _ h.root)
    exact this h.root
theorem WInv.finish_len (K : Walks F N opp vert) (h : WInv F opp vert d0 D []) : D.length = F := by
  have h1 := nodup_le (m := List.range F) h.dnd (fun x hx => List.mem_range.2 (h.dlt x hx))
  have h2 := nodup_le (l := List.range F) (m := D) List.nodup_range (fun x hx => h.finish K x (List.mem_range.1 hx))
  simp at h1 h2
  omega
theorem WInv.len_le {Xs : List (List Nat)} (h : WInv F opp vert d0 D Xs) : D.length ≤ F := by
  have h1 := nodup_le (m := List.range F) h.dnd (fun x hx => List.mem_range.2 (h.dlt x hx))
  simpa using h1
/-- Where a loop is left, not all was gone over. -/
theorem WInv.len_lt {X : List Nat} {W : List (List Nat)} (h : WInv F opp vert d0 D (X :: W)) : D.length < F := by
  have hl := h.len X (List.mem_cons_self ..)
  cases X with
  | nil => simp at hl
  | cons c r =>
    have hb := h.mem (List.mem_cons_self ..) (List.mem_cons_self ..)
    have h1 := nodup_le (l := c / 3 :: D) (m := List.range F) (List.nodup_cons.2 ⟨hb.2.1, h.dnd⟩) (fun x hx => by
      rcases List.mem_cons.1 hx with rfl | hx
      · have := hb.1
        rw [List.mem_range]
        omega
      · exact List.mem_range.2 (h.dlt x hx))
    simp at h1
    omega
/-- Who was come to, one triangle later. -/
theorem come_step (K : Walks F N opp vert) {c0 : Nat} (h0 : Bd F opp D c0) (u : Nat) : Come F vert (c0 / 3 :: D) u ↔ Come F vert D u ∨ u = vert c0 := by
  have hl := h0.1
  constructor
  · rintro ⟨d, h1, h2, rfl⟩
    rcases List.mem_cons.1 h2 with h2 | h2
    · have : d = c0 ∨ d = nx c0 ∨ d = pv c0 := by unfold nx pv; omega
      rcases this with rfl | rfl | rfl
      · exact .inr rfl
      · exact .inl ⟨pv (opp c0), pv_lt (K.lt _ hl), by rw [pv_div]; exact h0.2.2, K.vp _ hl⟩
      · exact .inl ⟨nx (opp c0), nx_lt (K.lt _ hl), by rw [nx_div]; exact h0.2.2, K.vn _ hl⟩
    · exact .inl ⟨d, h1, h2, rfl⟩
  · rintro (⟨d, h1, h2, h3⟩ | rfl)
    · exact ⟨d, h1, List.mem_cons_of_mem _ h2, h3⟩
    · exact ⟨c0, hl, List.mem_cons_self .., rfl⟩
theorem come_start {c : Nat} (hc : c < 3 * F) (u : Nat) : Come F vert [c / 3] u ↔ u = vert c ∨ u = vert (nx c) ∨ u = vert (pv c) := by
  constructor
  · rintro ⟨d, h1, h2, rfl⟩
    rw [List.mem_singleton] at h2
    have : d = c ∨ d = nx c ∨ d = pv c := by unfold nx pv; omega
    rcases this with rfl | rfl | rfl
    · exact .inl rfl
    · exact .inr (.inl rfl)
    · exact .inr (.inr rfl)
  · rintro (rfl | rfl | rfl)
    · exact ⟨c, hc, by simp, rfl⟩
    · exact ⟨nx c, nx_lt hc, by simp [nx_div], rfl⟩
    · exact ⟨pv c, pv_lt hc, by simp [pv_div], rfl⟩
theorem come_all (K : Walks F N opp vert) (h : WInv F opp vert d0 D []) {v : Nat} (hv : v < N) : Come F vert D v := by
  obtain ⟨c, h1, h2⟩ := K.all v hv
  exact ⟨c, h1, h.finish K _ (by omega), h2⟩
end
end Jor
end Go.Proofs.YtpnkhgjjlionnaaGreat
namespace Go.Proofs.YtpnkhgjjlionnaaGreat
namespace Jor

def Rot (π : Nat → Nat) (C : List Nat) : Prop := ∃ c r, C = c :: r ∧ C.map π = r ++ [c]
theorem Rot.turn {π : Nat → Nat} {x y : List Nat} (h : Rot π (x ++ y)) : Rot π (y ++ x) := by
  cases y with
  | nil => simpa using h
  | cons d y' =>
    cases x with
    | nil => simpa using h
    | cons c x' =>
      obtain ⟨c', r, e, hm⟩ := h
      simp only [List.cons_append, List.cons.injEq] at e
      obtain ⟨rfl, rfl⟩ := e
      have hm' : (c :: x').map π ++ (d :: y').map π = (x' ++ [d]) ++ (y' ++ [c]) := by
        rw [← List.map_append]
        simpa using hm
      obtain ⟨h1, h2⟩ := List.append_inj hm' (by simp)
      exact ⟨d, y' ++ c :: x', rfl, by rw [List.map_append, h1, h2]; simp⟩
/-- A round whose last one is a. -/
theorem Rot.last {π : Nat → Nat} {C : List Nat} (h : Rot π C) {a : Nat} (ha : a ∈ C) : ∃ p, Rot π (p ++ [a]) ∧ (p ++ [a]).Perm C := by
  obtain ⟨x, y, rfl⟩ := List.append_of_mem ha
  have h' : Rot π ((x ++ [a]) ++ y) := by simpa using h
  refine ⟨y ++ x, by simpa using h'.turn, ?_⟩
  have : (y ++ (x ++ [a])).Perm ((x ++ [a]) ++ y) := List.perm_append_comm
  simpa using this
/-- Two, one behind the other, at b and at a: apart, where the images of a and b are exchanged. -/
def swp2 (π : Nat → Nat) (a b : Nat) : Nat → Nat := fun x => if x = a then π b else if x = b then π a else π x
theorem swp2_off {π : Nat → Nat} {a b : Nat} {l : List Nat} (ha : a ∉ l) (hb : b ∉ l) : l.map (swp2 π a b) = l.map π := by
  refine List.map_congr_left fun x hx => ?_
  unfold swp2
  rw [if_neg (fun e => ha (by rw [← e]; exact hx)), if_neg (fun e => hb (by rw [← e]; exact hx))]
theorem swp2_a (π : Nat → Nat) (a b : Nat) : swp2 π a b a = π b := by simp [swp2]
theorem swp2_b (π : Nat → Nat) (a b : Nat) : swp2 π a b b = π a := by
  unfold swp2
  by_cases e : b = a
  · rw [if_pos e, e]
  · rw [if_neg e, if_pos rfl]
/-- What a list that ends in a is made of. -/
theorem snoc_head (p : List Nat) (a : Nat) : ∃ c r, p ++ [a] = c :: r := by
  cases p with
  | nil => exact ⟨a, [], rfl⟩
  | cons c r => exact ⟨c, r ++ [a], rfl⟩
theorem Rot.snoc {π : Nat → Nat} {p : List Nat} {a c : Nat} {r : List Nat} (e : p ++ [a] = c :: r) : Rot π (p ++ [a]) ↔ p.map π ++ [π a] = r ++ [c] := by
  constructor
  · rintro ⟨c', r', e', h⟩
    rw [e] at e'
    injection e' with e1 e2
    subst e1
    subst e2
    simpa using h
  · intro h
    exact ⟨c, r, e, by simpa using h⟩
theorem Rot.snoc2 {π : Nat → Nat} {p q : List Nat} {a b c d : Nat} {r s : List Nat} (e : p ++ [a] = c :: r) (f : q ++ [b] = d :: s) : Rot π ((p ++ [a]) ++ (q ++ [b])) ↔ p.map π ++ [π a] = r ++ [d] ∧ q.map π ++ [π b] = s ++ [c] := by
  have hr : p.length = r.length := by have := congrArg List.length e; simpa using this
  constructor
  · rintro ⟨c', r', e', h⟩
    rw [e, f] at e'
    simp only [List.cons_append, List.cons.injEq] at e'
    obtain ⟨rfl, rfl⟩ := e'
    have h' : (p.map π ++ [π a]) ++ (q.map π ++ [π b]) = (r ++ [d]) ++ (s ++ [c]) := by simpa using h
    exact List.append_inj h' (by simp [hr])
  · rintro ⟨h1, h2⟩
    refine ⟨c, r ++ d :: s, by rw [e, f]; rfl, ?_⟩
    have : ((p ++ [a]) ++ (q ++ [b])).map π = (p.map π ++ [π a]) ++ (q.map π ++ [π b]) := by simp
    rw [this, h1, h2]
    simp
theorem Rot.split {π : Nat → Nat} {p q : List Nat} {a b : Nat} (hn : ((p ++ [b]) ++ (q ++ [a])).Nodup) (h : Rot π ((p ++ [b]) ++ (q ++ [a]))) : Rot (swp2 π a b) (p ++ [b]) ∧ Rot (swp2 π a b) (q ++ [a]) := by
  obtain ⟨c, r, e⟩ := snoc_head p b
  obtain ⟨d, s, f⟩ := snoc_head q a
  obtain ⟨h1, h2⟩ := (Rot.snoc2 e f).1 h
  simp only [List.nodup_append, List.mem_append, List.mem_singleton, List.append_assoc] at hn
  have u1 : a ∉ p ∧ b ∉ p ∧ a ∉ q ∧ b ∉ q := by grind
  have hp : p.map π = r := (List.append_inj' h1 rfl).1
  have hb : π b = d := by simpa using (List.append_inj' h1 rfl).2
  have hq : q.map π = s := (List.append_inj' h2 rfl).1
  have ha : π a = c := by simpa using (List.append_inj' h2 rfl).2
  refine ⟨(Rot.snoc e).2 ?_, (Rot.snoc f).2 ?_⟩
  · rw [swp2_off u1.1 u1.2.1, swp2_b, hp, ha]
  · rw [swp2_off u1.2.2.1 u1.2.2.2, swp2_a, hq, hb]
theorem Rot.join {π : Nat → Nat} {p q : List Nat} {a b : Nat} (hn : ((p ++ [a]) ++ (q ++ [b])).Nodup) (h : Rot π (p ++ [a])) (h' : Rot π (q ++ [b])) : Rot (swp2 π a b) ((p ++ [a]) ++ (q ++ [b])) := by
  obtain ⟨c, r, e⟩ := snoc_head p a
  obtain ⟨d, s, f⟩ := snoc_head q b
  have h1 := (Rot.snoc e).1 h
  have h2 := (Rot.snoc f).1 h'
  simp only [List.nodup_append, List.mem_append, List.mem_singleton, List.append_assoc] at hn
  have u1 : a ∉ p ∧ b ∉ p ∧ a ∉ q ∧ b ∉ q := by grind
  have hp : p.map π = r := (List.append_inj' h1 rfl).1
  have ha : π a = c := by simpa using (List.append_inj' h1 rfl).2
  have hq : q.map π = s := (List.append_inj' h2 rfl).1
  have hb : π b = d := by simpa using (List.append_inj' h2 rfl).2
  refine (Rot.snoc2 e f).2 ⟨?_, ?_⟩
  · rw [swp2_off u1.1 u1.2.1, swp2_a, hp, hb]
  · rw [swp2_off u1.2.2.1 u1.2.2.2, swp2_b, hq, ha]
theorem Rot.other {π : Nat → Nat} {C : List Nat} {a b : Nat} (ha : a ∉ C) (hb : b ∉ C) (h : Rot π C) : Rot (swp2 π a b) C := by
  obtain ⟨c, r, e, hm⟩ := h
  exact ⟨c, r, e, by rw [swp2_off ha hb]; exact hm⟩
/-- All rounds of a permutation of the first n. -/
structure Rounds (π : Nat → Nat) (n : Nat) (Cs : List (List Nat)) : Prop where
  rot : ∀ C ∈ Cs, Rot π C
  nd : Cs.flatten.Nodup
  all : ∀ x, x ∈ Cs.flatten ↔ x < n
theorem Rounds.perm {π : Nat → Nat} {n : Nat} {Cs Ds : List (List Nat)} (h : Rounds π n Cs) (rot : ∀ C ∈ Ds, Rot π C) (p : Ds.flatten.Perm Cs.flatten) : Rounds π n Ds :=
  ⟨rot, p.nodup_iff.2 h.nd, fun x => (p.mem_iff).trans (h.all x)⟩
theorem flatten_perm {Cs Ds : List (List Nat)} (h : Cs.Perm Ds) : Cs.flatten.Perm Ds.flatten := by
  induction h with
  | nil => exact List.Perm.refl _
  | cons x _ ih => simpa using ih.append_left x
  | swap x y l =>
    simp only [List.flatten_cons, ← List.append_assoc]
    exact List.Perm.append_right _ List.perm_append_comm
  | trans _ _ i1 i2 => exact i1.trans i2
/-- One round ahead, turned so that a is its last one. -/
theorem Rounds.front {π : Nat → Nat} {n : Nat} {Cs : List (List Nat)} (h : Rounds π n Cs) {a : Nat} (ha : a < n) : ∃ p Ds, Rounds π n ((p ++ [a]) :: Ds) ∧ Ds.length + 1 = Cs.length := by
  obtain ⟨C, hC, haC⟩ := List.mem_flatten.1 ((h.all a).2 ha)
  obtain ⟨s, t, rfl⟩ := List.append_of_mem hC
  obtain ⟨p, hp1, hp2⟩ := (h.rot C hC).last haC
  refine ⟨p, s ++ t, h.perm ?_ ?_, by simp; omega⟩
  · intro X hX
    rcases List.mem_cons.1 hX with rfl | hX
    · exact hp1
    · refine h.rot X ?_
      rcases List.mem_append.1 hX with hX | hX
      · exact List.mem_append_left _ hX
      · exact List.mem_append_right _ (List.mem_cons_of_mem _ hX)
  · have p1 : ((p ++ [a]) :: (s ++ t)).flatten.Perm (C :: (s ++ t)).flatten := by
      simp only [List.flatten_cons]
      exact hp2.append_right _
    exact p1.trans (flatten_perm List.perm_middle.symm)
/-- An exchange splits a round, or joins two. -/
theorem Rounds.swap {π : Nat → Nat} {n : Nat} {Cs : List (List Nat)} (h : Rounds π n Cs) {a b : Nat} (ha : a < n) (hb : b < n) (hab : a ≠ b) : ∃ Ds, Rounds (swp2 π a b) n Ds ∧ (Ds.length + Cs.length) % 2 = 1 := by
  obtain ⟨p, Ds, hD, hl⟩ := h.front ha
  have hnd := hD.nd
  rw [List.flatten_cons] at hnd
  by_cases hbp : b ∈ p
  · obtain ⟨x, y, rfl⟩ := List.append_of_mem hbp
    have hr := hD.rot _ (List.mem_cons_self ..)
    have e1 : (x ++ b :: y) ++ [a] = (x ++ [b]) ++ (y ++ [a]) := by simp
    have hn1 : ((x ++ [b]) ++ (y ++ [a])).Nodup := by rw [← e1]; exact (List.nodup_append.1 hnd).1
    rw [e1] at hr
    obtain ⟨s1, s2⟩ := Rot.split hn1 hr
    refine ⟨(x ++ [b]) :: (y ++ [a]) :: Ds, ⟨?_, ?_, ?_⟩, by simp only [List.length_cons]; omega⟩
    · intro X hX
      rcases List.mem_cons.1 hX with rfl | hX
      · exact s1
      · rcases List.mem_cons.1 hX with rfl | hX
        · exact s2
        · have hx : ∀ z ∈ X, z ∉ (x ++ b :: y) ++ [a] := fun z hz hm => (List.nodup_append.1 hnd).2.2 z hm z (List.mem_flatten.2 ⟨X, hX, hz⟩) rfl
          exact Rot.other (fun m => hx a m (by simp)) (fun m => hx b m (by simp)) (hD.rot X (List.mem_cons_of_mem _ hX))
    · simpa using hnd
    · intro z
      rw [← hD.all z]
      simp
  · have hbD : b ∈ Ds.flatten := by
      have := (hD.all b).2 hb
      rw [List.flatten_cons, List.mem_append, List.mem_append, List.mem_singleton] at this
      rcases this with (h1 | h1) | h1
      · exact absurd h1 hbp
      · exact absurd h1.symm hab
      · exact h1
    obtain ⟨C, hC, hbC⟩ := List.mem_flatten.1 hbD
    obtain ⟨s, t, rfl⟩ := List.append_of_mem hC
    obtain ⟨q, hq1, hq2⟩ := (hD.rot C (List.mem_cons_of_mem _ hC)).last hbC
    have pm : (((p ++ [a]) ++ (q ++ [b])) :: (s ++ t)).flatten.Perm ((p ++ [a]) :: (s ++ C :: t)).flatten := by
      simp only [List.flatten_cons, List.append_assoc]
      refine List.Perm.append_left p (List.Perm.append_left [a] ?_)
      have p1 : (q ++ ([b] ++ (s ++ t).flatten)).Perm (C :: (s ++ t)).flatten := by
        rw [List.flatten_cons, ← List.append_assoc]
        exact hq2.append_right _
      exact p1.trans (flatten_perm List.perm_middle.symm)
    have hnd2 : (((p ++ [a]) ++ (q ++ [b])) :: (s ++ t)).flatten.Nodup := pm.nodup_iff.2 hD.nd
    rw [List.flatten_cons] at hnd2
    refine ⟨((p ++ [a]) ++ (q ++ [b])) :: (s ++ t), ⟨?_, by rw [List.flatten_cons]; exact hnd2, fun z => pm.mem_iff.trans (hD.all z)⟩, by simp only [List.length_cons, List.length_append] at hl ⊢; omega⟩
    intro X hX
    rcases List.mem_cons.1 hX with rfl | hX
    · exact Rot.join (List.nodup_append.1 hnd2).1 (hD.rot _ (List.mem_cons_self ..)) hq1
    · have hx : ∀ z ∈ X, z ∉ (p ++ [a]) ++ (q ++ [b]) := fun z hz hm => (List.nodup_append.1 hnd2).2.2 z hm z (List.mem_flatten.2 ⟨X, hX, hz⟩) rfl
      refine Rot.other (fun m => hx a m (by simp)) (fun m => hx b m (by simp)) (hD.rot X (List.mem_cons_of_mem _ ?_))
      rcases List.mem_append.1 hX with hX | hX
      · exact List.mem_append_left _ hX
      · exact List.mem_append_right _ (List.mem_cons_of_mem _ hX)
theorem Rounds.congr {π ρ : Nat → Nat} {n : Nat} {Cs : List (List Nat)} (h : Rounds π n Cs) (e : ∀ x, x < n → ρ x = π x) : Rounds ρ n Cs :=
  ⟨fun C hC => by
    obtain ⟨c, r, e1, hm⟩ := h.rot C hC
    refine ⟨c, r, e1, ?_⟩
    rw [← hm]
    exact List.map_congr_left fun x hx => e x ((h.all x).1 (List.mem_flatten.2 ⟨C, hC, hx⟩)), h.nd, h.all⟩
end Jor
end Go.Proofs.YtpnkhgjjlionnaaGreat
namespace Go.Proofs.YtpnkhgjjlionnaaGreat
namespace Jor
section
variable {F N : Nat} {opp vert : Nat → Nat}

theorem faces_rounds : ∀ F, Rounds pv (3 * F) ((List.range F).map fun i => [3 * i, 3 * i + 2, 3 * i + 1]) := by
  intro F
  have all : ∀ F x, x ∈ ((List.range F).map fun i => [3 * i, 3 * i + 2, 3 * i + 1]).flatten ↔ x < 3 * F := by
    intro F x
    simp only [List.mem_flatten, List.mem_map, List.mem_range]
    constructor
    · rintro ⟨_, ⟨i, hi, rfl⟩, hx⟩
      simp only [List.mem_cons, List.not_mem_nil, or_false] at hx
      omega
    · intro h
      refine ⟨_, ⟨x / 3, by omega, rfl⟩, ?_⟩
      simp only [List.mem_cons, List.not_mem_nil, or_false]
      omega
  refine ⟨?_, ?_, all F⟩
  · intro C hC
    obtain ⟨i, hi, rfl⟩ := List.mem_map.1 hC
    refine ⟨_, _, rfl, ?_⟩
    simp only [List.map_cons, List.map_nil, List.cons_append, List.nil_append, List.cons.injEq, and_true]
    unfold pv
    omega
  · induction F with
    | zero => simp
    | succ F ih =>
      rw [List.range_succ, List.map_append, List.flatten_append, List.nodup_append]
      refine ⟨ih, by simp, ?_⟩
      intro a ha b hb
      have := (all F a).1 ha
      simp only [List.map_cons, List.map_nil, List.flatten_cons, List.flatten_nil, List.append_nil, List.mem_cons, List.not_mem_nil, or_false] at hb
      omega
/-- Over some edges one goes on across, over the others one turns back in the triangle. -/
noncomputable def halfway (opp : Nat → Nat) (L : List Nat) : Nat → Nat := fun x => if x ∈ both opp L then pv (opp x) else pv x
theorem halfway_rounds (K : Closed F N opp vert) : ∀ L : List Nat, (∀ c ∈ L, c < 3 * F) → (both opp L).Nodup → ∃ Cs, Rounds (halfway opp L) (3 * F) Cs ∧ (Cs.length + F + L.length) % 2 = 0
  | [], _, _ => ⟨_, (faces_rounds F).congr (fun x _ => by simp [halfway, both]), by simp; omega⟩
  | a :: L, hl, hn => by
    have ha := hl a (List.mem_cons_self ..)
    have hb := K.lt a ha
    have e : both opp (a :: L) = a :: (L ++ opp a :: L.map opp) := by simp [both]
    have hp : (a :: (L ++ opp a :: L.map opp)).Perm (a :: opp a :: both opp L) := List.Perm.cons _ List.perm_middle
    rw [e] at hn
    have hn2 := hp.nodup_iff.1 hn
    simp only [List.nodup_cons, List.mem_cons, not_or] at hn2
    obtain ⟨Cs, h1, h2⟩ := halfway_rounds K L (fun c hc => hl c (List.mem_cons_of_mem _ hc)) hn2.2.2
    obtain ⟨Ds, h3, h4⟩ := h1.swap ha hb hn2.1.1
    refine ⟨Ds, h3.congr ?_, by simp only [List.length_cons]; omega⟩
    intro x _
    unfold halfway swp2
    simp only []
    have hm : x ∈ both opp (a :: L) ↔ x = a ∨ x = opp a ∨ x ∈ both opp L := by
      rw [e, hp.mem_iff]
      simp
    by_cases h5 : x = a
    · subst h5
      rw [if_pos (hm.2 (.inl rfl)), if_pos rfl, if_neg hn2.2.1]
    · by_cases h6 : x = opp a
      · subst h6
        rw [if_pos (hm.2 (.inr (.inl rfl))), if_neg h5, if_pos rfl, if_neg hn2.1.2, K.inv a ha]
      · rw [if_neg h5, if_neg h6]
        by_cases h7 : x ∈ both opp L
        · rw [if_pos (hm.2 (.inr (.inr h7))), if_pos h7]
        · rw [if_neg (fun h => by rcases hm.1 h with h | h | h; exact h5 h; exact h6 h; exact h7 h), if_neg h7]
/-- One corner of each edge. -/
def reps (F : Nat) (opp : Nat → Nat) : List Nat := (List.range (3 * F)).filter fun c => decide (c < opp c)
theorem reps_ok (K : Closed F N opp vert) : (∀ c ∈ reps F opp, c < 3 * F) ∧ (both opp (reps F opp)).Nodup ∧ ∀ x, x < 3 * F → x ∈ both opp (reps F opp) := by
  have h1 : ∀ c, c ∈ reps F opp ↔ c < 3 * F ∧ c < opp c := by simp [reps]
  refine ⟨fun c hc => ((h1 c).1 hc).1, ?_, ?_⟩
  · unfold both
    rw [List.nodup_append]
    refine ⟨List.nodup_range.filter _, ?_, ?_⟩
    · refine List.pairwise_map.2 ?_
      refine List.Pairwise.imp_of_mem ?_ (List.nodup_range.filter _ : (reps F opp).Nodup)
      intro a b ha hb hab e
      exact hab (by rw [← K.inv a ((h1 a).1 ha).1, e, K.inv b ((h1 b).1 hb).1])
    · rintro a ha b hb rfl
      obtain ⟨c, hc, rfl⟩ := List.mem_map.1 hb
      have h2 := (h1 _).1 ha
      have h3 := (h1 _).1 hc
      rw [K.inv c h3.1] at h2
      omega
  · intro x hx
    rw [both_mem]
    rcases Nat.lt_trichotomy x (opp x) with h | h | h
    · exact .inl ((h1 x).2 ⟨hx, h⟩)
    · exact absurd (by rw [← h]) (K.apart x hx)
    · exact .inr ⟨opp x, (h1 _).2 ⟨K.lt x hx, by rw [K.inv x hx]; exact h⟩, K.inv x hx⟩
theorem reps_len (K : Closed F N opp vert) : 2 * (reps F opp).length = 3 * F := by
  obtain ⟨h1, h2, h3⟩ := reps_ok K
  have a := nodup_le (m := List.range (3 * F)) h2 (fun x hx => by
    rw [List.mem_range]
    rcases both_mem.1 hx with h | ⟨b, hb, rfl⟩
    · exact h1 x h
    · exact K.lt b (h1 b hb))
  have b := nodup_le (l := List.range (3 * F)) (m := both opp (reps F opp)) List.nodup_range (fun x hx => h3 x (List.mem_range.1 hx))
  rw [both_length] at a b
  simp only [List.length_range] at a b
  omega
theorem one_corner (K : Closed F N opp vert) {c d : Nat} (hc : c < 3 * F) (e : c / 3 = d / 3) (hv : vert c = vert d) : c = d := by
  have h0 := K.simple c hc
  have h1 := K.simple (pv c) (pv_lt hc)
  rw [nx_pv] at h1
  have : d = c ∨ d = nx c ∨ d = pv c := by unfold nx pv; omega
  rcases this with rfl | rfl | rfl
  · rfl
  · exact absurd hv.symm h0
  · exact absurd hv h1
/-- Rounds at vertices are as many as vertices. -/
theorem rounds_verts (K : Closed F N opp vert)
    (ar : ∀ (v : Nat) (S : Nat → Prop), (∃ c, c < 3 * F ∧ vert c = v ∧ S (c / 3)) → (∀ c, c < 3 * F → vert c = v → S (c / 3) → S (opp (nx c) / 3) ∧ S (opp (pv c) / 3)) → ∀ c, c < 3 * F → vert c = v → S (c / 3))
    {Cs : List (List Nat)} (h : Rounds (fun x => pv (opp x)) (3 * F) Cs) : Cs.length = N := by
  have hlt : ∀ C ∈ Cs, ∀ x ∈ C, x < 3 * F := fun C hC x hx => (h.all x).1 (List.mem_flatten.2 ⟨C, hC, hx⟩)
  -- closed under the step, forward and backward
  have fwd : ∀ C ∈ Cs, ∀ x ∈ C, pv (opp x) ∈ C := by
    intro C hC x hx
    obtain ⟨c, r, rfl, hm⟩ := h.rot C hC
    have : pv (opp x) ∈ (c :: r).map (fun x => pv (opp x)) := List.mem_map_of_mem hx
    rw [hm] at this
    simpa [or_comm] using this
  have bwd : ∀ C ∈ Cs, ∀ x, x < 3 * F → pv (opp x) ∈ C → x ∈ C := by
    intro C hC x hx hp
    obtain ⟨c, r, rfl, hm⟩ := h.rot C hC
    have : pv (opp x) ∈ (c :: r).map (fun x => pv (opp x)) := by
      rw [hm]
      simpa [or_comm] using hp
    obtain ⟨y, hy, e⟩ := List.mem_map.1 this
    have hyl := hlt _ hC y hy
    have e2 : opp y = opp x := by rw [← nx_pv (opp y), e, nx_pv]
    rw [← K.inv x hx, ← e2, K.inv y hyl]
    exact hy
  have key : ∀ C ∈ Cs, ∀ x ∈ C, ∀ y, y < 3 * F → vert (pv y) = vert (pv x) → y ∈ C := by
    intro C hC x hx y hy e
    have hS := ar (vert (pv x)) (fun t => ∃ c, c < 3 * F ∧ c / 3 = t ∧ vert c = vert (pv x) ∧ nx c ∈ C)
      ⟨pv x, pv_lt (hlt C hC x hx), rfl, pv x, pv_lt (hlt C hC x hx), rfl, rfl, by rw [nx_pv]; exact hx⟩
      (fun c hc hv hS => by
        obtain ⟨c2, h1, h2, h3, h4⟩ := hS
        have e0 : c2 = c := one_corner K h1 h2 (h3.trans hv.symm)
        subst e0
        have hn := nx_lt hc
        have hp := pv_lt hc
        refine ⟨⟨nx (opp (nx c2)), nx_lt (K.lt _ hn), nx_div _, ?_, ?_⟩, ⟨pv (opp (pv c2)), pv_lt (K.lt _ hp), pv_div _, ?_, ?_⟩⟩
        · rw [K.vn _ hn, pv_nx]
          exact hv
        · rw [nx_nx]
          exact fwd C hC _ h4
        · rw [K.vp _ hp, nx_pv]
          exact hv
        · rw [nx_pv]
          refine bwd C hC _ (K.lt _ hp) ?_
          rw [K.inv _ hp, pv_pv]
          exact h4) (pv y) (pv_lt hy) e
    obtain ⟨c2, h1, h2, h3, h4⟩ := hS
    have e0 : c2 = pv y := one_corner K h1 h2 (h3.trans e.symm)
    subst e0
    rwa [nx_pv] at h4
  -- the vertex of each round
  have hne : ∀ C ∈ Cs, ∃ x, C.head? = some x ∧ x ∈ C := fun C hC => by
    obtain ⟨c, r, rfl, _⟩ := h.rot C hC
    exact ⟨c, rfl, List.mem_cons_self ..⟩
  have vnd : (Cs.map fun C => vert (pv (C.head?.getD 0))).Nodup := by
    have gen : ∀ Ds : List (List Nat), (∀ D ∈ Ds, D ∈ Cs) → Ds.flatten.Nodup → (Ds.map fun C => vert (pv (C.head?.getD 0))).Nodup := by
      intro Ds
      induction Ds with
      | nil => intros; simp
      | cons D r ih =>
        intro hs hn
        rw [List.flatten_cons, List.nodup_append] at hn
        rw [List.map_cons, List.nodup_cons]
        refine ⟨fun hm => ?_, ih (fun D hD => hs D (List.mem_cons_of_mem _ hD)) hn.2.1⟩
        obtain ⟨C, hC, e⟩ := List.mem_map.1 hm
        obtain ⟨x, hx, hxm⟩ := hne C (hs C (List.mem_cons_of_mem _ hC))
        obtain ⟨y, hy, hym⟩ := hne D (hs D (List.mem_cons_self ..))
        rw [hx, hy] at e
        simp only [Option.getD_some] at e
        have hxD := key D (hs D (List.mem_cons_self ..)) y hym x (hlt C (hs C (List.mem_cons_of_mem _ hC)) x hxm) e
        exact hn.2.2 x hxD x (List.mem_flatten.2 ⟨C, hC, hxm⟩) rfl
    exact gen Cs (fun D hD => hD) h.nd
  have a := nodup_le (m := List.range N) vnd (fun v hv => by
    obtain ⟨C, hC, rfl⟩ := List.mem_map.1 hv
    obtain ⟨x, hx, hxm⟩ := hne C hC
    rw [hx, List.mem_range]
    exact K.vlt _ (pv_lt (hlt C hC x hxm)))
  have b := nodup_le (l := List.range N) (m := Cs.map fun C => vert (pv (C.head?.getD 0))) List.nodup_range (fun v hv => by
    obtain ⟨c, hc, hv⟩ := K.all v (List.mem_range.1 hv)
    obtain ⟨C, hC, hm⟩ := List.mem_flatten.1 ((h.all (nx c)).2 (nx_lt hc))
    obtain ⟨x, hx, hxm⟩ := hne C hC
    refine List.mem_map.2 ⟨C, hC, ?_⟩
    rw [hx]
    -- the head has the vertex of all
    have const : ∀ l : List Nat, (∀ y ∈ l, y < 3 * F) → ∀ c0 r, l = c0 :: r → l.map (fun x => pv (opp x)) = r ++ [c0] → ∀ y ∈ l, vert (pv y) = vert (pv c0) := by
      intro l hl c0 r e hm y hy
      have step : ∀ y ∈ l, vert (pv (pv (opp y))) = vert (pv y) := fun y hy => by
        rw [pv_pv]
        exact K.vn y (hl y hy)
      subst e
      have all : ∀ (r : List Nat) (c1 : Nat) (z : List Nat), (c1 :: r).map (fun x => pv (opp x)) = r ++ z → (∀ y ∈ c1 :: r, vert (pv (pv (opp y))) = vert (pv y)) → ∀ y ∈ c1 :: r, vert (pv y) = vert (pv c1) := by
        intro r
        induction r with
        | nil =>
          intro c1 z _ _ y hy
          rw [List.mem_singleton.1 hy]
        | cons d r ih =>
          intro c1 z hm hst y hy
          simp only [List.map_cons, List.cons_append, List.cons.injEq] at hm
          have hd : vert (pv d) = vert (pv c1) := by
            rw [← hm.1]
            exact hst c1 (List.mem_cons_self ..)
          rcases List.mem_cons.1 hy with rfl | hy
          · rfl
          · rw [← hd]
            exact ih d z (by simpa using hm.2) (fun y hy => hst y (List.mem_cons_of_mem _ hy)) y hy
      exact all r c0 [c0] hm step y hy
    obtain ⟨c0, r, rfl, hm2⟩ := h.rot C hC
    simp only [List.head?_cons, Option.some.injEq] at hx
    subst hx
    have := const _ (hlt _ hC) c0 r rfl hm2 (nx c) hm
    rw [pv_nx, hv] at this
    exact this.symm)
  simp only [List.length_map, List.length_range] at a b
  omega
theorem euler_even (K : Closed F N opp vert)
    (ar : ∀ (v : Nat) (S : Nat → Prop), (∃ c, c < 3 * F ∧ vert c = v ∧ S (c / 3)) → (∀ c, c < 3 * F → vert c = v → S (c / 3) → S (opp (nx c) / 3) ∧ S (opp (pv c) / 3)) → ∀ c, c < 3 * F → vert c = v → S (c / 3)) :
    ∃ m, F = 2 * m ∧ (N + m) % 2 = 0 := by
  obtain ⟨h1, h2, h3⟩ := reps_ok K
  have hl := reps_len K
  obtain ⟨Cs, hc, he⟩ := halfway_rounds K _ h1 h2
  have hv := rounds_verts K ar (hc.congr (ρ := fun x => pv (opp x)) (fun x hx => by unfold halfway; rw [if_pos (h3 x hx)]))
  exact ⟨F / 2, by omega, by omega⟩
end
end Jor
end Go.Proofs.YtpnkhgjjlionnaaGreat
namespace Go.Proofs.YtpnkhgjjlionnaaGreat
open Go.RowKit

def oppN (T : List Tr) (c : Nat) : Nat := (oppI T (c : Int)).toNat
def verN (T : List Tr) (c : Nat) : Nat := (vertN T c).toNat
/-- No edge of the border. -/
def ClosedT (T : List Tr) : Prop := ∀ c : Nat, c < 3 * T.length → 0 ≤ oppI T (c : Int)
theorem ClosedT.opp {T : List Tr} (h : ClosedT T) {c : Nat} (hc : c < 3 * T.length) : oppI T (c : Int) = (oppN T c : Int) := by
  have := h c hc
  unfold oppN
  omega
theorem triAt_get {T : List Tr} {c : Nat} (hc : c < 3 * T.length) : ∃ t, T[c / 3]? = some t ∧ triAt T c = t ∧ t ∈ T := by
  have hk : c / 3 < T.length := by omega
  exact ⟨T[c / 3], List.getElem?_eq_getElem hk, by simp [triAt, List.getElem?_eq_getElem hk], List.getElem_mem _⟩
theorem triAt_nx (T : List Tr) (c : Nat) : triAt T (Jor.nx c) = triAt T c := by unfold triAt; rw [Jor.nx_div]
theorem triAt_pv (T : List Tr) (c : Nat) : triAt T (Jor.pv c) = triAt T c := by unfold triAt; rw [Jor.pv_div]
/-- A triangle's three corners, from any of them on. -/
theorem vert_turn (T : List Tr) (c : Nat) : (vertN T c, vertN T (Jor.nx c), vertN T (Jor.pv c)) = ((triAt T c).1, (triAt T c).2.1, (triAt T c).2.2) ∨ (vertN T c, vertN T (Jor.nx c), vertN T (Jor.pv c)) = ((triAt T c).2.1, (triAt T c).2.2, (triAt T c).1) ∨ (vertN T c, vertN T (Jor.nx c), vertN T (Jor.pv c)) = ((triAt T c).2.2, (triAt T c).1, (triAt T c).2.1) := by
  unfold vertN
  rw [triAt_nx, triAt_pv]
  have m1 : Jor.nx c % 3 = (c + 1) % 3 := by unfold Jor.nx; omega
  have m2 : Jor.pv c % 3 = (c + 2) % 3 := by unfold Jor.pv; omega
  have : c % 3 = 0 ∨ c % 3 = 1 ∨ c % 3 = 2 := by omega
  rcases this with e | e | e
  · exact .inl (by simp [e, m1, m2, show (c + 1) % 3 = 1 from by omega, show (c + 2) % 3 = 2 from by omega])
  · exact .inr (.inl (by simp [e, m1, m2, show (c + 1) % 3 = 2 from by omega, show (c + 2) % 3 = 0 from by omega]))
  · exact .inr (.inr (by simp [e, m1, m2, show (c + 1) % 3 = 0 from by omega, show (c + 2) % 3 = 1 from by omega]))
theorem vert_ne {T : List Tr} (hs : ∀ t ∈ T, simple3 t) {c : Nat} (hc : c < 3 * T.length) : vertN T (Jor.nx c) ≠ vertN T c ∧ vertN T (Jor.pv c) ≠ vertN T c ∧ vertN T (Jor.nx c) ≠ vertN T (Jor.pv c) := by
  obtain ⟨t, _, ht, hm⟩ := triAt_get hc
  obtain ⟨s1, s2, s3⟩ := hs t hm
  have := vert_turn T c
  rw [ht] at this
  simp only [Prod.mk.injEq] at this
  rcases this with ⟨a, b, d⟩ | ⟨a, b, d⟩ | ⟨a, b, d⟩ <;> rw [a, b, d]
  · exact ⟨s1.symm, s3, s2⟩
  · exact ⟨s2.symm, s1, s3⟩
  · exact ⟨s3.symm, s2, s1⟩
theorem vert_has {T : List Tr} {i : Nat} {t : Tr} (ht : T[i]? = some t) {x : Int} : hasV t x ↔ ∃ c, c < 3 * T.length ∧ c / 3 = i ∧ vertN T c = x := by
  have hi := (List.getElem?_eq_some_iff.1 ht).1
  have e0 : triAt T (3 * i) = t := by unfold triAt; rw [show 3 * i / 3 = i from by omega, ht]; rfl
  have e1 : triAt T (3 * i + 1) = t := by unfold triAt; rw [show (3 * i + 1) / 3 = i from by omega, ht]; rfl
  have e2 : triAt T (3 * i + 2) = t := by unfold triAt; rw [show (3 * i + 2) / 3 = i from by omega, ht]; rfl
  have v0 : vertN T (3 * i) = t.1 := by unfold vertN; rw [if_pos (by omega), e0]
  have v1 : vertN T (3 * i + 1) = t.2.1 := by unfold vertN; rw [if_neg (by omega), if_pos (by omega), e1]
  have v2 : vertN T (3 * i + 2) = t.2.2 := by unfold vertN; rw [if_neg (by omega), if_neg (by omega), e2]
  constructor
  · rintro (h | h | h)
    · exact ⟨3 * i, by omega, by omega, by rw [v0, h]⟩
    · exact ⟨3 * i + 1, by omega, by omega, by rw [v1, h]⟩
    · exact ⟨3 * i + 2, by omega, by omega, by rw [v2, h]⟩
  · rintro ⟨c, hc, h3, rfl⟩
    have : c = 3 * i ∨ c = 3 * i + 1 ∨ c = 3 * i + 2 := by omega
    rcases this with rfl | rfl | rfl
    · exact .inl v0
    · exact .inr (.inl v1)
    · exact .inr (.inr v2)
theorem atV_corner {T : List Tr} {v : Int} {i : Nat} : i ∈ atV T v ↔ ∃ c, c < 3 * T.length ∧ c / 3 = i ∧ vertN T c = v := by
  unfold atV
  rw [sieve_mem]
  unfold preT
  rw [List.mem_flatMap]
  constructor
  · rintro ⟨k, hk, hm⟩
    rw [List.mem_range] at hk
    have ht : T[k]? = some T[k] := List.getElem?_eq_getElem hk
    rw [ht] at hm
    simp only [three, Option.getD_some, List.mem_cons, Prod.mk.injEq, List.not_mem_nil, or_false] at hm
    have hik : i = k := by rcases hm with h | h | h <;> exact h.2
    subst hik
    exact (vert_has ht).1 (by rcases hm with h | h | h; exact .inl h.1; exact .inr (.inl h.1); exact .inr (.inr h.1))
  · rintro ⟨c, hc, rfl, hv⟩
    have hk : c / 3 < T.length := by omega
    have ht : T[c / 3]? = some T[c / 3] := List.getElem?_eq_getElem hk
    refine ⟨c / 3, List.mem_range.2 hk, ?_⟩
    rw [ht]
    have := (vert_has ht (x := v)).2 ⟨c, hc, rfl, hv⟩
    simp only [three, Option.getD_some, List.mem_cons, Prod.mk.injEq, List.not_mem_nil, or_false]
    rcases this with h | h | h
    · exact .inl ⟨h, trivial⟩
    · exact .inr (.inl ⟨h, trivial⟩)
    · exact .inr (.inr ⟨h, trivial⟩)
theorem edge_pv (T : List Tr) (c : Nat) : edgeN T (Jor.pv c) = (vertN T c, vertN T (Jor.nx c)) := by unfold edgeN; rw [Jor.nx_pv, Jor.pv_pv]
theorem edge_nx (T : List Tr) (c : Nat) : edgeN T (Jor.nx c) = (vertN T (Jor.pv c), vertN T c) := by unfold edgeN; rw [Jor.nx_nx, Jor.pv_nx]
theorem opp_is {T : List Tr} (hu : (T.flatMap edges3).Nodup) {c d : Nat} (hc : c < 3 * T.length) (hd : d < 3 * T.length) (h : edgeN T d = ((edgeN T c).2, (edgeN T c).1)) : oppN T c = d := by
  unfold oppN oppI
  rw [edgeI_nat hc, ← h, facI_of hu hd]
  rfl
/-- Round a vertex one comes to all its triangles. -/
theorem around {N : Int} {T : List Tr} (hS : Surf N T) {v : Int} (hv : inR N v) (S : Nat → Prop) (h0 : ∃ c, c < 3 * T.length ∧ vertN T c = v ∧ S (c / 3))
    (hs : ∀ c, c < 3 * T.length → vertN T c = v → S (c / 3) → S (oppN T (Jor.nx c) / 3) ∧ S (oppN T (Jor.pv c) / 3)) : ∀ c, c < 3 * T.length → vertN T c = v → S (c / 3) := by
  have hl := hS.pinch v hv
  have cl : ∀ i ∈ atV T v, ∀ k ∈ atV T v, S i → adjV T v i k → S k := by
    intro i hi k hk hSi hadj
    obtain ⟨c, hc, rfl, hcv⟩ := atV_corner.1 hi
    obtain ⟨d, hd, rfl, hdv⟩ := atV_corner.1 hk
    obtain ⟨a, b, x, ha, hb, hx, hax, hbx⟩ := hadj
    obtain ⟨c', hc', e1, hcx⟩ := (vert_has ha).1 hax
    obtain ⟨d', hd', e2, hdx⟩ := (vert_has hb).1 hbx
    have hc3 : c' = Jor.nx c ∨ c' = Jor.pv c := by
      have : c' = c ∨ c' = Jor.nx c ∨ c' = Jor.pv c := by unfold Jor.nx Jor.pv; omega
      rcases this with rfl | h
      · exact absurd (hcx.symm.trans hcv) hx
      · exact h
    have hd3 : d' = Jor.nx d ∨ d' = Jor.pv d := by
      have : d' = d ∨ d' = Jor.nx d ∨ d' = Jor.pv d := by unfold Jor.nx Jor.pv; omega
      rcases this with rfl | h
      · exact absurd (hdx.symm.trans hdv) hx
      · exact h
    have hst := hs c hc hcv hSi
    have hpc : Jor.pv c < 3 * T.length := Jor.pv_lt hc
    have hnc : Jor.nx c < 3 * T.length := Jor.nx_lt hc
    have hpd : Jor.pv d < 3 * T.length := Jor.pv_lt hd
    have hnd : Jor.nx d < 3 * T.length := Jor.nx_lt hd
    rcases hc3 with rfl | rfl
    · rcases hd3 with rfl | rfl
      · have e := edge_inj hS.twice hpc hpd (by rw [edge_pv, edge_pv, hcv, hdv, hcx, hdx])
        have : c / 3 = d / 3 := by rw [← Jor.pv_div c, e, Jor.pv_div]
        rw [← this]
        exact hSi
      · have e := opp_is hS.twice hpc hnd (by rw [edge_pv, edge_nx, hcv, hdv, hcx, hdx])
        rw [← Jor.nx_div d, ← e]
        exact hst.2
    · rcases hd3 with rfl | rfl
      · have e := opp_is hS.twice hnc hpd (by rw [edge_pv, edge_nx, hcv, hdv, hcx, hdx])
        rw [← Jor.pv_div d, ← e]
        exact hst.1
      · have e := edge_inj hS.twice hnc hnd (by rw [edge_nx, edge_nx, hcv, hdv, hcx, hdx])
        have : c / 3 = d / 3 := by rw [← Jor.nx_div c, e, Jor.nx_div]
        rw [← this]
        exact hSi
  have sym : ∀ i k, adjV T v i k → adjV T v k i := fun i k ⟨a, b, x, h1, h2, h3, h4, h5⟩ => ⟨b, a, x, h2, h1, h3, h5, h4⟩
  obtain ⟨c0, hc0, hv0, hS0⟩ := h0
  have hm0 : c0 / 3 ∈ atV T v := atV_corner.2 ⟨c0, hc0, rfl, hv0⟩
  intro c hc hcv
  have hm : c / 3 ∈ atV T v := atV_corner.2 ⟨c, hc, rfl, hcv⟩
  cases hh : (atV T v).head? with
  | none =>
    rw [List.head?_eq_none_iff] at hh
    rw [hh] at hm
    cases hm
  | some i0 =>
    by_cases hi : S i0
    · exact hl S (fun i e => by rw [hh] at e; cases e; exact hi) (fun i hi k hk h1 h2 => cl i hi k hk h1 h2) _ hm
    · exfalso
      exact hl (fun k => ¬ S k) (fun i e => by rw [hh] at e; cases e; exact hi) (fun i hi k hk h1 h2 h3 => h1 (cl k hk i hi h3 (sym _ _ h2))) _ hm0 hS0
theorem vert_rng {N : Int} {T : List Tr} (hS : Surf N T) {c : Nat} (hc : c < 3 * T.length) : 0 ≤ vertN T c ∧ vertN T c < N :=
  vertN_in (fun t ht => by
    obtain ⟨⟨a, b⟩, ⟨d, e⟩, f, g⟩ := hS.inr t ht
    exact ⟨a, b, d, e, f, g⟩) hc
theorem verN_eq {N : Int} {T : List Tr} (hS : Surf N T) {c d : Nat} (hc : c < 3 * T.length) (hd : d < 3 * T.length) : verN T c = verN T d ↔ vertN T c = vertN T d := by
  have h1 := (vert_rng hS hc).1
  have h2 := (vert_rng hS hd).1
  unfold verN
  omega
theorem closed_of {N : Int} {T : List Tr} (hS : Surf N T) (hc : ClosedT T) (hconn : ∀ S : Nat → Prop, S 0 → (∀ c, c < 3 * T.length → S (c / 3) → S (oppN T c / 3)) → ∀ t, t < T.length → S t) : Jor.Closed T.length N.toNat (oppN T) (verN T) where
  lt := fun c h => (opp_some h (hc.opp h)).1
  inv := fun c h => by
    have h1 := opp_back hS.twice h (hc.opp h)
    unfold oppN at h1 ⊢
    rw [h1]
    rfl
  apart := fun c h e => by
    obtain ⟨h1, h2⟩ := opp_some h (hc.opp h)
    have hv := vert_ne hS.simple h
    have : oppN T c = c ∨ oppN T c = Jor.nx c ∨ oppN T c = Jor.pv c := by unfold Jor.nx Jor.pv; omega
    rcases this with e | e | e
    · rw [e] at h2
      unfold edgeN at h2
      simp only [Prod.mk.injEq] at h2
      exact hv.2.2 h2.1
    · rw [e, edge_nx] at h2
      unfold edgeN at h2
      simp only [Prod.mk.injEq] at h2
      exact hv.1 h2.2.symm
    · rw [e, edge_pv] at h2
      unfold edgeN at h2
      simp only [Prod.mk.injEq] at h2
      exact hv.2.1 h2.1.symm
  vn := fun c h => by
    obtain ⟨_, h2⟩ := opp_some h (hc.opp h)
    have := congrArg Prod.fst h2
    simp only [edgeN] at this
    unfold verN
    rw [this]
  vp := fun c h => by
    obtain ⟨_, h2⟩ := opp_some h (hc.opp h)
    have := congrArg Prod.snd h2
    simp only [edgeN] at this
    unfold verN
    rw [this]
  simple := fun c h e => (vert_ne hS.simple h).1 ((verN_eq hS (Jor.nx_lt h) h).1 e)
  vlt := fun c h => by
    have := vert_rng hS h
    unfold verN
    omega
  all := fun v hv => by
    have hm := hS.lonely (v : Int) ⟨by omega, by omega⟩
    unfold flatT at hm
    obtain ⟨t, ht, hx⟩ := List.mem_flatMap.1 hm
    obtain ⟨i, hi, hit⟩ := List.getElem_of_mem ht
    have hti : T[i]? = some t := by rw [List.getElem?_eq_getElem hi, hit]
    simp only [List.mem_cons, List.not_mem_nil, or_false] at hx
    obtain ⟨c, h1, _, h3⟩ := (vert_has hti (x := (v : Int))).1 hx
    exact ⟨c, h1, by unfold verN; rw [h3]; rfl⟩
  conn := hconn
theorem ar_of {N : Int} {T : List Tr} (hS : Surf N T) (v : Nat) (S : Nat → Prop) (h0 : ∃ c, c < 3 * T.length ∧ verN T c = v ∧ S (c / 3)) (hs : ∀ c, c < 3 * T.length → verN T c = v → S (c / 3) → S (oppN T (Jor.nx c) / 3) ∧ S (oppN T (Jor.pv c) / 3)) : ∀ c, c < 3 * T.length → verN T c = v → S (c / 3) := by
  obtain ⟨c0, hc0, hv0, hS0⟩ := h0
  have key : ∀ c, c < 3 * T.length → (verN T c = v ↔ vertN T c = vertN T c0) := fun c hc => by
    rw [← hv0]
    exact verN_eq hS hc hc0
  intro c hc hv
  exact around hS (v := vertN T c0) (vert_rng hS hc0) S ⟨c0, hc0, rfl, hS0⟩ (fun d hd hdv => hs d hd ((key d hd).2 hdv)) c hc ((key c hc).1 hv)
theorem walks_of {N : Int} {T : List Tr} (hS : Surf N T) (hc : ClosedT T) (hconn : ∀ S : Nat → Prop, S 0 → (∀ c, c < 3 * T.length → S (c / 3) → S (oppN T c / 3)) → ∀ t, t < T.length → S t) (hT : 0 < T.length) (hE : 2 * N = T.length + 4) : Jor.Walks T.length N.toNat (oppN T) (verN T) where
  toClosed := closed_of hS hc hconn
  euler := by omega
  pos := hT
  ei := fun c d h1 h2 e1 e2 => edge_inj hS.twice h1 h2 (by
    unfold edgeN
    rw [(verN_eq hS (Jor.nx_lt h1) (Jor.nx_lt h2)).1 e1, (verN_eq hS (Jor.pv_lt h1) (Jor.pv_lt h2)).1 e2])
  ar := ar_of hS
theorem even_of {N : Int} {T : List Tr} (hS : Surf N T) (hc : ClosedT T) (hconn : ∀ S : Nat → Prop, S 0 → (∀ c, c < 3 * T.length → S (c / 3) → S (oppN T c / 3)) → ∀ t, t < T.length → S t) : ∃ m : Nat, T.length = 2 * m ∧ (N.toNat + m) % 2 = 0 :=
  Jor.euler_even (closed_of hS hc hconn) (ar_of hS)
/-- One part alone. -/
theorem conn_of {T : List Tr} {out : List Int} (h : Shl T out) (hc : ClosedT T) (h0 : ∀ j, j < T.length → at_ out j = 0) (S : Nat → Prop) (s0 : S 0) (hs : ∀ c, c < 3 * T.length → S (c / 3) → S (oppN T c / 3)) : ∀ t, t < T.length → S t := by
  intro t
  induction t using Nat.strongRecOn with
  | ind t ih =>
    intro ht
    rcases h.new t ht with ⟨i, hi, _, hr⟩ | ⟨h1, _⟩
    · exact hr S (ih i hi (by omega)) (fun c o hcl ho hSc => by
        have := hs c hcl hSc
        rw [hc.opp hcl] at ho
        rwa [show oppN T c = o from by omega] at this)
    · by_cases e : t = 0
      · rw [e]
        exact s0
      · have := h1 0 (by omega)
        rw [h0 0 (by omega), h0 t ht] at this
        omega
end Go.Proofs.YtpnkhgjjlionnaaGreat
namespace Go.Proofs.YtpnkhgjjlionnaaGreat
open Go.RowKit

/-- A triangle whose corners are vertices of n, no two the same. -/
def fitsM (t : Tr) (n : Int) : Prop := (0 ≤ t.1 ∧ t.1 < n) ∧ (0 ≤ t.2.1 ∧ t.2.1 < n) ∧ (0 ≤ t.2.2 ∧ t.2.2 < n) ∧ t.1 ≠ t.2.1 ∧ t.2.1 ≠ t.2.2 ∧ t.2.2 ≠ t.1
instance (t : Tr) (n : Int) : Decidable (fitsM t n) := by unfold fitsM; infer_instance
theorem fitsM_f {x y z n : Int} (h : ¬ (0 ≤ x ∧ x < n) ∨ ¬ (0 ≤ y ∧ y < n) ∨ ¬ (0 ≤ z ∧ z < n)) : decide (fitsM (x, y, z) n) = false := by
  refine decide_eq_false (fun hm => ?_)
  obtain ⟨a, b, c, -⟩ := hm
  rcases h with h | h | h
  · exact h a
  · exact h b
  · exact h c
theorem fitsM_t {x y z n : Int} (hx : 0 ≤ x ∧ x < n) (hy : 0 ≤ y ∧ y < n) (hz : 0 ≤ z ∧ z < n) : decide (fitsM (x, y, z) n) = ((x != y) && ((y != z) && (z != x))) := by
  have e : fitsM (x, y, z) n ↔ (x ≠ y ∧ y ≠ z ∧ z ≠ x) := ⟨fun h => h.2.2.2, fun h => ⟨hx, hy, hz, h⟩⟩
  have e2 : decide (fitsM (x, y, z) n) = decide (x ≠ y ∧ y ≠ z ∧ z ≠ x) := decide_eq_decide.2 e
  rw [e2]
  simp [bne]
  rfl
set_option maxRecDepth 100000 in
set_option maxHeartbeats 2000000 in
theorem fits_any (x y z n : Int) (w : World) : Calls Tryz.prog 61 #[.agg #[.int .i64 x, .int .i64 y, .int .i64 z], .int .i64 n] w fun e w' => e = .returned (.bool (decide (fitsM (x, y, z) n))) ∧ Below w.heap.size w w' := by
  have q0 := @index_t0
  have q1 := @index_t1
  have q2 := @index_t2
  have b1 := Blk.new w 60 #[.int .i64 x, .int .i64 y, .int .i64 z]
  have hB : Below w.heap.size w (w.alloc (.cells #[.int .i64 x, .int .i64 y, .int .i64 z] 60)) := (Below.refl _ _).alloc (Nat.le_refl _) _
  obtain ⟨p0, x0, -, x1, -, x2, -⟩ := b1.three
  have HB := Lib.hid hB
  obtain ⟨r, hr⟩ : ∃ r, decide (fitsM (x, y, z) n) = r := ⟨_, rfl⟩
  rw [hr]
  have HR := Lib.hid hr
  clear hB b1 hr
  go_enter Tryz.func61, Tryz.ntmps61
  go_wp2
  generalize w.alloc (.cells #[.int .i64 x, .int .i64 y, .int .i64 z] 60) = W0 at *
  go_loopw [8] (fun i8 wx => ∃ k : Nat, i8 = .int .i64 k ∧ k ≤ 3 ∧ (0 < k → 0 ≤ x ∧ x < n) ∧ (1 < k → 0 ≤ y ∧ y < n) ∧ (2 < k → 0 ≤ z ∧ z < n) ∧ wx = W0) (fun i8 _ => 3 - (intOf i8).toNat)
  case atStart => exact ⟨0, rfl, by omega, by omega, by omega, by omega, rfl⟩
  case round =>
    obtain ⟨k, rfl, hk, f0, f1, f2, rfl⟩ := hrel
    have : k = 0 ∨ k = 1 ∨ k = 2 ∨ k = 3 := by omega
    rcases this with rfl | rfl | rfl | rfl
    · by_cases h0 : x < 0
      · have d0 : decide (x < 0) = true := by simpa using h0
        have hf : r = false := by rw [← HR.out]; exact fitsM_f (by omega)
        subst hf
        clear f0 f1 f2 hk h0
        go_wp2
        go_ret
        exact ⟨rfl, HB.out⟩
      · have d0 : decide (x < 0) = false := by simpa using h0
        by_cases h1 : n ≤ x
        · have d1 : decide (n ≤ x) = true := by simpa using h1
          have hf : r = false := by rw [← HR.out]; exact fitsM_f (by omega)
          subst hf
          clear f0 f1 f2 hk h0 h1
          go_wp2
          go_ret
          exact ⟨rfl, HB.out⟩
        · have d1 : decide (n ≤ x) = false := by simpa using h1
          have H := Lib.hid (show 0 ≤ x ∧ x < n by omega)
          clear f0 f1 f2 hk h0 h1
          go_wp2
          go_roundw
          case measure => simp [intOf]
          case rel => exact ⟨1, by go_num, by omega, fun _ => H.out, fun h => absurd h (by omega), fun h => absurd h (by omega), by first | rfl | trivial⟩
    · have H0 := Lib.hid (f0 (by omega))
      by_cases h0 : y < 0
      · have d0 : decide (y < 0) = true := by simpa using h0
        have hf : r = false := by rw [← HR.out]; exact fitsM_f (by omega)
        subst hf
        clear f0 f1 f2 hk h0
        go_wp2
        go_ret
        exact ⟨rfl, HB.out⟩
      · have d0 : decide (y < 0) = false := by simpa using h0
        by_cases h1 : n ≤ y
        · have d1 : decide (n ≤ y) = true := by simpa using h1
          have hf : r = false := by rw [← HR.out]; exact fitsM_f (by omega)
          subst hf
          clear f0 f1 f2 hk h0 h1
          go_wp2
          go_ret
          exact ⟨rfl, HB.out⟩
        · have d1 : decide (n ≤ y) = false := by simpa using h1
          have H := Lib.hid (show 0 ≤ y ∧ y < n by omega)
          clear f0 f1 f2 hk h0 h1
          go_wp2
          go_roundw
          case measure => simp [intOf]
          case rel => exact ⟨2, by go_num, by omega, fun _ => H0.out, fun _ => H.out, fun h => absurd h (by omega), by first | rfl | trivial⟩
    · have H0 := Lib.hid (f0 (by omega))
      have H1 := Lib.hid (f1 (by omega))
      by_cases h0 : z < 0
      · have d0 : decide (z < 0) = true := by simpa using h0
        have hf : r = false := by rw [← HR.out]; exact fitsM_f (by omega)
        subst hf
        clear f0 f1 f2 hk h0
        go_wp2
        go_ret
        exact ⟨rfl, HB.out⟩
      · have d0 : decide (z < 0) = false := by simpa using h0
        by_cases h1 : n ≤ z
        · have d1 : decide (n ≤ z) = true := by simpa using h1
          have hf : r = false := by rw [← HR.out]; exact fitsM_f (by omega)
          subst hf
          clear f0 f1 f2 hk h0 h1
          go_wp2
          go_ret
          exact ⟨rfl, HB.out⟩
        · have d1 : decide (n ≤ z) = false := by simpa using h1
          have H := Lib.hid (show 0 ≤ z ∧ z < n by omega)
          clear f0 f1 f2 hk h0 h1
          go_wp2
          go_roundw
          case measure => simp [intOf]
          case rel => exact ⟨3, by go_num, by omega, fun _ => H0.out, fun _ => H1.out, fun _ => H.out, by first | rfl | trivial⟩
    · have g0 := f0 (by omega)
      have g1 := f1 (by omega)
      have g2 := f2 (by omega)
      have hf : r = ((x != y) && ((y != z) && (z != x))) := by rw [← HR.out]; exact fitsM_t g0 g1 g2
      clear f0 f1 f2 hk g0 g1 g2
      by_cases e1 : x = y
      · have d1 : (x != y) = false := by simpa using e1
        rw [d1] at hf
        simp only [Bool.false_and] at hf
        subst hf
        clear e1
        go_wp2
        go_ret
        exact ⟨rfl, HB.out⟩
      · have d1 : (x != y) = true := by simpa using e1
        by_cases e2 : y = z
        · have d2 : (y != z) = false := by simpa using e2
          rw [d1, d2] at hf
          simp only [Bool.false_and, Bool.true_and] at hf
          subst hf
          clear e1 e2
          go_wp2
          go_ret
          exact ⟨rfl, HB.out⟩
        · have d2 : (y != z) = true := by simpa using e2
          rw [d1, d2] at hf
          simp only [Bool.true_and] at hf
          clear e1 e2
          subst hf
          go_wp2
          go_ret
          exact ⟨rfl, HB.out⟩
end Go.Proofs.YtpnkhgjjlionnaaGreat
namespace Go.Proofs.YtpnkhgjjlionnaaGreat
open Go.RowKit

def triC (t : Tr) : List Value := [.int .i64 t.1, .int .i64 t.2.1, .int .i64 t.2.2]
set_option maxRecDepth 100000 in
theorem fitsC_any (s : Nat) (N : Int) (t : Tr) (w : World) (h0 : w.cell? ⟨s, 0, none⟩ = some (.int .i64 N)) (hs : s < w.heap.size) :
    Calls Tryz.prog 60 #[.agg (triC t).toArray, .pointer (some ⟨s, 0, none⟩)] w fun e w' => e = .returned (.bool (!decide (fitsM t N))) ∧ Below w.heap.size w w' := by
  obtain ⟨x, y, z⟩ := t
  show Calls _ _ #[.agg #[.int .i64 x, .int .i64 y, .int .i64 z], .pointer (some ⟨s, 0, none⟩)] w _
  have b1 := Blk.new w 60 #[.int .i64 x, .int .i64 y, .int .i64 z]
  have hB : Below w.heap.size w (w.alloc (.cells #[.int .i64 x, .int .i64 y, .int .i64 z] 60)) := (Below.refl _ _).alloc (Nat.le_refl _) _
  obtain ⟨p0, x0, -, x1, -, x2, -⟩ := b1.three
  have y0 := (hB.cell (p := ⟨s, 0, none⟩) hs).trans h0
  have HF := Lib.hid (fits_any x y z N (w.alloc (.cells #[.int .i64 x, .int .i64 y, .int .i64 z] 60)))
  have HB := Lib.hid hB
  obtain ⟨r, hr⟩ : ∃ r, decide (fitsM (x, y, z) N) = r := ⟨_, rfl⟩
  rw [hr] at HF ⊢
  clear hB b1 hr h0
  go_enter Tryz.func60, Tryz.ntmps60
  go_wp2_with (go_at_call 61; refine HF.out.mono ?_; rintro e w' ⟨rfl, hb⟩)
  go_ret
  exact ⟨rfl, HB.out.trans (hb.mono HB.out.size)⟩
set_option maxRecDepth 100000 in
theorem index_none (a : Option Addr) (c : Nat) (f : Value) (w : World) : Calls Tryz.prog 84 #[.slice a 0 c, f] w fun e w' => e = .returned (.int .i64 (-1)) ∧ w' = w := by
  go_enter Tryz.func84, Tryz.ntmps84
  go_wp2
  go_loopw [8] (fun i wx => i = .int .i64 0 ∧ wx = w) (fun _ _ => 0)
  case atStart => exact ⟨rfl, rfl⟩
  case round =>
    obtain ⟨rfl, rfl⟩ := hrel
    go_wp2
    go_ret
    exact ⟨rfl, rfl⟩
set_option maxRecDepth 100000 in
theorem cont_none (a : Option Addr) (c : Nat) (f : Value) (w : World) : Calls Tryz.prog 59 #[.slice a 0 c, f] w fun e w' => e = .returned (.bool false) ∧ w' = w := by
  have H := Lib.hid (index_none a c f w)
  go_enter Tryz.func59, Tryz.ntmps59
  go_wp2_with (go_at_call 84; refine H.out.mono ?_; rintro e w' ⟨rfl, rfl⟩)
  go_ret
  exact ⟨rfl, rfl⟩
theorem isAggTri (w : World) : (isAgg 60).run Tryz.prog w = .ok true w := by kernel_rfl
theorem sizeTri (w : World) : (Go.sizeOf 60).run Tryz.prog w = .ok 3 w := by kernel_rfl
/-- slices.ContainsFunc over a list of triangles, empty or not. -/
theorem cont_any (v : Value) (T : List Tr) (p : Tr → Bool) (lb : Array Value) (w : World) (h : TrisRd w v T)
    (hp : PredBelow Tryz.prog 60 lb (fun x => .agg (triC x).toArray) p w) :
    Calls Tryz.prog 59 #[v, .func (.func 60) #[] lb] w fun e w' => e = .returned (.bool (T.any p)) ∧ Below w.heap.size w w' := by
  obtain ⟨a, c, rfl, hc1, hc2, hr⟩ := h
  by_cases hT : T = []
  · subst hT
    refine (cont_none a c _ w).mono ?_
    rintro e w' ⟨rfl, rfl⟩
    exact ⟨rfl, Below.refl _ _⟩
  · obtain ⟨⟨x, y, z⟩, hx⟩ : ∃ q, T[0]? = some q := by
      cases T with
      | nil => exact absurd rfl hT
      | cons q r => exact ⟨q, rfl⟩
    obtain ⟨b, o, rfl, hb, -⟩ := hr 0 x y z hx
    have hcells : ∀ j, j < T.length → ∀ i v, (triC T[j]!)[i]? = some v → w.cell? ⟨b, o + j * 3 + i, none⟩ = some v := by
      intro j hj i v hv
      obtain ⟨b', o', e, -, s0, s1, s2⟩ := hr j T[j].1 T[j].2.1 T[j].2.2 (by rw [List.getElem?_eq_getElem hj])
      cases e
      rw [getElem!_pos T j hj] at hv
      have hi : i = 0 ∨ i = 1 ∨ i = 2 ∨ 3 ≤ i := by omega
      rcases hi with rfl | rfl | rfl | hi
      · cases hv; exact s0
      · cases hv; exact s1
      · cases hv; exact s2
      · rw [List.getElem?_eq_none (by simpa [triC] using hi)] at hv
        cases hv
    have := Tryz.slices_ContainsFunc (α := Tr) 3 isAggTri sizeTri triC (fun _ => rfl) p 60 lb (fun _ _ => by kernel_rfl) b o T.length c T w hp (Nat.le_refl _) (by omega) hb hcells
    rw [List.take_length] at this
    exact this
/-- Does it fit: are there not too many vertices and triangles, and is each triangle of vertices that there are, no two the same. -/
def fitsS (N : Int) (T : List Tr) : Bool := decide (0 ≤ N ∧ N ≤ 4096 ∧ T.length ≤ 8192) && !(T.any fun t => !decide (fitsM t N))
set_option maxRecDepth 100000 in
set_option maxHeartbeats 1000000 in
theorem soupFits_any (N : Int) (v : Value) (T : List Tr) (w : World) (h : TrisRd w v T) (hl : T.length ≤ 100000) :
    Calls Tryz.prog 28 #[.agg #[.int .i64 N, v]] w fun e w' => e = .returned (.bool (fitsS N T)) ∧ Below w.heap.size w w' := by
  obtain ⟨a, c, rfl, hc1, hc2, -⟩ := id h
  have b1 := Blk.new w 24 #[.int .i64 N, .slice a T.length c]
  have hB : Below w.heap.size w (w.alloc (.cells #[.int .i64 N, .slice a T.length c] 24)) := (Below.refl _ _).alloc (Nat.le_refl _) _
  obtain ⟨p0, x0, -, x1, -⟩ := b1.two
  have HC := Lib.hid (cont_any _ T (fun t => !decide (fitsM t N)) #[.pointer (some ⟨w.heap.size, 0, none⟩)] _ (h.below hB) (fun W t hW => (fitsC_any w.heap.size N t W ((hW.cell (p := ⟨w.heap.size, 0, none⟩) p0).trans x0) (Nat.lt_of_lt_of_le p0 hW.size)).mono (fun _ _ ⟨he, hb⟩ => ⟨he, hW.trans (hb.mono hW.size)⟩)))
  have HB := Lib.hid hB
  have HF : fitsS N T = (decide (0 ≤ N ∧ N ≤ 4096 ∧ T.length ≤ 8192) && !(T.any fun t => !decide (fitsM t N))) := rfl
  rw [HF]
  obtain ⟨q, hq⟩ : ∃ q, (T.any fun t => !decide (fitsM t N)) = q := ⟨_, rfl⟩
  rw [hq] at HC ⊢
  clear HF hq hB b1 h
  by_cases h0 : N < 0
  · have d0 : decide (N < 0) = true := by simpa using h0
    rw [decide_eq_false (show ¬ (0 ≤ N ∧ N ≤ 4096 ∧ T.length ≤ 8192) by omega)]
    clear h0
    go_enter Tryz.func28, Tryz.ntmps28
    go_wp2
    go_ret
    exact ⟨rfl, HB.out⟩
  · have d0 : decide (N < 0) = false := by simpa using h0
    by_cases h1 : 4096 < N
    · have d1 : decide (4096 < N) = true := by simpa using h1
      rw [decide_eq_false (show ¬ (0 ≤ N ∧ N ≤ 4096 ∧ T.length ≤ 8192) by omega)]
      clear h0 h1
      go_enter Tryz.func28, Tryz.ntmps28
      go_wp2
      go_ret
      exact ⟨rfl, HB.out⟩
    · have d1 : decide (4096 < N) = false := by simpa using h1
      by_cases h2 : 8192 < T.length
      · have d2 : decide (8192 < (T.length : Int)) = true := by simp; omega
        rw [decide_eq_false (show ¬ (0 ≤ N ∧ N ≤ 4096 ∧ T.length ≤ 8192) by omega)]
        clear h0 h1 h2
        go_enter Tryz.func28, Tryz.ntmps28
        go_wp2
        go_ret
        exact ⟨rfl, HB.out⟩
      · have d2 : decide (8192 < (T.length : Int)) = false := by simp; omega
        rw [decide_eq_true (show (0 ≤ N ∧ N ≤ 4096 ∧ T.length ≤ 8192) by omega)]
        clear h0 h1 h2
        go_enter Tryz.func28, Tryz.ntmps28
        go_wp2_with (go_at_call 59; refine HC.out.mono ?_; rintro e w' ⟨rfl, hb⟩)
        go_ret
        exact ⟨by simp, HB.out.trans (hb.mono HB.out.size)⟩
end Go.Proofs.YtpnkhgjjlionnaaGreat
namespace Go.Proofs.YtpnkhgjjlionnaaGreat
open Go.RowKit

/-! Parts have vertices of their own. -/
theorem vert_inr {N : Int} {T : List Tr} (hS : Surf N T) {c : Nat} (hc : c < 3 * T.length) : inR N (vertN T c) := by
  have h := vertN_in (N := N) (fun t ht => by
    obtain ⟨⟨a, b⟩, ⟨c, d⟩, e, f⟩ := hS.inr t ht
    exact ⟨a, b, c, d, e, f⟩) hc
  exact h
/-! Corners come to are of one part. -/
/-! Numbered triangles. -/
/-! Soups, joined. -/
end Go.Proofs.YtpnkhgjjlionnaaGreat
namespace Go.Proofs.YtpnkhgjjlionnaaGreat
open Go.RowKit

/-- The corners of T are those of T' by φ, the vertices by g. -/
structure Iso (T T' : List Tr) (φ : Nat → Nat) (g : Int → Int) : Prop where
  len : T'.length = T.length
  lt : ∀ c, c < 3 * T.length → φ c < 3 * T.length
  inj : ∀ c d, c < 3 * T.length → d < 3 * T.length → φ c = φ d → c = d
  nx : ∀ c, c < 3 * T.length → φ (Jor.nx c) = Jor.nx (φ c)
  vert : ∀ c, c < 3 * T.length → vertN T' (φ c) = g (vertN T c)
  ginj : ∀ c d, c < 3 * T.length → d < 3 * T.length → g (vertN T c) = g (vertN T d) → vertN T c = vertN T d
section
variable {T T' : List Tr} {φ : Nat → Nat} {g : Int → Int}
theorem Iso.pv (h : Iso T T' φ g) {c : Nat} (hc : c < 3 * T.length) : φ (Jor.pv c) = Jor.pv (φ c) := by
  have h1 := h.nx (Jor.pv c) (Jor.pv_lt hc)
  rw [Jor.nx_pv] at h1
  rw [h1, Jor.pv_nx]
theorem same_tri {c d : Nat} : c / 3 = d / 3 ↔ d = c ∨ d = Jor.nx c ∨ d = Jor.pv c := by
  unfold Jor.nx Jor.pv
  omega
theorem Iso.tri (h : Iso T T' φ g) {c d : Nat} (hc : c < 3 * T.length) (hd : d < 3 * T.length) : φ c / 3 = φ d / 3 ↔ c / 3 = d / 3 := by
  rw [same_tri, same_tri]
  constructor
  · rintro (e | e | e)
    · exact .inl (h.inj _ _ hd hc e)
    · rw [← h.nx c hc] at e
      exact .inr (.inl (h.inj _ _ hd (Jor.nx_lt hc) e))
    · rw [← h.pv hc] at e
      exact .inr (.inr (h.inj _ _ hd (Jor.pv_lt hc) e))
  · rintro (e | e | e)
    · exact .inl (by rw [e])
    · exact .inr (.inl (by rw [e, h.nx c hc]))
    · exact .inr (.inr (by rw [e, h.pv hc]))
/-- Each corner is one's image. -/
theorem Iso.surj (h : Iso T T' φ g) {d : Nat} (hd : d < 3 * T.length) : ∃ c, c < 3 * T.length ∧ φ c = d := by
  have hn : ((List.range (3 * T.length)).map φ).Nodup := by
    rw [List.nodup_iff_pairwise_ne, List.pairwise_map]
    refine List.Pairwise.imp_of_mem ?_ (List.nodup_iff_pairwise_ne.1 List.nodup_range)
    intro a b ha hb hab e
    exact hab (h.inj _ _ (List.mem_range.1 ha) (List.mem_range.1 hb) e)
  have hs : ∀ x ∈ (List.range (3 * T.length)).map φ, x ∈ List.range (3 * T.length) := by
    intro x hx
    obtain ⟨c, hc, rfl⟩ := List.mem_map.1 hx
    exact List.mem_range.2 (h.lt c (List.mem_range.1 hc))
  refine Classical.byContradiction fun hno => ?_
  have h1 : ((d :: (List.range (3 * T.length)).map φ)).Nodup := List.nodup_cons.2 ⟨fun hm => by
    obtain ⟨c, hc, e⟩ := List.mem_map.1 hm
    exact hno ⟨c, List.mem_range.1 hc, e⟩, hn⟩
  have h2 := Jor.nodup_le h1 (m := List.range (3 * T.length)) (fun x hx => by
    rcases List.mem_cons.1 hx with rfl | hx
    · exact List.mem_range.2 hd
    · exact hs x hx)
  simp at h2
  omega
theorem Iso.edge (h : Iso T T' φ g) {c : Nat} (hc : c < 3 * T.length) : edgeN T' (φ c) = (g (edgeN T c).1, g (edgeN T c).2) := by
  unfold edgeN
  rw [← h.nx c hc, ← h.pv hc, h.vert _ (Jor.nx_lt hc), h.vert _ (Jor.pv_lt hc)]
/-- Across from a corner. -/
theorem opp_iff {T : List Tr} (hE : (T.flatMap edges3).Nodup) {c o : Nat} (hc : c < 3 * T.length) : oppI T (c : Int) = (o : Int) ↔ o < 3 * T.length ∧ edgeN T o = ((edgeN T c).2, (edgeN T c).1) := by
  constructor
  · exact opp_some hc
  · rintro ⟨ho, e⟩
    have h1 := facI_of hE ho
    rw [e] at h1
    have h2 : edgeI T (c : Int) = edgeN T c := by
      unfold edgeI edgeN nextI prevI vertI
      have hh : hasC T (c : Int) = true := hasC_true (by omega) (by omega)
      have h3 : hasC T (((Jor.nx c : Nat)) : Int) = true := hasC_true (by omega) (by have := Jor.nx_lt hc; omega)
      have h4 : hasC T (((Jor.pv c : Nat)) : Int) = true := hasC_true (by omega) (by have := Jor.pv_lt hc; omega)
      simp [hh, h3, h4]
    unfold oppI
    rw [h2]
    exact h1
theorem Iso.opp (h : Iso T T' φ g) (hE : (T.flatMap edges3).Nodup) (hE' : (T'.flatMap edges3).Nodup) {c o : Nat} (hc : c < 3 * T.length) (ho : oppI T (c : Int) = (o : Int)) : oppI T' ((φ c : Nat) : Int) = ((φ o : Nat) : Int) := by
  obtain ⟨h1, h2⟩ := (opp_iff hE hc).1 ho
  refine (opp_iff hE' (by rw [h.len]; exact h.lt c hc)).2 ⟨by rw [h.len]; exact h.lt o h1, ?_⟩
  rw [h.edge h1, h.edge hc, h2]
theorem Iso.opp_none (h : Iso T T' φ g) (hE : (T.flatMap edges3).Nodup) {c : Nat} (hc : c < 3 * T.length) (ho : oppI T (c : Int) = -1) : oppI T' ((φ c : Nat) : Int) = -1 := by
  rcases opp_cases T' ((φ c : Nat) : Int) with e | ⟨o', e, ho'⟩
  · exact e
  · exfalso
    obtain ⟨h1, h2⟩ := opp_some (by rw [h.len]; exact h.lt c hc) e
    rw [h.len] at h1
    obtain ⟨o, hol, rfl⟩ := h.surj h1
    rw [h.edge hol, h.edge hc] at h2
    simp only [Prod.mk.injEq] at h2
    have e1 := h.ginj _ _ (Jor.nx_lt hol) (Jor.pv_lt hc) h2.1
    have e2 := h.ginj _ _ (Jor.pv_lt hol) (Jor.nx_lt hc) h2.2
    have := (opp_iff hE hc).2 ⟨hol, by unfold edgeN; rw [e1, e2]⟩
    rw [ho] at this
    omega
/-- Old numbers that are a corner's each. -/
def VOk (T : List Tr) (old : List Int) : Prop := ∀ u ∈ old, ∃ d, d < 3 * T.length ∧ u = vertN T d
end
end Go.Proofs.YtpnkhgjjlionnaaGreat
namespace Go.Proofs.YtpnkhgjjlionnaaGreat
open Go.RowKit

/-! Parts. -/
theorem Reach.trans {T : List Tr} {i j k : Nat} (h1 : Reach T i j) (h2 : Reach T j k) : Reach T i k := fun S s0 sc => h2 S (h1 S s0 sc) sc
theorem Reach.symm {T : List Tr} (hE : (T.flatMap edges3).Nodup) {i j : Nat} (h : Reach T i j) : Reach T j i :=
  h (fun x => Reach T x i) (Reach.refl T i) (fun c o hc ho hs => by
    have h1 : Reach T (o / 3) (c / 3) := (Reach.refl T (o / 3)).step (opp_some hc ho).1 (opp_back hE hc ho)
    exact h1.trans hs)
section
variable {T T' : List Tr} {φ : Nat → Nat} {g : Int → Int}
theorem Iso.reach_back (h : Iso T T' φ g) (hE : (T.flatMap edges3).Nodup) (hE' : (T'.flatMap edges3).Nodup) {c d : Nat} (hc : c < 3 * T.length) (hd : d < 3 * T.length) (hr : Reach T' (φ c / 3) (φ d / 3)) : Reach T (c / 3) (d / 3) := by
  have hF : T'.length = T.length := h.len
  refine hr (fun x => ∀ u, u < 3 * T.length → φ u / 3 = x → Reach T (c / 3) (u / 3)) (fun u hu u3 => ?_) (fun q o hq ho hS u hu u3 => ?_) d hd rfl
  · rw [(h.tri hu hc).1 u3]
    exact Reach.refl _ _
  · rw [hF] at hq
    obtain ⟨v, hv, rfl⟩ := h.surj hq
    have h1 := hS v hv rfl
    obtain ⟨ho1, ho2⟩ := opp_some (by rw [hF]; exact h.lt v hv) ho
    rw [hF] at ho1
    obtain ⟨o', hol, rfl⟩ := h.surj ho1
    have h2 : oppI T (v : Int) = (o' : Int) := by
      rcases opp_cases T (v : Int) with e9 | ⟨o9, e9, h9⟩
      · have := h.opp_none hE hv e9
        rw [ho] at this
        omega
      · have := h.opp hE hE' hv e9
        rw [ho] at this
        have : o' = o9 := h.inj _ _ hol h9 (by omega)
        rw [e9, this]
    rw [(h.tri hu hol).1 u3]
    exact h1.step hv h2
end
/-! The best corner of a part is the least. -/
section
variable {T T' : List Tr} {φ : Nat → Nat} {g : Int → Int} {out out' : List Int} {m m' : Nat}
end
/-! Sorted lists of rows. -/
section
variable {T T' : List Tr} {φ : Nat → Nat} {g : Int → Int} {out out' : List Int} {m m' : Nat}
end
end Go.Proofs.YtpnkhgjjlionnaaGreat
namespace Go.Proofs.YtpnkhgjjlionnaaGreat
open Go.RowKit

section
variable {T T' T'' : List Tr} {φ φ' : Nat → Nat} {g g' : Int → Int}
end
/-! The form, as one list of corners and one of vertices. -/
theorem nodup_idx {l : List Nat} (h : l.Nodup) {i j x : Nat} (hi : l[i]? = some x) (hj : l[j]? = some x) : i = j := by
  obtain ⟨q1, q2⟩ := List.getElem?_eq_some_iff.1 hi
  obtain ⟨q3, q4⟩ := List.getElem?_eq_some_iff.1 hj
  have hp := List.pairwise_iff_getElem.1 (List.nodup_iff_pairwise_ne.1 h)
  rcases Nat.lt_trichotomy i j with h1 | h1 | h1
  · exact absurd (q2.trans q4.symm) (hp i j q1 q3 h1)
  · exact h1
  · exact absurd (q4.trans q2.symm) (hp j i q3 q1 h1)
/-- The k-th corner of a triangle, from one of its corners on. -/
def turnN (k d : Nat) : Nat := if k = 0 then d else if k = 1 then Jor.nx d else Jor.pv d
theorem turnN_tri (k d : Nat) : turnN k d / 3 = d / 3 := by
  unfold turnN Jor.nx Jor.pv
  split
  · rfl
  · split <;> omega
theorem turnN_inj {k j d : Nat} (hk : k < 3) (hj : j < 3) (h : turnN k d = turnN j d) : k = j := by
  unfold turnN Jor.nx Jor.pv at h
  split at h <;> split at h <;> (try split at h) <;> (try split at h) <;> omega
end Go.Proofs.YtpnkhgjjlionnaaGreat
namespace Go.Proofs.YtpnkhgjjlionnaaGreat
open Go.RowKit

theorem sort3_perm {a b c a' b' c' : Int} (h : [a, b, c].Perm [a', b', c']) : sort3 a b c = sort3 a' b' c' := by
  have hs : ∀ l : List Int, (sortL l).Pairwise (fun x y => x ≤ y) := fun l => by
    have := List.pairwise_mergeSort (le := fun x y : Int => decide (x ≤ y)) (fun a b c h1 h2 => by simp at h1 h2 ⊢; omega) (fun a b => by simp; omega) l
    exact this.imp (fun {a b} h => by simpa using h)
  have hp : ∀ l : List Int, (sortL l).Perm l := fun l => List.mergeSort_perm l _
  have key : ∀ {l l' : List Int}, l.Perm l' → l.Pairwise (fun x y => x ≤ y) → l'.Pairwise (fun x y => x ≤ y) → l = l' := by
    intro l
    induction l with
    | nil => intro l' h _ _; exact List.Perm.nil_eq h
    | cons x r ih =>
      intro l' h h1 h2
      cases l' with
      | nil => have := h.length_eq; simp at this
      | cons y s =>
        obtain ⟨a1, a2⟩ := List.pairwise_cons.1 h1
        obtain ⟨b1, b2⟩ := List.pairwise_cons.1 h2
        have hxy : x = y := by
          have hx : x ∈ y :: s := h.mem_iff.1 (List.mem_cons_self ..)
          have hy : y ∈ x :: r := h.mem_iff.2 (List.mem_cons_self ..)
          rcases List.mem_cons.1 hx with e | hx
          · exact e
          · rcases List.mem_cons.1 hy with e | hy
            · exact e.symm
            · have := a1 y hy
              have := b1 x hx
              omega
        subst hxy
        rw [ih (List.Perm.cons_inv h) a2 b2]
  have e := key (((hp [a, b, c]).trans h).trans (hp [a', b', c']).symm) (hs _) (hs _)
  unfold sort3
  rw [e]
theorem sort3_has {a b c a' b' c' : Int} (h : sort3 a b c = sort3 a' b' c') : [a, b, c].Perm [a', b', c'] := by
  have e : sortL [a, b, c] = sortL [a', b', c'] := by rw [sort3_eq, sort3_eq, h]
  have hp : ∀ l : List Int, (sortL l).Perm l := fun l => List.mergeSort_perm l _
  exact (hp _).symm.trans (by rw [e]; exact hp _)
theorem hasV_mem {t : Tr} {x : Int} : hasV t x ↔ x ∈ [t.1, t.2.1, t.2.2] := by
  unfold hasV
  simp
/-- One triangle over there: turned, or turned and mirrored, in other numbers. -/
def Turned (r : Bool) (g : Int → Int) (t t' : Tr) : Prop :=
  match r with
  | false => t' = (g t.1, g t.2.1, g t.2.2) ∨ t' = (g t.2.1, g t.2.2, g t.1) ∨ t' = (g t.2.2, g t.1, g t.2.1)
  | true => t' = (g t.1, g t.2.2, g t.2.1) ∨ t' = (g t.2.2, g t.2.1, g t.1) ∨ t' = (g t.2.1, g t.1, g t.2.2)
theorem Turned.perm {r : Bool} {g : Int → Int} {t t' : Tr} (h : Turned r g t t') : [t'.1, t'.2.1, t'.2.2].Perm [g t.1, g t.2.1, g t.2.2] := by
  have p1 : ∀ a b c : Int, [b, c, a].Perm [a, b, c] := fun a b c => (List.perm_append_comm (l₁ := [b, c]) (l₂ := [a]))
  have p2 : ∀ a b c : Int, [c, a, b].Perm [a, b, c] := fun a b c => (List.perm_append_comm (l₁ := [c]) (l₂ := [a, b]))
  have p3 : ∀ a b c : Int, [a, c, b].Perm [a, b, c] := fun a b c => (List.Perm.swap b c []).cons a
  cases r with
  | false =>
    rcases h with h | h | h
    · rw [h]
    · rw [h]; exact p1 _ _ _
    · rw [h]; exact p2 _ _ _
  | true =>
    rcases h with h | h | h
    · rw [h]; exact p3 _ _ _
    · rw [h]; exact (p1 _ _ _).trans (p3 _ _ _)
    · rw [h]; exact (p2 _ _ _).trans (p3 _ _ _)
theorem Turned.edges {r : Bool} {g : Int → Int} {t t' : Tr} (h : Turned r g t t') : (edges3 t').Perm ((edges3 t).map fun e => if r then (g e.2.1, g e.1, 0) else (g e.1, g e.2.1, 0)) := by
  have p1 : ∀ a b c : Tr, [b, c, a].Perm [a, b, c] := fun a b c => (List.perm_append_comm (l₁ := [b, c]) (l₂ := [a]))
  have p2 : ∀ a b c : Tr, [c, a, b].Perm [a, b, c] := fun a b c => (List.perm_append_comm (l₁ := [c]) (l₂ := [a, b]))
  have p3 : ∀ a b c : Tr, [c, b, a].Perm [a, b, c] := fun a b c => (p2 a b c |> fun _ => ((List.Perm.swap b c [a]).trans (p1 a b c)))
  cases r with
  | false =>
    rcases h with h | h | h
    · rw [h]; exact List.Perm.refl _
    · rw [h]; exact p1 _ _ _
    · rw [h]; exact p2 _ _ _
  | true =>
    rcases h with h | h | h
    · rw [h]
      show [(g t.1, g t.2.2, (0 : Int)), (g t.2.2, g t.2.1, 0), (g t.2.1, g t.1, 0)].Perm [(g t.2.1, g t.1, 0), (g t.2.2, g t.2.1, 0), (g t.1, g t.2.2, 0)]
      exact p3 _ _ _
    · rw [h]
      show [(g t.2.2, g t.2.1, (0 : Int)), (g t.2.1, g t.1, 0), (g t.1, g t.2.2, 0)].Perm [(g t.2.1, g t.1, 0), (g t.2.2, g t.2.1, 0), (g t.1, g t.2.2, 0)]
      exact List.Perm.swap _ _ _
    · rw [h]
      show [(g t.2.1, g t.1, (0 : Int)), (g t.1, g t.2.2, 0), (g t.2.2, g t.2.1, 0)].Perm [(g t.2.1, g t.1, 0), (g t.2.2, g t.2.1, 0), (g t.1, g t.2.2, 0)]
      exact (List.Perm.swap _ _ _).cons _
/-- The triangles of T are those of T', in another order, turned (or turned and mirrored), in other numbers. -/
structure Mv (r : Bool) (T T' : List Tr) (π : Nat → Nat) (g : Int → Int) : Prop where
  len : T'.length = T.length
  lt : ∀ i, i < T.length → π i < T.length
  inj : ∀ i j, i < T.length → j < T.length → π i = π j → i = j
  tri : ∀ i t, T[i]? = some t → ∃ t', T'[π i]? = some t' ∧ Turned r g t t'
  ginj : ∀ t ∈ T, ∀ s ∈ T, ∀ x y, hasV t x → hasV s y → g x = g y → x = y
theorem Turned.has {r : Bool} {g : Int → Int} {t t' : Tr} (h : Turned r g t t') {u : Int} : hasV t' u ↔ ∃ x, hasV t x ∧ u = g x := by
  rw [hasV_mem, h.perm.mem_iff]
  simp only [List.mem_cons, List.not_mem_nil, or_false]
  unfold hasV
  constructor
  · rintro (e | e | e)
    · exact ⟨_, .inl rfl, e⟩
    · exact ⟨_, .inr (.inl rfl), e⟩
    · exact ⟨_, .inr (.inr rfl), e⟩
  · rintro ⟨x, e | e | e, rfl⟩
    · exact .inl (by rw [e])
    · exact .inr (.inl (by rw [e]))
    · exact .inr (.inr (by rw [e]))
section
variable {r : Bool} {T T' : List Tr} {π : Nat → Nat} {g : Int → Int}
theorem Mv.range (h : Mv r T T' π g) : ((List.range T.length).map π).Perm (List.range T.length) := by
  have hn : ((List.range T.length).map π).Nodup := by
    rw [List.nodup_iff_pairwise_ne, List.pairwise_map]
    refine List.Pairwise.imp_of_mem ?_ (List.nodup_iff_pairwise_ne.1 List.nodup_range)
    intro a b ha hb hab e
    exact hab (h.inj _ _ (List.mem_range.1 ha) (List.mem_range.1 hb) e)
  have hs : ∀ x ∈ (List.range T.length).map π, x ∈ List.range T.length := by
    intro x hx
    obtain ⟨c, hc, rfl⟩ := List.mem_map.1 hx
    exact List.mem_range.2 (h.lt c (List.mem_range.1 hc))
  refine (List.perm_ext_iff_of_nodup hn List.nodup_range).2 fun d => ⟨hs d, fun hd => ?_⟩
  refine Classical.byContradiction fun hno => ?_
  have h2 := Jor.nodup_le (List.nodup_cons.2 ⟨hno, hn⟩) (m := List.range T.length) (fun x hx => by
    rcases List.mem_cons.1 hx with rfl | hx
    · exact hd
    · exact hs x hx)
  simp at h2
  omega
theorem Mv.surj (h : Mv r T T' π g) {k : Nat} (hk : k < T.length) : ∃ i, i < T.length ∧ π i = k := by
  have := h.range.mem_iff.2 (List.mem_range.2 hk)
  obtain ⟨i, hi, e⟩ := List.mem_map.1 this
  exact ⟨i, List.mem_range.1 hi, e⟩
/-- Whoever stands over there came from here. -/
theorem Mv.from_ (h : Mv r T T' π g) {k : Nat} {t' : Tr} (hk : T'[k]? = some t') : ∃ i t, i < T.length ∧ π i = k ∧ T[i]? = some t ∧ Turned r g t t' := by
  have hk' := (List.getElem?_eq_some_iff.1 hk).1
  rw [h.len] at hk'
  obtain ⟨i, hi, e⟩ := h.surj hk'
  obtain ⟨t'', e1, e2⟩ := h.tri i T[i] (List.getElem?_eq_getElem hi)
  rw [e, hk] at e1
  cases e1
  exact ⟨i, T[i], hi, e, List.getElem?_eq_getElem hi, e2⟩
/-- The triangles over there in the order of those here. -/
def Mv.ord (T T' : List Tr) (π : Nat → Nat) : List Tr := (List.range T.length).map fun i => T'.getD (π i) (0, 0, 0)
theorem Mv.perm (h : Mv r T T' π g) : T'.Perm (Mv.ord T T' π) := by
  have e1 : T' = (List.range T.length).map fun k => T'.getD k (0, 0, 0) := by
    apply List.ext_getElem?
    intro k
    rw [List.getElem?_map]
    by_cases hk : k < T.length
    · rw [List.getElem?_range hk]
      have : k < T'.length := by rw [h.len]; exact hk
      simp [List.getD, List.getElem?_eq_getElem this]
    · rw [List.getElem?_eq_none (by rw [h.len]; omega), List.getElem?_eq_none (by simp; omega)]
      rfl
  have e2 : Mv.ord T T' π = ((List.range T.length).map π).map fun k => T'.getD k (0, 0, 0) := by
    unfold Mv.ord
    rw [List.map_map]
    rfl
  rw [e2]
  have h1 := (h.range.map fun k => T'.getD k (0, 0, 0)).symm
  rw [← e1] at h1
  exact h1
theorem Mv.ord_at (h : Mv r T T' π g) {i : Nat} {t : Tr} (hi : T[i]? = some t) : ∃ t', (Mv.ord T T' π)[i]? = some t' ∧ Turned r g t t' := by
  have hl := (List.getElem?_eq_some_iff.1 hi).1
  obtain ⟨t', e1, e2⟩ := h.tri i t hi
  refine ⟨t', ?_, e2⟩
  unfold Mv.ord
  rw [List.getElem?_map, List.getElem?_range hl]
  simp [List.getD, e1]
/-- Lists side by side, triangle by triangle. -/
theorem flat_side {α : Type} {f h : Tr → List α} : ∀ {A B : List Tr}, A.length = B.length → (∀ (i : Nat) (t : Tr), A[i]? = some t → ∃ t' : Tr, B[i]? = some t' ∧ (f t').Perm (h t)) → (B.flatMap f).Perm (A.flatMap h)
  | [], [], _, _ => List.Perm.refl _
  | [], _ :: _, e, _ => by simp at e
  | _ :: _, [], e, _ => by simp at e
  | a :: A, b :: B, e, hh => by
    rw [List.flatMap_cons, List.flatMap_cons]
    obtain ⟨t', e1, e2⟩ := hh 0 a rfl
    have e1 : b = t' := by simpa using e1
    rw [e1]
    exact e2.append (flat_side (by simpa using e) (fun i t hi => hh (i + 1) t (by simpa using hi)))
theorem nodup_map_on {α β : Type} {f : α → β} : ∀ {l : List α}, l.Nodup → (∀ x ∈ l, ∀ y ∈ l, f x = f y → x = y) → (l.map f).Nodup
  | [], _, _ => List.nodup_nil
  | a :: l, h, hf => by
    obtain ⟨h1, h2⟩ := List.nodup_cons.1 h
    rw [List.map_cons, List.nodup_cons]
    refine ⟨fun hm => ?_, nodup_map_on h2 (fun x hx y hy => hf x (List.mem_cons_of_mem _ hx) y (List.mem_cons_of_mem _ hy))⟩
    obtain ⟨x, hx, e⟩ := List.mem_map.1 hm
    have := hf x (List.mem_cons_of_mem _ hx) a (List.mem_cons_self ..) e
    rw [this] at hx
    exact h1 hx
theorem edges3_has {t e : Tr} (h : e ∈ edges3 t) : hasV t e.1 ∧ hasV t e.2.1 ∧ e.2.2 = 0 := by
  unfold edges3 at h
  simp only [List.mem_cons, List.not_mem_nil, or_false] at h
  unfold hasV
  rcases h with rfl | rfl | rfl
  · exact ⟨.inl rfl, .inr (.inl rfl), rfl⟩
  · exact ⟨.inr (.inl rfl), .inr (.inr rfl), rfl⟩
  · exact ⟨.inr (.inr rfl), .inl rfl, rfl⟩
theorem Mv.twice (h : Mv r T T' π g) (hE : (T.flatMap edges3).Nodup) : (T'.flatMap edges3).Nodup := by
  have p1 : (T'.flatMap edges3).Perm ((Mv.ord T T' π).flatMap edges3) := h.perm.flatMap_right _
  have hl : T.length = (Mv.ord T T' π).length := by unfold Mv.ord; simp
  have p2 := flat_side (f := edges3) (h := fun t => (edges3 t).map fun e => if r then (g e.2.1, g e.1, (0 : Int)) else (g e.1, g e.2.1, 0)) hl (fun i t hi => by
    obtain ⟨t', e1, e2⟩ := h.ord_at hi
    exact ⟨t', e1, e2.edges⟩)
  have e3 : (T.flatMap fun t => (edges3 t).map fun e => if r then (g e.2.1, g e.1, (0 : Int)) else (g e.1, g e.2.1, 0)) = (T.flatMap edges3).map fun e => if r then (g e.2.1, g e.1, (0 : Int)) else (g e.1, g e.2.1, 0) := by rw [List.map_flatMap]
  rw [e3] at p2
  refine ((p1.trans p2).nodup_iff).2 (nodup_map_on hE fun x hx y hy e => ?_)
  obtain ⟨t, ht, hx⟩ := List.mem_flatMap.1 hx
  obtain ⟨s, hs, hy⟩ := List.mem_flatMap.1 hy
  obtain ⟨x1, x2, x3⟩ := edges3_has hx
  obtain ⟨y1, y2, y3⟩ := edges3_has hy
  have h1 : g x.1 = g y.1 ∧ g x.2.1 = g y.2.1 := by
    cases r with
    | false => simp only [Bool.false_eq_true, if_false, Prod.mk.injEq] at e; exact ⟨e.1, e.2.1⟩
    | true => simp only [if_true, Prod.mk.injEq] at e; exact ⟨e.2.1, e.1⟩
  obtain ⟨a, b, c⟩ := x
  obtain ⟨a', b', c'⟩ := y
  simp only at x1 x2 x3 y1 y2 y3 h1 ⊢
  rw [h.ginj t ht s hs _ _ x1 y1 h1.1, h.ginj t ht s hs _ _ x2 y2 h1.2, x3, y3]
theorem perm_of_has {t s : Tr} (ht : simple3 t) (hs : simple3 s) (h : ∀ x, hasV t x ↔ hasV s x) : [t.1, t.2.1, t.2.2].Perm [s.1, s.2.1, s.2.2] := by
  have nd : ∀ {t : Tr}, simple3 t → [t.1, t.2.1, t.2.2].Nodup := fun {t} h => by
    obtain ⟨a, b, c⟩ := h
    simp only [List.nodup_cons, List.mem_cons, List.not_mem_nil, or_false, not_or, not_false_eq_true, List.nodup_nil, and_true]
    exact ⟨⟨a, fun e => c e.symm⟩, b⟩
  refine (List.perm_ext_iff_of_nodup (nd ht) (nd hs)).2 fun x => ?_
  rw [← hasV_mem, ← hasV_mem]
  exact h x
theorem key3_idx {T : List Tr} (h : (T.flatMap key3).Nodup) {i j : Nat} {t s : Tr} (hi : T[i]? = some t) (hj : T[j]? = some s) (e : sort3 t.1 t.2.1 t.2.2 = sort3 s.1 s.2.1 s.2.2) : i = j := by
  have e1 : T.flatMap key3 = T.map fun t => sort3 t.1 t.2.1 t.2.2 := by
    have : ∀ l : List Tr, l.flatMap key3 = l.map fun t => sort3 t.1 t.2.1 t.2.2 := fun l => by
      induction l with
      | nil => rfl
      | cons a l ih => rw [List.flatMap_cons, ih]; rfl
    exact this T
  rw [e1] at h
  have hp := List.pairwise_iff_getElem.1 (List.nodup_iff_pairwise_ne.1 h)
  obtain ⟨q1, q2⟩ := List.getElem?_eq_some_iff.1 hi
  obtain ⟨q3, q4⟩ := List.getElem?_eq_some_iff.1 hj
  rcases Nat.lt_trichotomy i j with h1 | h1 | h1
  · exact absurd (by rw [List.getElem_map, List.getElem_map, q2, q4]; exact e) (hp i j (by rw [List.length_map]; exact q1) (by rw [List.length_map]; exact q3) h1)
  · exact h1
  · exact absurd (by rw [List.getElem_map, List.getElem_map, q2, q4]; exact e.symm) (hp j i (by rw [List.length_map]; exact q3) (by rw [List.length_map]; exact q1) h1)
theorem key3_of {T : List Tr} (h : ∀ (i j : Nat) (t s : Tr), T[i]? = some t → T[j]? = some s → sort3 t.1 t.2.1 t.2.2 = sort3 s.1 s.2.1 s.2.2 → i = j) : (T.flatMap key3).Nodup := by
  have e1 : T.flatMap key3 = T.map fun t => sort3 t.1 t.2.1 t.2.2 := by
    have : ∀ l : List Tr, l.flatMap key3 = l.map fun t => sort3 t.1 t.2.1 t.2.2 := fun l => by
      induction l with
      | nil => rfl
      | cons a l ih => rw [List.flatMap_cons, ih]; rfl
    exact this T
  rw [e1, List.nodup_iff_pairwise_ne]
  refine List.pairwise_iff_getElem.2 fun i j hi hj hij e => ?_
  simp only [List.getElem_map] at e
  have := h i j _ _ (List.getElem?_eq_getElem (by simpa using hi)) (List.getElem?_eq_getElem (by simpa using hj)) e
  omega
theorem Turned.simple {r : Bool} {g : Int → Int} {t t' : Tr} (h : Turned r g t t') (ht : simple3 t) (hg : ∀ x y, hasV t x → hasV t y → g x = g y → x = y) : simple3 t' := by
  obtain ⟨a, b, c⟩ := ht
  have v1 : hasV t t.1 := .inl rfl
  have v2 : hasV t t.2.1 := .inr (.inl rfl)
  have v3 : hasV t t.2.2 := .inr (.inr rfl)
  have n1 : g t.1 ≠ g t.2.1 := fun e => a (hg _ _ v1 v2 e)
  have n2 : g t.2.1 ≠ g t.2.2 := fun e => b (hg _ _ v2 v3 e)
  have n3 : g t.2.2 ≠ g t.1 := fun e => c (hg _ _ v3 v1 e)
  cases r with
  | false =>
    rcases h with h | h | h <;> rw [h]
    · exact ⟨n1, n2, n3⟩
    · exact ⟨n2, n3, n1⟩
    · exact ⟨n3, n1, n2⟩
  | true =>
    rcases h with h | h | h <;> rw [h]
    · exact ⟨fun e => n3 e.symm, fun e => n2 e.symm, fun e => n1 e.symm⟩
    · exact ⟨fun e => n2 e.symm, fun e => n1 e.symm, fun e => n3 e.symm⟩
    · exact ⟨fun e => n1 e.symm, fun e => n3 e.symm, fun e => n2 e.symm⟩
theorem Mv.mirrored (h : Mv r T T' π g) (hs : ∀ t ∈ T, simple3 t) (hK : (T.flatMap key3).Nodup) : (T'.flatMap key3).Nodup := by
  refine key3_of fun k l t' s' hk hl e => ?_
  obtain ⟨i, t, hi, rfl, ht, tt⟩ := h.from_ hk
  obtain ⟨j, s, hj, rfl, hs', ts⟩ := h.from_ hl
  have htm := List.mem_of_getElem? ht
  have hsm := List.mem_of_getElem? hs'
  have hp := sort3_has e
  have hsame : ∀ x, hasV t x ↔ hasV s x := by
    intro x
    constructor
    · intro hx
      have h1 : hasV t' (g x) := tt.has.2 ⟨x, hx, rfl⟩
      rw [hasV_mem, hp.mem_iff, ← hasV_mem] at h1
      obtain ⟨y, hy, e2⟩ := ts.has.1 h1
      rw [h.ginj t htm s hsm x y hx hy e2]
      exact hy
    · intro hx
      have h1 : hasV s' (g x) := ts.has.2 ⟨x, hx, rfl⟩
      rw [hasV_mem, ← hp.mem_iff, ← hasV_mem] at h1
      obtain ⟨y, hy, e2⟩ := tt.has.1 h1
      rw [h.ginj s hsm t htm x y hx hy e2]
      exact hy
  rw [key3_idx hK ht hs' (sort3_perm (perm_of_has (hs t htm) (hs s hsm) hsame))]
end
/-! Connected, from whomever on. -/
theorem adjV_symm {T : List Tr} {v : Int} {i k : Nat} (h : adjV T v i k) : adjV T v k i := by
  obtain ⟨a, b, x, h1, h2, h3, h4, h5⟩ := h
  exact ⟨b, a, x, h2, h1, h3, h5, h4⟩
def Link (T : List Tr) (v : Int) (l : List Nat) (i k : Nat) : Prop := ∀ S : Nat → Prop, S i → (∀ i ∈ l, ∀ k ∈ l, S i → adjV T v i k → S k) → S k
theorem Link.trans {T : List Tr} {v : Int} {l : List Nat} {i j k : Nat} (h1 : Link T v l i j) (h2 : Link T v l j k) : Link T v l i k := fun S a b => h2 S (h1 S a b) b
theorem ConnV.any {T : List Tr} {v : Int} {l : List Nat} (h : ConnV T v l) {i k : Nat} (hi : i ∈ l) (hk : k ∈ l) : Link T v l i k := by
  obtain ⟨a, r, rfl⟩ : ∃ a r, l = a :: r := by
    cases l with
    | nil => cases hi
    | cons a r => exact ⟨a, r, rfl⟩
  have h1 : ∀ k ∈ a :: r, Link T v (a :: r) a k ∧ Link T v (a :: r) k a := h (fun k => Link T v (a :: r) a k ∧ Link T v (a :: r) k a) (fun i e => by
    have : i = a := by simpa using e.symm
    subst this
    exact ⟨fun S s _ => s, fun S s _ => s⟩) (fun i hi k hk hs ha => by
    have s1 : Link T v (a :: r) i k := fun S s c => c i hi k hk s ha
    have s2 : Link T v (a :: r) k i := fun S s c => c k hk i hi s (adjV_symm ha)
    exact ⟨hs.1.trans s1, s2.trans hs.2⟩)
  exact (h1 i hi).2.trans (h1 k hk).1
theorem ConnV.of_any {T : List Tr} {v : Int} {l : List Nat} (h : ∀ i ∈ l, ∀ k ∈ l, Link T v l i k) : ConnV T v l := fun S s0 sc k hk => by
  cases l with
  | nil => cases hk
  | cons a r => exact h a (List.mem_cons_self ..) k hk S (s0 a rfl) sc
section
variable {r : Bool} {T T' : List Tr} {π : Nat → Nat} {g : Int → Int}
theorem Mv.pinch (h : Mv r T T' π g) {t0 : Tr} {i0 : Nat} {x : Int} (h0 : T[i0]? = some t0) (hx : hasV t0 x) (hc : ConnV T x (atV T x)) : ConnV T' (g x) (atV T' (g x)) := by
  have ht0 := List.mem_of_getElem? h0
  -- who is at g x over there came from one at x here
  have back : ∀ k, k ∈ atV T' (g x) → ∃ i, i ∈ atV T x ∧ π i = k := by
    intro k hk
    obtain ⟨t', e1, e2⟩ := atV_mem.1 hk
    obtain ⟨i, t, hi, e3, e4, e5⟩ := h.from_ e1
    obtain ⟨y, hy, e6⟩ := e5.has.1 e2
    have := h.ginj t0 ht0 t (List.mem_of_getElem? e4) x y hx hy e6
    rw [← this] at hy
    exact ⟨i, atV_mem.2 ⟨t, e4, hy⟩, e3⟩
  have forth : ∀ i, i ∈ atV T x → π i ∈ atV T' (g x) := by
    intro i hi
    obtain ⟨t, e1, e2⟩ := atV_mem.1 hi
    obtain ⟨t', e3, e4⟩ := h.tri i t e1
    exact atV_mem.2 ⟨t', e3, e4.has.2 ⟨x, e2, rfl⟩⟩
  have step : ∀ i k, adjV T x i k → adjV T' (g x) (π i) (π k) := by
    rintro i k ⟨a, b, y, h1, h2, h3, h4, h5⟩
    obtain ⟨a', a1, a2⟩ := h.tri i a h1
    obtain ⟨b', b1, b2⟩ := h.tri k b h2
    refine ⟨a', b', g y, a1, b1, fun e => h3 ?_, a2.has.2 ⟨y, h4, rfl⟩, b2.has.2 ⟨y, h5, rfl⟩⟩
    exact h.ginj a (List.mem_of_getElem? h1) t0 ht0 y x h4 hx e
  refine ConnV.of_any fun k hk l hl => ?_
  obtain ⟨i, hi, rfl⟩ := back k hk
  obtain ⟨j, hj, rfl⟩ := back l hl
  intro S s0 sc
  exact hc.any hi hj (fun i => S (π i)) s0 (fun i hi k hk hs ha => sc _ (forth i hi) _ (forth k hk) hs (step i k ha))
theorem flatT_has {T : List Tr} {u : Int} : u ∈ flatT T ↔ ∃ t ∈ T, hasV t u := by
  unfold flatT
  rw [List.mem_flatMap]
  constructor
  · rintro ⟨t, ht, hu⟩
    exact ⟨t, ht, hasV_mem.2 hu⟩
  · rintro ⟨t, ht, hu⟩
    exact ⟨t, ht, hasV_mem.1 hu⟩
theorem in3_has {N : Int} {t : Tr} : in3 N t ↔ ∀ x, hasV t x → inR N x := by
  unfold in3 hasV
  constructor
  · rintro ⟨a, b, c⟩ x (rfl | rfl | rfl) <;> assumption
  · intro h
    exact ⟨h _ (.inl rfl), h _ (.inr (.inl rfl)), h _ (.inr (.inr rfl))⟩
/-- A surface stays one. -/
theorem Mv.surf (h : Mv r T T' π g) {N N' : Int} (hS : Surf N T) (h0 : 0 ≤ N') (h1 : N' ≤ 4096) (hin : ∀ x, inR N x → inR N' (g x)) (hco : ∀ u, inR N' u → ∃ x, inR N x ∧ g x = u) : Surf N' T' where
  n0 := h0
  n1 := h1
  len := by rw [h.len]; exact hS.len
  inr := fun t' ht' => by
    obtain ⟨k, hk, e⟩ := List.getElem_of_mem ht'
    obtain ⟨i, t, hi, -, e2, e3⟩ := h.from_ (k := k) (t' := t') (by rw [List.getElem?_eq_getElem hk, e])
    refine in3_has.2 fun u hu => ?_
    obtain ⟨x, hx, rfl⟩ := e3.has.1 hu
    exact hin x (in3_has.1 (hS.inr t (List.mem_of_getElem? e2)) x hx)
  simple := fun t' ht' => by
    obtain ⟨k, hk, e⟩ := List.getElem_of_mem ht'
    obtain ⟨i, t, hi, -, e2, e3⟩ := h.from_ (k := k) (t' := t') (by rw [List.getElem?_eq_getElem hk, e])
    have hm := List.mem_of_getElem? e2
    exact e3.simple (hS.simple t hm) (fun x y hx hy e => h.ginj t hm t hm x y hx hy e)
  twice := h.twice hS.twice
  mirrored := h.mirrored hS.simple hS.mirrored
  lonely := fun u hu => by
    obtain ⟨x, hx, rfl⟩ := hco u hu
    obtain ⟨t, ht, hxt⟩ := flatT_has.1 (hS.lonely x hx)
    obtain ⟨i, hi, e⟩ := List.getElem_of_mem ht
    obtain ⟨t', e1, e2⟩ := h.tri i t (by rw [List.getElem?_eq_getElem hi, e])
    exact flatT_has.2 ⟨t', List.mem_of_getElem? e1, e2.has.2 ⟨x, hxt, rfl⟩⟩
  pinch := fun u hu => by
    obtain ⟨x, hx, rfl⟩ := hco u hu
    obtain ⟨t, ht, hxt⟩ := flatT_has.1 (hS.lonely x hx)
    obtain ⟨i, hi, e⟩ := List.getElem_of_mem ht
    exact h.pinch (i0 := i) (t0 := t) (by rw [List.getElem?_eq_getElem hi, e]) hxt (hS.pinch x hx)
end
end Go.Proofs.YtpnkhgjjlionnaaGreat
namespace Go.Proofs.YtpnkhgjjlionnaaGreat
open Go.RowKit

structure WSt where
  come : List Int
  loop : List Int
  wait : List (List Int)
structure WStep where
  letter : Int
  corner : Int
  loops : Nat
  length : Nat
/-- One step; none: there is no sense in it. -/
def stepM (T : List Tr) (s : WSt) : Option (WStep × WSt) :=
  match s.loop with
  | a :: b :: r =>
    if facI T (a, b) < 0 then none
    else if vertI T (facI T (a, b)) ∉ s.come then some (⟨67, facI T (a, b), s.wait.length, r.length + 2⟩, ⟨s.come ++ [vertI T (facI T (a, b))], a :: vertI T (facI T (a, b)) :: b :: r, s.wait⟩)
    else if r.length = 1 then some (⟨69, facI T (a, b), s.wait.length, r.length + 2⟩, ⟨s.come, s.wait.getLast?.getD [], s.wait.dropLast⟩)
    else if Lib.idxOf (a :: b :: r) (vertI T (facI T (a, b))) = r.length + 1 then some (⟨76, facI T (a, b), s.wait.length, r.length + 2⟩, ⟨s.come, vertI T (facI T (a, b)) :: (b :: r).dropLast, s.wait⟩)
    else if Lib.idxOf (a :: b :: r) (vertI T (facI T (a, b))) = 2 then some (⟨82, facI T (a, b), s.wait.length, r.length + 2⟩, ⟨s.come, a :: r, s.wait⟩)
    else if 2 < Lib.idxOf (a :: b :: r) (vertI T (facI T (a, b))) then some (⟨83, facI T (a, b), s.wait.length, r.length + 2⟩, ⟨s.come, a :: (a :: b :: r).drop (Lib.idxOf (a :: b :: r) (vertI T (facI T (a, b)))).toNat, s.wait ++ [vertI T (facI T (a, b)) :: (b :: r).take ((Lib.idxOf (a :: b :: r) (vertI T (facI T (a, b)))).toNat - 1)]⟩)
    else none
  | _ => none
def hdI (T : List Tr) (c : Nat) : Int := vertN T (Jor.nx c)
/-- The numbers are those of the corners. -/
structure WRel (T : List Tr) (D : List Nat) (Xs : List (List Nat)) (s : WSt) : Prop where
  come : ∀ c, c < 3 * T.length → (vertN T c ∈ s.come ↔ Jor.Come T.length (verN T) D (verN T c))
  nd : s.come.Nodup
  rng : ∀ v ∈ s.come, ∃ c, c < 3 * T.length ∧ vertN T c = v
  loop : s.loop = (Xs.headD []).map (hdI T)
  wait : s.wait = (Xs.tail.map fun X => X.map (hdI T)).reverse
theorem idxOf_at {l m : List Int} {v : Int} (h : v ∉ l) : Lib.idxOf (l ++ v :: m) v = l.length := by
  have := Lib.idxOf_hit (l ++ v :: m) (l ++ v :: m).length l.length v (by simp) (Nat.le_refl _) (by simp [List.getD]) (fun j hj e => h (by
    have : (l ++ v :: m).getD j 0 = l[j] := by simp [List.getD, List.getElem?_append_left hj, List.getElem?_eq_getElem hj]
    rw [this] at e
    rw [← e]
    exact List.getElem_mem _))
  rwa [List.take_length] at this
variable {N : Int} {T : List Tr} {d0 : Nat} {D : List Nat}
theorem hdI_opp (hc : ClosedT T) {c : Nat} (h : c < 3 * T.length) : hdI T (oppN T c) = vertN T (Jor.pv c) := by
  obtain ⟨_, h2⟩ := opp_some h (hc.opp h)
  have := congrArg Prod.fst h2
  simpa [edgeN, hdI] using this
theorem stepM_ok (hS : Surf N T) (hc : ClosedT T) (K : Jor.Walks T.length N.toNat (oppN T) (verN T)) {c0 : Nat} {r : List Nat} {W : List (List Nat)} {s : WSt}
    (h : Jor.WInv T.length (oppN T) (verN T) d0 D ((c0 :: r) :: W)) (R : WRel T D ((c0 :: r) :: W) s) :
    ∃ l s' Xs', stepM T s = some (⟨l, (c0 : Int), W.length, r.length + 1⟩, s') ∧ Jor.WInv T.length (oppN T) (verN T) d0 (c0 / 3 :: D) Xs' ∧ WRel T (c0 / 3 :: D) Xs' s' ∧
      ((l = 67 ∧ s'.come = s.come ++ [vertN T c0] ∧ Xs'.length = W.length + 1 ∧ s'.loop.length = r.length + 2) ∨ (l = 69 ∧ s'.come = s.come ∧ Xs'.length = W.length ∧ r.length = 2) ∨ ((l = 76 ∨ l = 82) ∧ s'.come = s.come ∧ Xs'.length = W.length + 1 ∧ s'.loop.length = r.length) ∨ (l = 83 ∧ s'.come = s.come ∧ Xs'.length = W.length + 2)) := by
  have hX : (c0 :: r) ∈ (c0 :: r) :: W := List.mem_cons_self ..
  have h0 : Jor.Bd T.length (oppN T) D c0 := h.mem hX (List.mem_cons_self ..)
  have hl0 := h0.1
  have ha : Jor.pv c0 < 3 * T.length := Jor.pv_lt hl0
  have hb : Jor.nx c0 < 3 * T.length := Jor.nx_lt hl0
  have hlen := h.len _ hX
  obtain ⟨b, r', rfl⟩ : ∃ b r', r = b :: r' := List.exists_cons_of_ne_nil (by rintro rfl; simp at hlen)
  have hbm : b ∈ c0 :: b :: r' := by simp
  have hbl := (h.mem hX hbm).1
  have e1 : vertN T (Jor.pv c0) = hdI T b := by
    obtain ⟨c', r'', e', hcyc⟩ := h.cyc _ hX
    cases e'
    simp only [List.map_cons, List.cons_append, List.cons.injEq] at hcyc
    exact (verN_eq hS ha (Jor.nx_lt hbl)).1 hcyc.1
  have hloop : s.loop = hdI T c0 :: hdI T b :: r'.map (hdI T) := R.loop
  have hwl : s.wait.length = W.length := by rw [R.wait]; simp
  have hfac : facI T (hdI T c0, hdI T b) = (c0 : Int) := by
    rw [← e1]
    exact facI_of hS.twice hl0
  have hv : vertI T (c0 : Int) = vertN T c0 := vertI_nat hl0
  have hrl : (r'.map (hdI T)).length = r'.length := by simp
  have hcs := Jor.come_step K h0
  have hoa : hdI T (oppN T (Jor.pv c0)) = hdI T c0 := by rw [hdI_opp hc ha, Jor.pv_pv]; rfl
  have hob : hdI T (oppN T (Jor.nx c0)) = vertN T c0 := by rw [hdI_opp hc hb, Jor.pv_nx]
  rcases h.next K with ⟨hn, hI⟩ | ⟨hcm, r1, e, r2, hr, hev, hr1, hI⟩
  · have hnv : vertN T c0 ∉ s.come := fun hm => hn ((R.come c0 hl0).1 hm)
    refine ⟨67, ⟨s.come ++ [vertN T c0], hdI T c0 :: vertN T c0 :: hdI T b :: r'.map (hdI T), s.wait⟩, _, ?_, hI, ⟨?_, ?_, ?_, ?_, ?_⟩, .inl ⟨rfl, rfl, by simp, by simp⟩⟩
    · unfold stepM
      rw [hloop]
      simp only [hfac, hv]
      rw [if_neg (by omega), if_pos hnv, hwl, hrl]
      rfl
    · intro c hcl
      rw [hcs, ← R.come c hcl, List.mem_append, List.mem_singleton, verN_eq hS hcl hl0]
    · rw [List.nodup_append]
      exact ⟨R.nd, by simp, fun a ha b hb e => by rw [List.mem_singleton.1 hb] at e; exact hnv (by rw [← e]; exact ha)⟩
    · intro v hvm
      rcases List.mem_append.1 hvm with hvm | hvm
      · exact R.rng v hvm
      · rw [List.mem_singleton.1 hvm]
        exact ⟨c0, hl0, rfl⟩
    · simp [hoa, hob]
    · exact R.wait
  · have hvm : vertN T c0 ∈ s.come := (R.come c0 hl0).2 hcm
    have hem : e ∈ c0 :: b :: r' := by rw [hr]; simp
    have hel := (h.mem hX hem).1
    have hev' : hdI T e = vertN T c0 := (verN_eq hS (Jor.nx_lt hel) hl0).1 hev
    have hcome : ∀ c, c < 3 * T.length → (vertN T c ∈ s.come ↔ Jor.Come T.length (verN T) (c0 / 3 :: D) (verN T c)) := by
      intro c hcl
      rw [hcs, ← R.come c hcl, verN_eq hS hcl hl0]
      exact ⟨.inl, fun h => by rcases h with h | h; exact h; rw [h]; exact hvm⟩
    have hvl : hdI T b :: r'.map (hdI T) = r1.map (hdI T) ++ vertN T c0 :: r2.map (hdI T) := by
      rw [← hev', ← List.map_cons, ← List.map_cons, ← List.map_append, hr]
    have hnot : vertN T c0 ∉ hdI T c0 :: r1.map (hdI T) := by
      have hnd := h.vnd _ hX
      rw [hr] at hnd
      intro hm
      rcases List.mem_cons.1 hm with hm | hm
      · exact (vert_ne hS.simple hl0).1 hm.symm
      · obtain ⟨x, hx, hxe⟩ := List.mem_map.1 hm
        have hxm : x ∈ c0 :: b :: r' := by rw [hr]; simp [hx]
        have e2 : Jor.hd (verN T) x = Jor.hd (verN T) e := by
          rw [hev]
          exact (verN_eq hS (Jor.nx_lt (h.mem hX hxm).1) hl0).2 hxe
        simp only [List.map_cons, List.map_append, List.nodup_cons, List.nodup_append, List.mem_cons] at hnd
        exact hnd.2.2.2 _ (List.mem_map_of_mem hx) _ (.inl rfl) e2
    have hidx : Lib.idxOf (hdI T c0 :: hdI T b :: r'.map (hdI T)) (vertN T c0) = r1.length + 1 := by
      rw [hvl, ← List.cons_append, idxOf_at hnot]
      simp
    have hlr : r'.length + 1 = r1.length + r2.length + 1 := by
      have := congrArg List.length hr
      simp only [List.length_cons, List.length_append] at this
      omega
    have h1pos : 0 < r1.length := List.length_pos_iff.2 hr1
    have hl3 : 3 ≤ r'.length + 2 := by simpa using hlen
    by_cases z1 : r1.length = 1
    · by_cases z2 : r2 = []
      · have hz2 : r2.length = 0 := by rw [z2]; rfl
        unfold Jor.parted at hI
        rw [if_pos z1, if_pos z2] at hI
        refine ⟨69, ⟨s.come, s.wait.getLast?.getD [], s.wait.dropLast⟩, W, ?_, hI, ⟨hcome, R.nd, R.rng, ?_, ?_⟩, .inr (.inl ⟨rfl, rfl, rfl, by simp only [List.length_cons]; omega⟩)⟩
        · unfold stepM
          rw [hloop]
          simp only [hfac, hv]
          rw [if_neg (by omega), if_neg (by simpa using hvm), if_pos (by rw [hrl]; omega), hwl, hrl]
          rfl
        · rw [R.wait]
          cases W <;> simp
        · rw [R.wait]
          cases W <;> simp
      · have hz2 := List.length_pos_iff.2 z2
        unfold Jor.parted at hI
        rw [if_pos z1, if_neg z2] at hI
        refine ⟨82, ⟨s.come, hdI T c0 :: r'.map (hdI T), s.wait⟩, _, ?_, hI, ⟨hcome, R.nd, R.rng, ?_, R.wait⟩, .inr (.inr (.inl ⟨.inr rfl, rfl, by simp, by simp⟩))⟩
        · unfold stepM
          rw [hloop]
          simp only [hfac, hv]
          rw [if_neg (by omega), if_neg (by simpa using hvm), if_neg (by rw [hrl]; omega), hidx, if_neg (by rw [hrl]; omega), if_pos (by omega), hwl, hrl]
          rfl
        · obtain ⟨x, hx⟩ : ∃ x, r1 = [x] := List.length_eq_one_iff.1 z1
          subst hx
          simp only [List.map_cons, List.map_nil, List.cons_append, List.nil_append, List.cons.injEq] at hvl
          simp [hoa, hev', hvl.2]
    · by_cases z2 : r2 = []
      · have hz2 : r2.length = 0 := by rw [z2]; rfl
        unfold Jor.parted at hI
        rw [if_neg z1, if_pos z2] at hI
        refine ⟨76, ⟨s.come, vertN T c0 :: (hdI T b :: r'.map (hdI T)).dropLast, s.wait⟩, _, ?_, hI, ⟨hcome, R.nd, R.rng, ?_, R.wait⟩, .inr (.inr (.inl ⟨.inl rfl, rfl, by simp, by simp⟩))⟩
        · unfold stepM
          rw [hloop]
          simp only [hfac, hv]
          rw [if_neg (by omega), if_neg (by simpa using hvm), if_neg (by rw [hrl]; omega), hidx, if_pos (by rw [hrl]; omega), hwl, hrl]
          rfl
        · rw [hvl, z2]
          simp [hob]
      · have hz2 := List.length_pos_iff.2 z2
        unfold Jor.parted at hI
        rw [if_neg z1, if_neg z2] at hI
        refine ⟨83, ⟨s.come, hdI T c0 :: (hdI T c0 :: hdI T b :: r'.map (hdI T)).drop ((r1.length : Int) + 1).toNat, s.wait ++ [vertN T c0 :: (hdI T b :: r'.map (hdI T)).take (((r1.length : Int) + 1).toNat - 1)]⟩, _, ?_, hI, ⟨hcome, R.nd, R.rng, ?_, ?_⟩, .inr (.inr (.inr ⟨rfl, rfl, by simp⟩))⟩
        · unfold stepM
          rw [hloop]
          simp only [hfac, hv]
          rw [if_neg (by omega), if_neg (by simpa using hvm), if_neg (by rw [hrl]; omega), hidx, if_neg (by rw [hrl]; omega), if_neg (by omega), if_pos (by omega), hwl, hrl]
          rfl
        · have e3 : ((r1.length : Int) + 1).toNat = r1.length + 1 := by omega
          rw [e3, List.drop_succ_cons, hvl, List.drop_append_of_le_length (by simp), show r1.length = (r1.map (hdI T)).length from by simp, List.drop_length]
          simp [hoa, hev']
        · have e3 : ((r1.length : Int) + 1).toNat - 1 = r1.length := by omega
          rw [e3, hvl, List.take_append_of_le_length (by simp), show r1.length = (r1.map (hdI T)).length from by simp, List.take_length, R.wait]
          simp [hob]
end Go.Proofs.YtpnkhgjjlionnaaGreat
namespace Go.Proofs.YtpnkhgjjlionnaaGreat
open Go.RowKit

/-- A simple surface: closed, of one part, of Euler number 2. -/
structure Simp (N : Int) (T : List Tr) : Prop where
  surf : Surf N T
  closed : ClosedT T
  conn : ∀ S : Nat → Prop, S 0 → (∀ c, c < 3 * T.length → S (c / 3) → S (oppN T c / 3)) → ∀ t, t < T.length → S t
  pos : 0 < T.length
  euler : 2 * N = T.length + 4
theorem Simp.K {N : Int} {T : List Tr} (h : Simp N T) : Jor.Walks T.length N.toNat (oppN T) (verN T) := walks_of h.surf h.closed h.conn h.pos h.euler
/-- The walk begins at corner c. -/
def beginS (T : List Tr) (c : Nat) : WSt := ⟨[vertN T c, vertN T (Jor.nx c), vertN T (Jor.pv c)], [vertN T (Jor.nx c), vertN T c, vertN T (Jor.pv c)], []⟩
/-- The triangles gone over, the last one ahead. -/
def dOf (c : Nat) (L : List WStep) : List Nat := (L.map fun x => x.corner.toNat / 3).reverse ++ [c / 3]
/-- The vertices come to by the steps. -/
def newV (T : List Tr) (L : List WStep) : List Int := (L.filter fun x => decide (x.letter = 67)).map fun x => vertI T x.corner
theorem dOf_len (c : Nat) (L : List WStep) : (dOf c L).length = L.length + 1 := by simp [dOf]
theorem dOf_snoc (c : Nat) (L : List WStep) (x : WStep) : dOf c (L ++ [x]) = x.corner.toNat / 3 :: dOf c L := by simp [dOf]
theorem newV_snoc (T : List Tr) (L : List WStep) (x : WStep) : newV T (L ++ [x]) = newV T L ++ (if x.letter = 67 then [vertI T x.corner] else []) := by
  unfold newV
  rw [List.filter_append, List.map_append]
  by_cases h : x.letter = 67 <;> simp [h]
/-- The steps so far. -/
inductive Ran (T : List Tr) (s0 : WSt) : List WStep → WSt → Prop
  | nil : Ran T s0 [] s0
  | snoc {L : List WStep} {s s' : WSt} {x : WStep} : Ran T s0 L s → stepM T s = some (x, s') → Ran T s0 (L ++ [x]) s'
theorem Ran.one {T : List Tr} {s0 s s' : WSt} {L L' : List WStep} (h : Ran T s0 L s) (h' : Ran T s0 L' s') (hl : L.length = L'.length) : L = L' ∧ s = s' := by
  induction h generalizing L' s' with
  | nil =>
    cases h' with
    | nil => exact ⟨rfl, rfl⟩
    | snoc _ _ => simp at hl
  | snoc h1 h2 ih =>
    cases h' with
    | nil => simp at hl
    | snoc k1 k2 =>
      obtain ⟨rfl, rfl⟩ := ih k1 (by simpa using hl)
      rw [h2] at k2
      cases k2
      exact ⟨rfl, rfl⟩
/-- A walk that is over is no beginning of another one. -/
theorem Ran.end_ {T : List Tr} {s0 s s' : WSt} {L L' : List WStep} (h : Ran T s0 L s) (he : s.loop = []) (h' : Ran T s0 L' s') : L'.length ≤ L.length := by
  induction h' with
  | nil => simp
  | @snoc M s1 s2 x h1 h2 ih =>
    rcases Nat.lt_or_ge M.length L.length with hl | hl
    · simp; omega
    · obtain ⟨e1, e2⟩ := h1.one h (by omega)
      subst e2
      unfold stepM at h2
      rw [he] at h2
      cases h2
theorem Ran.same {T : List Tr} {s0 s s' : WSt} {L L' : List WStep} (h : Ran T s0 L s) (he : s.loop = []) (h' : Ran T s0 L' s') (he' : s'.loop = []) : L' = L ∧ s' = s := by
  have h1 := h.end_ he h'
  have h2 := h'.end_ he' h
  exact h'.one h (by omega)

/-- What holds behind the steps. -/
structure Gone (N : Int) (T : List Tr) (c : Nat) (L : List WStep) (s : WSt) (Xs : List (List Nat)) : Prop where
  inv : Jor.WInv T.length (oppN T) (verN T) (c / 3) (dOf c L) Xs
  rel : WRel T (dOf c L) Xs s
  come : s.come = (beginS T c).come ++ newV T L
  cnt : Xs.length + L.countP (fun x => decide (x.letter = 69)) = 1 + L.countP (fun x => decide (x.letter = 83))
  each : ∀ x ∈ L, ∃ d : Nat, x.corner = d ∧ d < 3 * T.length ∧ 3 ≤ x.length ∧ x.length ≤ 3 * T.length ∧ x.loops ≤ 3 * T.length ∧ (x.letter = 67 ∨ x.letter = 69 ∨ x.letter = 76 ∨ x.letter = 82 ∨ x.letter = 83)
  over : ∀ i x, L[i]? = some x → oppN T x.corner.toNat / 3 ∈ dOf c (L.take i)
theorem nodup_len : ∀ {l m : List Nat}, l.Nodup → l ⊆ m → l.length ≤ m.length
  | [], _, _, _ => by simp
  | a :: l, m, hn, hs => by
    have ha := hs (List.mem_cons_self ..)
    have hn' := List.nodup_cons.1 hn
    have : l ⊆ m.erase a := fun x hx => (List.mem_erase_of_ne (fun e => hn'.1 (by rw [← e]; exact hx))).2 (hs (List.mem_cons_of_mem _ hx))
    have := nodup_len hn'.2 this
    rw [List.length_erase_of_mem ha] at this
    have := List.length_pos_of_mem ha
    simp only [List.length_cons]
    omega
theorem WInv_flat {F : Nat} {opp vert : Nat → Nat} {d0 : Nat} {D : List Nat} {Xs : List (List Nat)} (h : Jor.WInv F opp vert d0 D Xs) : Xs.flatten.length ≤ 3 * F := by
  have h1 : Xs.flatten ⊆ List.range (3 * F) := fun c hc => List.mem_range.2 ((h.bd c).1 hc).1
  have := nodup_len h.nd h1
  simpa using this
theorem flat_count {Xs : List (List Nat)} (h : ∀ X ∈ Xs, 3 ≤ X.length) : 3 * Xs.length ≤ Xs.flatten.length := by
  induction Xs with
  | nil => simp
  | cons X R ih =>
    have h1 := h X (List.mem_cons_self ..)
    have h2 := ih (fun Y hY => h Y (List.mem_cons_of_mem _ hY))
    simp only [List.length_cons, List.flatten_cons, List.length_append]
    omega
variable {N : Int} {T : List Tr} {c : Nat}
theorem begin_gone (h : Simp N T) (hc : c < 3 * T.length) : Gone N T c [] (beginS T c) [[oppN T (Jor.pv c), oppN T (Jor.nx c), oppN T c]] where
  inv := by simpa [dOf] using Jor.WInv.start h.K hc
  rel := by
    have hb := Jor.nx_lt hc
    have hd := Jor.pv_lt hc
    obtain ⟨n1, n2, n3⟩ := vert_ne h.surf.simple hc
    refine ⟨fun d hdl => ?_, ?_, ?_, ?_, by simp [beginS]⟩
    · show _ ↔ Jor.Come T.length (verN T) [c / 3] (verN T d)
      rw [Jor.come_start hc, verN_eq h.surf hdl hc, verN_eq h.surf hdl hb, verN_eq h.surf hdl hd]
      simp [beginS]
    · simp only [beginS, List.nodup_cons, List.mem_cons, List.not_mem_nil, or_false, not_or, not_false_eq_true, List.nodup_nil, and_true]
      exact ⟨⟨fun e => n1 e.symm, fun e => n2 e.symm⟩, n3⟩
    · intro v hv
      simp only [beginS, List.mem_cons, List.not_mem_nil, or_false] at hv
      rcases hv with rfl | rfl | rfl
      · exact ⟨c, hc, rfl⟩
      · exact ⟨_, hb, rfl⟩
      · exact ⟨_, hd, rfl⟩
    · simp [beginS, hdI_opp h.closed hd, hdI_opp h.closed hb, hdI_opp h.closed hc, Jor.pv_pv, Jor.pv_nx]
  come := by simp [newV]
  cnt := by simp
  each := by simp
  over := by simp
/-- One step more. -/
theorem Gone.next (h : Simp N T) {L : List WStep} {s : WSt} {Xs : List (List Nat)} (G : Gone N T c L s Xs) (hl : s.loop ≠ []) :
    ∃ x s' Xs', stepM T s = some (x, s') ∧ Gone N T c (L ++ [x]) s' Xs' ∧ x.loops = s.wait.length ∧ x.length = s.loop.length ∧
      ((x.letter = 67 ∧ Xs'.length = Xs.length ∧ s'.loop.length = s.loop.length + 1) ∨ (x.letter = 69 ∧ Xs'.length + 1 = Xs.length ∧ s.loop.length = 3) ∨ ((x.letter = 76 ∨ x.letter = 82) ∧ Xs'.length = Xs.length ∧ s'.loop.length + 1 = s.loop.length) ∨ (x.letter = 83 ∧ Xs'.length = Xs.length + 1)) := by
  obtain ⟨c0, r, W, rfl⟩ : ∃ c0 r W, Xs = (c0 :: r) :: W := by
    cases Xs with
    | nil => exact absurd (by simpa using G.rel.loop) hl
    | cons X W =>
      cases X with
      | nil => exact absurd (by simpa using G.rel.loop) hl
      | cons c0 r => exact ⟨c0, r, W, rfl⟩
  obtain ⟨l, s', Xs', h1, h2, h3, h4⟩ := stepM_ok h.surf h.closed h.K G.inv G.rel
  have hX : (c0 :: r) ∈ (c0 :: r) :: W := List.mem_cons_self ..
  have h0 : Jor.Bd T.length (oppN T) (dOf c L) c0 := G.inv.mem hX (List.mem_cons_self ..)
  have hloop : s.loop.length = r.length + 1 := by rw [G.rel.loop]; simp
  have hwait : s.wait.length = W.length := by rw [G.rel.wait]; simp
  have hlen := G.inv.len _ hX
  simp only [List.length_cons] at hlen
  have hfl := WInv_flat G.inv
  have hfc := flat_count G.inv.len
  have hcn := G.cnt
  simp only [List.flatten_cons, List.length_append, List.length_cons] at hfl hfc hcn
  have hv : vertI T ((c0 : Nat) : Int) = vertN T c0 := vertI_nat h0.1
  refine ⟨_, s', Xs', h1, ⟨?_, ?_, ?_, ?_, ?_, ?_⟩, hwait.symm, hloop.symm, ?_⟩
  · rw [dOf_snoc]; exact h2
  · rw [dOf_snoc]; exact h3
  · rw [newV_snoc, ← List.append_assoc, ← G.come]
    rcases h4 with ⟨rfl, e, _⟩ | ⟨rfl, e, _⟩ | ⟨e1 | e1, e, _⟩ | ⟨rfl, e, _⟩
    · rw [e, if_pos rfl, hv]
    · rw [e]; simp
    · subst e1; rw [e]; simp
    · subst e1; rw [e]; simp
    · rw [e]; simp
  · rw [List.countP_append, List.countP_append]
    rcases h4 with ⟨rfl, e, e2, _⟩ | ⟨rfl, e, e2, _⟩ | ⟨e1 | e1, e, e2, _⟩ | ⟨rfl, e, e2⟩
    · simp; omega
    · simp; omega
    · subst e1; simp; omega
    · subst e1; simp; omega
    · simp; omega
  · intro x hx
    rcases List.mem_append.1 hx with hx | hx
    · exact G.each x hx
    · rw [List.mem_singleton.1 hx]
      refine ⟨c0, rfl, h0.1, hlen, by show r.length + 1 ≤ _; omega, by show W.length ≤ _; omega, ?_⟩
      show l = 67 ∨ l = 69 ∨ l = 76 ∨ l = 82 ∨ l = 83
      rcases h4 with ⟨e, _⟩ | ⟨e, _⟩ | ⟨e | e, _⟩ | ⟨e, _⟩ <;> simp [e]
  · intro i x hx
    rcases Nat.lt_or_ge i L.length with hi | hi
    · rw [List.getElem?_append_left hi] at hx
      rw [List.take_append_of_le_length (by omega)]
      exact G.over i x hx
    · rw [List.getElem?_append_right hi] at hx
      have hi0 : i - L.length = 0 := by
        have := (List.getElem?_eq_some_iff.1 hx).1
        simp at this
        omega
      rw [hi0] at hx
      simp only [List.getElem?_cons_zero, Option.some.injEq] at hx
      subst hx
      have hi' : i = L.length := by omega
      subst hi'
      rw [List.take_left]
      exact h0.2.2
  · rcases h4 with ⟨e1, e, e2, e3⟩ | ⟨e1, e, e2, e3⟩ | ⟨e1, e, e2, e3⟩ | ⟨e1, e, e2⟩
    · exact .inl ⟨e1, by simpa using e2, by omega⟩
    · exact .inr (.inl ⟨e1, by simp; omega, by omega⟩)
    · exact .inr (.inr (.inl ⟨e1, by simpa using e2, by omega⟩))
    · exact .inr (.inr (.inr ⟨e1, by simp; omega⟩))
/-- Whatever was gone over so far. -/
theorem Ran.gone (h : Simp N T) (hc : c < 3 * T.length) {L : List WStep} {s : WSt} (R : Ran T (beginS T c) L s) : ∃ Xs, Gone N T c L s Xs := by
  induction R with
  | nil => exact ⟨_, begin_gone h hc⟩
  | @snoc L s s' x h1 h2 ih =>
    obtain ⟨Xs, G⟩ := ih
    have hl : s.loop ≠ [] := by
      intro e
      unfold stepM at h2
      rw [e] at h2
      cases h2
    obtain ⟨x2, s2, Xs2, e, G2, _⟩ := G.next h hl
    rw [h2] at e
    cases e
    exact ⟨Xs2, G2⟩
theorem Gone.lt (h : Simp N T) {L : List WStep} {s : WSt} {Xs : List (List Nat)} (G : Gone N T c L s Xs) : L.length + 1 ≤ T.length ∧ (s.loop = [] ↔ L.length + 1 = T.length) := by
  have h1 := G.inv.len_le
  rw [dOf_len] at h1
  refine ⟨h1, fun e => ?_, fun e => ?_⟩
  · have hX : Xs = [] := by
      cases Xs with
      | nil => rfl
      | cons X W =>
        have := G.rel.loop
        rw [e] at this
        have h3 := G.inv.len X (List.mem_cons_self ..)
        simp at this
        rw [this] at h3
        simp at h3
    subst hX
    have := G.inv.finish_len h.K
    rwa [dOf_len] at this
  · cases Xs with
    | nil => simpa using G.rel.loop
    | cons X W =>
      have := G.inv.len_lt
      rw [dOf_len] at this
      omega
/-- What the step wants of the state. -/
theorem Gone.wants (h : Simp N T) {L : List WStep} {s : WSt} {Xs : List (List Nat)} (G : Gone N T c L s Xs) :
    (∀ z ∈ s.loop, 0 ≤ z ∧ z < N) ∧ s.loop.length ≤ 3 * T.length ∧ s.wait.length ≤ 3 * T.length ∧ (s.loop ≠ [] → 3 ≤ s.loop.length) ∧ ∀ l ∈ s.wait, l ≠ [] := by
  have hfl := WInv_flat G.inv
  have hfc := flat_count G.inv.len
  cases Xs with
  | nil =>
    have e1 : s.loop = [] := by simpa using G.rel.loop
    have e2 : s.wait = [] := by simpa using G.rel.wait
    rw [e1, e2]
    simp
  | cons X W =>
    have e1 : s.loop = X.map (hdI T) := by simpa using G.rel.loop
    have e2 := G.rel.wait
    simp only [List.tail_cons] at e2
    simp only [List.flatten_cons, List.length_append, List.length_cons] at hfl hfc
    have h3 := G.inv.len X (List.mem_cons_self ..)
    refine ⟨fun z hz => ?_, by rw [e1, List.length_map]; omega, by rw [e2]; simp; omega, fun _ => by rw [e1, List.length_map]; exact h3, fun l hl => ?_⟩
    · rw [e1] at hz
      obtain ⟨d, hd, rfl⟩ := List.mem_map.1 hz
      exact vert_rng h.surf (Jor.nx_lt (G.inv.mem (List.mem_cons_self ..) hd).1)
    · rw [e2, List.mem_reverse] at hl
      obtain ⟨Y, hY, rfl⟩ := List.mem_map.1 hl
      have := G.inv.len Y (List.mem_cons_of_mem _ hY)
      intro e
      have : Y = [] := by simpa using e
      subst this
      simp at *
theorem ends_aux (h : Simp N T) (hc : c < 3 * T.length) : ∀ (k : Nat) (L : List WStep) (s : WSt), Ran T (beginS T c) L s → T.length = L.length + 1 + k → ∃ L' s', Ran T (beginS T c) L' s' ∧ s'.loop = []
  | 0, L, s, R, hk => by
    obtain ⟨Xs, G⟩ := R.gone h hc
    exact ⟨L, s, R, (G.lt h).2.2 (by omega)⟩
  | k + 1, L, s, R, hk => by
    obtain ⟨Xs, G⟩ := R.gone h hc
    have hl : s.loop ≠ [] := fun e => by
      have := (G.lt h).2.1 e
      omega
    obtain ⟨x, s', Xs', e, _⟩ := G.next h hl
    exact ends_aux h hc k (L ++ [x]) s' (.snoc R e) (by simp; omega)
/-- The walk comes to an end. -/
theorem ends (h : Simp N T) (hc : c < 3 * T.length) : ∃ L s, Ran T (beginS T c) L s ∧ s.loop = [] := ends_aux h hc (T.length - 1) [] _ .nil (by have := h.pos; simp; omega)
/-- The steps, reckoned. -/
def runM (T : List Tr) : Nat → WSt → List WStep × WSt
  | 0, s => ([], s)
  | n + 1, s => match stepM T s with
    | some (x, s') => (x :: (runM T n s').1, (runM T n s').2)
    | none => ([], s)
theorem runM_ran (T : List Tr) (s0 : WSt) : ∀ (n : Nat) (L : List WStep) (s : WSt), Ran T s0 L s → Ran T s0 (L ++ (runM T n s).1) (runM T n s).2
  | 0, L, s, R => by simpa [runM] using R
  | n + 1, L, s, R => by
    unfold runM
    cases hs : stepM T s with
    | none => simpa using R
    | some p =>
      obtain ⟨x, s'⟩ := p
      have := runM_ran T s0 n (L ++ [x]) s' (.snoc R hs)
      simpa using this
/-- The steps of the whole walk. -/
def stepsM (T : List Tr) (c : Nat) : List WStep := (runM T T.length (beginS T c)).1
theorem runM_len (T : List Tr) : ∀ (n : Nat) (s : WSt), (runM T n s).1.length = n ∨ stepM T (runM T n s).2 = none
  | 0, s => .inl rfl
  | n + 1, s => by
    unfold runM
    cases hs : stepM T s with
    | none => exact .inr hs
    | some p =>
      obtain ⟨x, s'⟩ := p
      rcases runM_len T n s' with h | h
      · exact .inl (by simp [h])
      · exact .inr h
/-- Whichever way a walk has come to its end: these are its steps. -/
theorem Ran.steps (h : Simp N T) (hc : c < 3 * T.length) {L : List WStep} {s : WSt} (R : Ran T (beginS T c) L s) (he : s.loop = []) : L = stepsM T c := by
  have R2 := runM_ran T (beginS T c) T.length [] _ .nil
  rw [List.nil_append] at R2
  have hl := R.end_ he R2
  obtain ⟨Xs, G⟩ := R2.gone h hc
  have hlt := (G.lt h).1
  have he2 : (runM T T.length (beginS T c)).2.loop = [] := by
    by_cases e : (runM T T.length (beginS T c)).2.loop = []
    · exact e
    · obtain ⟨x, s', Xs', e2, _⟩ := G.next h e
      rcases runM_len T T.length (beginS T c) with h3 | h3
      · omega
      · rw [h3] at e2
        cases e2
  exact ((R.same he R2 he2).1).symm
end Go.Proofs.YtpnkhgjjlionnaaGreat
