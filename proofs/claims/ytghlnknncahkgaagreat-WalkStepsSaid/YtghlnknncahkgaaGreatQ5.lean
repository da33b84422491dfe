/-
  Texts joined by program: Way StpC WayS StpL StpR StpS StpE StpF Stp Ran BegW.
-/
import Derived.Test.YtghlnknncahkgaaGreatQ4
import Derived.Test.YtghlnknncahkgaaGreatQ1
import Derived.Lib.QuietBelow
import Derived.BigQuiet
import Derived.Deep.RegionHeld3
import Derived.Test.YtghlnknncahkgaaGreatShelf
import Derived.Deep.AppendLies
import Derived.Deep.RegionLaw
import Derived.Deep.DeepCutAuto
/-
  A walk on its way, as it lies in memory.
-/
namespace Go.Proofs.YtghlnknncahkgaaGreat
open Go.RowKit

/-- Values own blocks of their own, each another one. -/
def Own2 (l : List Value) : Prop := (∀ v ∈ l, ∃ g, v.ownBlock = some g) ∧ (l.map Value.ownBlock).Nodup
theorem Own2.cons_new {l : List Value} (h : Own2 l) {v : Value} {g : Nat} (hv : v.ownBlock = some g) (hn : ∀ u ∈ l, ∀ j, u.ownBlock = some j → j ≠ g) : Own2 (v :: l) := by
  refine ⟨fun u hu => ?_, ?_⟩
  · rcases List.mem_cons.1 hu with rfl | hu
    · exact ⟨g, hv⟩
    · exact h.1 u hu
  · rw [List.map_cons, List.nodup_cons]
    refine ⟨fun hm => ?_, h.2⟩
    obtain ⟨u, hu, e⟩ := List.mem_map.1 hm
    exact hn u hu g (by rw [e, hv]) rfl
theorem Own2.tail {l : List Value} {v : Value} (h : Own2 (v :: l)) : Own2 l := ⟨fun u hu => h.1 u (List.mem_cons_of_mem _ hu), (List.nodup_cons.1 h.2).2⟩
theorem Own2.ne {l : List Value} {v u : Value} (h : Own2 (v :: l)) (hu : u ∈ l) : u.ownBlock ≠ v.ownBlock := fun e => (List.nodup_cons.1 h.2).1 (List.mem_map.2 ⟨u, hu, e⟩)
/-- Block b is a walk that is on its way; all that it owns lies at base or behind. -/
structure WayAt (w : World) (base g b : Nat) (vC vL vW : Value) (vs : List Value) (n : Nat) (s : WSt) : Prop where
  blk : Blk w b 145 #[.pointer (some ⟨g, 0, none⟩), vC, vL, vW]
  hb : base ≤ b
  C : ∃ bs, w.ownsRow base 4 1 vC n (bools bs) ∧ BitsOf bs n s.come
  L : w.ownsRow base 3 1 vL s.loop.length (intsV s.loop)
  W : w.ownsRow base 28 1 vW s.wait.length vs
  rows : ∀ (i : Nat) (u : Value) (r : List Int), vs[i]? = some u → s.wait[i]? = some r → w.ownsRow base 3 1 u r.length (intsV r)
  apart : Own2 (vL :: vs)
  nn : s.loop ≠ []
section
variable {w w' : World} {base g b n : Nat} {vC vL vW : Value} {vs : List Value} {s : WSt}
theorem WayAt.vlen (h : WayAt w base g b vC vL vW vs n s) : vs.length = s.wait.length := by
  have := h.W.1
  omega
theorem WayAt.ble (h : WayAt w base g b vC vL vW vs n s) : base ≤ w.heap.size := Nat.le_trans h.hb (Nat.le_of_lt h.blk.lt)
theorem WayAt.below (h : WayAt w base g b vC vL vW vs n s) (hb : Below w.heap.size w w') : WayAt w' base g b vC vL vW vs n s :=
  ⟨h.blk.below hb h.blk.lt, h.hb, by obtain ⟨bs, h1, h2⟩ := h.C; exact ⟨bs, own_below h1 hb, h2⟩, own_below h.L hb, own_below h.W hb, fun i u r hu hr => own_below (h.rows i u r hu hr) hb, h.apart, h.nn⟩
theorem WayAt.alloc (h : WayAt w base g b vC vL vW vs n s) (o : Obj) : WayAt (w.alloc o) base g b vC vL vW vs n s := h.below ((Below.refl _ _).alloc (Nat.le_refl _) _)
theorem WayAt.drew (h : WayAt w base g b vC vL vW vs n s) : WayAt w.drew base g b vC vL vW vs n s := h.below (Below.refl _ _).drew
/-- A block of another kind is written. -/
theorem WayAt.far (h : WayAt w base g b vC vL vW vs n s) {q j : Nat} {t : TypeId} {cs : Array Value} {u : Value} (hq : Blk w q t cs) (h1 : t ≠ 145) (h2 : t ≠ 4) (h3 : t ≠ 3) (h4 : t ≠ 28) : WayAt (w.setCell ⟨q, j, none⟩ u) base g b vC vL vW vs n s :=
  ⟨h.blk.far (fun e => Blk.ne_ hq h.blk h1 e.symm) _, h.hb, by obtain ⟨bs, a, c⟩ := h.C; exact ⟨bs, own_alloc_st a hq (Ne.symm h2), c⟩, own_alloc_st h.L hq (Ne.symm h3), own_alloc_st h.W hq (Ne.symm h4), fun i x r hu hr => own_alloc_st (h.rows i x r hu hr) hq (Ne.symm h3), h.apart, h.nn⟩
theorem WayAt.mark (h : WayAt w base g b vC vL vW vs n s) {gC capC v : Nat} (hC : vC = .slice (some ⟨gC, 0, none⟩) n capC) (hv : v < n) : WayAt (w.setCell ⟨gC, v, none⟩ (.bool true)) base g b vC vL vW vs n ⟨s.come ++ [(v : Int)], s.loop, s.wait⟩ := by
  subst hC
  obtain ⟨bs, h1, h2⟩ := h.C
  obtain ⟨k1, k2⟩ := h1.stored v (.bool true)
  exact ⟨h.blk.grown k2 (fun e => own_blk_ne h1 h.blk (by decide) e.symm), h.hb, ⟨bs.set v true, by rw [← bools_set]; exact k1, h2.mark hv⟩, h.L.kept k2 (own_own_ne h.L h1 (by decide)), h.W.kept k2 (own_own_ne h.W h1 (by decide)),
    fun i u r hu hr => (h.rows i u r hu hr).kept k2 (own_own_ne (h.rows i u r hu hr) h1 (by decide)), h.apart, h.nn⟩
/-- The loop is another one. -/
theorem WayAt.reloop (h : WayAt w base g b vC vL vW vs n s) {v' : Value} {l : List Int} (hg : w.grownBy w' vL.ownBlock) (hr : w'.ownsRow base 3 1 v' l.length (intsV l)) (hat : v'.ownBlock = vL.ownBlock ∨ ∃ q, v'.ownBlock = some q ∧ w.heap.size ≤ q) (hl : l ≠ []) :
    WayAt (w'.setCell ⟨b, 2, none⟩ v') base g b vC v' vW vs n ⟨s.come, l, s.wait⟩ := by
  have k0 := h.blk.grown hg (fun e => own_blk_ne h.L h.blk (by decide) e.symm)
  obtain ⟨bs, h1, h2⟩ := h.C
  have lt : ∀ u ∈ vs, ∀ j, u.ownBlock = some j → j < w.heap.size := by
    intro u hu j hj
    obtain ⟨i, hi, e⟩ := List.getElem_of_mem hu
    have hi2 : i < s.wait.length := by rw [← h.vlen]; exact hi
    exact ((h.rows i u s.wait[i] (by rw [List.getElem?_eq_getElem hi, e]) (List.getElem?_eq_getElem hi2)).lt j hj).2
  refine ⟨by simpa using k0.set_ 2 v', h.hb, ⟨bs, own_alloc_st (h1.kept hg (own_own_ne h1 h.L (by decide))) k0 (by decide), h2⟩, own_alloc_st hr k0 (by decide), own_alloc_st (h.W.kept hg (own_own_ne h.W h.L (by decide))) k0 (by decide), ?_, ?_, hl⟩
  · intro i u r hu hr'
    exact own_alloc_st ((h.rows i u r hu hr').kept hg (.inr (h.apart.ne (List.mem_of_getElem? hu)))) k0 (by decide)
  · rcases hat with e | ⟨q, e, hq⟩
    · refine ⟨fun u hu => ?_, ?_⟩
      · rcases List.mem_cons.1 hu with rfl | hu
        · obtain ⟨j, hj⟩ := h.apart.1 vL (List.mem_cons_self ..)
          exact ⟨j, e.trans hj⟩
        · exact h.apart.1 u (List.mem_cons_of_mem _ hu)
      · have := h.apart.2
        rw [List.map_cons] at this ⊢
        rw [e]
        exact this
    · exact h.apart.tail.cons_new e (fun u hu j hj e2 => by
        have := lt u hu j hj
        omega)
/-- A part of the loop, as it is read. -/
theorem WayAt.part {gl m cap : Nat} (h : WayAt w base g b vC (.slice (some ⟨gl, 0, none⟩) m cap) vW vs n s) (hm : s.loop.length = m) (a k : Nat) (hak : a + k ≤ m) : ∀ j u, (((s.loop.drop a).take k).map (Value.int .i64))[j]? = some u → w.cell? ((⟨gl, a, none⟩ : Addr).add j) = some u := by
  intro j u hj
  have hl := h.L
  rw [hm] at hl
  rw [List.getElem?_map] at hj
  have hj' : j < k := by
    rcases Nat.lt_or_ge j k with h | h
    · exact h
    · rw [List.getElem?_eq_none (by rw [List.length_take]; omega)] at hj
      cases hj
  rw [Addr.add_lit]
  show w.cell? ⟨gl, a + j, none⟩ = some u
  rw [hl.cellAt (a + j) (by omega), ← hj]
  simp [intsV, hj', List.getElem?_drop]
theorem own_one {q : Nat} {v : Int} (h : Blk w q 3 #[.int .i64 v]) (hb : base ≤ q) : w.ownsRow base 3 1 (.slice (some ⟨q, 0, none⟩) 1 1) 1 [.int .i64 v] :=
  ⟨rfl, .inr ⟨q, 1, _, rfl, hb, h, Nat.le_refl _, by decide, rfl, rfl⟩⟩
/-- One loop more waits. -/
theorem WayAt.rewait (h : WayAt w base g b vC vL vW vs n s) {w4 w5 : World} {tmp : Obj} {u v5 : Value} {l : List Int} {q : Nat} (hb4 : Below w.heap.size w w4) (hr4 : w4.ownsRow base 3 1 u l.length (intsV l)) (hu : u.ownBlock = some q) (hq : w.heap.size ≤ q)
    (hg5 : (w4.alloc tmp).grownBy w5 vW.ownBlock) (hr5 : w5.ownsRow base 28 1 v5 (s.wait.length + 1) (vs ++ [u])) : WayAt (w5.setCell ⟨b, 3, none⟩ v5) base g b vC vL v5 (vs ++ [u]) n ⟨s.come, s.loop, s.wait ++ [l]⟩ := by
  have h4 := (h.below hb4).alloc tmp
  have ne : ∀ {e : TypeId} {k : Nat} {x : Value} {xs : List Value}, e ≠ 28 → (w4.alloc tmp).ownsRow base e 1 x k xs → (w5.setCell ⟨b, 3, none⟩ v5).ownsRow base e 1 x k xs ∨ e = 145 := by
    intro e k x xs he hx
    by_cases hw : e = 145
    · exact .inr hw
    · exact .inl (own_alloc_st (hx.kept hg5 (own_own_ne hx h4.W he)) (h4.blk.grown hg5 (fun e => own_blk_ne h4.W h4.blk (by decide) e.symm)) hw)
  have k5 := h4.blk.grown hg5 (fun e => own_blk_ne h4.W h4.blk (by decide) e.symm)
  have hl := h.vlen
  have lt : ∀ x ∈ vL :: vs, ∀ j, x.ownBlock = some j → j < w.heap.size := by
    intro x hx j hj
    rcases List.mem_cons.1 hx with rfl | hx
    · exact (h.L.lt j hj).2
    · obtain ⟨i, hi, e⟩ := List.getElem_of_mem hx
      have hi2 : i < s.wait.length := by rw [← hl]; exact hi
      exact ((h.rows i x s.wait[i] (by rw [List.getElem?_eq_getElem hi, e]) (List.getElem?_eq_getElem hi2)).lt j hj).2
  refine ⟨by simpa using k5.set_ 3 v5, h.hb, ?_, ?_, ?_, ?_, ?_, h.nn⟩
  · obtain ⟨bs, h1, h2⟩ := h4.C
    rcases ne (by decide) h1 with h1 | h1
    · exact ⟨bs, h1, h2⟩
    · exact absurd h1 (by decide)
  · rcases ne (by decide) h4.L with h1 | h1
    · exact h1
    · exact absurd h1 (by decide)
  · rw [List.length_append, List.length_singleton]
    exact own_alloc_st hr5 k5 (by decide)
  · intro i x r hx hr
    rcases Nat.lt_or_ge i vs.length with hi | hi
    · rw [List.getElem?_append_left hi] at hx
      rw [List.getElem?_append_left (by omega)] at hr
      rcases ne (by decide) (h4.rows i x r hx hr) with h1 | h1
      · exact h1
      · exact absurd h1 (by decide)
    · rw [List.getElem?_append_right hi] at hx
      rw [List.getElem?_append_right (by omega)] at hr
      have hi0 : i - vs.length = 0 := by
        have := (List.getElem?_eq_some_iff.1 hx).1
        simp at this
        omega
      rw [hi0] at hx
      rw [← hl, hi0] at hr
      simp only [List.getElem?_cons_zero, Option.some.injEq] at hx hr
      subst hx
      subst hr
      rcases ne (by decide) (hr4.alloc tmp) with h1 | h1
      · exact h1
      · exact absurd h1 (by decide)
  · have ha : Own2 (u :: vL :: vs) := h.apart.cons_new hu (fun x hx j hj => by
      have := lt x hx j hj
      omega)
    have hp : (u :: vL :: vs).Perm (vL :: (vs ++ [u])) := (List.Perm.swap vL u vs).trans (List.Perm.cons _ (List.perm_append_singleton u vs).symm)
    exact ⟨fun x hx => ha.1 x (hp.mem_iff.2 hx), (hp.map _).nodup_iff.1 ha.2⟩
/-- The loop that waits last is gone on with. -/
theorem WayAt.pop (h : WayAt w base g b vC vL vW vs n s) {vs' : List Value} {u : Value} {ws : List (List Int)} {l : List Int} {aW : Option Addr} {k cW : Nat} (hvs : vs = vs' ++ [u]) (hws : s.wait = ws ++ [l]) (hW : vW = .slice aW (k + 1) cW) (hk : ws.length = k) (hl : l ≠ [])
    (hg : w.grownBy w' (some b)) (hb' : Blk w' b 145 #[.pointer (some ⟨g, 0, none⟩), vC, u, .slice aW k cW]) : WayAt w' base g b vC u (.slice aW k cW) vs' n ⟨s.come, l, ws⟩ := by
  subst hvs hW
  have hlen := h.vlen
  rw [hws] at hlen
  simp only [List.length_append, List.length_singleton] at hlen
  have hW := h.W
  rw [hws, List.length_append, List.length_singleton, hk] at hW
  have hW2 : w.ownsRow base 28 1 (.slice aW k cW) k vs' := by
    rcases hW.2 with ⟨_, h0⟩ | ⟨q, cap, cur, e, h1, h2, h3, h4, h5, h6⟩
    · omega
    · injection e with e1 e2 e3
      subst e1 e3
      refine ⟨by omega, .inr ⟨q, cW, cur, rfl, h1, h2, by omega, h4, h5, ?_⟩⟩
      have : (cur.toList.take ((k + 1) * 1)).take (k * 1) = (vs' ++ [u]).take (k * 1) := by rw [h6]
      rw [List.take_take, show min (k * 1) ((k + 1) * 1) = k * 1 from by omega] at this
      rw [this, show k * 1 = vs'.length from by omega, List.take_left]
  obtain ⟨bs, c1, c2⟩ := h.C
  have st : ∀ {e : TypeId} {k' : Nat} {x : Value} {xs : List Value}, e ≠ 145 → w.ownsRow base e 1 x k' xs → w'.ownsRow base e 1 x k' xs := fun he hx => hx.kept hg (.inr (own_blk_ne hx h.blk he))
  refine ⟨hb', h.hb, ⟨bs, st (by decide) c1, c2⟩, ?_, ?_, ?_, ?_, hl⟩
  · refine st (by decide) (h.rows vs'.length u l (by simp) ?_)
    rw [hws, show vs'.length = ws.length from by omega]
    simp
  · rw [hk]
    exact st (by decide) hW2
  · intro i x r hx hr
    have hi := (List.getElem?_eq_some_iff.1 hx).1
    have hi2 := (List.getElem?_eq_some_iff.1 hr).1
    refine st (by decide) (h.rows i x r (by rw [List.getElem?_append_left hi]; exact hx) ?_)
    rw [hws, List.getElem?_append_left hi2]
    exact hr
  · have hp : (vs' ++ [u]).Perm (u :: vs') := List.perm_append_singleton u vs'
    have ha := h.apart.tail
    exact ⟨fun x hx => ha.1 x (hp.mem_iff.2 hx), (hp.map _).nodup_iff.1 ha.2⟩
/-- The blocks of a walk that is on its way. -/
def OwnA (b : Nat) (vC vL vW : Value) (vs : List Value) (k : Nat) : Prop := k = b ∨ vC.ownBlock = some k ∨ vL.ownBlock = some k ∨ vW.ownBlock = some k ∨ ∃ v ∈ vs, v.ownBlock = some k
/-- What a step may change, and whose the blocks are then. -/
structure Kind (w w' : World) (b : Nat) (vC vL vW : Value) (vs : List Value) (vL' vW' : Value) (vs' : List Value) : Prop where
  kept : Kept (OwnA b vC vL vW vs) w w'
  own : ∀ k, OwnA b vC vL' vW' vs' k → OwnA b vC vL vW vs k ∨ w.heap.size ≤ k
theorem own_reloop {b : Nat} {vC vL vL' vW : Value} {vs : List Value} {z : Nat} (h : vL'.ownBlock = vL.ownBlock ∨ ∃ q, vL'.ownBlock = some q ∧ z ≤ q) (k : Nat) (hk : OwnA b vC vL' vW vs k) : OwnA b vC vL vW vs k ∨ z ≤ k := by
  rcases hk with e | e | e | e | e
  · exact .inl (.inl e)
  · exact .inl (.inr (.inl e))
  · rcases h with h | ⟨q, h, hq⟩
    · exact .inl (.inr (.inr (.inl (by rw [← h]; exact e))))
    · rw [h] at e
      cases e
      exact .inr hq
  · exact .inl (.inr (.inr (.inr (.inl e))))
  · exact .inl (.inr (.inr (.inr (.inr e))))
theorem WayAt.own_ge (h : WayAt w base g b vC vL vW vs n s) {k : Nat} (hk : OwnA b vC vL vW vs k) : base ≤ k ∧ k < w.heap.size := by
  rcases hk with rfl | e | e | e | ⟨v, hv, e⟩
  · exact ⟨h.hb, h.blk.lt⟩
  · obtain ⟨bs, h1, _⟩ := h.C
    exact h1.lt k e
  · exact h.L.lt k e
  · exact h.W.lt k e
  · obtain ⟨i, hi, e2⟩ := List.getElem_of_mem hv
    have hi2 : i < s.wait.length := by rw [← h.vlen]; exact hi
    exact (h.rows i v s.wait[i] (by rw [List.getElem?_eq_getElem hi, e2]) (List.getElem?_eq_getElem hi2)).lt k e
theorem WayAt.same (h : WayAt w base g b vC vL vW vs n s) (hs : ∀ k, OwnA b vC vL vW vs k → w'.heap[k]? = w.heap[k]?) : WayAt w' base g b vC vL vW vs n s :=
  ⟨blk_same h.blk (hs b (.inl rfl)), h.hb, by obtain ⟨bs, h1, h2⟩ := h.C; exact ⟨bs, own_same h1 (fun k e => hs k (.inr (.inl e))), h2⟩, own_same h.L (fun k e => hs k (.inr (.inr (.inl e)))), own_same h.W (fun k e => hs k (.inr (.inr (.inr (.inl e))))),
    fun i u r hu hr => own_same (h.rows i u r hu hr) (fun k e => hs k (.inr (.inr (.inr (.inr ⟨u, List.mem_of_getElem? hu, e⟩))))), h.apart, h.nn⟩
theorem Kind.below {vL' vW' : Value} {vs' : List Value} (h : WayAt w base g b vC vL vW vs n s) (k : Kind w w' b vC vL vW vs vL' vW' vs') : Below base w w' := k.kept.below (fun _j hj => (h.own_ge hj).1) h.ble
/-- A step is laid in its cell. -/
theorem WayAt.out4 (h : WayAt w base g b vC vL vW vs n s) {w0 : World} {q : Nat} {x0 x1 x2 x3 : Value} (hq : Blk w q 55 #[x0, x1, x2, x3]) {S : Nat → Prop} (hB : Kept S w0 w) (hbq : w0.heap.size ≤ q) (u0 u1 u2 u3 : Value) :
    WayAt ((((w.setCell ⟨q, 0, none⟩ u0).setCell ⟨q, 1, none⟩ u1).setCell ⟨q, 2, none⟩ u2).setCell ⟨q, 3, none⟩ u3) base g b vC vL vW vs n s ∧ Blk ((((w.setCell ⟨q, 0, none⟩ u0).setCell ⟨q, 1, none⟩ u1).setCell ⟨q, 2, none⟩ u2).setCell ⟨q, 3, none⟩ u3) q 55 #[u0, u1, u2, u3] ∧ Kept S w0 ((((w.setCell ⟨q, 0, none⟩ u0).setCell ⟨q, 1, none⟩ u1).setCell ⟨q, 2, none⟩ u2).setCell ⟨q, 3, none⟩ u3) := by
  have q1 := hq.set_ 0 u0
  have q2 := q1.set_ 1 u1
  have q3 := q2.set_ 2 u2
  have q4 := q3.set_ 3 u3
  exact ⟨(((h.far hq (by decide) (by decide) (by decide) (by decide)).far q1 (by decide) (by decide) (by decide) (by decide)).far q2 (by decide) (by decide) (by decide) (by decide)).far q3 (by decide) (by decide) (by decide) (by decide), by simpa using q4, (((hB.setCell (p := ⟨q, 0, none⟩) (.inr hbq) _).setCell (p := ⟨q, 1, none⟩) (.inr hbq) _).setCell (p := ⟨q, 2, none⟩) (.inr hbq) _).setCell (p := ⟨q, 3, none⟩) (.inr hbq) _⟩
end
end Go.Proofs.YtghlnknncahkgaaGreat
/-
  (*way).step, where a vertex is new, by walking its text.
-/
namespace Go.Proofs.YtghlnknncahkgaaGreat
open Go.RowKit Go.Maps

theorem own_form {w : World} {base n : Nat} {t : TypeId} {v : Value} {xs : List Value} (h : w.ownsRow base t 1 v n xs) (hn : 0 < n) : ∃ g cap, v = .slice (some ⟨g, 0, none⟩) n cap ∧ g < w.heap.size ∧ n ≤ cap ∧ cap ≤ 9223372036854775807 := by
  rcases h.2 with ⟨_, h0⟩ | ⟨g, cap, cur, rfl, _, hg, h1, h2, _⟩
  · omega
  · exact ⟨g, cap, rfl, (Array.getElem?_eq_some_iff.1 hg).1, h1, by unfold maxLen at h2; omega⟩
theorem four {w : World} {b : Nat} {t : TypeId} {x0 x1 x2 x3 : Value} (h : Blk w b t #[x0, x1, x2, x3]) : b < w.heap.size ∧ w.cell? ⟨b, 0, none⟩ = some x0 ∧ w.cell? ⟨b, 1, none⟩ = some x1 ∧ w.cell? ⟨b, 2, none⟩ = some x2 ∧ w.cell? ⟨b, 3, none⟩ = some x3 ∧ w.frozen? ⟨b, 2, none⟩ = false ∧ w.frozen? ⟨b, 3, none⟩ = false := ⟨h.lt, h.cell 0, h.cell 1, h.cell 2, h.cell 3, h.frozen 2, h.frozen 3⟩
set_option maxRecDepth 100000 in
set_option maxHeartbeats 2000000 in
theorem stepC_any {w : World} {base g b n : Nat} {vC vL vW : Value} {vs : List Value} {s : WSt} {T : List Tr} (hT : Tab w g n T) (h : WayAt w base g b vC vL vW vs n s) {x y : Int} {r : List Int} (hl : s.loop = x :: y :: r)
    (hx : -1 ≤ x ∧ x ≤ 10000) (hy : -1 ≤ y ∧ y ≤ 10000) (hc : 0 ≤ facI T (x, y)) (hv : vertI T (facI T (x, y)) ∉ s.come) (hlen : r.length ≤ 50000) (_hwl : s.wait.length ≤ 50000) :
    Calls Tryz.prog 60 #[.pointer (some ⟨b, 0, none⟩)] w fun e w' => e = .returned (.tuple #[.agg #[.int .u8 67, .int .i64 (facI T (x, y)), .int .i64 s.wait.length, .int .i64 (r.length + 2 : Nat)], .bool true]) ∧
      (∃ vL', WayAt w' base g b vC vL' vW vs n ⟨s.come ++ [vertI T (facI T (x, y))], x :: vertI T (facI T (x, y)) :: y :: r, s.wait⟩ ∧ Kind w w' b vC vL vW vs vL' vW vs) := by
  have hL := h.L
  rw [hl] at hL
  obtain ⟨m, hm⟩ : ∃ m, (x :: y :: r).length = m := ⟨_, rfl⟩
  rw [hm] at hL
  have hm2 : r.length + 2 = m := hm
  obtain ⟨gl, cap, rfl, hgl, hcap, hcap2⟩ := own_form hL (by omega)
  obtain ⟨aW, cW, rfl⟩ := ownsRow_slice h.W
  obtain ⟨lb, c0, c1, c2, c3, f2, f3⟩ := four h.blk
  have hs0 : (intsV (x :: y :: r))[0]? = some (.int .i64 x) := rfl
  have l0 : w.cell? ⟨gl, 0, none⟩ = some (.int .i64 x) := by rw [hL.cellAt 0 (by omega)]; exact hs0
  have l1 : w.cell? ⟨gl, 1, none⟩ = some (.int .i64 y) := by rw [hL.cellAt 1 (by omega)]; rfl
  have hnil := fun (W : World) => Lib.run_eql_slice_nil (P := Tryz.prog) W 28 3 (some ⟨gl, 0, none⟩) m cap 0 0 Tryz.underlying28
  obtain ⟨c, hce⟩ : ∃ c : Nat, facI T (x, y) = (c : Int) := ⟨(facI T (x, y)).toNat, by omega⟩
  have hcl := (facI_some hce).1
  have hvb := vertN_in hT.inr hcl
  obtain ⟨v, hve⟩ : ∃ v : Nat, vertI T (facI T (x, y)) = (v : Int) := ⟨(vertN T c).toNat, by rw [hce, vertI_nat hcl]; omega⟩
  have hvn : v < n := by rw [hce, vertI_nat hcl] at hve; omega
  obtain ⟨bs, hC, hbs⟩ := h.C
  obtain ⟨gC, capC, rfl, hgC, hcC, -⟩ := own_form hC (by omega)
  have hbv : bs[v]? = some false := by
    have hvl : v < bs.length := by rw [hbs.1]; exact hvn
    cases hb : bs[v] with
    | false => rw [List.getElem?_eq_getElem hvl, hb]
    | true => exact absurd ((hbs.2 v hvn).1 (by rw [List.getElem?_eq_getElem hvl, hb])) (by rw [← hve]; exact hv)
  have cv : w.cell? ⟨gC, v, none⟩ = some (.bool false) := by
    rw [hC.cellAt v (by omega)]
    simp [bools, hbv]
  have cf := hC.frozenAt v
  have hn1 : gC ≠ b := fun e => own_blk_ne hC h.blk (by decide) (by rw [← e]; rfl)
  have hn2 : b ≠ gC := fun e => hn1 e.symm
  have hbg : base ≤ gC := (hC.lt gC rfl).1
  have HF := Lib.hid (fun (W : World) (hW : Below w.heap.size w W) => facing_any g n x y T W (hT.below hW) hx hy)
  have HV := Lib.hid (fun (W : World) (hW : Below w.heap.size w W) => (show Calls Tryz.prog 36 #[.pointer (some ⟨g, 0, none⟩), .int .i64 (c : Int)] W fun e w' => e = .returned (.int .i64 (v : Int)) ∧ W = w' from by
    have := vertex_any g n (facI T (x, y)) T W (hT.below hW).toTabS
    rw [hve, hce] at this
    exact this))
  rw [hve]
  rw [hce] at HF ⊢
  have HL := Lib.hid hl
  rw [hm2]
  obtain ⟨wl, hwe⟩ : ∃ wl, s.wait.length = wl := ⟨_, rfl⟩
  rw [hwe] at c3 h ⊢
  have H := Lib.hid h
  have HM := Lib.hid hm
  have hm3 : m ≤ 50002 := by omega
  have hm4 : 2 ≤ m := by omega
  clear h hT hl hL hs0 hm hm2 hlen hce hcl hvb hve hC hbs hbv hv hc
  go_enter Tryz.func60, Tryz.ntmps60
  go_wp2
  have hA := H.out.alloc (.cells #[.int .u8 0, .int .i64 0, .int .i64 0, .int .i64 0] 55)
  have hB0 : Below w.heap.size w (w.alloc (.cells #[.int .u8 0, .int .i64 0, .int .i64 0, .int .i64 0] 55)) := (Below.refl _ _).alloc (Nat.le_refl _) _
  have b0 := Blk.new w 55 #[.int .u8 0, .int .i64 0, .int .i64 0, .int .i64 0]
  have hszA : w.heap.size < (w.alloc (.cells #[.int .u8 0, .int .i64 0, .int .i64 0, .int .i64 0] 55)).heap.size := by simp
  generalize w.alloc (.cells #[.int .u8 0, .int .i64 0, .int .i64 0, .int .i64 0] 55) = wA at *
  obtain ⟨lb', c0', c1', c2', c3', -⟩ := four hA.blk
  have l0' := (hB0.cell (p := ⟨gl, 0, none⟩) hgl).trans l0
  have l1' := (hB0.cell (p := ⟨gl, 1, none⟩) hgl).trans l1
  have HA := Lib.hid hA
  have HB0 := Lib.hid hB0
  have Hb0 := Lib.hid b0
  clear hA hB0 b0
  have i0 : (0 : Int) < (m : Int) := by omega
  have i1 : (1 : Int) < (m : Int) := by omega
  have d0 := cell_regrown c0'
  have d2 := cell_regrown c2'
  have q0 := cell_regrown l0'
  have q1 := cell_regrown l1'
  refine wp_region_quiet_below (by kernel_rfl) (by kernel_rfl) ?_
  repeat (go_big_quiet_step ((go_at_call 62; exact Calls.regrown_of (HF.out _ (HB0.out.trans ((below_regrown wA _ _).mono HB0.out.size))))))
  refine wpQuiet_nil ?_
  intro _ hw'
  obtain ⟨⟨dq, osq⟩, hw''⟩ := hw'
  subst hw''
  have hB1 := below_regrown wA dq osq
  generalize Sort.grow (redrawn wA dq) osq = w1 at *
  have hA1 := HA.out.below hB1
  obtain ⟨lb1, x0, x1, x2, x3, y2, y3⟩ := four hA1.blk
  have HA1 := Lib.hid hA1
  have hB2 := HB0.out.trans (hB1.mono HB0.out.size)
  have cv1 := (hB2.cell (p := ⟨gC, v, none⟩) hgC).trans cv
  have cf1 := (hB2.frozen (p := ⟨gC, v, none⟩) hgC).trans cf
  have hsz1 := hB1.size
  have hgC1 : gC < w1.heap.size := by omega
  have HB1 := Lib.hid hB1
  have HB2 := Lib.hid hB2
  clear hA1 hB1 hB2 d0 d2 q0 q1 c0' c2' l0' l1' c1' c3'
  go_wp2_with (go_at_call 36; refine (HV.out _ HB2.out).mono ?_; rintro e w2 ⟨rfl, rfl⟩)
  have A3 := ((HA1.out.mark rfl hvn).alloc (.cells #[.int .u8 67, .int .i64 (c : Int), .int .i64 (wl : Int), .int .i64 (m : Int)] 55)).alloc (.cells #[.int .i64 (v : Int)] 3)
  have hL3 := A3.L
  simp only at hL3
  rw [HL.out] at hL3
  have bT : Blk (((w1.setCell ⟨gC, v, none⟩ (.bool true)).alloc (.cells #[.int .u8 67, .int .i64 (c : Int), .int .i64 (wl : Int), .int .i64 (m : Int)] 55)).alloc (.cells #[.int .i64 (v : Int)] 3)) (w1.heap.size + 1) 3 #[.int .i64 (v : Int)] := blk_new_at (by simp [World.setCell])
  have bS : Blk (((w1.setCell ⟨gC, v, none⟩ (.bool true)).alloc (.cells #[.int .u8 67, .int .i64 (c : Int), .int .i64 (wl : Int), .int .i64 (m : Int)] 55)).alloc (.cells #[.int .i64 (v : Int)] 3)) w1.heap.size 55 #[.int .u8 67, .int .i64 (c : Int), .int .i64 (wl : Int), .int .i64 (m : Int)] := (blk_new_at (by simp [World.setCell])).alloc _
  have bR : Blk (((w1.setCell ⟨gC, v, none⟩ (.bool true)).alloc (.cells #[.int .u8 67, .int .i64 (c : Int), .int .i64 (wl : Int), .int .i64 (m : Int)] 55)).alloc (.cells #[.int .i64 (v : Int)] 3)) w.heap.size 55 #[.int .u8 0, .int .i64 0, .int .i64 0, .int .i64 0] := (((Hb0.out.below HB1.out hszA).far (p := ⟨gC, v, none⟩) (by simp only; omega) _).alloc _).alloc _
  have hB3 : Kept (OwnA b (.slice (some ⟨gC, 0, none⟩) n capC) (.slice (some ⟨gl, 0, none⟩) m cap) (.slice aW wl cW) vs) w (((w1.setCell ⟨gC, v, none⟩ (.bool true)).alloc (.cells #[.int .u8 67, .int .i64 (c : Int), .int .i64 (wl : Int), .int .i64 (m : Int)] 55)).alloc (.cells #[.int .i64 (v : Int)] 3)) := (((Kept.of HB2.out).setCell (p := ⟨gC, v, none⟩) (.inl (.inr (.inl rfl))) _).alloc _).alloc _
  have hsz3 : w1.heap.size + 2 = (((w1.setCell ⟨gC, v, none⟩ (.bool true)).alloc (.cells #[.int .u8 67, .int .i64 (c : Int), .int .i64 (wl : Int), .int .i64 (m : Int)] 55)).alloc (.cells #[.int .i64 (v : Int)] 3)).heap.size := by simp [World.setCell]
  generalize (((w1.setCell ⟨gC, v, none⟩ (.bool true)).alloc (.cells #[.int .u8 67, .int .i64 (c : Int), .int .i64 (wl : Int), .int .i64 (m : Int)] 55)).alloc (.cells #[.int .i64 (v : Int)] 3)) = W3 at *
  refine (insert_any base (w1.heap.size + 1) (.slice (some ⟨gl, 0, none⟩) m cap) x v (y :: r) W3 hL3 (by simp) (by have := HM.out; simp only [List.length_cons] at this ⊢; omega) bT (by simp [Value.ownBlock]; omega) A3.ble).mono ?_
  rintro e w4 ⟨v', rfl, hr4, hg4, hat4⟩
  obtain ⟨g4, cap4, rfl, -, -, -⟩ := own_form hr4 (by omega)
  have nb : some b ≠ some gl := fun e => own_blk_ne hL3 A3.blk (by decide) e.symm
  have b4 := A3.blk.grown hg4 nb
  obtain ⟨lb4, z0, z1, z2, z3, u2, u3⟩ := four b4
  have s4 := bS.grown hg4 (fun e => own_blk_ne hL3 bS (by decide) e.symm)
  have t4 := bR.grown hg4 (fun e => own_blk_ne hL3 bR (by decide) e.symm)
  obtain ⟨ls4, s0, s1, s2, s3, -⟩ := four s4
  obtain ⟨lt4, t0, t1, t2, t3, r2, r3⟩ := four t4
  have r0 := t4.frozen 0
  have r1 := t4.frozen 1
  have A4 := A3.reloop (l := x :: v :: y :: r) hg4 (by simpa [intsV] using hr4) hat4 (by simp)
  have hB4 := hB3.grown hg4 (fun j e => .inl (.inr (.inr (.inl e))))
  have hO4 := own_reloop (b := b) (vC := .slice (some ⟨gC, 0, none⟩) n capC) (vW := .slice aW wl cW) (vs := vs) (z := w.heap.size) (by
    rcases hat4 with e | ⟨q, e, hq⟩
    · exact .inl e
    · exact .inr ⟨q, e, by omega⟩)
  have k1 : b ≠ w.heap.size := fun e => by have := lb; omega
  have k2 : b ≠ w1.heap.size := by omega
  have k3 : w.heap.size ≠ w1.heap.size := by omega
  have hbb := Nat.le_trans H.out.ble (Nat.le_refl _)
  generalize (y :: r).length + 2 = k4 at *
  have HA4 := Lib.hid A4
  have HB4 := Lib.hid hB4
  have HO4 := Lib.hid hO4
  have HT4 := Lib.hid t4
  clear A4 hB4 hO4 hr4 hg4 hat4 A3 hL3 bT bS bR hB3 b4 s4 t4
  go_wp2
  obtain ⟨o1, o2, o3⟩ := HA4.out.out4 (HT4.out.far (p := ⟨b, 2, none⟩) (by simp only; omega) _) (HB4.out.setCell (p := ⟨b, 2, none⟩) (.inl (.inl rfl)) _) (Nat.le_refl _) (.int .u8 67) (.int .i64 (c : Int)) (.int .i64 (wl : Int)) (.int .i64 (m : Int))
  obtain ⟨-, p0, p1, p2, p3, -⟩ := four o2
  exact bodyPost_ret (v := .tuple #[.agg #[.int .u8 67, .int .i64 (c : Int), .int .i64 (wl : Int), .int .i64 (m : Int)], .bool true]) (by simp [results, Tryz.results60, go_sem, p0, p1, p2, p3]) rfl ⟨rfl, _, o1, o3, HO4.out⟩
end Go.Proofs.YtghlnknncahkgaaGreat
/-
  A walk that is on its way, or over; a step where no loop is left.
-/
namespace Go.Proofs.YtghlnknncahkgaaGreat
open Go.RowKit Go.Maps

/-- A walk that is on its way, or over; its blocks are of S. -/
def WayS (w : World) (base g b n : Nat) (S : Nat → Prop) (s : WSt) : Prop :=
  (∀ k, S k → base ≤ k ∧ k < w.heap.size) ∧ ((∃ vC vL vW vs, WayAt w base g b vC vL vW vs n s ∧ ∀ k, OwnA b vC vL vW vs k → S k) ∨ (s.loop = [] ∧ S b ∧ ∃ vC vW, Blk w b 145 #[.pointer (some ⟨g, 0, none⟩), vC, .slice none 0 0, vW]))
section
variable {w w' : World} {base g b n : Nat} {S : Nat → Prop} {s s' : WSt} {T : List Tr}
theorem WayS.same (h : WayS w base g b n S s) (hz : w.heap.size ≤ w'.heap.size) (hs : ∀ k, S k → w'.heap[k]? = w.heap[k]?) : WayS w' base g b n S s := by
  obtain ⟨h1, ⟨vC, vL, vW, vs, h2, h3⟩ | ⟨h2, h3, vC, vW, h4⟩⟩ := h
  · exact ⟨fun k hk => by have := h1 k hk; omega, .inl ⟨vC, vL, vW, vs, h2.same (fun k hk => hs k (h3 k hk)), h3⟩⟩
  · exact ⟨fun k hk => by have := h1 k hk; omega, .inr ⟨h2, h3, vC, vW, blk_same h4 (hs b h3)⟩⟩
/-- What a step leaves behind. -/
def StpPost (w : World) (base g b n : Nat) (S : Nat → Prop) (s' : WSt) (w' : World) : Prop := ∃ S', WayS w' base g b n S' s' ∧ (∀ k, S' k → S k ∨ (w.heap.size ≤ k ∧ k < w'.heap.size)) ∧ Kept S w w'
theorem stp_of {vC vL vW vL' vW' : Value} {vs vs' : List Value} (hS : ∀ k, OwnA b vC vL vW vs k → S k) (h' : WayAt w' base g b vC vL' vW' vs' n s') (k : Kind w w' b vC vL vW vs vL' vW' vs') : StpPost w base g b n S s' w' :=
  ⟨OwnA b vC vL' vW' vs', ⟨fun _j hj => h'.own_ge hj, .inl ⟨vC, vL', vW', vs', h', fun _ hj => hj⟩⟩, fun j hj => (k.own j hj).imp (hS j) (fun e => ⟨e, (h'.own_ge hj).2⟩), k.kept.mono hS⟩
set_option maxRecDepth 100000 in
set_option maxHeartbeats 1000000 in
/-- No loop is left. -/
theorem step_end (h : WayS w base g b n S s) (hl : s.loop = []) (_hb : base ≤ w.heap.size) :
    Calls Tryz.prog 60 #[.pointer (some ⟨b, 0, none⟩)] w fun e w' => e = .returned (.tuple #[.agg #[.int .u8 0, .int .i64 0, .int .i64 0, .int .i64 0], .bool false]) ∧ Kept S w w' := by
  obtain ⟨-, ⟨vC, vL, vW, vs, hA, hO⟩ | ⟨-, hSb, vC, vW, hB⟩⟩ := h
  · exact absurd hl hA.nn
  obtain ⟨lb, c0, c1, c2, c3, f2, f3⟩ := four hB
  have b0 := Blk.new w 55 #[.int .u8 0, .int .i64 0, .int .i64 0, .int .i64 0]
  have hBB := hB.alloc (.cells #[.int .u8 0, .int .i64 0, .int .i64 0, .int .i64 0] 55)
  have hk : Kept S w (w.alloc (.cells #[.int .u8 0, .int .i64 0, .int .i64 0, .int .i64 0] 55)) := (Kept.refl _ _).alloc _
  have hnil := fun (W : World) => Lib.run_eql_slice_nil (P := Tryz.prog) W 28 3 none 0 0 0 0 Tryz.underlying28
  go_enter Tryz.func60, Tryz.ntmps60
  go_wp2
  obtain ⟨-, p0, p1, p2, p3, -⟩ := four b0
  exact bodyPost_ret (v := .tuple #[.agg #[.int .u8 0, .int .i64 0, .int .i64 0, .int .i64 0], .bool false]) (by simp [results, Tryz.results60, go_sem, p0, p1, p2, p3]) rfl ⟨rfl, hk⟩
end
end Go.Proofs.YtghlnknncahkgaaGreat
/-
  (*way).step, at the letter L, by walking its text.
-/
namespace Go.Proofs.YtghlnknncahkgaaGreat
open Go.RowKit Go.Maps

set_option maxRecDepth 100000 in
set_option maxHeartbeats 2000000 in
theorem stepL_any {w : World} {base g b n : Nat} {vC vL vW : Value} {vs : List Value} {s : WSt} {T : List Tr} (hT : Tab w g n T) (h : WayAt w base g b vC vL vW vs n s) {x y : Int} {r : List Int} (hl : s.loop = x :: y :: r)
    (hx : -1 ≤ x ∧ x ≤ 10000) (hy : -1 ≤ y ∧ y ≤ 10000) (hc : 0 ≤ facI T (x, y)) (hv : vertI T (facI T (x, y)) ∈ s.come) (hlen : r.length ≤ 50000) (_hwl : s.wait.length ≤ 50000) (h1 : 2 ≤ r.length) (hi : Lib.idxOf s.loop (vertI T (facI T (x, y))) = r.length + 1) :
    Calls Tryz.prog 60 #[.pointer (some ⟨b, 0, none⟩)] w fun e w' => e = .returned (.tuple #[.agg #[.int .u8 76, .int .i64 (facI T (x, y)), .int .i64 s.wait.length, .int .i64 (r.length + 2 : Nat)], .bool true]) ∧
      (∃ vL', WayAt w' base g b vC vL' vW vs n ⟨s.come, vertI T (facI T (x, y)) :: (y :: r).dropLast, s.wait⟩ ∧ Kind w w' b vC vL vW vs vL' vW vs) := by
  have hL := h.L
  rw [hl] at hL
  obtain ⟨m, hm⟩ : ∃ m, (x :: y :: r).length = m := ⟨_, rfl⟩
  rw [hm] at hL
  have hm2 : r.length + 2 = m := hm
  obtain ⟨gl, cap, rfl, hgl, hcap, hcap2⟩ := own_form hL (by omega)
  obtain ⟨aW, cW, rfl⟩ := ownsRow_slice h.W
  obtain ⟨lb, c0, c1, c2, c3, f2, f3⟩ := four h.blk
  have hs0 : (intsV (x :: y :: r))[0]? = some (.int .i64 x) := rfl
  have l0 : w.cell? ⟨gl, 0, none⟩ = some (.int .i64 x) := by rw [hL.cellAt 0 (by omega)]; exact hs0
  have l1 : w.cell? ⟨gl, 1, none⟩ = some (.int .i64 y) := by rw [hL.cellAt 1 (by omega)]; rfl
  have hnil := fun (W : World) => Lib.run_eql_slice_nil (P := Tryz.prog) W 28 3 (some ⟨gl, 0, none⟩) m cap 0 0 Tryz.underlying28
  obtain ⟨c, hce⟩ : ∃ c : Nat, facI T (x, y) = (c : Int) := ⟨(facI T (x, y)).toNat, by omega⟩
  have hcl := (facI_some hce).1
  have hvb := vertN_in hT.inr hcl
  obtain ⟨v, hve⟩ : ∃ v : Nat, vertI T (facI T (x, y)) = (v : Int) := ⟨(vertN T c).toNat, by rw [hce, vertI_nat hcl]; omega⟩
  have hvn : v < n := by rw [hce, vertI_nat hcl] at hve; omega
  obtain ⟨bs, hC, hbs⟩ := h.C
  obtain ⟨gC, capC, rfl, hgC, hcC, -⟩ := own_form hC (by omega)
  have hbv : bs[v]? = some true := (hbs.2 v hvn).2 (by rw [← hve]; exact hv)
  have cv : w.cell? ⟨gC, v, none⟩ = some (.bool true) := by
    rw [hC.cellAt v (by omega)]
    simp [bools, hbv]
  have HF := Lib.hid (fun (W : World) (hW : Below w.heap.size w W) => facing_any g n x y T W (hT.below hW) hx hy)
  have HV := Lib.hid (fun (W : World) (hW : Below w.heap.size w W) => (show Calls Tryz.prog 36 #[.pointer (some ⟨g, 0, none⟩), .int .i64 (c : Int)] W fun e w' => e = .returned (.int .i64 (v : Int)) ∧ W = w' from by
    have := vertex_any g n (facI T (x, y)) T W (hT.below hW).toTabS
    rw [hve, hce] at this
    exact this))
  have HI := Lib.hid (fun (W : World) (hW : WayAt W base g b (.slice (some ⟨gC, 0, none⟩) n capC) (.slice (some ⟨gl, 0, none⟩) m cap) (.slice aW s.wait.length cW) vs n s) => (show Calls Tryz.prog 87 #[.slice (some ⟨gl, 0, none⟩) m cap, .int .i64 (v : Int)] W fun e w' => e = .returned (.int .i64 (Lib.idxOf s.loop (v : Int))) ∧ w' = W from by
    have h2 := hW.L
    have h3 : s.loop.length = m := by rw [hl]; exact hm
    rw [h3] at h2
    have := Tryz.slices_Index_int gl 0 m cap s.loop (v : Int) W (Nat.le_of_eq h3.symm) (by omega) (fun j hj => by
      rw [Nat.zero_add, h2.cellAt j (by rw [Nat.mul_one, ← h3]; exact hj)]
      simp [intsV, List.getD, List.getElem?_eq_getElem hj])
    rw [show s.loop.take m = s.loop from List.take_of_length_le (by omega)] at this
    exact this))
  rw [hve] at hv hi ⊢
  rw [hce] at HF ⊢
  rw [hm2]
  obtain ⟨wl, hwe⟩ : ∃ wl, s.wait.length = wl := ⟨_, rfl⟩
  rw [hwe] at c3 h HI ⊢
  have H := Lib.hid h
  have HL := Lib.hid hl
  have HM := Lib.hid hm
  have HWE := Lib.hid hwe
  have hm3 : m ≤ 50002 := by omega
  have hm4 : 2 ≤ m := by omega
  have HIX := Lib.hid (show Lib.idxOf s.loop (v : Int) = (m : Int) - 1 from by rw [hi]; omega)
  have n3 : ((m : Int) == 3) = false := by simp; omega
  have n4 : 3 < m := by omega
  have HLM := Lib.hid (show s.loop.length = m from by rw [hl]; exact hm)
  obtain ⟨i2, hj', hz0, hz1, hz2⟩ := info_parts infoInt9
  clear hi h1
  clear h hT hl hL hs0 hm hm2 hlen hce hcl hvb hve hC hbs hbv hv hc hwe
  go_enter Tryz.func60, Tryz.ntmps60
  go_wp2
  have hA := H.out.alloc (.cells #[.int .u8 0, .int .i64 0, .int .i64 0, .int .i64 0] 55)
  have hB0 : Below w.heap.size w (w.alloc (.cells #[.int .u8 0, .int .i64 0, .int .i64 0, .int .i64 0] 55)) := (Below.refl _ _).alloc (Nat.le_refl _) _
  have b0 := Blk.new w 55 #[.int .u8 0, .int .i64 0, .int .i64 0, .int .i64 0]
  have hszA : w.heap.size < (w.alloc (.cells #[.int .u8 0, .int .i64 0, .int .i64 0, .int .i64 0] 55)).heap.size := by simp
  generalize w.alloc (.cells #[.int .u8 0, .int .i64 0, .int .i64 0, .int .i64 0] 55) = wA at *
  obtain ⟨lb', c0', c1', c2', c3', -⟩ := four hA.blk
  have l0' := (hB0.cell (p := ⟨gl, 0, none⟩) hgl).trans l0
  have l1' := (hB0.cell (p := ⟨gl, 1, none⟩) hgl).trans l1
  have HA := Lib.hid hA
  have HB0 := Lib.hid hB0
  have Hb0 := Lib.hid b0
  clear hA hB0 b0
  have i0 : (0 : Int) < (m : Int) := by omega
  have i1 : (1 : Int) < (m : Int) := by omega
  have d0 := cell_regrown c0'
  have d2 := cell_regrown c2'
  have q0 := cell_regrown l0'
  have q1 := cell_regrown l1'
  refine wp_region_quiet_below (by kernel_rfl) (by kernel_rfl) ?_
  repeat (go_big_quiet_step ((go_at_call 62; exact Calls.regrown_of (HF.out _ (HB0.out.trans ((below_regrown wA _ _).mono HB0.out.size))))))
  refine wpQuiet_nil ?_
  intro _ hw'
  obtain ⟨⟨dq, osq⟩, hw''⟩ := hw'
  subst hw''
  have hB1 := below_regrown wA dq osq
  generalize Sort.grow (redrawn wA dq) osq = w1 at *
  have hA1 := HA.out.below hB1
  obtain ⟨lb1, x0, x1, x2, x3, y2, y3⟩ := four hA1.blk
  have HA1 := Lib.hid hA1
  have hB2 := HB0.out.trans (hB1.mono HB0.out.size)
  have cv1 := (hB2.cell (p := ⟨gC, v, none⟩) hgC).trans cv
  have lx1 := (hB2.cell (p := ⟨gl, 0, none⟩) hgl).trans l0
  have hsz1 := hB1.size
  have hgC1 : gC < w1.heap.size := by omega
  have hgl1 : gl < w1.heap.size := by omega
  have HB1 := Lib.hid hB1
  have HB2 := Lib.hid hB2
  have HA2 := Lib.hid (HA1.out.alloc (.cells #[.int .u8 0, .int .i64 (c : Int), .int .i64 (wl : Int), .int .i64 (m : Int)] 55))
  have hbbN : base ≤ w.heap.size := H.out.ble
  have k1 : b ≠ w.heap.size := fun e => by have := lb; omega
  have k2 : b ≠ w1.heap.size := by omega
  have k3 : w.heap.size ≠ w1.heap.size := by omega
  clear hA1 hB1 hB2 d0 d2 q0 q1 c0' c2' l0' l1' c1' c3'
  have HW1 := Lib.hid (HA1.out.alloc (.cells #[.int .u8 76, .int .i64 (c : Int), .int .i64 (wl : Int), .int .i64 (m : Int)] 55))
  have A3 := (HW1.out.alloc (.cells #[.int .i64 (v : Int)] 3))
  have bT : Blk ((w1.alloc (.cells #[.int .u8 76, .int .i64 (c : Int), .int .i64 (wl : Int), .int .i64 (m : Int)] 55)).alloc (.cells #[.int .i64 (v : Int)] 3)) (w1.heap.size + 1) 3 #[.int .i64 (v : Int)] := (blk_new_at (by simp) : Blk ((w1.alloc (.cells #[.int .u8 76, .int .i64 (c : Int), .int .i64 (wl : Int), .int .i64 (m : Int)] 55)).alloc (.cells #[.int .i64 (v : Int)] 3)) (w1.heap.size + 1) 3 #[.int .i64 (v : Int)])
  have bS : Blk ((w1.alloc (.cells #[.int .u8 76, .int .i64 (c : Int), .int .i64 (wl : Int), .int .i64 (m : Int)] 55)).alloc (.cells #[.int .i64 (v : Int)] 3)) w1.heap.size 55 #[.int .u8 76, .int .i64 (c : Int), .int .i64 (wl : Int), .int .i64 (m : Int)] := ((blk_new_at (w := w1) (t := 55) rfl).alloc _)
  have bR : Blk ((w1.alloc (.cells #[.int .u8 76, .int .i64 (c : Int), .int .i64 (wl : Int), .int .i64 (m : Int)] 55)).alloc (.cells #[.int .i64 (v : Int)] 3)) w.heap.size 55 #[.int .u8 0, .int .i64 0, .int .i64 0, .int .i64 0] := (((Hb0.out.below HB1.out hszA).alloc _).alloc _)
  have hB3 : Kept (OwnA b (.slice (some ⟨gC, 0, none⟩) n capC) (.slice (some ⟨gl, 0, none⟩) m cap) (.slice aW wl cW) vs) w ((w1.alloc (.cells #[.int .u8 76, .int .i64 (c : Int), .int .i64 (wl : Int), .int .i64 (m : Int)] 55)).alloc (.cells #[.int .i64 (v : Int)] 3)) := (((Kept.of HB2.out).alloc _).alloc _)
  have hT1 := own_one (base := base) bT (by omega)
  have hP := A3.part HLM.out 1 (m - 1 - 1) (by omega)
  have hNl : (((s.loop.drop 1).take (m - 1 - 1)).map (Value.int .i64)).length = (m - 1 - 1) * 1 := by have := HLM.out; simp; omega
  have h1N : ∀ u ∈ ((s.loop.drop 1).take (m - 1 - 1)).map (Value.int .i64), u.oneCell' = true := by
    intro u hu
    obtain ⟨z, _, rfl⟩ := List.mem_map.1 hu
    rfl
  have c6 : 1 + (m - 1 - 1) ≤ maxLen := by unfold maxLen; omega
  have c7 : (1 + (m - 1 - 1)) * 8 ≤ 140737488355328 := by omega
  have nbT : some b ≠ some (w1.heap.size + 1) := by simp; omega
  have nsT : some w1.heap.size ≠ some (w1.heap.size + 1) := by simp
  have ntT : some w.heap.size ≠ some (w1.heap.size + 1) := by simp; omega
  have HA3 := Lib.hid A3
  have HbS := Lib.hid bS
  have HbR := Lib.hid bR
  have HB3 := Lib.hid hB3
  have HT1 := Lib.hid hT1
  have HP := Lib.hid hP
  have HNl := Lib.hid hNl
  have H1N := Lib.hid h1N
  clear A3 bT bS bR hB3 hT1 hP hNl h1N
  go_wp2_with (first | (go_at_call 36; refine (HV.out _ HB2.out).mono ?_; rintro e w2 ⟨rfl, rfl⟩) | (go_at_call 87; refine (HI.out _ HA2.out).mono ?_; rintro e w2 ⟨rfl, rfl⟩; rw [HIX.out]) | (at_builtin; refine wpList_append_lies _ rfl (.tmp 163) (.tmp 170) 28 rfl base 3 i2 _ 1 8 Tryz.underlying28 hj' hz0 hz1 hz2 rfl (by decide) (.slice (some ⟨w1.heap.size + 1, 0, none⟩) 1 1) 1 [.int .i64 (v : Int)] rfl HT1.out ⟨gl, 1, none⟩ (m - 1 - 1) (cap - 1) (((s.loop.drop 1).take (m - 1 - 1)).map (Value.int .i64)) rfl HNl.out HP.out H1N.out (by omega) c6 c7 (by simp; omega) (w1.heap.size + 2) (by simp) ?_; intro g4 cap4 w4 hr4 hg4 hat4 hlt4; have b4 := HA3.out.blk.grown hg4 nbT; obtain ⟨lb4, z0, z1, z2, z3, u2, u3⟩ := four b4; have s4 := HbS.out.grown hg4 nsT; have t4 := HbR.out.grown hg4 ntT; obtain ⟨ls4, s0, s1, s2, s3, -⟩ := four s4; obtain ⟨lt4, t0, t1, t2, t3, r2, r3⟩ := four t4; have r0 := t4.frozen 0; have r1 := t4.frozen 1; have HT4 := Lib.hid t4; have HG4 := Lib.hid hg4; have HR4 := Lib.hid hr4; have HAT4 := Lib.hid hat4; clear b4 s4 t4 hg4 hr4 hat4))
  all_goals
    have e4 : 1 + (m - 1 - 1) = ((v : Int) :: (y :: r).dropLast).length := by have := HLM.out; rw [HL.out] at this; simp at this ⊢; omega
    have e5 : [Value.int .i64 (v : Int)] ++ ((s.loop.drop 1).take (m - 1 - 1)).map (Value.int .i64) = intsV ((v : Int) :: (y :: r).dropLast) := by
      have := HLM.out
      rw [HL.out] at this ⊢
      simp only [List.length_cons] at this
      simp [intsV, List.dropLast_eq_take, show m - 1 - 1 = r.length from by omega]
    have hr4 := HR4.out
    rw [e4, e5] at hr4
    have A4 := HW1.out.reloop (l := (v : Int) :: (y :: r).dropLast) (gGrown (World.grownBy_alloc _ _ _) HG4.out (fun j e => .inr (by
      have : j = w1.heap.size + 1 := (Option.some.inj e).symm
      simp
      omega))) hr4 (.inr ⟨g4, rfl, by
      rcases HAT4.out with e | e
      · have : w1.heap.size + 1 = g4 := Option.some.inj e
        simp
        omega
      · simp
        omega⟩) (by simp)
    rw [← e4] at A4
    have hB4 := HB3.out.grown HG4.out (fun j e => .inr (by
      have : j = w1.heap.size + 1 := (Option.some.inj e).symm
      omega))
    have hO4 := own_reloop (b := b) (vC := .slice (some ⟨gC, 0, none⟩) n capC) (vL := .slice (some ⟨gl, 0, none⟩) m cap) (vL' := .slice (some ⟨g4, 0, none⟩) (1 + (m - 1 - 1)) cap4) (vW := .slice aW wl cW) (vs := vs) (z := w.heap.size) (.inr ⟨g4, rfl, by
      rcases HAT4.out with e | e
      · have : w1.heap.size + 1 = g4 := Option.some.inj e
        omega
      · have e' : g4 = w1.heap.size + 2 := e
        omega⟩)
    obtain ⟨o1, o2, o3⟩ := A4.out4 (HT4.out.far (p := ⟨b, 2, none⟩) (by simp only; omega) _) (hB4.setCell (p := ⟨b, 2, none⟩) (.inl (.inl rfl)) _) (Nat.le_refl _) (.int .u8 76) (.int .i64 (c : Int)) (.int .i64 (wl : Int)) (.int .i64 (m : Int))
    obtain ⟨-, p0, p1, p2, p3, -⟩ := four o2
    exact bodyPost_ret (v := .tuple #[.agg #[.int .u8 76, .int .i64 (c : Int), .int .i64 (wl : Int), .int .i64 (m : Int)], .bool true]) (by simp [results, Tryz.results60, go_sem, p0, p1, p2, p3]) rfl ⟨rfl, _, o1, o3, hO4⟩
end Go.Proofs.YtghlnknncahkgaaGreat
/-
  (*way).step, at the letter R, by walking its text.
-/
namespace Go.Proofs.YtghlnknncahkgaaGreat
open Go.RowKit Go.Maps

set_option maxRecDepth 100000 in
set_option maxHeartbeats 2000000 in
theorem stepR_any {w : World} {base g b n : Nat} {vC vL vW : Value} {vs : List Value} {s : WSt} {T : List Tr} (hT : Tab w g n T) (h : WayAt w base g b vC vL vW vs n s) {x y : Int} {r : List Int} (hl : s.loop = x :: y :: r)
    (hx : -1 ≤ x ∧ x ≤ 10000) (hy : -1 ≤ y ∧ y ≤ 10000) (hc : 0 ≤ facI T (x, y)) (hv : vertI T (facI T (x, y)) ∈ s.come) (hlen : r.length ≤ 50000) (_hwl : s.wait.length ≤ 50000) (h1 : 2 ≤ r.length) (hi : Lib.idxOf s.loop (vertI T (facI T (x, y))) = 2) :
    Calls Tryz.prog 60 #[.pointer (some ⟨b, 0, none⟩)] w fun e w' => e = .returned (.tuple #[.agg #[.int .u8 82, .int .i64 (facI T (x, y)), .int .i64 s.wait.length, .int .i64 (r.length + 2 : Nat)], .bool true]) ∧
      (∃ vL', WayAt w' base g b vC vL' vW vs n ⟨s.come, x :: r, s.wait⟩ ∧ Kind w w' b vC vL vW vs vL' vW vs) := by
  have hL := h.L
  rw [hl] at hL
  obtain ⟨m, hm⟩ : ∃ m, (x :: y :: r).length = m := ⟨_, rfl⟩
  rw [hm] at hL
  have hm2 : r.length + 2 = m := hm
  obtain ⟨gl, cap, rfl, hgl, hcap, hcap2⟩ := own_form hL (by omega)
  obtain ⟨aW, cW, rfl⟩ := ownsRow_slice h.W
  obtain ⟨lb, c0, c1, c2, c3, f2, f3⟩ := four h.blk
  have hs0 : (intsV (x :: y :: r))[0]? = some (.int .i64 x) := rfl
  have l0 : w.cell? ⟨gl, 0, none⟩ = some (.int .i64 x) := by rw [hL.cellAt 0 (by omega)]; exact hs0
  have l1 : w.cell? ⟨gl, 1, none⟩ = some (.int .i64 y) := by rw [hL.cellAt 1 (by omega)]; rfl
  have hnil := fun (W : World) => Lib.run_eql_slice_nil (P := Tryz.prog) W 28 3 (some ⟨gl, 0, none⟩) m cap 0 0 Tryz.underlying28
  obtain ⟨c, hce⟩ : ∃ c : Nat, facI T (x, y) = (c : Int) := ⟨(facI T (x, y)).toNat, by omega⟩
  have hcl := (facI_some hce).1
  have hvb := vertN_in hT.inr hcl
  obtain ⟨v, hve⟩ : ∃ v : Nat, vertI T (facI T (x, y)) = (v : Int) := ⟨(vertN T c).toNat, by rw [hce, vertI_nat hcl]; omega⟩
  have hvn : v < n := by rw [hce, vertI_nat hcl] at hve; omega
  obtain ⟨bs, hC, hbs⟩ := h.C
  obtain ⟨gC, capC, rfl, hgC, hcC, -⟩ := own_form hC (by omega)
  have hbv : bs[v]? = some true := (hbs.2 v hvn).2 (by rw [← hve]; exact hv)
  have cv : w.cell? ⟨gC, v, none⟩ = some (.bool true) := by
    rw [hC.cellAt v (by omega)]
    simp [bools, hbv]
  have HF := Lib.hid (fun (W : World) (hW : Below w.heap.size w W) => facing_any g n x y T W (hT.below hW) hx hy)
  have HV := Lib.hid (fun (W : World) (hW : Below w.heap.size w W) => (show Calls Tryz.prog 36 #[.pointer (some ⟨g, 0, none⟩), .int .i64 (c : Int)] W fun e w' => e = .returned (.int .i64 (v : Int)) ∧ W = w' from by
    have := vertex_any g n (facI T (x, y)) T W (hT.below hW).toTabS
    rw [hve, hce] at this
    exact this))
  have HI := Lib.hid (fun (W : World) (hW : WayAt W base g b (.slice (some ⟨gC, 0, none⟩) n capC) (.slice (some ⟨gl, 0, none⟩) m cap) (.slice aW s.wait.length cW) vs n s) => (show Calls Tryz.prog 87 #[.slice (some ⟨gl, 0, none⟩) m cap, .int .i64 (v : Int)] W fun e w' => e = .returned (.int .i64 (Lib.idxOf s.loop (v : Int))) ∧ w' = W from by
    have h2 := hW.L
    have h3 : s.loop.length = m := by rw [hl]; exact hm
    rw [h3] at h2
    have := Tryz.slices_Index_int gl 0 m cap s.loop (v : Int) W (Nat.le_of_eq h3.symm) (by omega) (fun j hj => by
      rw [Nat.zero_add, h2.cellAt j (by rw [Nat.mul_one, ← h3]; exact hj)]
      simp [intsV, List.getD, List.getElem?_eq_getElem hj])
    rw [show s.loop.take m = s.loop from List.take_of_length_le (by omega)] at this
    exact this))
  rw [hve] at hv hi
  rw [hce] at HF ⊢
  rw [hm2]
  obtain ⟨wl, hwe⟩ : ∃ wl, s.wait.length = wl := ⟨_, rfl⟩
  rw [hwe] at c3 h HI ⊢
  have H := Lib.hid h
  have HL := Lib.hid hl
  have HM := Lib.hid hm
  have HWE := Lib.hid hwe
  have hm3 : m ≤ 50002 := by omega
  have hm4 : 2 ≤ m := by omega
  have HIX := Lib.hid hi
  have n3 : ((m : Int) == 3) = false := by simp; omega
  have n5 : ((2 : Int) == (m : Int) - 1) = false := by simp; omega
  have n4 : 3 < m := by omega
  have n6 : (2 : Int) < (cap : Int) := by omega
  have n7 : 0 < m := by omega
  have n8 : 2 < cap := by omega
  have n9 : (2 : Int) ≤ (m : Int) := by omega
  have n10 : ¬ cap = 2 := by omega
  have HLM := Lib.hid (show s.loop.length = m from by rw [hl]; exact hm)
  obtain ⟨i2, hj', hz0, hz1, hz2⟩ := info_parts infoInt9
  clear hi h1
  clear h hT hl hL hs0 hm hm2 hlen hce hcl hvb hve hC hbs hbv hv hc hwe
  go_enter Tryz.func60, Tryz.ntmps60
  go_wp2
  have hA := H.out.alloc (.cells #[.int .u8 0, .int .i64 0, .int .i64 0, .int .i64 0] 55)
  have hB0 : Below w.heap.size w (w.alloc (.cells #[.int .u8 0, .int .i64 0, .int .i64 0, .int .i64 0] 55)) := (Below.refl _ _).alloc (Nat.le_refl _) _
  have b0 := Blk.new w 55 #[.int .u8 0, .int .i64 0, .int .i64 0, .int .i64 0]
  have hszA : w.heap.size < (w.alloc (.cells #[.int .u8 0, .int .i64 0, .int .i64 0, .int .i64 0] 55)).heap.size := by simp
  generalize w.alloc (.cells #[.int .u8 0, .int .i64 0, .int .i64 0, .int .i64 0] 55) = wA at *
  obtain ⟨lb', c0', c1', c2', c3', -⟩ := four hA.blk
  have l0' := (hB0.cell (p := ⟨gl, 0, none⟩) hgl).trans l0
  have l1' := (hB0.cell (p := ⟨gl, 1, none⟩) hgl).trans l1
  have HA := Lib.hid hA
  have HB0 := Lib.hid hB0
  have Hb0 := Lib.hid b0
  clear hA hB0 b0
  have i0 : (0 : Int) < (m : Int) := by omega
  have i1 : (1 : Int) < (m : Int) := by omega
  have d0 := cell_regrown c0'
  have d2 := cell_regrown c2'
  have q0 := cell_regrown l0'
  have q1 := cell_regrown l1'
  refine wp_region_quiet_below (by kernel_rfl) (by kernel_rfl) ?_
  repeat (go_big_quiet_step ((go_at_call 62; exact Calls.regrown_of (HF.out _ (HB0.out.trans ((below_regrown wA _ _).mono HB0.out.size))))))
  refine wpQuiet_nil ?_
  intro _ hw'
  obtain ⟨⟨dq, osq⟩, hw''⟩ := hw'
  subst hw''
  have hB1 := below_regrown wA dq osq
  generalize Sort.grow (redrawn wA dq) osq = w1 at *
  have hA1 := HA.out.below hB1
  obtain ⟨lb1, x0, x1, x2, x3, y2, y3⟩ := four hA1.blk
  have HA1 := Lib.hid hA1
  have hB2 := HB0.out.trans (hB1.mono HB0.out.size)
  have cv1 := (hB2.cell (p := ⟨gC, v, none⟩) hgC).trans cv
  have lx1 := (hB2.cell (p := ⟨gl, 0, none⟩) hgl).trans l0
  have hsz1 := hB1.size
  have hgC1 : gC < w1.heap.size := by omega
  have hgl1 : gl < w1.heap.size := by omega
  have HB1 := Lib.hid hB1
  have HB2 := Lib.hid hB2
  have HA2 := Lib.hid (HA1.out.alloc (.cells #[.int .u8 0, .int .i64 (c : Int), .int .i64 (wl : Int), .int .i64 (m : Int)] 55))
  have hbbN : base ≤ w.heap.size := H.out.ble
  have k1 : b ≠ w.heap.size := fun e => by have := lb; omega
  have k2 : b ≠ w1.heap.size := by omega
  have k3 : w.heap.size ≠ w1.heap.size := by omega
  clear hA1 hB1 hB2 d0 d2 q0 q1 c0' c2' l0' l1' c1' c3'
  have HW1 := Lib.hid (HA1.out.alloc (.cells #[.int .u8 82, .int .i64 (c : Int), .int .i64 (wl : Int), .int .i64 (m : Int)] 55))
  have A3 := (HW1.out.alloc (.cells #[.int .i64 x] 3)).drew
  have bT : Blk ((w1.alloc (.cells #[.int .u8 82, .int .i64 (c : Int), .int .i64 (wl : Int), .int .i64 (m : Int)] 55)).alloc (.cells #[.int .i64 x] 3)).drew (w1.heap.size + 1) 3 #[.int .i64 x] := (blk_new_at (by simp) : Blk ((w1.alloc (.cells #[.int .u8 82, .int .i64 (c : Int), .int .i64 (wl : Int), .int .i64 (m : Int)] 55)).alloc (.cells #[.int .i64 x] 3)) (w1.heap.size + 1) 3 #[.int .i64 x]).drew
  have bS : Blk ((w1.alloc (.cells #[.int .u8 82, .int .i64 (c : Int), .int .i64 (wl : Int), .int .i64 (m : Int)] 55)).alloc (.cells #[.int .i64 x] 3)).drew w1.heap.size 55 #[.int .u8 82, .int .i64 (c : Int), .int .i64 (wl : Int), .int .i64 (m : Int)] := ((blk_new_at (w := w1) (t := 55) rfl).alloc _).drew
  have bR : Blk ((w1.alloc (.cells #[.int .u8 82, .int .i64 (c : Int), .int .i64 (wl : Int), .int .i64 (m : Int)] 55)).alloc (.cells #[.int .i64 x] 3)).drew w.heap.size 55 #[.int .u8 0, .int .i64 0, .int .i64 0, .int .i64 0] := (((Hb0.out.below HB1.out hszA).alloc _).alloc _).drew
  have hB3 : Kept (OwnA b (.slice (some ⟨gC, 0, none⟩) n capC) (.slice (some ⟨gl, 0, none⟩) m cap) (.slice aW wl cW) vs) w ((w1.alloc (.cells #[.int .u8 82, .int .i64 (c : Int), .int .i64 (wl : Int), .int .i64 (m : Int)] 55)).alloc (.cells #[.int .i64 x] 3)).drew := (((Kept.of HB2.out).alloc _).alloc _).drew
  have hT1 := own_one (base := base) bT (by omega)
  have hP := A3.part HLM.out 2 (m - 2) (by omega)
  have hNl : (((s.loop.drop 2).take (m - 2)).map (Value.int .i64)).length = (m - 2) * 1 := by have := HLM.out; simp; omega
  have h1N : ∀ u ∈ ((s.loop.drop 2).take (m - 2)).map (Value.int .i64), u.oneCell' = true := by
    intro u hu
    obtain ⟨z, _, rfl⟩ := List.mem_map.1 hu
    rfl
  have c6 : 1 + (m - 2) ≤ maxLen := by unfold maxLen; omega
  have c7 : (1 + (m - 2)) * 8 ≤ 140737488355328 := by omega
  have nbT : some b ≠ some (w1.heap.size + 1) := by simp; omega
  have nsT : some w1.heap.size ≠ some (w1.heap.size + 1) := by simp
  have ntT : some w.heap.size ≠ some (w1.heap.size + 1) := by simp; omega
  have HA3 := Lib.hid A3
  have HbS := Lib.hid bS
  have HbR := Lib.hid bR
  have HB3 := Lib.hid hB3
  have HT1 := Lib.hid hT1
  have HP := Lib.hid hP
  have HNl := Lib.hid hNl
  have H1N := Lib.hid h1N
  clear A3 bT bS bR hB3 hT1 hP hNl h1N
  go_wp2_with (first | (go_at_call 36; refine (HV.out _ HB2.out).mono ?_; rintro e w2 ⟨rfl, rfl⟩) | (go_at_call 87; refine (HI.out _ HA2.out).mono ?_; rintro e w2 ⟨rfl, rfl⟩; rw [HIX.out]))
  go_region_law (first | (refine step_append_lies _ rfl (.tmp 185) (.tmp 190) 28 rfl base 3 i2 _ 1 8 Tryz.underlying28 hj' hz0 hz1 hz2 rfl (by decide) (.slice (some ⟨w1.heap.size + 1, 0, none⟩) 1 1) 1 [.int .i64 x] rfl HT1.out ⟨gl, 2, none⟩ (m - 2) (cap - 2) (((s.loop.drop 2).take (m - 2)).map (Value.int .i64)) rfl HNl.out HP.out H1N.out (by omega) c6 c7 (by simp; omega) (w1.heap.size + 2) (by simp) ?_; intro g4 cap4 w4 hr4 hg4 hat4 hlt4; have b4 := HA3.out.blk.grown hg4 nbT; obtain ⟨lb4, z0, z1, z2, z3, u2, u3⟩ := four b4; have s4 := HbS.out.grown hg4 nsT; have t4 := HbR.out.grown hg4 ntT; obtain ⟨ls4, s0, s1, s2, s3, -⟩ := four s4; obtain ⟨lt4, t0, t1, t2, t3, r2, r3⟩ := four t4; have r0 := t4.frozen 0; have r1 := t4.frozen 1; have HT4 := Lib.hid t4; have HG4 := Lib.hid hg4; have HR4 := Lib.hid hr4; have HAT4 := Lib.hid hat4; clear b4 s4 t4 hg4 hr4 hat4))
  all_goals
    go_wp2
    have e4 : 1 + (m - 2) = (x :: r).length := by have := HLM.out; rw [HL.out] at this; simp at this ⊢; omega
    have e5 : [Value.int .i64 x] ++ ((s.loop.drop 2).take (m - 2)).map (Value.int .i64) = intsV (x :: r) := by
      have := HLM.out
      rw [HL.out] at this ⊢
      simp only [List.length_cons] at this
      simp [intsV, show m - 2 = r.length from by omega]
    have hr4 := HR4.out
    rw [e4, e5] at hr4
    have A4 := HW1.out.reloop (l := x :: r) (gGrown (gDrew (World.grownBy_alloc _ _ _)) HG4.out (fun j e => .inr (by
      have : j = w1.heap.size + 1 := (Option.some.inj e).symm
      simp
      omega))) hr4 (.inr ⟨g4, rfl, by
      rcases HAT4.out with e | e
      · have : w1.heap.size + 1 = g4 := Option.some.inj e
        simp
        omega
      · simp
        omega⟩) (by simp)
    rw [← e4] at A4
    have hB4 := HB3.out.grown HG4.out (fun j e => .inr (by
      have : j = w1.heap.size + 1 := (Option.some.inj e).symm
      omega))
    have hO4 := own_reloop (b := b) (vC := .slice (some ⟨gC, 0, none⟩) n capC) (vL := .slice (some ⟨gl, 0, none⟩) m cap) (vL' := .slice (some ⟨g4, 0, none⟩) (1 + (m - 2)) cap4) (vW := .slice aW wl cW) (vs := vs) (z := w.heap.size) (.inr ⟨g4, rfl, by
      rcases HAT4.out with e | e
      · have : w1.heap.size + 1 = g4 := Option.some.inj e
        omega
      · have e' : g4 = w1.heap.size + 2 := e
        omega⟩)
    obtain ⟨o1, o2, o3⟩ := A4.out4 (HT4.out.far (p := ⟨b, 2, none⟩) (by simp only; omega) _) (hB4.setCell (p := ⟨b, 2, none⟩) (.inl (.inl rfl)) _) (Nat.le_refl _) (.int .u8 82) (.int .i64 (c : Int)) (.int .i64 (wl : Int)) (.int .i64 (m : Int))
    obtain ⟨-, p0, p1, p2, p3, -⟩ := four o2
    exact bodyPost_ret (v := .tuple #[.agg #[.int .u8 82, .int .i64 (c : Int), .int .i64 (wl : Int), .int .i64 (m : Int)], .bool true]) (by simp [results, Tryz.results60, go_sem, p0, p1, p2, p3]) rfl ⟨rfl, _, o1, o3, hO4⟩
end Go.Proofs.YtghlnknncahkgaaGreat
/-
  (*way).step, at the letter S, by walking its text.
-/
namespace Go.Proofs.YtghlnknncahkgaaGreat
open Go.RowKit Go.Maps
/-- Behind the first half. -/
def SMid (w : World) (base g b n q1 : Nat) (vC vL vW0 : Value) (vs0 : List Value) (s : WSt) (st : Array Value) (W : World) : Prop := ∃ vW vs, WayAt W base g b vC vL vW vs n s ∧ Blk W q1 55 st ∧ Blk W w.heap.size 55 #[.int .u8 0, .int .i64 0, .int .i64 0, .int .i64 0] ∧ Kind w W b vC vL vW0 vs0 vL vW vs
theorem infoInts9 : (Tryz.prog.info? 28).map (fun i => (i.zero, i.size, i.bytes)) = some (some (.slice none 0 0), 1, 24) := by kernel_rfl
theorem cells_int {l : List Int} : ∀ u ∈ l.map (Value.int .i64), u.oneCell' = true := by
  intro u hu
  obtain ⟨z, _, rfl⟩ := List.mem_map.1 hu
  rfl

set_option maxRecDepth 100000 in
set_option maxHeartbeats 2000000 in
theorem stepS_any {w : World} {base g b n : Nat} {vC vL vW : Value} {vs : List Value} {s : WSt} {T : List Tr} (hT : Tab w g n T) (h : WayAt w base g b vC vL vW vs n s) {x y : Int} {r : List Int} (hl : s.loop = x :: y :: r)
    (hx : -1 ≤ x ∧ x ≤ 10000) (hy : -1 ≤ y ∧ y ≤ 10000) (hc : 0 ≤ facI T (x, y)) (hv : vertI T (facI T (x, y)) ∈ s.come) (hlen : r.length ≤ 50000) (hwl : s.wait.length ≤ 50000) (i : Nat) (hi2 : 2 < i) (hi3 : i < r.length + 1) (hi : Lib.idxOf s.loop (vertI T (facI T (x, y))) = i) :
    Calls Tryz.prog 60 #[.pointer (some ⟨b, 0, none⟩)] w fun e w' => e = .returned (.tuple #[.agg #[.int .u8 83, .int .i64 (facI T (x, y)), .int .i64 s.wait.length, .int .i64 (r.length + 2 : Nat)], .bool true]) ∧
      (∃ vL' vW' vs', WayAt w' base g b vC vL' vW' vs' n ⟨s.come, x :: (x :: y :: r).drop i, s.wait ++ [vertI T (facI T (x, y)) :: (y :: r).take (i - 1)]⟩ ∧ Kind w w' b vC vL vW vs vL' vW' vs') := by
  have hL := h.L
  rw [hl] at hL
  obtain ⟨m, hm⟩ : ∃ m, (x :: y :: r).length = m := ⟨_, rfl⟩
  rw [hm] at hL
  have hm2 : r.length + 2 = m := hm
  obtain ⟨gl, cap, rfl, hgl, hcap, hcap2⟩ := own_form hL (by omega)
  obtain ⟨aW, cW, rfl⟩ := ownsRow_slice h.W
  obtain ⟨lb, c0, c1, c2, c3, f2, f3⟩ := four h.blk
  have hs0 : (intsV (x :: y :: r))[0]? = some (.int .i64 x) := rfl
  have l0 : w.cell? ⟨gl, 0, none⟩ = some (.int .i64 x) := by rw [hL.cellAt 0 (by omega)]; exact hs0
  have l1 : w.cell? ⟨gl, 1, none⟩ = some (.int .i64 y) := by rw [hL.cellAt 1 (by omega)]; rfl
  have hnil := fun (W : World) => Lib.run_eql_slice_nil (P := Tryz.prog) W 28 3 (some ⟨gl, 0, none⟩) m cap 0 0 Tryz.underlying28
  obtain ⟨c, hce⟩ : ∃ c : Nat, facI T (x, y) = (c : Int) := ⟨(facI T (x, y)).toNat, by omega⟩
  have hcl := (facI_some hce).1
  have hvb := vertN_in hT.inr hcl
  obtain ⟨v, hve⟩ : ∃ v : Nat, vertI T (facI T (x, y)) = (v : Int) := ⟨(vertN T c).toNat, by rw [hce, vertI_nat hcl]; omega⟩
  have hvn : v < n := by rw [hce, vertI_nat hcl] at hve; omega
  obtain ⟨bs, hC, hbs⟩ := h.C
  obtain ⟨gC, capC, rfl, hgC, hcC, -⟩ := own_form hC (by omega)
  have hbv : bs[v]? = some true := (hbs.2 v hvn).2 (by rw [← hve]; exact hv)
  have cv : w.cell? ⟨gC, v, none⟩ = some (.bool true) := by
    rw [hC.cellAt v (by omega)]
    simp [bools, hbv]
  have HF := Lib.hid (fun (W : World) (hW : Below w.heap.size w W) => facing_any g n x y T W (hT.below hW) hx hy)
  have HV := Lib.hid (fun (W : World) (hW : Below w.heap.size w W) => (show Calls Tryz.prog 36 #[.pointer (some ⟨g, 0, none⟩), .int .i64 (c : Int)] W fun e w' => e = .returned (.int .i64 (v : Int)) ∧ W = w' from by
    have := vertex_any g n (facI T (x, y)) T W (hT.below hW).toTabS
    rw [hve, hce] at this
    exact this))
  have HI := Lib.hid (fun (W : World) (hW : WayAt W base g b (.slice (some ⟨gC, 0, none⟩) n capC) (.slice (some ⟨gl, 0, none⟩) m cap) (.slice aW s.wait.length cW) vs n s) => (show Calls Tryz.prog 87 #[.slice (some ⟨gl, 0, none⟩) m cap, .int .i64 (v : Int)] W fun e w' => e = .returned (.int .i64 (Lib.idxOf s.loop (v : Int))) ∧ w' = W from by
    have h2 := hW.L
    have h3 : s.loop.length = m := by rw [hl]; exact hm
    rw [h3] at h2
    have := Tryz.slices_Index_int gl 0 m cap s.loop (v : Int) W (Nat.le_of_eq h3.symm) (by omega) (fun j hj => by
      rw [Nat.zero_add, h2.cellAt j (by rw [Nat.mul_one, ← h3]; exact hj)]
      simp [intsV, List.getD, List.getElem?_eq_getElem hj])
    rw [show s.loop.take m = s.loop from List.take_of_length_le (by omega)] at this
    exact this))
  rw [hve] at hv hi ⊢
  rw [hce] at HF ⊢
  rw [hm2]
  obtain ⟨wl, hwe⟩ : ∃ wl, s.wait.length = wl := ⟨_, rfl⟩
  rw [hwe] at hwl c3 h HI ⊢
  have H := Lib.hid h
  have HL := Lib.hid hl
  have HM := Lib.hid hm
  have HWE := Lib.hid hwe
  have hm3 : m ≤ 50002 := by omega
  have hm4 : 2 ≤ m := by omega
  have HIX := Lib.hid hi
  have n3 : ((m : Int) == 3) = false := by simp; omega
  have n5 : ((i : Int) == (m : Int) - 1) = false := by simp; omega
  have n5b : ((i : Int) == 2) = false := by simp; omega
  have n4 : 3 < m := by omega
  have n6 : (i : Int) < (cap : Int) := by omega
  have n7 : 0 < m := by omega
  have n8 : i < cap := by omega
  have n9 : (i : Int) ≤ (m : Int) := by omega
  have n10 : ¬ cap = i := by omega
  have n11 : (1 : Int) ≤ (i : Int) := by omega
  have n12 : ¬ cap = 1 := by omega
  have n13 : (i : Int) ≤ (cap : Int) := by omega
  have n14 : (0 : Int) ≤ (i : Int) := by omega
  have him : i < m := by omega
  have HLM := Lib.hid (show s.loop.length = m from by rw [hl]; exact hm)
  obtain ⟨i2, hj', hz0, hz1, hz2⟩ := info_parts infoInt9
  obtain ⟨i3, hj3, hy0, hy1, hy2⟩ := info_parts infoInts9
  have f3 : wl + 1 ≤ maxLen := by unfold maxLen; omega
  have f4 : (wl + 1) * 24 ≤ 140737488355328 := by omega
  clear hi hi3
  clear h hT hl hL hs0 hm hm2 hlen hce hcl hvb hve hC hbs hbv hv hc hwe
  go_enter Tryz.func60, Tryz.ntmps60
  go_wp2
  have hA := H.out.alloc (.cells #[.int .u8 0, .int .i64 0, .int .i64 0, .int .i64 0] 55)
  have hB0 : Below w.heap.size w (w.alloc (.cells #[.int .u8 0, .int .i64 0, .int .i64 0, .int .i64 0] 55)) := (Below.refl _ _).alloc (Nat.le_refl _) _
  have b0 := Blk.new w 55 #[.int .u8 0, .int .i64 0, .int .i64 0, .int .i64 0]
  have hszA : w.heap.size < (w.alloc (.cells #[.int .u8 0, .int .i64 0, .int .i64 0, .int .i64 0] 55)).heap.size := by simp
  generalize w.alloc (.cells #[.int .u8 0, .int .i64 0, .int .i64 0, .int .i64 0] 55) = wA at *
  obtain ⟨lb', c0', c1', c2', c3', -⟩ := four hA.blk
  have l0' := (hB0.cell (p := ⟨gl, 0, none⟩) hgl).trans l0
  have l1' := (hB0.cell (p := ⟨gl, 1, none⟩) hgl).trans l1
  have HA := Lib.hid hA
  have HB0 := Lib.hid hB0
  have Hb0 := Lib.hid b0
  clear hA hB0 b0
  have i0 : (0 : Int) < (m : Int) := by omega
  have i1 : (1 : Int) < (m : Int) := by omega
  have d0 := cell_regrown c0'
  have d2 := cell_regrown c2'
  have q0 := cell_regrown l0'
  have q1 := cell_regrown l1'
  refine wp_region_quiet_below (by kernel_rfl) (by kernel_rfl) ?_
  repeat (go_big_quiet_step ((go_at_call 62; exact Calls.regrown_of (HF.out _ (HB0.out.trans ((below_regrown wA _ _).mono HB0.out.size))))))
  refine wpQuiet_nil ?_
  intro _ hw'
  obtain ⟨⟨dq, osq⟩, hw''⟩ := hw'
  subst hw''
  have hB1 := below_regrown wA dq osq
  generalize Sort.grow (redrawn wA dq) osq = w1 at *
  have hA1 := HA.out.below hB1
  obtain ⟨lb1, x0, x1, x2, x3, y2, y3⟩ := four hA1.blk
  have HA1 := Lib.hid hA1
  have hB2 := HB0.out.trans (hB1.mono HB0.out.size)
  have cv1 := (hB2.cell (p := ⟨gC, v, none⟩) hgC).trans cv
  have lx1 := (hB2.cell (p := ⟨gl, 0, none⟩) hgl).trans l0
  have hsz1 := hB1.size
  have hgC1 : gC < w1.heap.size := by omega
  have hgl1 : gl < w1.heap.size := by omega
  have HB1 := Lib.hid hB1
  have HB2 := Lib.hid hB2
  have HA2 := Lib.hid (HA1.out.alloc (.cells #[.int .u8 0, .int .i64 (c : Int), .int .i64 (wl : Int), .int .i64 (m : Int)] 55))
  have hbbN : base ≤ w.heap.size := H.out.ble
  have k1 : b ≠ w.heap.size := fun e => by have := lb; omega
  have k2 : b ≠ w1.heap.size := by omega
  have k3 : w.heap.size ≠ w1.heap.size := by omega
  clear hA1 hB1 hB2 d0 d2 q0 q1 c0' c2' l0' l1' c1' c3'
  have A2 := HA1.out.alloc (.cells #[.int .u8 83, .int .i64 (c : Int), .int .i64 (wl : Int), .int .i64 (m : Int)] 55)
  have bS := Blk.new w1 55 #[.int .u8 83, .int .i64 (c : Int), .int .i64 (wl : Int), .int .i64 (m : Int)]
  have bR := (Hb0.out.below HB1.out hszA).alloc (.cells #[.int .u8 83, .int .i64 (c : Int), .int .i64 (wl : Int), .int .i64 (m : Int)] 55)
  have hBS : Kept (OwnA b (.slice (some ⟨gC, 0, none⟩) n capC) (.slice (some ⟨gl, 0, none⟩) m cap) (.slice aW wl cW) vs) w (w1.alloc (.cells #[.int .u8 83, .int .i64 (c : Int), .int .i64 (wl : Int), .int .i64 (m : Int)] 55)) := (Kept.of HB2.out).alloc _
  have hszS : w1.heap.size < (w1.alloc (.cells #[.int .u8 83, .int .i64 (c : Int), .int .i64 (wl : Int), .int .i64 (m : Int)] 55)).heap.size := by simp
  have HA2S := Lib.hid A2
  have HbS := Lib.hid bS
  have HbR := Lib.hid bR
  have HBS := Lib.hid hBS
  clear A2 bS bR hBS
  go_wp2_with (first | (go_at_call 36; refine (HV.out _ HB2.out).mono ?_; rintro e w2 ⟨rfl, rfl⟩) | (go_at_call 87; refine (HI.out _ HA2.out).mono ?_; rintro e w2 ⟨rfl, rfl⟩; rw [HIX.out]))
  generalize w1.alloc (.cells #[.int .u8 83, .int .i64 (c : Int), .int .i64 (wl : Int), .int .i64 (m : Int)] 55) = wS at *
  obtain ⟨lbS, e0, e1, e2, e3, e4, e5⟩ := four HA2S.out.blk
  have A3 := (HA2S.out.alloc (.cells #[.int .i64 (v : Int)] 3)).drew
  have bT : Blk ((wS.alloc (.cells #[.int .i64 (v : Int)] 3)).drew) wS.heap.size 3 #[.int .i64 (v : Int)] := (Blk.new _ _ _).drew
  have hbS := HA2S.out.ble
  have HT1 := Lib.hid (own_one (base := base) bT hbS)
  have HP := Lib.hid (A3.part HLM.out 1 (i - 1) (by omega))
  have HNl := Lib.hid (show (((s.loop.drop 1).take (i - 1)).map (Value.int .i64)).length = (i - 1) * 1 from by have := HLM.out; simp; omega)
  have c6 : 1 + (i - 1) ≤ maxLen := by unfold maxLen; omega
  have c7 : (1 + (i - 1)) * 8 ≤ 140737488355328 := by omega
  have hB03 : Below wS.heap.size wS ((wS.alloc (.cells #[.int .i64 (v : Int)] 3)).drew) := ((Below.refl _ _).alloc (Nat.le_refl _) _).drew
  have HB03 := Lib.hid hB03
  clear A3 bT hB03
  go_cut [] (fun W => SMid w base g b n w1.heap.size (.slice (some ⟨gC, 0, none⟩) n capC) (.slice (some ⟨gl, 0, none⟩) m cap) (.slice aW wl cW) vs ⟨s.come, s.loop, s.wait ++ [(v : Int) :: (y :: r).take (i - 1)]⟩ #[.int .u8 83, .int .i64 (c : Int), .int .i64 (wl : Int), .int .i64 (m : Int)] W)
  case first =>
    go_region_law (first
      | (refine step_append_lies _ rfl (.tmp 92) (.tmp 98) 28 rfl base 3 i2 _ 1 8 Tryz.underlying28 hj' hz0 hz1 hz2 rfl (by decide) (.slice (some ⟨wS.heap.size, 0, none⟩) 1 1) 1 [.int .i64 (v : Int)] rfl HT1.out ⟨gl, 1, none⟩ (i - 1) (cap - 1) (((s.loop.drop 1).take (i - 1)).map (Value.int .i64)) rfl HNl.out HP.out cells_int (by omega) c6 c7 (by simp; omega) (wS.heap.size + 1) (by simp) ?_; intro g4 cap4 w4 hr4 hg4 hat4 hlt4; have hb4 := HB03.out.trans (below_of_grown hg4 (by simp) (fun j e => Nat.le_of_eq (Option.some.inj e))); have h4w := HA2S.out.below hb4; obtain ⟨lb4, z0, z1, z2, z3, u2, u3⟩ := four h4w.blk; have HB4 := Lib.hid hb4; have HR4 := Lib.hid hr4; have HAT4 := Lib.hid hat4; have H4W := Lib.hid h4w; have H4A := Lib.hid (h4w.W.alloc (.cells #[.slice (some ⟨g4, 0, none⟩) (1 + (i - 1)) cap4] 28)); have hbl4 := h4w.ble; clear hg4 hr4 hat4 hb4 h4w)
      | (refine step_append_lies _ rfl (.tmp 90) (.tmp 100) 98 rfl base 28 i3 _ 1 24 Tryz.underlying98 hj3 hy0 hy1 hy2 rfl (by decide) (.slice aW wl cW) wl vs rfl (by have h1 := H4A.out; rw [HWE.out] at h1; exact h1) ⟨w4.heap.size, 0, none⟩ 1 1 [.slice (some ⟨g4, 0, none⟩) (1 + (i - 1)) cap4] rfl rfl (World.news_of_block (heap_alloc_new _ _)) (by simp [Value.oneCell']) (by decide) f3 f4 (by simp; omega) (w4.heap.size + 1) (by simp) ?_; intro g5 cap5 w5 hr5 hg5 hat5 hlt5; have b5 := (H4W.out.blk.alloc (.cells #[.slice (some ⟨g4, 0, none⟩) (1 + (i - 1)) cap4] 28)).grown hg5 (fun e => own_blk_ne H4W.out.W H4W.out.blk (by decide) e.symm); obtain ⟨lb5, y0, y1, y2, y3, v2, v3⟩ := four b5; have HR5 := Lib.hid hr5; have HG5 := Lib.hid hg5; have HAT5 := Lib.hid hat5; clear b5 hr5 hg5 hat5))
    all_goals
      go_wp2_with fail
      go_meet
      have e6 : 1 + (i - 1) = ((v : Int) :: (y :: r).take (i - 1)).length := by have := HLM.out; rw [HL.out] at this; simp at this ⊢; omega
      have e7 : [Value.int .i64 (v : Int)] ++ ((s.loop.drop 1).take (i - 1)).map (Value.int .i64) = intsV ((v : Int) :: (y :: r).take (i - 1)) := by
        rw [HL.out]
        simp [intsV]
      have hr4 := HR4.out
      rw [e6, e7] at hr4
      have hr5 := HR5.out
      have hg5 := HG5.out
      rw [e6] at hr5 hg5
      have hB5 := HA2S.out.rewait (v5 := .slice (some ⟨g5, 0, none⟩) (wl + 1) cap5) HB4.out hr4 rfl (by
        rcases HAT4.out with e | e
        · exact Nat.le_of_eq (Option.some.inj e)
        · exact (by omega : wS.heap.size ≤ g4)) hg5 (by rw [HWE.out]; exact hr5)
      rw [← e6] at hB5
      have s4 := (HbS.out.below HB4.out HbS.out.lt).alloc (.cells #[.slice (some ⟨g4, 0, none⟩) (1 + (i - 1)) cap4] 28)
      have s5 := (s4.grown HG5.out (fun e => own_blk_ne H4A.out s4 (by decide) e.symm)).far (p := ⟨b, 3, none⟩) (by simp only; omega) (.slice (some ⟨g5, 0, none⟩) (wl + 1) cap5)
      have t4 := (HbR.out.below HB4.out HbR.out.lt).alloc (.cells #[.slice (some ⟨g4, 0, none⟩) (1 + (i - 1)) cap4] 28)
      have t5 := (t4.grown HG5.out (fun e => own_blk_ne H4A.out t4 (by decide) e.symm)).far (p := ⟨b, 3, none⟩) (by simp only; omega) (.slice (some ⟨g5, 0, none⟩) (wl + 1) cap5)
      have hBw := (((HBS.out.trans (Kept.of HB4.out)).alloc (.cells #[.slice (some ⟨g4, 0, none⟩) (1 + (i - 1)) cap4] 28)).grown HG5.out (fun j e => .inl (.inr (.inr (.inr (.inl e)))))).setCell (p := ⟨b, 3, none⟩) (.inl (.inl rfl)) (.slice (some ⟨g5, 0, none⟩) (wl + 1) cap5)
      have hwS := HBS.out.size
      have hw4 := HB4.out.size
      refine ⟨_, _, hB5, s5, t5, hBw, fun k hk => ?_⟩
      rcases hk with e | e | e | e | ⟨u, hu, e⟩
      · exact .inl (.inl e)
      · exact .inl (.inr (.inl e))
      · exact .inl (.inr (.inr (.inl e)))
      · rcases HAT5.out with e2 | e2
        · exact .inl (.inr (.inr (.inr (.inl (e2.trans e)))))
        · have e3 : g5 = w4.heap.size + 1 := e2
          have e4 : g5 = k := Option.some.inj e
          exact .inr (by omega)
      · rcases List.mem_append.1 hu with hu | hu
        · exact .inl (.inr (.inr (.inr (.inr ⟨u, hu, e⟩))))
        · rw [List.mem_singleton.1 hu] at e
          have e4 : g4 = k := Option.some.inj e
          rcases HAT4.out with e2 | e2
          · have e3 : wS.heap.size = g4 := Option.some.inj e2
            exact .inr (by omega)
          · have e3 : g4 = wS.heap.size + 1 := e2
            exact .inr (by omega)
  case rest =>
    obtain ⟨vW5, vs5, hB5, s5, t5, hBw⟩ := hcut
    obtain ⟨aW5, cW5, rfl⟩ := ownsRow_slice hB5.W
    clear x0 x1 x2 x3 e0 e1 e2 e3 e4 e5
    rename World => wB
    obtain ⟨lbB, e0, e1, e2, e3, e4, e5⟩ := four hB5.blk
    obtain ⟨lsB, s0, s1, s2, s3, -⟩ := four s5
    obtain ⟨ltB, t0, t1, t2, t3, r2, r3⟩ := four t5
    have r0 := t5.frozen 0
    have r1 := t5.frozen 1
    have lx : wB.cell? ⟨gl, 0, none⟩ = some (.int .i64 x) := by
      have h2 := hB5.L
      simp only at h2
      rw [HLM.out, HL.out] at h2
      rw [h2.cellAt 0 (by omega)]
      rfl
    have lgl : gl < wB.heap.size := (hB5.L.lt gl rfl).2
    have A3 := (hB5.alloc (.cells #[.int .i64 x] 3)).drew
    have bT : Blk ((wB.alloc (.cells #[.int .i64 x] 3)).drew) wB.heap.size 3 #[.int .i64 x] := (Blk.new _ _ _).drew
    have hbB := hB5.ble
    have HT6 := Lib.hid (own_one (base := base) bT hbB)
    have HP6 := Lib.hid (A3.part HLM.out i (m - i) (by omega))
    have HN6 := Lib.hid (show (((s.loop.drop i).take (m - i)).map (Value.int .i64)).length = (m - i) * 1 from by have := HLM.out; simp; omega)
    have c8 : 1 + (m - i) ≤ maxLen := by unfold maxLen; omega
    have c9 : (1 + (m - i)) * 8 ≤ 140737488355328 := by omega
    have nb6 : some b ≠ some wB.heap.size := by simp; omega
    have ns6 : some w1.heap.size ≠ some wB.heap.size := by simp; omega
    have nt6 : some w.heap.size ≠ some wB.heap.size := by simp; omega
    have HA3 := Lib.hid A3
    have HB5 := Lib.hid hB5
    have HS5 := Lib.hid s5
    have HT5 := Lib.hid t5
    have HBW := Lib.hid hBw
    clear A3 bT hB5 s5 t5 hBw
    go_wp2
    go_region_law (first | (refine step_append_lies _ rfl (.tmp 111) (.tmp 117) 28 rfl base 3 i2 _ 1 8 Tryz.underlying28 hj' hz0 hz1 hz2 rfl (by decide) (.slice (some ⟨wB.heap.size, 0, none⟩) 1 1) 1 [.int .i64 x] rfl HT6.out ⟨gl, i, none⟩ (m - i) (cap - i) (((s.loop.drop i).take (m - i)).map (Value.int .i64)) rfl HN6.out HP6.out cells_int (by omega) c8 c9 (by simp; omega) (wB.heap.size + 1) (by simp) ?_; intro g6 cap6 w6 hr6 hg6 hat6 hlt6; have b6 := HA3.out.blk.grown hg6 nb6; obtain ⟨lb6, z0, z1, z2, z3, u2, u3⟩ := four b6; have s6 := (HS5.out.alloc (.cells #[.int .i64 x] 3)).drew.grown hg6 ns6; have t6 := (HT5.out.alloc (.cells #[.int .i64 x] 3)).drew.grown hg6 nt6; obtain ⟨ls6, a0, a1, a2, a3, -⟩ := four s6; obtain ⟨lt6, b0, b1, b2, b3, v2, v3⟩ := four t6; have v0 := t6.frozen 0; have v1 := t6.frozen 1; have HT6b := Lib.hid t6; have HG6 := Lib.hid hg6; have HR6 := Lib.hid hr6; have HAT6 := Lib.hid hat6; clear b6 s6 t6 hg6 hr6 hat6))
    all_goals
      go_wp2
      have e6 : 1 + (m - i) = (x :: (x :: y :: r).drop i).length := by have := HLM.out; rw [HL.out] at this; simp at this ⊢; omega
      have e7 : [Value.int .i64 x] ++ ((s.loop.drop i).take (m - i)).map (Value.int .i64) = intsV (x :: (x :: y :: r).drop i) := by
        have := HLM.out
        rw [HL.out] at this ⊢
        rw [List.take_of_length_le (by rw [List.length_drop]; omega)]
        simp [intsV]
      have hr6 := HR6.out
      rw [e6, e7] at hr6
      have A6 := HB5.out.reloop (l := x :: (x :: y :: r).drop i) (gGrown (gDrew (World.grownBy_alloc _ _ _)) HG6.out (fun j e => .inr (Nat.le_of_eq (Option.some.inj e)))) hr6 (.inr ⟨g6, rfl, by
        rcases HAT6.out with e | e
        · exact Nat.le_of_eq (Option.some.inj e)
        · omega⟩) (by simp)
      rw [← e6] at A6
      have hwB := HBW.out.kept.size
      have hB6 := ((HBW.out.kept.alloc (.cells #[.int .i64 x] 3)).drew).grown HG6.out (fun j e => .inr (by
        have : wB.heap.size = j := Option.some.inj e
        omega))
      have hO6 : ∀ k, OwnA b (.slice (some ⟨gC, 0, none⟩) n capC) (.slice (some ⟨g6, 0, none⟩) (1 + (m - i)) cap6) (.slice aW5 _ cW5) vs5 k → OwnA b (.slice (some ⟨gC, 0, none⟩) n capC) (.slice (some ⟨gl, 0, none⟩) m cap) (.slice aW wl cW) vs k ∨ w.heap.size ≤ k := fun k hk => by
        rcases own_reloop (vL := .slice (some ⟨gl, 0, none⟩) m cap) (z := w.heap.size) (.inr ⟨g6, rfl, by
          rcases HAT6.out with e | e
          · have e3 : wB.heap.size = g6 := Option.some.inj e
            omega
          · have e3 : g6 = wB.heap.size + 1 := e
            omega⟩) k hk with h1 | h1
        · exact HBW.out.own k h1
        · exact .inr h1
      obtain ⟨o1, o2, o3⟩ := A6.out4 (HT6b.out.far (p := ⟨b, 2, none⟩) (by simp only; omega) _) (hB6.setCell (p := ⟨b, 2, none⟩) (.inl (.inl rfl)) _) (Nat.le_refl _) (.int .u8 83) (.int .i64 (c : Int)) (.int .i64 (wl : Int)) (.int .i64 (m : Int))
      obtain ⟨-, p0, p1, p2, p3, -⟩ := four o2
      exact bodyPost_ret (v := .tuple #[.agg #[.int .u8 83, .int .i64 (c : Int), .int .i64 (wl : Int), .int .i64 (m : Int)], .bool true]) (by simp [results, Tryz.results60, go_sem, p0, p1, p2, p3]) rfl ⟨rfl, _, _, _, o1, o3, hO6⟩
end Go.Proofs.YtghlnknncahkgaaGreat
/-
  (*way).step, at the letter E, where a loop waits, by walking its text.
-/
namespace Go.Proofs.YtghlnknncahkgaaGreat
open Go.RowKit Go.Maps

set_option maxRecDepth 100000 in
set_option maxHeartbeats 2000000 in
theorem stepE_any {w : World} {base g b n : Nat} {vC vL vW : Value} {vs : List Value} {s : WSt} {T : List Tr} (hT : Tab w g n T) (h : WayAt w base g b vC vL vW vs n s) {x y : Int} {r : List Int} (hl : s.loop = x :: y :: r)
    (hx : -1 ≤ x ∧ x ≤ 10000) (hy : -1 ≤ y ∧ y ≤ 10000) (hc : 0 ≤ facI T (x, y)) (hv : vertI T (facI T (x, y)) ∈ s.come) (_hlen : r.length ≤ 50000) (hwl : s.wait.length ≤ 50000) (h1 : r.length = 1) {ws : List (List Int)} {l' : List Int} (hws : s.wait = ws ++ [l']) (hl' : l' ≠ []) :
    Calls Tryz.prog 60 #[.pointer (some ⟨b, 0, none⟩)] w fun e w' => e = .returned (.tuple #[.agg #[.int .u8 69, .int .i64 (facI T (x, y)), .int .i64 s.wait.length, .int .i64 (r.length + 2 : Nat)], .bool true]) ∧
      (∃ vL' vW' vs', WayAt w' base g b vC vL' vW' vs' n ⟨s.come, l', ws⟩ ∧ Kind w w' b vC vL vW vs vL' vW' vs') := by
  have hL := h.L
  rw [hl] at hL
  obtain ⟨m, hm⟩ : ∃ m, (x :: y :: r).length = m := ⟨_, rfl⟩
  rw [hm] at hL
  have hm2 : r.length + 2 = m := hm
  obtain ⟨gl, cap, rfl, hgl, hcap, hcap2⟩ := own_form hL (by omega)
  obtain ⟨aW, cW, rfl⟩ := ownsRow_slice h.W
  obtain ⟨lb, c0, c1, c2, c3, f2, f3⟩ := four h.blk
  have hs0 : (intsV (x :: y :: r))[0]? = some (.int .i64 x) := rfl
  have l0 : w.cell? ⟨gl, 0, none⟩ = some (.int .i64 x) := by rw [hL.cellAt 0 (by omega)]; exact hs0
  have l1 : w.cell? ⟨gl, 1, none⟩ = some (.int .i64 y) := by rw [hL.cellAt 1 (by omega)]; rfl
  have hnil := fun (W : World) => Lib.run_eql_slice_nil (P := Tryz.prog) W 28 3 (some ⟨gl, 0, none⟩) m cap 0 0 Tryz.underlying28
  obtain ⟨c, hce⟩ : ∃ c : Nat, facI T (x, y) = (c : Int) := ⟨(facI T (x, y)).toNat, by omega⟩
  have hcl := (facI_some hce).1
  have hvb := vertN_in hT.inr hcl
  obtain ⟨v, hve⟩ : ∃ v : Nat, vertI T (facI T (x, y)) = (v : Int) := ⟨(vertN T c).toNat, by rw [hce, vertI_nat hcl]; omega⟩
  have hvn : v < n := by rw [hce, vertI_nat hcl] at hve; omega
  obtain ⟨bs, hC, hbs⟩ := h.C
  obtain ⟨gC, capC, rfl, hgC, hcC, -⟩ := own_form hC (by omega)
  have hbv : bs[v]? = some true := (hbs.2 v hvn).2 (by rw [← hve]; exact hv)
  have cv : w.cell? ⟨gC, v, none⟩ = some (.bool true) := by
    rw [hC.cellAt v (by omega)]
    simp [bools, hbv]
  have HF := Lib.hid (fun (W : World) (hW : Below w.heap.size w W) => facing_any g n x y T W (hT.below hW) hx hy)
  have HV := Lib.hid (fun (W : World) (hW : Below w.heap.size w W) => (show Calls Tryz.prog 36 #[.pointer (some ⟨g, 0, none⟩), .int .i64 (c : Int)] W fun e w' => e = .returned (.int .i64 (v : Int)) ∧ W = w' from by
    have := vertex_any g n (facI T (x, y)) T W (hT.below hW).toTabS
    rw [hve, hce] at this
    exact this))
  have HI := Lib.hid (fun (W : World) (hW : WayAt W base g b (.slice (some ⟨gC, 0, none⟩) n capC) (.slice (some ⟨gl, 0, none⟩) m cap) (.slice aW s.wait.length cW) vs n s) => (show Calls Tryz.prog 87 #[.slice (some ⟨gl, 0, none⟩) m cap, .int .i64 (v : Int)] W fun e w' => e = .returned (.int .i64 (Lib.idxOf s.loop (v : Int))) ∧ w' = W from by
    have h2 := hW.L
    have h3 : s.loop.length = m := by rw [hl]; exact hm
    rw [h3] at h2
    have := Tryz.slices_Index_int gl 0 m cap s.loop (v : Int) W (Nat.le_of_eq h3.symm) (by omega) (fun j hj => by
      rw [Nat.zero_add, h2.cellAt j (by rw [Nat.mul_one, ← h3]; exact hj)]
      simp [intsV, List.getD, List.getElem?_eq_getElem hj])
    rw [show s.loop.take m = s.loop from List.take_of_length_le (by omega)] at this
    exact this))
  rw [hve] at hv
  rw [hce] at HF ⊢
  rw [hm2]
  obtain ⟨wl, hwe⟩ : ∃ wl, s.wait.length = wl := ⟨_, rfl⟩
  rw [hwe] at hwl c3 h HI ⊢
  have H := Lib.hid h
  have HL := Lib.hid hl
  have HM := Lib.hid hm
  have HWE := Lib.hid hwe
  have hm3 : m ≤ 50002 := by omega
  have hm4 : 2 ≤ m := by omega
  obtain ⟨zI, HIX0⟩ : ∃ z, Lib.idxOf s.loop (v : Int) = z := ⟨_, rfl⟩
  have HIX := Lib.hid HIX0
  have n3 : ((m : Int) == 3) = true := by simp; omega
  clear HIX0 h1
  obtain ⟨k, hk⟩ : ∃ k, ws.length = k := ⟨_, rfl⟩
  have hwk : wl = k + 1 := by rw [← hwe, hws]; simp [hk]
  subst hwk
  obtain ⟨vs', u, hvs⟩ : ∃ vs' u, vs = vs' ++ [u] := by
    have hvl := h.vlen
    rcases List.eq_nil_or_concat vs with e | ⟨a, c, e⟩
    · rw [e, hws] at hvl
      simp at hvl
    · exact ⟨a, c, by rw [e]; simp⟩
  subst hvs
  have hvl : vs'.length = k := by
    have := h.vlen
    rw [hws] at this
    simp at this
    omega
  have hW := h.W
  rw [hwe] at hW
  obtain ⟨gW, capW, eW, hgW, hkW, hcW⟩ := own_form hW (by omega)
  injection eW with eW1 _ eW3
  subst eW1 eW3
  have cu : w.cell? ⟨gW, k, none⟩ = some u := by
    rw [hW.cellAt k (by omega), ← hvl]
    simp
  obtain ⟨aU, nU, cU, rfl⟩ : ∃ a n c, u = .slice a n c := by
    obtain ⟨a, c, e⟩ := ownsRow_slice (h.rows vs'.length u l' (by simp) (by rw [hws, hvl, ← hk]; simp))
    exact ⟨a, _, c, e⟩
  have nWb : gW ≠ b := fun e => own_blk_ne hW h.blk (by decide) (by rw [← e]; rfl)
  have nbW : b ≠ gW := fun e => nWb e.symm
  have HWS := Lib.hid hws
  have HK := Lib.hid hk
  have HL2 := Lib.hid hl'
  clear hws hk hl' hW hvl
  clear h hT hl hL hs0 hm hm2 hce hcl hvb hve hC hbs hbv hv hc hwe
  go_enter Tryz.func60, Tryz.ntmps60
  go_wp2
  have hA := H.out.alloc (.cells #[.int .u8 0, .int .i64 0, .int .i64 0, .int .i64 0] 55)
  have hB0 : Below w.heap.size w (w.alloc (.cells #[.int .u8 0, .int .i64 0, .int .i64 0, .int .i64 0] 55)) := (Below.refl _ _).alloc (Nat.le_refl _) _
  have b0 := Blk.new w 55 #[.int .u8 0, .int .i64 0, .int .i64 0, .int .i64 0]
  have hszA : w.heap.size < (w.alloc (.cells #[.int .u8 0, .int .i64 0, .int .i64 0, .int .i64 0] 55)).heap.size := by simp
  generalize w.alloc (.cells #[.int .u8 0, .int .i64 0, .int .i64 0, .int .i64 0] 55) = wA at *
  obtain ⟨lb', c0', c1', c2', c3', -⟩ := four hA.blk
  have l0' := (hB0.cell (p := ⟨gl, 0, none⟩) hgl).trans l0
  have l1' := (hB0.cell (p := ⟨gl, 1, none⟩) hgl).trans l1
  have HA := Lib.hid hA
  have HB0 := Lib.hid hB0
  have Hb0 := Lib.hid b0
  clear hA hB0 b0
  have i0 : (0 : Int) < (m : Int) := by omega
  have i1 : (1 : Int) < (m : Int) := by omega
  have d0 := cell_regrown c0'
  have d2 := cell_regrown c2'
  have q0 := cell_regrown l0'
  have q1 := cell_regrown l1'
  refine wp_region_quiet_below (by kernel_rfl) (by kernel_rfl) ?_
  repeat (go_big_quiet_step ((go_at_call 62; exact Calls.regrown_of (HF.out _ (HB0.out.trans ((below_regrown wA _ _).mono HB0.out.size))))))
  refine wpQuiet_nil ?_
  intro _ hw'
  obtain ⟨⟨dq, osq⟩, hw''⟩ := hw'
  subst hw''
  have hB1 := below_regrown wA dq osq
  generalize Sort.grow (redrawn wA dq) osq = w1 at *
  have hA1 := HA.out.below hB1
  obtain ⟨lb1, x0, x1, x2, x3, y2, y3⟩ := four hA1.blk
  have HA1 := Lib.hid hA1
  have hB2 := HB0.out.trans (hB1.mono HB0.out.size)
  have cv1 := (hB2.cell (p := ⟨gC, v, none⟩) hgC).trans cv
  have lx1 := (hB2.cell (p := ⟨gl, 0, none⟩) hgl).trans l0
  have hsz1 := hB1.size
  have hgC1 : gC < w1.heap.size := by omega
  have hgl1 : gl < w1.heap.size := by omega
  have HB1 := Lib.hid hB1
  have HB2 := Lib.hid hB2
  have HA2 := Lib.hid (HA1.out.alloc (.cells #[.int .u8 0, .int .i64 (c : Int), .int .i64 ((k : Int) + 1), .int .i64 (m : Int)] 55))
  have hbbN : base ≤ w.heap.size := H.out.ble
  have k1 : b ≠ w.heap.size := fun e => by have := lb; omega
  have k2 : b ≠ w1.heap.size := by omega
  have k3 : w.heap.size ≠ w1.heap.size := by omega
  clear hA1 hB1 hB2 d0 d2 q0 q1 c0' c2' l0' l1' c1' c3'
  have cu1 := (HB2.out.cell (p := ⟨gW, k, none⟩) hgW).trans cu
  have hgW1 : gW < w1.heap.size := by omega
  have j0 : (0 : Int) ≤ (k : Int) := by omega
  have j1 : (k : Int) < (k : Int) + 1 := by omega
  have j2 : (k : Int) ≤ (cW : Int) := by omega
  have j3 : k < k + 1 := by omega
  go_wp2_with (first | (go_at_call 36; refine (HV.out _ HB2.out).mono ?_; rintro e w2 ⟨rfl, rfl⟩) | (go_at_call 87; refine (HI.out _ HA2.out).mono ?_; rintro e w2 ⟨rfl, rfl⟩; rw [HIX.out]))
  have bW : Blk ((w1.setCell ⟨b, 2, none⟩ (.slice none 0 0)).alloc (.cells #[.int .u8 69, .int .i64 (c : Int), .int .i64 ((k : Int) + 1), .int .i64 (m : Int)] 55)) b 145 #[.pointer (some ⟨g, 0, none⟩), .slice (some ⟨gC, 0, none⟩) n capC, .slice none 0 0, .slice (some ⟨gW, 0, none⟩) (k + 1) cW] := by
    have := (HA1.out.blk.set_ 2 (.slice none 0 0)).alloc (.cells #[.int .u8 69, .int .i64 (c : Int), .int .i64 ((k : Int) + 1), .int .i64 (m : Int)] 55)
    simpa using this
  have bS : Blk ((w1.setCell ⟨b, 2, none⟩ (.slice none 0 0)).alloc (.cells #[.int .u8 69, .int .i64 (c : Int), .int .i64 ((k : Int) + 1), .int .i64 (m : Int)] 55)) w1.heap.size 55 #[.int .u8 69, .int .i64 (c : Int), .int .i64 ((k : Int) + 1), .int .i64 (m : Int)] := blk_new_at (by simp [World.setCell])
  have bR : Blk ((w1.setCell ⟨b, 2, none⟩ (.slice none 0 0)).alloc (.cells #[.int .u8 69, .int .i64 (c : Int), .int .i64 ((k : Int) + 1), .int .i64 (m : Int)] 55)) w.heap.size 55 #[.int .u8 0, .int .i64 0, .int .i64 0, .int .i64 0] := ((Hb0.out.below HB1.out hszA).far (p := ⟨b, 2, none⟩) (by simp only; omega) _).alloc _
  have hBE : Kept (OwnA b (.slice (some ⟨gC, 0, none⟩) n capC) (.slice (some ⟨gl, 0, none⟩) m cap) (.slice (some ⟨gW, 0, none⟩) (k + 1) cW) (vs' ++ [.slice aU nU cU])) w ((w1.setCell ⟨b, 2, none⟩ (.slice none 0 0)).alloc (.cells #[.int .u8 69, .int .i64 (c : Int), .int .i64 ((k : Int) + 1), .int .i64 (m : Int)] 55)) := ((Kept.of HB2.out).setCell (p := ⟨b, 2, none⟩) (.inl (.inl rfl)) _).alloc _
  have hGE : w1.grownBy ((w1.setCell ⟨b, 2, none⟩ (.slice none 0 0)).alloc (.cells #[.int .u8 69, .int .i64 (c : Int), .int .i64 ((k : Int) + 1), .int .i64 (m : Int)] 55)) (some b) := gAlloc (gStR (World.grownBy.refl _ _)) _
  have cuE : ((w1.setCell ⟨b, 2, none⟩ (.slice none 0 0)).alloc (.cells #[.int .u8 69, .int .i64 (c : Int), .int .i64 ((k : Int) + 1), .int .i64 (m : Int)] 55)).cell? ⟨gW, k, none⟩ = some (.slice aU nU cU) := hGE.cell cu1 (by simpa using nWb)
  have hszE : w1.heap.size < ((w1.setCell ⟨b, 2, none⟩ (.slice none 0 0)).alloc (.cells #[.int .u8 69, .int .i64 (c : Int), .int .i64 ((k : Int) + 1), .int .i64 (m : Int)] 55)).heap.size := by simp [World.setCell]
  generalize (w1.setCell ⟨b, 2, none⟩ (.slice none 0 0)).alloc (.cells #[.int .u8 69, .int .i64 (c : Int), .int .i64 ((k : Int) + 1), .int .i64 (m : Int)] 55) = wE at *
  obtain ⟨lbE, e0, e1, e2, e3, e4, e5⟩ := four bW
  obtain ⟨lsE, s0, s1, s2, s3, -⟩ := four bS
  obtain ⟨ltE, t0, t1, t2, t3, r2, r3⟩ := four bR
  have r0 := bR.frozen 0
  have r1 := bR.frozen 1
  have lgE : gW < wE.heap.size := by omega
  have HbW := Lib.hid bW
  have HbS := Lib.hid bS
  have HbR := Lib.hid bR
  have HBE := Lib.hid hBE
  have HGE := Lib.hid hGE
  clear bW bS bR hBE hGE x0 x1 x2 x3 y2 y3 cv1 cu1 lx1 cu cv l0 l1 c0 c1 c2 c3 f2 f3
  go_region
  have bW5 : Blk (((wE.setCell ⟨b, 2, none⟩ (.slice aU nU cU)).setCell ⟨b, 3, none⟩ (.slice (some ⟨gW, 0, none⟩) k cW)).drew) b 145 #[.pointer (some ⟨g, 0, none⟩), .slice (some ⟨gC, 0, none⟩) n capC, .slice aU nU cU, .slice (some ⟨gW, 0, none⟩) k cW] := by
    have := (((HbW.out.set_ 2 (.slice aU nU cU)).set_ 3 (.slice (some ⟨gW, 0, none⟩) k cW))).drew
    simpa using this
  have A5 := HA1.out.pop rfl HWS.out rfl HK.out HL2.out (gDrew (gStR (gStR HGE.out))) bW5
  have hO5 : ∀ q, OwnA b (.slice (some ⟨gC, 0, none⟩) n capC) (.slice aU nU cU) (.slice (some ⟨gW, 0, none⟩) k cW) vs' q → OwnA b (.slice (some ⟨gC, 0, none⟩) n capC) (.slice (some ⟨gl, 0, none⟩) m cap) (.slice (some ⟨gW, 0, none⟩) (k + 1) cW) (vs' ++ [.slice aU nU cU]) q ∨ w.heap.size ≤ q := fun q hq => by
    rcases hq with e | e | e | e | ⟨u, hu, e⟩
    · exact .inl (.inl e)
    · exact .inl (.inr (.inl e))
    · exact .inl (.inr (.inr (.inr (.inr ⟨_, by simp, e⟩))))
    · exact .inl (.inr (.inr (.inr (.inl e))))
    · exact .inl (.inr (.inr (.inr (.inr ⟨u, List.mem_append_left _ hu, e⟩))))
  have bR5 := ((HbR.out.far (p := ⟨b, 2, none⟩) (by simp only; omega) (.slice aU nU cU)).far (p := ⟨b, 3, none⟩) (by simp only; omega) (.slice (some ⟨gW, 0, none⟩) k cW)).drew
  have bS5 := ((HbS.out.far (p := ⟨b, 2, none⟩) (by simp only; omega) (.slice aU nU cU)).far (p := ⟨b, 3, none⟩) (by simp only; omega) (.slice (some ⟨gW, 0, none⟩) k cW)).drew
  have hB5 := ((HBE.out.setCell (p := ⟨b, 2, none⟩) (.inl (.inl rfl)) (.slice aU nU cU)).setCell (p := ⟨b, 3, none⟩) (.inl (.inl rfl)) (.slice (some ⟨gW, 0, none⟩) k cW)).drew
  generalize (((wE.setCell ⟨b, 2, none⟩ (.slice aU nU cU)).setCell ⟨b, 3, none⟩ (.slice (some ⟨gW, 0, none⟩) k cW)).drew) = wF at *
  clear s0 s1 s2 s3 t0 t1 t2 t3 r0 r1 r2 r3 e0 e1 e2 e3 e4 e5 ltE lsE
  obtain ⟨lsE, s0, s1, s2, s3, -⟩ := four bS5
  obtain ⟨ltE, t0, t1, t2, t3, r2, r3⟩ := four bR5
  have r0 := bR5.frozen 0
  have r1 := bR5.frozen 1
  have HA5 := Lib.hid A5
  have HO5 := Lib.hid hO5
  have HB5 := Lib.hid hB5
  have HR5 := Lib.hid bR5
  clear A5 hO5 hB5 bR5 bS5 bW5 HbW HbR HbS HBE HGE HA1 HA2
  go_wp2
  obtain ⟨o1, o2, o3⟩ := HA5.out.out4 HR5.out HB5.out (Nat.le_refl _) (.int .u8 69) (.int .i64 (c : Int)) (.int .i64 ((k : Int) + 1)) (.int .i64 (m : Int))
  obtain ⟨-, p0, p1, p2, p3, -⟩ := four o2
  exact bodyPost_ret (v := .tuple #[.agg #[.int .u8 69, .int .i64 (c : Int), .int .i64 ((k : Int) + 1), .int .i64 (m : Int)], .bool true]) (by simp [results, Tryz.results60, go_sem, p0, p1, p2, p3]) rfl ⟨rfl, _, _, _, o1, o3, HO5.out⟩
end Go.Proofs.YtghlnknncahkgaaGreat
/-
  (*way).step, at the letter E, where no loop waits, by walking its text.
-/
namespace Go.Proofs.YtghlnknncahkgaaGreat
open Go.RowKit Go.Maps

set_option maxRecDepth 100000 in
set_option maxHeartbeats 2000000 in
theorem stepF_any {w : World} {base g b n : Nat} {vC vL vW : Value} {vs : List Value} {s : WSt} {T : List Tr} (hT : Tab w g n T) (h : WayAt w base g b vC vL vW vs n s) {x y : Int} {r : List Int} (hl : s.loop = x :: y :: r)
    (hx : -1 ≤ x ∧ x ≤ 10000) (hy : -1 ≤ y ∧ y ≤ 10000) (hc : 0 ≤ facI T (x, y)) (hv : vertI T (facI T (x, y)) ∈ s.come) (_hlen : r.length ≤ 50000) (hwl : s.wait.length ≤ 50000) (h1 : r.length = 1) (hws : s.wait = []) :
    Calls Tryz.prog 60 #[.pointer (some ⟨b, 0, none⟩)] w fun e w' => e = .returned (.tuple #[.agg #[.int .u8 69, .int .i64 (facI T (x, y)), .int .i64 s.wait.length, .int .i64 (r.length + 2 : Nat)], .bool true]) ∧
      (∃ vW', Blk w' b 145 #[.pointer (some ⟨g, 0, none⟩), vC, .slice none 0 0, vW'] ∧ Kept (OwnA b vC vL vW vs) w w') := by
  have hL := h.L
  rw [hl] at hL
  obtain ⟨m, hm⟩ : ∃ m, (x :: y :: r).length = m := ⟨_, rfl⟩
  rw [hm] at hL
  have hm2 : r.length + 2 = m := hm
  obtain ⟨gl, cap, rfl, hgl, hcap, hcap2⟩ := own_form hL (by omega)
  obtain ⟨aW, cW, rfl⟩ := ownsRow_slice h.W
  obtain ⟨lb, c0, c1, c2, c3, f2, f3⟩ := four h.blk
  have hs0 : (intsV (x :: y :: r))[0]? = some (.int .i64 x) := rfl
  have l0 : w.cell? ⟨gl, 0, none⟩ = some (.int .i64 x) := by rw [hL.cellAt 0 (by omega)]; exact hs0
  have l1 : w.cell? ⟨gl, 1, none⟩ = some (.int .i64 y) := by rw [hL.cellAt 1 (by omega)]; rfl
  have hnil := fun (W : World) => Lib.run_eql_slice_nil (P := Tryz.prog) W 28 3 (some ⟨gl, 0, none⟩) m cap 0 0 Tryz.underlying28
  obtain ⟨c, hce⟩ : ∃ c : Nat, facI T (x, y) = (c : Int) := ⟨(facI T (x, y)).toNat, by omega⟩
  have hcl := (facI_some hce).1
  have hvb := vertN_in hT.inr hcl
  obtain ⟨v, hve⟩ : ∃ v : Nat, vertI T (facI T (x, y)) = (v : Int) := ⟨(vertN T c).toNat, by rw [hce, vertI_nat hcl]; omega⟩
  have hvn : v < n := by rw [hce, vertI_nat hcl] at hve; omega
  obtain ⟨bs, hC, hbs⟩ := h.C
  obtain ⟨gC, capC, rfl, hgC, hcC, -⟩ := own_form hC (by omega)
  have hbv : bs[v]? = some true := (hbs.2 v hvn).2 (by rw [← hve]; exact hv)
  have cv : w.cell? ⟨gC, v, none⟩ = some (.bool true) := by
    rw [hC.cellAt v (by omega)]
    simp [bools, hbv]
  have HF := Lib.hid (fun (W : World) (hW : Below w.heap.size w W) => facing_any g n x y T W (hT.below hW) hx hy)
  have HV := Lib.hid (fun (W : World) (hW : Below w.heap.size w W) => (show Calls Tryz.prog 36 #[.pointer (some ⟨g, 0, none⟩), .int .i64 (c : Int)] W fun e w' => e = .returned (.int .i64 (v : Int)) ∧ W = w' from by
    have := vertex_any g n (facI T (x, y)) T W (hT.below hW).toTabS
    rw [hve, hce] at this
    exact this))
  have HI := Lib.hid (fun (W : World) (hW : WayAt W base g b (.slice (some ⟨gC, 0, none⟩) n capC) (.slice (some ⟨gl, 0, none⟩) m cap) (.slice aW s.wait.length cW) vs n s) => (show Calls Tryz.prog 87 #[.slice (some ⟨gl, 0, none⟩) m cap, .int .i64 (v : Int)] W fun e w' => e = .returned (.int .i64 (Lib.idxOf s.loop (v : Int))) ∧ w' = W from by
    have h2 := hW.L
    have h3 : s.loop.length = m := by rw [hl]; exact hm
    rw [h3] at h2
    have := Tryz.slices_Index_int gl 0 m cap s.loop (v : Int) W (Nat.le_of_eq h3.symm) (by omega) (fun j hj => by
      rw [Nat.zero_add, h2.cellAt j (by rw [Nat.mul_one, ← h3]; exact hj)]
      simp [intsV, List.getD, List.getElem?_eq_getElem hj])
    rw [show s.loop.take m = s.loop from List.take_of_length_le (by omega)] at this
    exact this))
  rw [hve] at hv
  rw [hce] at HF ⊢
  rw [hm2]
  obtain ⟨wl, hwe⟩ : ∃ wl, s.wait.length = wl := ⟨_, rfl⟩
  rw [hwe] at hwl c3 h HI ⊢
  have H := Lib.hid h
  have HL := Lib.hid hl
  have HM := Lib.hid hm
  have HWE := Lib.hid hwe
  have hm3 : m ≤ 50002 := by omega
  have hm4 : 2 ≤ m := by omega
  obtain ⟨zI, HIX0⟩ : ∃ z, Lib.idxOf s.loop (v : Int) = z := ⟨_, rfl⟩
  have HIX := Lib.hid HIX0
  have n3 : ((m : Int) == 3) = true := by simp; omega
  clear HIX0 h1
  have hw0 : wl = 0 := by rw [← hwe, hws]; rfl
  subst hw0
  clear hws
  clear h hT hl hL hs0 hm hm2 hce hcl hvb hve hC hbs hbv hv hc hwe
  go_enter Tryz.func60, Tryz.ntmps60
  go_wp2
  have hA := H.out.alloc (.cells #[.int .u8 0, .int .i64 0, .int .i64 0, .int .i64 0] 55)
  have hB0 : Below w.heap.size w (w.alloc (.cells #[.int .u8 0, .int .i64 0, .int .i64 0, .int .i64 0] 55)) := (Below.refl _ _).alloc (Nat.le_refl _) _
  have b0 := Blk.new w 55 #[.int .u8 0, .int .i64 0, .int .i64 0, .int .i64 0]
  have hszA : w.heap.size < (w.alloc (.cells #[.int .u8 0, .int .i64 0, .int .i64 0, .int .i64 0] 55)).heap.size := by simp
  generalize w.alloc (.cells #[.int .u8 0, .int .i64 0, .int .i64 0, .int .i64 0] 55) = wA at *
  obtain ⟨lb', c0', c1', c2', c3', -⟩ := four hA.blk
  have l0' := (hB0.cell (p := ⟨gl, 0, none⟩) hgl).trans l0
  have l1' := (hB0.cell (p := ⟨gl, 1, none⟩) hgl).trans l1
  have HA := Lib.hid hA
  have HB0 := Lib.hid hB0
  have Hb0 := Lib.hid b0
  clear hA hB0 b0
  have i0 : (0 : Int) < (m : Int) := by omega
  have i1 : (1 : Int) < (m : Int) := by omega
  have d0 := cell_regrown c0'
  have d2 := cell_regrown c2'
  have q0 := cell_regrown l0'
  have q1 := cell_regrown l1'
  refine wp_region_quiet_below (by kernel_rfl) (by kernel_rfl) ?_
  repeat (go_big_quiet_step ((go_at_call 62; exact Calls.regrown_of (HF.out _ (HB0.out.trans ((below_regrown wA _ _).mono HB0.out.size))))))
  refine wpQuiet_nil ?_
  intro _ hw'
  obtain ⟨⟨dq, osq⟩, hw''⟩ := hw'
  subst hw''
  have hB1 := below_regrown wA dq osq
  generalize Sort.grow (redrawn wA dq) osq = w1 at *
  have hA1 := HA.out.below hB1
  obtain ⟨lb1, x0, x1, x2, x3, y2, y3⟩ := four hA1.blk
  have HA1 := Lib.hid hA1
  have hB2 := HB0.out.trans (hB1.mono HB0.out.size)
  have cv1 := (hB2.cell (p := ⟨gC, v, none⟩) hgC).trans cv
  have lx1 := (hB2.cell (p := ⟨gl, 0, none⟩) hgl).trans l0
  have hsz1 := hB1.size
  have hgC1 : gC < w1.heap.size := by omega
  have hgl1 : gl < w1.heap.size := by omega
  have HB1 := Lib.hid hB1
  have HB2 := Lib.hid hB2
  have HA2 := Lib.hid (HA1.out.alloc (.cells #[.int .u8 0, .int .i64 (c : Int), .int .i64 0, .int .i64 (m : Int)] 55))
  have hbbN : base ≤ w.heap.size := H.out.ble
  have k1 : b ≠ w.heap.size := fun e => by have := lb; omega
  have k2 : b ≠ w1.heap.size := by omega
  have k3 : w.heap.size ≠ w1.heap.size := by omega
  clear hA1 hB1 hB2 d0 d2 q0 q1 c0' c2' l0' l1' c1' c3'
  go_upto_region 28 with (first | (go_at_call 36; refine (HV.out _ HB2.out).mono ?_; rintro e w2 ⟨rfl, rfl⟩) | (go_at_call 87; refine (HI.out _ HA2.out).mono ?_; rintro e w2 ⟨rfl, rfl⟩; rw [HIX.out]))
  all_goals
    have bW : Blk ((w1.setCell ⟨b, 2, none⟩ (.slice none 0 0)).alloc (.cells #[.int .u8 69, .int .i64 (c : Int), .int .i64 0, .int .i64 (m : Int)] 55)) b 145 #[.pointer (some ⟨g, 0, none⟩), .slice (some ⟨gC, 0, none⟩) n capC, .slice none 0 0, .slice aW 0 cW] := by
      have := (HA1.out.blk.set_ 2 (.slice none 0 0)).alloc (.cells #[.int .u8 69, .int .i64 (c : Int), .int .i64 0, .int .i64 (m : Int)] 55)
      simpa using this
    have bS : Blk ((w1.setCell ⟨b, 2, none⟩ (.slice none 0 0)).alloc (.cells #[.int .u8 69, .int .i64 (c : Int), .int .i64 0, .int .i64 (m : Int)] 55)) w1.heap.size 55 #[.int .u8 69, .int .i64 (c : Int), .int .i64 0, .int .i64 (m : Int)] := blk_new_at (by simp [World.setCell])
    have bR : Blk ((w1.setCell ⟨b, 2, none⟩ (.slice none 0 0)).alloc (.cells #[.int .u8 69, .int .i64 (c : Int), .int .i64 0, .int .i64 (m : Int)] 55)) w.heap.size 55 #[.int .u8 0, .int .i64 0, .int .i64 0, .int .i64 0] := ((Hb0.out.below HB1.out hszA).far (p := ⟨b, 2, none⟩) (by simp only; omega) _).alloc _
    have hBE : Kept (OwnA b (.slice (some ⟨gC, 0, none⟩) n capC) (.slice (some ⟨gl, 0, none⟩) m cap) (.slice aW 0 cW) vs) w ((w1.setCell ⟨b, 2, none⟩ (.slice none 0 0)).alloc (.cells #[.int .u8 69, .int .i64 (c : Int), .int .i64 0, .int .i64 (m : Int)] 55)) := ((Kept.of HB2.out).setCell (p := ⟨b, 2, none⟩) (.inl (.inl rfl)) _).alloc _
    generalize ((w1.setCell ⟨b, 2, none⟩ (.slice none 0 0)).alloc (.cells #[.int .u8 69, .int .i64 (c : Int), .int .i64 0, .int .i64 (m : Int)] 55)) = wE at *
    obtain ⟨lsE, s0, s1, s2, s3, -⟩ := four bS
    obtain ⟨ltE, t0, t1, t2, t3, r2, r3⟩ := four bR
    have r0 := bR.frozen 0
    have r1 := bR.frozen 1
    have HbW := Lib.hid bW
    have HbR := Lib.hid bR
    have HBE := Lib.hid hBE
    clear bW bS bR hBE x0 x1 x2 x3 y2 y3 cv1 lx1 cv l0 l1 c0 c1 c2 c3 f2 f3
    go_wp2
    have q0 := HbR.out.set_ 0 (.int .u8 69)
    have q1 := q0.set_ 1 (.int .i64 (c : Int))
    have q2 := q1.set_ 2 (.int .i64 0)
    have q3 := q2.set_ 3 (.int .i64 (m : Int))
    have o2 : Blk ((((wE.setCell ⟨w.heap.size, 0, none⟩ (.int .u8 69)).setCell ⟨w.heap.size, 1, none⟩ (.int .i64 (c : Int))).setCell ⟨w.heap.size, 2, none⟩ (.int .i64 0)).setCell ⟨w.heap.size, 3, none⟩ (.int .i64 (m : Int))) w.heap.size 55 #[.int .u8 69, .int .i64 (c : Int), .int .i64 0, .int .i64 (m : Int)] := by simpa using q3
    have o1 := (((HbW.out.far (p := ⟨w.heap.size, 0, none⟩) (by simp only; omega) (.int .u8 69)).far (p := ⟨w.heap.size, 1, none⟩) (by simp only; omega) (.int .i64 (c : Int))).far (p := ⟨w.heap.size, 2, none⟩) (by simp only; omega) (.int .i64 0)).far (p := ⟨w.heap.size, 3, none⟩) (by simp only; omega) (.int .i64 (m : Int))
    have o3 := (((HBE.out.setCell (p := ⟨w.heap.size, 0, none⟩) (.inr (Nat.le_refl _)) (.int .u8 69)).setCell (p := ⟨w.heap.size, 1, none⟩) (.inr (Nat.le_refl _)) (.int .i64 (c : Int))).setCell (p := ⟨w.heap.size, 2, none⟩) (.inr (Nat.le_refl _)) (.int .i64 0)).setCell (p := ⟨w.heap.size, 3, none⟩) (.inr (Nat.le_refl _)) (.int .i64 (m : Int))
    obtain ⟨-, p0, p1, p2, p3, -⟩ := four o2
    exact bodyPost_ret (v := .tuple #[.agg #[.int .u8 69, .int .i64 (c : Int), .int .i64 0, .int .i64 (m : Int)], .bool true]) (by simp [results, Tryz.results60, go_sem, p0, p1, p2, p3]) rfl ⟨rfl, _, o1, o3⟩
end Go.Proofs.YtghlnknncahkgaaGreat
/-
  (*way).step: whichever letter.
-/
namespace Go.Proofs.YtghlnknncahkgaaGreat
open Go.RowKit Go.Maps

section
variable {w w' : World} {base g b n : Nat} {S : Nat → Prop} {s s' : WSt} {T : List Tr}
theorem idxFrom_le (x : Int) : ∀ (zs : List Int) (i : Nat), Lib.idxFrom zs x i < (i + zs.length : Nat)
  | [], i => by simp [Lib.idxFrom]; omega
  | z :: zs, i => by
    unfold Lib.idxFrom
    split
    · simp; omega
    · have := idxFrom_le x zs (i + 1)
      simp only [List.length_cons] at this ⊢
      omega
theorem idxOf_le (x : Int) (zs : List Int) : Lib.idxOf zs x < zs.length := by
  have := idxFrom_le x zs 0
  unfold Lib.idxOf
  simpa using this
set_option maxHeartbeats 1000000 in
theorem step_any (hT : Tab w g n T) (h : WayS w base g b n S s) {x : WStep} (hs : stepM T s = some (x, s')) (h1 : ∀ z ∈ s.loop, 0 ≤ z ∧ z < n) (hn : n ≤ 4096) (h2 : s.loop.length ≤ 30000) (h3 : s.wait.length ≤ 30000) (h4 : 3 ≤ s.loop.length) (h5 : ∀ l ∈ s.wait, l ≠ []) :
    Calls Tryz.prog 60 #[.pointer (some ⟨b, 0, none⟩)] w fun e w' => e = .returned (.tuple #[.agg #[.int .u8 x.letter, .int .i64 x.corner, .int .i64 x.loops, .int .i64 x.length], .bool true]) ∧ StpPost w base g b n S s' w' := by
  obtain ⟨-, ⟨vC, vL, vW, vs, hA, hO⟩ | ⟨h0, -⟩⟩ := h
  rotate_left
  · rw [h0] at h4
    simp at h4
  obtain ⟨y, z, r, hl⟩ : ∃ y z r, s.loop = y :: z :: r := by
    match e : s.loop with
    | [] => rw [e] at h4; simp at h4
    | [_] => rw [e] at h4; simp at h4
    | y :: z :: r => exact ⟨y, z, r, rfl⟩
  have hy := h1 y (by rw [hl]; simp)
  have hz := h1 z (by rw [hl]; simp)
  rw [hl] at h2 h4
  simp only [List.length_cons] at h2 h4
  unfold stepM at hs
  rw [hl] at hs
  simp only at hs
  split at hs
  · cases hs
  rename_i hfac
  split at hs
  · rename_i hv
    cases hs
    refine (stepC_any hT hA hl (by omega) (by omega) (by omega) hv (by omega) (by omega)).mono ?_
    rintro e w' ⟨rfl, vL', k1, k2⟩
    exact ⟨rfl, stp_of hO k1 k2⟩
  rename_i hv
  have hv : vertI T (facI T (y, z)) ∈ s.come := by simpa using hv
  split at hs
  · rename_i hr
    cases hs
    cases hw : s.wait with
    | nil =>
      refine (stepF_any hT hA hl (by omega) (by omega) (by omega) hv (by omega) (by omega) hr hw).mono ?_
      rintro e w' ⟨rfl, vW', k1, k2⟩
      refine ⟨by rw [hw], fun k => k = b, ⟨fun k hk => by subst hk; exact ⟨hA.hb, k1.lt⟩, .inr ⟨by simp, rfl, _, _, k1⟩⟩, fun k hk => by subst hk; exact .inl (hO _ (.inl rfl)), k2.mono hO⟩
    | cons l0 lr =>
      obtain ⟨ws, l', hws⟩ : ∃ ws l', s.wait = ws ++ [l'] := by
        rcases List.eq_nil_or_concat s.wait with e | ⟨a, c, e⟩
        · rw [e] at hw; cases hw
        · exact ⟨a, c, by rw [e]; simp⟩
      refine (stepE_any hT hA hl (by omega) (by omega) (by omega) hv (by omega) (by omega) hr hws (h5 l' (by rw [hws]; simp))).mono ?_
      rintro e w' ⟨rfl, vL', vW', vs', k1, k2⟩
      rw [← hw, hws]
      refine ⟨rfl, ?_⟩
      have := stp_of hO k1 k2
      simpa using this
  rename_i hr
  split at hs
  · rename_i hi
    cases hs
    refine (stepL_any hT hA hl (by omega) (by omega) (by omega) hv (by omega) (by omega) (by omega) (by rw [hl]; exact hi)).mono ?_
    rintro e w' ⟨rfl, vL', k1, k2⟩
    exact ⟨rfl, stp_of hO k1 k2⟩
  rename_i hi1
  split at hs
  · rename_i hi
    cases hs
    refine (stepR_any hT hA hl (by omega) (by omega) (by omega) hv (by omega) (by omega) (by omega) (by rw [hl]; exact hi)).mono ?_
    rintro e w' ⟨rfl, vL', k1, k2⟩
    exact ⟨rfl, stp_of hO k1 k2⟩
  rename_i hi2
  split at hs
  · rename_i hi
    cases hs
    have hle := idxOf_le (vertI T (facI T (y, z))) (y :: z :: r)
    simp only [List.length_cons] at hle
    obtain ⟨i, hi'⟩ : ∃ i : Nat, Lib.idxOf (y :: z :: r) (vertI T (facI T (y, z))) = i := ⟨_, (Int.toNat_of_nonneg (by omega)).symm⟩
    rw [hi'] at hi hi1 hi2 hle ⊢
    refine (stepS_any hT hA hl (by omega) (by omega) (by omega) hv (by omega) (by omega) i (by omega) (by omega) (by rw [hl]; exact hi')).mono ?_
    rintro e w' ⟨rfl, vL', vW', vs', k1, k2⟩
    exact ⟨rfl, stp_of hO k1 k2⟩
  · cases hs
end
end Go.Proofs.YtghlnknncahkgaaGreat
/-
  A whole walk on numbers: the steps so far, what holds behind each, and where it ends.
-/
namespace Go.Proofs.YtghlnknncahkgaaGreat
open Go.RowKit

/-- A simple surface: closed, of one part, of Euler number 2. -/
structure Simp (N : Int) (T : List Tr) : Prop where
  surf : Surf N T
  closed : ClosedT T
  conn : ∀ S : Nat → Prop, S 0 → (∀ c, c < 3 * T.length → S (c / 3) → S (oppN T c / 3)) → ∀ t, t < T.length → S t
  pos : 0 < T.length
  euler : 2 * N = T.length + 4
theorem Simp.K {N : Int} {T : List Tr} (h : Simp N T) : Jor.Walks T.length N.toNat (oppN T) (verN T) := walks_of h.surf h.closed h.conn h.pos h.euler
/-- The walk begins at corner c. -/
def beginS (T : List Tr) (c : Nat) : WSt := ⟨[vertN T c, vertN T (Jor.nx c), vertN T (Jor.pv c)], [vertN T (Jor.nx c), vertN T c, vertN T (Jor.pv c)], []⟩
/-- The triangles gone over, the last one ahead. -/
def dOf (c : Nat) (L : List WStep) : List Nat := (L.map fun x => x.corner.toNat / 3).reverse ++ [c / 3]
/-- The vertices come to by the steps. -/
def newV (T : List Tr) (L : List WStep) : List Int := (L.filter fun x => decide (x.letter = 67)).map fun x => vertI T x.corner
theorem dOf_len (c : Nat) (L : List WStep) : (dOf c L).length = L.length + 1 := by simp [dOf]
theorem dOf_snoc (c : Nat) (L : List WStep) (x : WStep) : dOf c (L ++ [x]) = x.corner.toNat / 3 :: dOf c L := by simp [dOf]
theorem newV_snoc (T : List Tr) (L : List WStep) (x : WStep) : newV T (L ++ [x]) = newV T L ++ (if x.letter = 67 then [vertI T x.corner] else []) := by
  unfold newV
  rw [List.filter_append, List.map_append]
  by_cases h : x.letter = 67 <;> simp [h]
/-- The steps so far. -/
inductive Ran (T : List Tr) (s0 : WSt) : List WStep → WSt → Prop
  | nil : Ran T s0 [] s0
  | snoc {L : List WStep} {s s' : WSt} {x : WStep} : Ran T s0 L s → stepM T s = some (x, s') → Ran T s0 (L ++ [x]) s'
theorem Ran.one {T : List Tr} {s0 s s' : WSt} {L L' : List WStep} (h : Ran T s0 L s) (h' : Ran T s0 L' s') (hl : L.length = L'.length) : L = L' ∧ s = s' := by
  induction h generalizing L' s' with
  | nil =>
    cases h' with
    | nil => exact ⟨rfl, rfl⟩
    | snoc _ _ => simp at hl
  | snoc h1 h2 ih =>
    cases h' with
    | nil => simp at hl
    | snoc k1 k2 =>
      obtain ⟨rfl, rfl⟩ := ih k1 (by simpa using hl)
      rw [h2] at k2
      cases k2
      exact ⟨rfl, rfl⟩
theorem Ran.take {T : List Tr} {s0 s : WSt} {L : List WStep} (h : Ran T s0 L s) : ∀ k, k ≤ L.length → ∃ s', Ran T s0 (L.take k) s' := by
  induction h with
  | nil => intro k _; exact ⟨s0, by simpa using Ran.nil⟩
  | @snoc L s s' x h1 h2 ih =>
    intro k hk
    by_cases e : k = L.length + 1
    · subst e
      exact ⟨s', by rw [List.take_of_length_le (by simp)]; exact .snoc h1 h2⟩
    · have hk' : k ≤ L.length := by simp at hk; omega
      obtain ⟨s2, h3⟩ := ih k hk'
      exact ⟨s2, by rw [List.take_append_of_le_length hk']; exact h3⟩
/-- A walk that is over is no beginning of another one. -/
theorem Ran.end_ {T : List Tr} {s0 s s' : WSt} {L L' : List WStep} (h : Ran T s0 L s) (he : s.loop = []) (h' : Ran T s0 L' s') : L'.length ≤ L.length := by
  induction h' with
  | nil => simp
  | @snoc M s1 s2 x h1 h2 ih =>
    rcases Nat.lt_or_ge M.length L.length with hl | hl
    · simp; omega
    · obtain ⟨e1, e2⟩ := h1.one h (by omega)
      subst e2
      unfold stepM at h2
      rw [he] at h2
      cases h2
theorem Ran.same {T : List Tr} {s0 s s' : WSt} {L L' : List WStep} (h : Ran T s0 L s) (he : s.loop = []) (h' : Ran T s0 L' s') (he' : s'.loop = []) : L' = L ∧ s' = s := by
  have h1 := h.end_ he h'
  have h2 := h'.end_ he' h
  exact h'.one h (by omega)

/-- What holds behind the steps. -/
structure Gone (N : Int) (T : List Tr) (c : Nat) (L : List WStep) (s : WSt) (Xs : List (List Nat)) : Prop where
  inv : Jor.WInv T.length (oppN T) (verN T) (c / 3) (dOf c L) Xs
  rel : WRel T (dOf c L) Xs s
  come : s.come = (beginS T c).come ++ newV T L
  cnt : Xs.length + L.countP (fun x => decide (x.letter = 69)) = 1 + L.countP (fun x => decide (x.letter = 83))
  each : ∀ x ∈ L, ∃ d : Nat, x.corner = d ∧ d < 3 * T.length ∧ 3 ≤ x.length ∧ x.length ≤ 3 * T.length ∧ x.loops ≤ 3 * T.length ∧ (x.letter = 67 ∨ x.letter = 69 ∨ x.letter = 76 ∨ x.letter = 82 ∨ x.letter = 83)
  over : ∀ i x, L[i]? = some x → oppN T x.corner.toNat / 3 ∈ dOf c (L.take i)
theorem nodup_len : ∀ {l m : List Nat}, l.Nodup → l ⊆ m → l.length ≤ m.length
  | [], _, _, _ => by simp
  | a :: l, m, hn, hs => by
    have ha := hs (List.mem_cons_self ..)
    have hn' := List.nodup_cons.1 hn
    have : l ⊆ m.erase a := fun x hx => (List.mem_erase_of_ne (fun e => hn'.1 (by rw [← e]; exact hx))).2 (hs (List.mem_cons_of_mem _ hx))
    have := nodup_len hn'.2 this
    rw [List.length_erase_of_mem ha] at this
    have := List.length_pos_of_mem ha
    simp only [List.length_cons]
    omega
theorem WInv_flat {F : Nat} {opp vert : Nat → Nat} {d0 : Nat} {D : List Nat} {Xs : List (List Nat)} (h : Jor.WInv F opp vert d0 D Xs) : Xs.flatten.length ≤ 3 * F := by
  have h1 : Xs.flatten ⊆ List.range (3 * F) := fun c hc => List.mem_range.2 ((h.bd c).1 hc).1
  have := nodup_len h.nd h1
  simpa using this
theorem flat_count {Xs : List (List Nat)} (h : ∀ X ∈ Xs, 3 ≤ X.length) : 3 * Xs.length ≤ Xs.flatten.length := by
  induction Xs with
  | nil => simp
  | cons X R ih =>
    have h1 := h X (List.mem_cons_self ..)
    have h2 := ih (fun Y hY => h Y (List.mem_cons_of_mem _ hY))
    simp only [List.length_cons, List.flatten_cons, List.length_append]
    omega
variable {N : Int} {T : List Tr} {c : Nat}
theorem begin_gone (h : Simp N T) (hc : c < 3 * T.length) : Gone N T c [] (beginS T c) [[oppN T (Jor.pv c), oppN T (Jor.nx c), oppN T c]] where
  inv := by simpa [dOf] using Jor.WInv.start h.K hc
  rel := by
    have hb := Jor.nx_lt hc
    have hd := Jor.pv_lt hc
    obtain ⟨n1, n2, n3⟩ := vert_ne h.surf.simple hc
    refine ⟨fun d hdl => ?_, ?_, ?_, ?_, by simp [beginS]⟩
    · show _ ↔ Jor.Come T.length (verN T) [c / 3] (verN T d)
      rw [Jor.come_start hc, verN_eq h.surf hdl hc, verN_eq h.surf hdl hb, verN_eq h.surf hdl hd]
      simp [beginS]
    · simp only [beginS, List.nodup_cons, List.mem_cons, List.not_mem_nil, or_false, not_or, not_false_eq_true, List.nodup_nil, and_true]
      exact ⟨⟨fun e => n1 e.symm, fun e => n2 e.symm⟩, n3⟩
    · intro v hv
      simp only [beginS, List.mem_cons, List.not_mem_nil, or_false] at hv
      rcases hv with rfl | rfl | rfl
      · exact ⟨c, hc, rfl⟩
      · exact ⟨_, hb, rfl⟩
      · exact ⟨_, hd, rfl⟩
    · simp [beginS, hdI_opp h.closed hd, hdI_opp h.closed hb, hdI_opp h.closed hc, Jor.pv_pv, Jor.pv_nx]
  come := by simp [newV]
  cnt := by simp
  each := by simp
  over := by simp
/-- One step more. -/
theorem Gone.next (h : Simp N T) {L : List WStep} {s : WSt} {Xs : List (List Nat)} (G : Gone N T c L s Xs) (hl : s.loop ≠ []) :
    ∃ x s' Xs', stepM T s = some (x, s') ∧ Gone N T c (L ++ [x]) s' Xs' ∧ x.loops = s.wait.length ∧ x.length = s.loop.length ∧
      ((x.letter = 67 ∧ Xs'.length = Xs.length ∧ s'.loop.length = s.loop.length + 1) ∨ (x.letter = 69 ∧ Xs'.length + 1 = Xs.length ∧ s.loop.length = 3) ∨ ((x.letter = 76 ∨ x.letter = 82) ∧ Xs'.length = Xs.length ∧ s'.loop.length + 1 = s.loop.length) ∨ (x.letter = 83 ∧ Xs'.length = Xs.length + 1)) := by
  obtain ⟨c0, r, W, rfl⟩ : ∃ c0 r W, Xs = (c0 :: r) :: W := by
    cases Xs with
    | nil => exact absurd (by simpa using G.rel.loop) hl
    | cons X W =>
      cases X with
      | nil => exact absurd (by simpa using G.rel.loop) hl
      | cons c0 r => exact ⟨c0, r, W, rfl⟩
  obtain ⟨l, s', Xs', h1, h2, h3, h4⟩ := stepM_ok h.surf h.closed h.K G.inv G.rel
  have hX : (c0 :: r) ∈ (c0 :: r) :: W := List.mem_cons_self ..
  have h0 : Jor.Bd T.length (oppN T) (dOf c L) c0 := G.inv.mem hX (List.mem_cons_self ..)
  have hloop : s.loop.length = r.length + 1 := by rw [G.rel.loop]; simp
  have hwait : s.wait.length = W.length := by rw [G.rel.wait]; simp
  have hlen := G.inv.len _ hX
  simp only [List.length_cons] at hlen
  have hfl := WInv_flat G.inv
  have hfc := flat_count G.inv.len
  have hcn := G.cnt
  simp only [List.flatten_cons, List.length_append, List.length_cons] at hfl hfc hcn
  have hv : vertI T ((c0 : Nat) : Int) = vertN T c0 := vertI_nat h0.1
  refine ⟨_, s', Xs', h1, ⟨?_, ?_, ?_, ?_, ?_, ?_⟩, hwait.symm, hloop.symm, ?_⟩
  · rw [dOf_snoc]; exact h2
  · rw [dOf_snoc]; exact h3
  · rw [newV_snoc, ← List.append_assoc, ← G.come]
    rcases h4 with ⟨rfl, e, _⟩ | ⟨rfl, e, _⟩ | ⟨e1 | e1, e, _⟩ | ⟨rfl, e, _⟩
    · rw [e, if_pos rfl, hv]
    · rw [e]; simp
    · subst e1; rw [e]; simp
    · subst e1; rw [e]; simp
    · rw [e]; simp
  · rw [List.countP_append, List.countP_append]
    rcases h4 with ⟨rfl, e, e2, _⟩ | ⟨rfl, e, e2, _⟩ | ⟨e1 | e1, e, e2, _⟩ | ⟨rfl, e, e2⟩
    · simp; omega
    · simp; omega
    · subst e1; simp; omega
    · subst e1; simp; omega
    · simp; omega
  · intro x hx
    rcases List.mem_append.1 hx with hx | hx
    · exact G.each x hx
    · rw [List.mem_singleton.1 hx]
      refine ⟨c0, rfl, h0.1, hlen, by show r.length + 1 ≤ _; omega, by show W.length ≤ _; omega, ?_⟩
      show l = 67 ∨ l = 69 ∨ l = 76 ∨ l = 82 ∨ l = 83
      rcases h4 with ⟨e, _⟩ | ⟨e, _⟩ | ⟨e | e, _⟩ | ⟨e, _⟩ <;> simp [e]
  · intro i x hx
    rcases Nat.lt_or_ge i L.length with hi | hi
    · rw [List.getElem?_append_left hi] at hx
      rw [List.take_append_of_le_length (by omega)]
      exact G.over i x hx
    · rw [List.getElem?_append_right hi] at hx
      have hi0 : i - L.length = 0 := by
        have := (List.getElem?_eq_some_iff.1 hx).1
        simp at this
        omega
      rw [hi0] at hx
      simp only [List.getElem?_cons_zero, Option.some.injEq] at hx
      subst hx
      have hi' : i = L.length := by omega
      subst hi'
      rw [List.take_left]
      exact h0.2.2
  · rcases h4 with ⟨e1, e, e2, e3⟩ | ⟨e1, e, e2, e3⟩ | ⟨e1, e, e2, e3⟩ | ⟨e1, e, e2⟩
    · exact .inl ⟨e1, by simpa using e2, by omega⟩
    · exact .inr (.inl ⟨e1, by simp; omega, by omega⟩)
    · exact .inr (.inr (.inl ⟨e1, by simpa using e2, by omega⟩))
    · exact .inr (.inr (.inr ⟨e1, by simp; omega⟩))
/-- Whatever was gone over so far. -/
theorem Ran.gone (h : Simp N T) (hc : c < 3 * T.length) {L : List WStep} {s : WSt} (R : Ran T (beginS T c) L s) : ∃ Xs, Gone N T c L s Xs := by
  induction R with
  | nil => exact ⟨_, begin_gone h hc⟩
  | @snoc L s s' x h1 h2 ih =>
    obtain ⟨Xs, G⟩ := ih
    have hl : s.loop ≠ [] := by
      intro e
      unfold stepM at h2
      rw [e] at h2
      cases h2
    obtain ⟨x2, s2, Xs2, e, G2, _⟩ := G.next h hl
    rw [h2] at e
    cases e
    exact ⟨Xs2, G2⟩
theorem Gone.lt (h : Simp N T) {L : List WStep} {s : WSt} {Xs : List (List Nat)} (G : Gone N T c L s Xs) : L.length + 1 ≤ T.length ∧ (s.loop = [] ↔ L.length + 1 = T.length) := by
  have h1 := G.inv.len_le
  rw [dOf_len] at h1
  refine ⟨h1, fun e => ?_, fun e => ?_⟩
  · have hX : Xs = [] := by
      cases Xs with
      | nil => rfl
      | cons X W =>
        have := G.rel.loop
        rw [e] at this
        have h3 := G.inv.len X (List.mem_cons_self ..)
        simp at this
        rw [this] at h3
        simp at h3
    subst hX
    have := G.inv.finish_len h.K
    rwa [dOf_len] at this
  · cases Xs with
    | nil => simpa using G.rel.loop
    | cons X W =>
      have := G.inv.len_lt
      rw [dOf_len] at this
      omega
/-- What the step wants of the state. -/
theorem Gone.wants (h : Simp N T) {L : List WStep} {s : WSt} {Xs : List (List Nat)} (G : Gone N T c L s Xs) :
    (∀ z ∈ s.loop, 0 ≤ z ∧ z < N) ∧ s.loop.length ≤ 3 * T.length ∧ s.wait.length ≤ 3 * T.length ∧ (s.loop ≠ [] → 3 ≤ s.loop.length) ∧ ∀ l ∈ s.wait, l ≠ [] := by
  have hfl := WInv_flat G.inv
  have hfc := flat_count G.inv.len
  cases Xs with
  | nil =>
    have e1 : s.loop = [] := by simpa using G.rel.loop
    have e2 : s.wait = [] := by simpa using G.rel.wait
    rw [e1, e2]
    simp
  | cons X W =>
    have e1 : s.loop = X.map (hdI T) := by simpa using G.rel.loop
    have e2 := G.rel.wait
    simp only [List.tail_cons] at e2
    simp only [List.flatten_cons, List.length_append, List.length_cons] at hfl hfc
    have h3 := G.inv.len X (List.mem_cons_self ..)
    refine ⟨fun z hz => ?_, by rw [e1, List.length_map]; omega, by rw [e2]; simp; omega, fun _ => by rw [e1, List.length_map]; exact h3, fun l hl => ?_⟩
    · rw [e1] at hz
      obtain ⟨d, hd, rfl⟩ := List.mem_map.1 hz
      exact vert_rng h.surf (Jor.nx_lt (G.inv.mem (List.mem_cons_self ..) hd).1)
    · rw [e2, List.mem_reverse] at hl
      obtain ⟨Y, hY, rfl⟩ := List.mem_map.1 hl
      have := G.inv.len Y (List.mem_cons_of_mem _ hY)
      intro e
      have : Y = [] := by simpa using e
      subst this
      simp at *
theorem ends_aux (h : Simp N T) (hc : c < 3 * T.length) : ∀ (k : Nat) (L : List WStep) (s : WSt), Ran T (beginS T c) L s → T.length = L.length + 1 + k → ∃ L' s', Ran T (beginS T c) L' s' ∧ s'.loop = []
  | 0, L, s, R, hk => by
    obtain ⟨Xs, G⟩ := R.gone h hc
    exact ⟨L, s, R, (G.lt h).2.2 (by omega)⟩
  | k + 1, L, s, R, hk => by
    obtain ⟨Xs, G⟩ := R.gone h hc
    have hl : s.loop ≠ [] := fun e => by
      have := (G.lt h).2.1 e
      omega
    obtain ⟨x, s', Xs', e, _⟩ := G.next h hl
    exact ends_aux h hc k (L ++ [x]) s' (.snoc R e) (by simp; omega)
/-- The walk comes to an end. -/
theorem ends (h : Simp N T) (hc : c < 3 * T.length) : ∃ L s, Ran T (beginS T c) L s ∧ s.loop = [] := ends_aux h hc (T.length - 1) [] _ .nil (by have := h.pos; simp; omega)
/-- The steps, reckoned. -/
def runM (T : List Tr) : Nat → WSt → List WStep × WSt
  | 0, s => ([], s)
  | n + 1, s => match stepM T s with
    | some (x, s') => (x :: (runM T n s').1, (runM T n s').2)
    | none => ([], s)
theorem runM_ran (T : List Tr) (s0 : WSt) : ∀ (n : Nat) (L : List WStep) (s : WSt), Ran T s0 L s → Ran T s0 (L ++ (runM T n s).1) (runM T n s).2
  | 0, L, s, R => by simpa [runM] using R
  | n + 1, L, s, R => by
    unfold runM
    cases hs : stepM T s with
    | none => simpa using R
    | some p =>
      obtain ⟨x, s'⟩ := p
      have := runM_ran T s0 n (L ++ [x]) s' (.snoc R hs)
      simpa using this
/-- The steps of the whole walk. -/
def stepsM (T : List Tr) (c : Nat) : List WStep := (runM T T.length (beginS T c)).1
theorem runM_len (T : List Tr) : ∀ (n : Nat) (s : WSt), (runM T n s).1.length = n ∨ stepM T (runM T n s).2 = none
  | 0, s => .inl rfl
  | n + 1, s => by
    unfold runM
    cases hs : stepM T s with
    | none => exact .inr hs
    | some p =>
      obtain ⟨x, s'⟩ := p
      rcases runM_len T n s' with h | h
      · exact .inl (by simp [h])
      · exact .inr h
/-- Whichever way a walk has come to its end: these are its steps. -/
theorem Ran.steps (h : Simp N T) (hc : c < 3 * T.length) {L : List WStep} {s : WSt} (R : Ran T (beginS T c) L s) (he : s.loop = []) : L = stepsM T c := by
  have R2 := runM_ran T (beginS T c) T.length [] _ .nil
  rw [List.nil_append] at R2
  have hl := R.end_ he R2
  obtain ⟨Xs, G⟩ := R2.gone h hc
  have hlt := (G.lt h).1
  have he2 : (runM T T.length (beginS T c)).2.loop = [] := by
    by_cases e : (runM T T.length (beginS T c)).2.loop = []
    · exact e
    · obtain ⟨x, s', Xs', e2, _⟩ := G.next h e
      rcases runM_len T T.length (beginS T c) with h3 | h3
      · omega
      · rw [h3] at e2
        cases e2
  exact ((R.same he R2 he2).1).symm
end Go.Proofs.YtghlnknncahkgaaGreat
/-
  walk.begin, by walking its text.
-/
namespace Go.Proofs.YtghlnknncahkgaaGreat
open Go.RowKit Go.Maps

set_option maxRecDepth 100000 in
set_option maxHeartbeats 2000000 in
theorem begin_any {w : World} {g n c : Nat} {T : List Tr} (hT : Tab w g n T) (hS : Surf n T) (hc : c < 3 * T.length) :
    Calls Tryz.prog 59 #[.pointer (some ⟨g, 0, none⟩), .int .i64 c] w fun e w' => ∃ b vC vL vW vs, e = .returned (.pointer (some ⟨b, 0, none⟩)) ∧ WayAt w' w.heap.size g b vC vL vW vs n (beginS T c) ∧ Below w.heap.size w w' := by
  have hn : (n : Int) ≤ 4096 := hS.n1
  obtain ⟨n1, n2, n3⟩ := vert_ne hS.simple hc
  have hb := Jor.nx_lt hc
  have hd := Jor.pv_lt hc
  obtain ⟨va, hva⟩ : ∃ v : Nat, vertN T c = v := ⟨(vertN T c).toNat, by have := vertN_in hT.inr hc; omega⟩
  obtain ⟨vb, hvb⟩ : ∃ v : Nat, vertN T (Jor.nx c) = v := ⟨(vertN T (Jor.nx c)).toNat, by have := vertN_in hT.inr hb; omega⟩
  obtain ⟨vd, hvd⟩ : ∃ v : Nat, vertN T (Jor.pv c) = v := ⟨(vertN T (Jor.pv c)).toNat, by have := vertN_in hT.inr hd; omega⟩
  have la : va < n := by have := vertN_in hT.inr hc; omega
  have lb : vb < n := by have := vertN_in hT.inr hb; omega
  have ld : vd < n := by have := vertN_in hT.inr hd; omega
  have HV0 := Lib.hid (vertices_any g n T w hT.toTabS)
  have HVa := Lib.hid (fun (W : World) (hW : Below w.heap.size w W) => (show Calls Tryz.prog 36 #[.pointer (some ⟨g, 0, none⟩), .int .i64 (c : Int)] W fun e w' => e = .returned (.int .i64 (va : Int)) ∧ W = w' from by
    have := vertex_any g n (c : Int) T W (hT.below hW).toTabS
    rw [vertI_nat hc, hva] at this
    exact this))
  have HVb := Lib.hid (fun (W : World) (hW : Below w.heap.size w W) => (show Calls Tryz.prog 36 #[.pointer (some ⟨g, 0, none⟩), .int .i64 ((Jor.nx c : Nat) : Int)] W fun e w' => e = .returned (.int .i64 (vb : Int)) ∧ W = w' from by
    have := vertex_any g n ((Jor.nx c : Nat) : Int) T W (hT.below hW).toTabS
    rw [vertI_nat hb, hvb] at this
    exact this))
  have HVd := Lib.hid (fun (W : World) (hW : Below w.heap.size w W) => (show Calls Tryz.prog 36 #[.pointer (some ⟨g, 0, none⟩), .int .i64 ((Jor.pv c : Nat) : Int)] W fun e w' => e = .returned (.int .i64 (vd : Int)) ∧ W = w' from by
    have := vertex_any g n ((Jor.pv c : Nat) : Int) T W (hT.below hW).toTabS
    rw [vertI_nat hd, hvd] at this
    exact this))
  have HN := Lib.hid (fun (W : World) (hW : Below w.heap.size w W) => (show Calls Tryz.prog 38 #[.pointer (some ⟨g, 0, none⟩), .int .i64 (c : Int)] W fun e w' => e = .returned (.int .i64 ((Jor.nx c : Nat) : Int)) ∧ W = w' from by
    have := next_any g n (c : Int) T W (hT.below hW).toTabS
    unfold nextI at this
    rw [hasC_true (by omega) (by omega), if_pos rfl, Int.toNat_natCast] at this
    exact this))
  have HP := Lib.hid (fun (W : World) (hW : Below w.heap.size w W) => (show Calls Tryz.prog 39 #[.pointer (some ⟨g, 0, none⟩), .int .i64 (c : Int)] W fun e w' => e = .returned (.int .i64 ((Jor.pv c : Nat) : Int)) ∧ W = w' from by
    have := prev_any g n (c : Int) T W (hT.below hW).toTabS
    unfold prevI at this
    rw [hasC_true (by omega) (by omega), if_pos rfl, Int.toNat_natCast] at this
    exact this))
  have hbegin : beginS T c = ⟨[(va : Int), vb, vd], [(vb : Int), va, vd], []⟩ := by unfold beginS; rw [hva, hvb, hvd]
  rw [hbegin]
  have m1 : vb ≠ va := fun e => n1 (by rw [hvb, hva, e])
  have m2 : vd ≠ va := fun e => n2 (by rw [hvd, hva, e])
  have m3 : vb ≠ vd := fun e => n3 (by rw [hvb, hvd, e])
  have m4 := m1.symm
  have m5 := m2.symm
  have m6 := m3.symm
  clear hbegin hva hvb hvd n1 n2 n3 hS
  obtain ⟨nb, hnb⟩ : ∃ k, Jor.nx c = k := ⟨_, rfl⟩
  obtain ⟨nd, hnd⟩ : ∃ k, Jor.pv c = k := ⟨_, rfl⟩
  rw [hnb] at HVb HN
  rw [hnd] at HVd HP
  clear hb hd hnb hnd hT hc
  obtain ⟨i2, hj', hz0, hz1, hz2⟩ := info_parts infoBool
  go_enter Tryz.func59, Tryz.ntmps59
  go_wp2_with fail
  refine HV0.out.mono ?_
  rintro e w0 ⟨rfl, rfl⟩
  go_upto_region 2 with (at_make; refine wpList_make_full _ rfl (.tmp 11) (.tmp 11) 122 rfl w.heap.size 4 i2 _ 1 Tryz.underlying122 hj' hz0 hz1 .i64 .i64 _ _ n rfl rfl rfl rfl (by rw [hz2]; omega) (by unfold maxLen; omega) (Nat.le_refl _) ?_; intro w1 hr1 hg1)
  rename World => w1
  have hsz1 := hg1.size
  have hB1 : Below w.heap.size w w1 := (Below.refl _ _).grown hg1 (Nat.le_refl _) (fun j e => by cases e)
  have HB1 := Lib.hid hB1
  have HR1 := Lib.hid hr1
  clear hr1 hg1 hB1
  rw [made_bools] at HR1
  have bw := Blk.new w1 145 #[.pointer (some ⟨g, 0, none⟩), .slice (some ⟨w.heap.size, 0, none⟩) n n, .slice none 0 0, .slice none 0 0]
  have HR2 := Lib.hid (HR1.out.alloc (.cells #[.pointer (some ⟨g, 0, none⟩), .slice (some ⟨w.heap.size, 0, none⟩) n n, .slice none 0 0, .slice none 0 0] 145))
  have HB2 := Lib.hid (HB1.out.alloc hsz1 (.cells #[.pointer (some ⟨g, 0, none⟩), .slice (some ⟨w.heap.size, 0, none⟩) n n, .slice none 0 0, .slice none 0 0] 145))
  have hw1 : w.heap.size < w1.heap.size := (HR1.out.lt w.heap.size rfl).2
  have hw2 : w1.heap.size < (w1.alloc (.cells #[.pointer (some ⟨g, 0, none⟩), .slice (some ⟨w.heap.size, 0, none⟩) n n, .slice none 0 0, .slice none 0 0] 145)).heap.size := by simp
  have k1 := HR2.out.cellAt va (by omega)
  have k2 := HR2.out.cellAt vb (by omega)
  have k3 := HR2.out.cellAt vd (by omega)
  have f1 := HR2.out.frozenAt va
  have f2 := HR2.out.frozenAt vb
  have f3 := HR2.out.frozenAt vd
  simp only [bools, List.map_replicate, List.getElem?_replicate, la, lb, ld, if_true] at k1 k2 k3
  generalize (w1.alloc (.cells #[.pointer (some ⟨g, 0, none⟩), .slice (some ⟨w.heap.size, 0, none⟩) n n, .slice none 0 0, .slice none 0 0] 145)) = W2 at *
  obtain ⟨lbw, c0, c1, c2, c3, g2, g3⟩ := four bw
  have HBw := Lib.hid bw
  clear bw HR1 HB1
  have la' : (va : Int) < (n : Int) := by omega
  have lb' : (vb : Int) < (n : Int) := by omega
  have ld' : (vd : Int) < (n : Int) := by omega
  have hne : w.heap.size ≠ w1.heap.size := by omega
  have hne' : w1.heap.size ≠ w.heap.size := by omega
  have lw2 : w.heap.size < W2.heap.size := by omega
  go_upto_region 3 with (first
    | (go_at_call 36; with_reducible refine (HVa.out _ HB2.out).mono ?_; rintro e w2 ⟨rfl, rfl⟩)
    | (go_at_call 36; with_reducible refine (HVb.out _ HB2.out).mono ?_; rintro e w2 ⟨rfl, rfl⟩)
    | (go_at_call 36; with_reducible refine (HVd.out _ HB2.out).mono ?_; rintro e w2 ⟨rfl, rfl⟩)
    | (go_at_call 38; with_reducible refine (HN.out _ HB2.out).mono ?_; rintro e w2 ⟨rfl, rfl⟩)
    | (go_at_call 39; with_reducible refine (HP.out _ HB2.out).mono ?_; rintro e w2 ⟨rfl, rfl⟩))
  go_region
  obtain ⟨r1, r2⟩ := HR2.out.stored va (.bool true)
  obtain ⟨r3, r4⟩ := r1.stored vb (.bool true)
  obtain ⟨r5, r6⟩ := r3.stored vd (.bool true)
  have bw3 : Blk ((((W2.setCell ⟨w.heap.size, va, none⟩ (.bool true)).setCell ⟨w.heap.size, vb, none⟩ (.bool true)).setCell ⟨w.heap.size, vd, none⟩ (.bool true)).drew) w1.heap.size 145 #[.pointer (some ⟨g, 0, none⟩), .slice (some ⟨w.heap.size, 0, none⟩) n n, .slice none 0 0, .slice none 0 0] := (((HBw.out.far (p := ⟨w.heap.size, va, none⟩) (by simp only; omega) _).far (p := ⟨w.heap.size, vb, none⟩) (by simp only; omega) _).far (p := ⟨w.heap.size, vd, none⟩) (by simp only; omega) _).drew
  have r7 : World.ownsRow ((((W2.setCell ⟨w.heap.size, va, none⟩ (.bool true)).setCell ⟨w.heap.size, vb, none⟩ (.bool true)).setCell ⟨w.heap.size, vd, none⟩ (.bool true)).drew) w.heap.size 4 1 (.slice (some ⟨w.heap.size, 0, none⟩) n n) n ((((bools (List.replicate n false)).set va (.bool true)).set vb (.bool true)).set vd (.bool true)) := r5
  have HB3 : Below w.heap.size w ((((W2.setCell ⟨w.heap.size, va, none⟩ (.bool true)).setCell ⟨w.heap.size, vb, none⟩ (.bool true)).setCell ⟨w.heap.size, vd, none⟩ (.bool true)).drew) := (((HB2.out.setCell (p := ⟨w.heap.size, va, none⟩) (Nat.le_refl _) _).setCell (p := ⟨w.heap.size, vb, none⟩) (Nat.le_refl _) _).setCell (p := ⟨w.heap.size, vd, none⟩) (Nat.le_refl _) _).drew
  generalize ((((W2.setCell ⟨w.heap.size, va, none⟩ (.bool true)).setCell ⟨w.heap.size, vb, none⟩ (.bool true)).setCell ⟨w.heap.size, vd, none⟩ (.bool true)).drew) = W3 at *
  clear k1 k2 k3 f1 f2 f3 c0 c1 c2 c3 g2 g3 lbw
  obtain ⟨lbw, c0, c1, c2, c3, g2, g3⟩ := four bw3
  have bits : BitsOf (((((List.replicate n false).set va true).set vb true).set vd true)) n [(va : Int), vb, vd] := ((BitsOf.none_ n).mark la |>.mark lb |>.mark ld)
  rw [bools_set, bools_set, bools_set] at r7
  have HR3 := Lib.hid r7
  have HB3' := Lib.hid HB3
  have HBw3 := Lib.hid bw3
  have hsz3 := HB3.size
  clear r1 r2 r3 r4 r5 r6 r7 HB3 bw3
  go_wp2
  have hz : (W3.setCell ⟨w1.heap.size, 2, none⟩ (.slice (some ⟨W3.heap.size, 0, none⟩) 3 3)).heap.size = W3.heap.size := by simp [World.setCell]
  have bL : Blk ((W3.setCell ⟨w1.heap.size, 2, none⟩ (.slice (some ⟨W3.heap.size, 0, none⟩) 3 3)).alloc (.cells #[.int .i64 vb, .int .i64 va, .int .i64 vd] 3)) W3.heap.size 3 #[.int .i64 vb, .int .i64 va, .int .i64 vd] := blk_new_at hz
  have hL : ((W3.setCell ⟨w1.heap.size, 2, none⟩ (.slice (some ⟨W3.heap.size, 0, none⟩) 3 3)).alloc (.cells #[.int .i64 vb, .int .i64 va, .int .i64 vd] 3)).ownsRow w.heap.size 3 1 (.slice (some ⟨W3.heap.size, 0, none⟩) 3 3) 3 [.int .i64 vb, .int .i64 va, .int .i64 vd] :=
    ⟨rfl, .inr ⟨_, 3, _, rfl, hsz3, bL, Nat.le_refl _, by decide, rfl, rfl⟩⟩
  have bA := (HBw3.out.set_ 2 (.slice (some ⟨W3.heap.size, 0, none⟩) 3 3)).alloc (.cells #[.int .i64 vb, .int .i64 va, .int .i64 vd] 3)
  have hC := (own_alloc_st (i := 2) (u := .slice (some ⟨W3.heap.size, 0, none⟩) 3 3) HR3.out HBw3.out (by decide)).alloc (.cells #[.int .i64 vb, .int .i64 va, .int .i64 vd] 3)
  go_ret
  refine ⟨w1.heap.size, .slice (some ⟨w.heap.size, 0, none⟩) n n, .slice (some ⟨W3.heap.size, 0, none⟩) 3 3, .slice none 0 0, [], rfl, ⟨?_, by omega, ⟨_, hC, bits⟩, hL, World.ownsRow_nil _ _ _ _, fun i u r hu _ => by simp at hu, ⟨fun v hv => ?_, by simp⟩, by simp⟩, ?_⟩
  · simpa using bA
  · rw [List.mem_singleton.1 hv]
    exact ⟨_, rfl⟩
  · exact (HB3'.out.setCell (p := ⟨w1.heap.size, 2, none⟩) (by simp only; omega) _).alloc (by rw [hz]; exact hsz3) _
end Go.Proofs.YtghlnknncahkgaaGreat
