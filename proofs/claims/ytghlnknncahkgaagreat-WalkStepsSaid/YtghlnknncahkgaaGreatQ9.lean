/-
  Texts joined by program: R21B F13M F13 F13B R21 F13C F21.
-/
import Derived.Test.YtghlnknncahkgaaGreatQ8
import Derived.Test.YtghlnknncahkgaaGreatQ6
import Derived.Deep.RegionHeld3
import Derived.Deep.DeepCutAuto
import Derived.Lib.QuietBelow
/-
  One step of the walk, case by case; parts of a row, as they are read.
-/
namespace Go.Proofs.YtghlnknncahkgaaGreat
open Go.RowKit Go.Maps

theorem step_cases {T : List Tr} {s s' : WSt} {x : WStep} (h : stepM T s = some (x, s')) : ∃ a b r u, s.loop = a :: b :: r ∧ u = vertI T (facI T (a, b)) ∧ 0 ≤ facI T (a, b) ∧ x.corner = facI T (a, b) ∧ x.loops = s.wait.length ∧ x.length = r.length + 2 ∧
    ((u ∉ s.come ∧ x.letter = 67 ∧ s' = ⟨s.come ++ [u], a :: u :: b :: r, s.wait⟩) ∨ (u ∈ s.come ∧ r.length = 1 ∧ x.letter = 69 ∧ s' = ⟨s.come, s.wait.getLast?.getD [], s.wait.dropLast⟩) ∨
     (u ∈ s.come ∧ r.length ≠ 1 ∧ Lib.idxOf (a :: b :: r) u = r.length + 1 ∧ x.letter = 76 ∧ s' = ⟨s.come, u :: (b :: r).dropLast, s.wait⟩) ∨
     (u ∈ s.come ∧ r.length ≠ 1 ∧ Lib.idxOf (a :: b :: r) u ≠ r.length + 1 ∧ Lib.idxOf (a :: b :: r) u = 2 ∧ x.letter = 82 ∧ s' = ⟨s.come, a :: r, s.wait⟩) ∨
     (u ∈ s.come ∧ r.length ≠ 1 ∧ Lib.idxOf (a :: b :: r) u ≠ r.length + 1 ∧ 2 < Lib.idxOf (a :: b :: r) u ∧ x.letter = 83 ∧ s' = ⟨s.come, a :: (a :: b :: r).drop (Lib.idxOf (a :: b :: r) u).toNat, s.wait ++ [u :: (b :: r).take ((Lib.idxOf (a :: b :: r) u).toNat - 1)]⟩)) := by
  unfold stepM at h
  split at h
  · rename_i a b r hl
    by_cases h0 : facI T (a, b) < 0
    · rw [if_pos h0] at h; cases h
    rw [if_neg h0] at h
    by_cases h1 : vertI T (facI T (a, b)) ∉ s.come
    · rw [if_pos h1] at h
      cases h
      exact ⟨a, b, r, _, hl, rfl, by omega, rfl, rfl, rfl, .inl ⟨h1, rfl, rfl⟩⟩
    rw [if_neg h1] at h
    have h1' := Classical.not_not.1 h1
    by_cases h2 : r.length = 1
    · rw [if_pos h2] at h
      cases h
      exact ⟨a, b, r, _, hl, rfl, by omega, rfl, rfl, rfl, .inr (.inl ⟨h1', h2, rfl, rfl⟩)⟩
    rw [if_neg h2] at h
    by_cases h3 : Lib.idxOf (a :: b :: r) (vertI T (facI T (a, b))) = r.length + 1
    · rw [if_pos h3] at h
      cases h
      exact ⟨a, b, r, _, hl, rfl, by omega, rfl, rfl, rfl, .inr (.inr (.inl ⟨h1', h2, h3, rfl, rfl⟩))⟩
    rw [if_neg h3] at h
    by_cases h4 : Lib.idxOf (a :: b :: r) (vertI T (facI T (a, b))) = 2
    · rw [if_pos h4] at h
      cases h
      exact ⟨a, b, r, _, hl, rfl, by omega, rfl, rfl, rfl, .inr (.inr (.inr (.inl ⟨h1', h2, h3, h4, rfl, rfl⟩)))⟩
    rw [if_neg h4] at h
    by_cases h5 : 2 < Lib.idxOf (a :: b :: r) (vertI T (facI T (a, b)))
    · rw [if_pos h5] at h
      cases h
      exact ⟨a, b, r, _, hl, rfl, by omega, rfl, rfl, rfl, .inr (.inr (.inr (.inr ⟨h1', h2, h3, h5, rfl, rfl⟩)))⟩
    · rw [if_neg h5] at h; cases h
  · cases h
theorem idx_lt : ∀ (l : List Int) (u : Int) (i : Nat), Lib.idxFrom l u i < i + l.length
  | [], u, i => by unfold Lib.idxFrom; simp; omega
  | z :: l, u, i => by
    unfold Lib.idxFrom
    have := idx_lt l u (i + 1)
    split
    · simp; omega
    · simp; omega
theorem IntsRd.part {W : World} {base g m cap : Nat} {l : List Int} (h : W.ownsRow base 3 1 (.slice (some ⟨g, 0, none⟩) m cap) m (intsV l)) (hl : l.length = m) (a k c' : Nat) (hak : a + k ≤ m) : IntsRd W (.slice (some ⟨g, a, none⟩) k c') ((l.drop a).take k) := by
  have e : ((l.drop a).take k).length = k := by simp; omega
  have hml : m ≤ maxLen := by
    rcases h.2 with ⟨e, _⟩ | ⟨g, cap, cur, e, _, _, k1, k2, _⟩
    · cases e
    · cases e; omega
  refine ⟨some ⟨g, a, none⟩, c', by rw [e], by unfold maxLen at hml; omega, fun j x hx => ⟨g, a, rfl, (h.lt g rfl).2, ?_⟩⟩
  have hj : j < k := by have := (List.getElem?_eq_some_iff.1 hx).1; omega
  rw [h.cellAt (a + j) (by omega)]
  unfold intsV
  rw [List.getElem?_map]
  rw [List.getElem?_take_of_lt hj, List.getElem?_drop] at hx
  rw [hx]
  rfl
theorem five9 {w : World} {b : Nat} {t : TypeId} {x0 x1 x2 x3 x4 : Value} (h : Blk w b t #[x0, x1, x2, x3, x4]) : b < w.heap.size ∧ w.cell? ⟨b, 0, none⟩ = some x0 ∧ w.frozen? ⟨b, 0, none⟩ = false ∧ w.cell? ⟨b, 1, none⟩ = some x1 ∧ w.frozen? ⟨b, 1, none⟩ = false ∧ w.cell? ⟨b, 2, none⟩ = some x2 ∧ w.frozen? ⟨b, 2, none⟩ = false ∧ w.cell? ⟨b, 3, none⟩ = some x3 ∧ w.frozen? ⟨b, 3, none⟩ = false ∧ w.cell? ⟨b, 4, none⟩ = some x4 ∧ w.frozen? ⟨b, 4, none⟩ = false :=
  ⟨h.lt, h.cell 0, h.frozen 0, h.cell 1, h.frozen 1, h.cell 2, h.frozen 2, h.cell 3, h.frozen 3, h.cell 4, h.frozen 4⟩
theorem wordS_snoc9 (L : List WStep) (x : WStep) : wordS (L ++ [x]) = wordS L ++ ⟨#[UInt8.ofNat x.letter.toNat]⟩ := by
  apply ByteArray.ext
  simp [wordS, ByteArray.data_append]
theorem IntsRd.two {W : World} {q : Nat} {x y : Int} (h : Blk W q 3 #[.int .i64 x, .int .i64 y]) : IntsRd W (.slice (some ⟨q, 0, none⟩) 2 2) [x, y] :=
  ⟨some ⟨q, 0, none⟩, 2, rfl, by simp, fun k z hz => ⟨q, 0, rfl, h.lt, by
    have hk := (List.getElem?_eq_some_iff.1 hz).1
    rcases (by simp at hk; omega : k = 0 ∨ k = 1) with rfl | rfl
    · cases hz; exact h.cell 0
    · cases hz; exact h.cell 1⟩⟩
theorem IntsRd.one {W : World} {q : Nat} {x : Int} (h : Blk W q 3 #[.int .i64 x]) : IntsRd W (.slice (some ⟨q, 0, none⟩) 1 1) [x] :=
  ⟨some ⟨q, 0, none⟩, 1, rfl, by simp, fun k z hz => ⟨q, 0, rfl, h.lt, by
    have hk := (List.getElem?_eq_some_iff.1 hz).1
    obtain rfl : k = 0 := by simp at hk; omega
    cases hz; exact h.cell 0⟩⟩
theorem IntsRd.nil (W : World) : IntsRd W (.slice none 0 0) [] := ⟨none, 0, rfl, by simp, fun k z hz => by simp at hz⟩
/-- What the document's walk holds. -/
structure RfS (w : World) (sv : Value) (n q : Nat) (wd : ByteArray) (lV lC lO lE lL : List Int) (vV vC vO vE vL vW : Value) (ps : List (Value × List Int)) (W : World) : Prop where
  soup : Blk W w.heap.size 24 #[.int .i64 (n : Int), sv]
  res : Blk W (w.heap.size + 1) 49 #[.string ByteArray.empty, .slice none 0 0, .slice none 0 0, .slice none 0 0, .slice none 0 0]
  out : Blk W q 49 #[.string wd, vV, vC, vO, vE]
  rows : RwL W w.heap.size ((vV, lV) :: (vC, lC) :: (vO, lO) :: (vE, lE) :: (vL, lL) :: ps)
  wait : W.ownsRow w.heap.size 28 1 vW ps.length (ps.map (·.1))
  below : Below w.heap.size w W
  hq : w.heap.size + 1 < q
section
variable {w W W' : World} {sv : Value} {n q : Nat} {wd : ByteArray} {lV lC lO lE lL l' : List Int} {vV vC vO vE vL vW v' : Value} {ps ps' : List (Value × List Int)}
theorem RfS.rV (h : RfS w sv n q wd lV lC lO lE lL vV vC vO vE vL vW ps W) : W.ownsRow w.heap.size 3 1 vV (intsV lV).length (intsV lV) := by simpa [intsV] using h.rows.get (l1 := [])
theorem RfS.rC (h : RfS w sv n q wd lV lC lO lE lL vV vC vO vE vL vW ps W) : W.ownsRow w.heap.size 3 1 vC (intsV lC).length (intsV lC) := by simpa [intsV] using h.rows.get (l1 := [_])
theorem RfS.rO (h : RfS w sv n q wd lV lC lO lE lL vV vC vO vE vL vW ps W) : W.ownsRow w.heap.size 3 1 vO (intsV lO).length (intsV lO) := by simpa [intsV] using h.rows.get (l1 := [_, _])
theorem RfS.rE (h : RfS w sv n q wd lV lC lO lE lL vV vC vO vE vL vW ps W) : W.ownsRow w.heap.size 3 1 vE (intsV lE).length (intsV lE) := by simpa [intsV] using h.rows.get (l1 := [_, _, _])
theorem RfS.rL (h : RfS w sv n q wd lV lC lO lE lL vV vC vO vE vL vW ps W) : W.ownsRow w.heap.size 3 1 vL lL.length (intsV lL) := h.rows.get (l1 := [_, _, _, _])
theorem RfS.below' (h : RfS w sv n q wd lV lC lO lE lL vV vC vO vE vL vW ps W) (hb : Below W.heap.size W W') : RfS w sv n q wd lV lC lO lE lL vV vC vO vE vL vW ps W' :=
  ⟨h.soup.below hb h.soup.lt, h.res.below hb h.res.lt, h.out.below hb h.out.lt, h.rows.below hb, own_same h.wait (fun j e => hb.block j (h.wait.lt j e).2), h.below.trans (hb.mono h.below.size), h.hq⟩
theorem RfS.alloc (h : RfS w sv n q wd lV lC lO lE lL vV vC vO vE vL vW ps W) (o : Obj) : RfS w sv n q wd lV lC lO lE lL vV vC vO vE vL vW ps (W.alloc o) := h.below' ((Below.refl _ _).alloc (Nat.le_refl _) _)
theorem RfS.drew (h : RfS w sv n q wd lV lC lO lE lL vV vC vO vE vL vW ps W) : RfS w sv n q wd lV lC lO lE lL vV vC vO vE vL vW ps W.drew := h.below' (Below.refl _ _).drew
theorem RfS.word (h : RfS w sv n q wd lV lC lO lE lL vV vC vO vE vL vW ps W) (wd' : ByteArray) : RfS w sv n q wd' lV lC lO lE lL vV vC vO vE vL vW ps (W.setCell ⟨q, 0, none⟩ (.string wd')) := by
  have hh := h.hq
  exact ⟨h.soup.far (by simp only; omega) _, h.res.far (by simp only; omega) _, by simpa using h.out.set_ 0 (.string wd'), h.rows.far h.out (by decide), own_blk_far h.wait h.out (by decide), h.below.setCell (p := ⟨q, 0, none⟩) (by simp only; omega) _, h.hq⟩
theorem RfS.appV (h : RfS w sv n q wd lV lC lO lE lL vV vC vO vE vL vW ps W) {x : Int} {g' cap k : Nat} (hg : W.grownBy W' vV.ownBlock) (hr : W'.ownsRow w.heap.size 3 1 (.slice (some ⟨g', 0, none⟩) k cap) k (intsV lV ++ [.int .i64 x])) (hk : k = (intsV lV).length + 1) (hat : vV.ownBlock = some g' ∨ g' = W.heap.size) :
    RfS w sv n q wd (lV ++ [x]) lC lO lE lL (.slice (some ⟨g', 0, none⟩) k cap) vC vO vE vL vW ps (W'.setCell ⟨q, 1, none⟩ (.slice (some ⟨g', 0, none⟩) k cap)) := by
  subst hk
  have hh := h.hq
  have e1 : intsV (lV ++ [x]) = intsV lV ++ [.int .i64 x] := by simp [intsV]
  have e2 : (lV ++ [x]).length = (intsV lV).length + 1 := by simp [intsV]
  have hx := h.out.grown hg (fun e => own_blk_ne h.rV h.out (by decide) e.symm)
  refine ⟨(h.soup.grown hg (fun e => own_blk_ne h.rV h.soup (by decide) e.symm)).far (by simp only; omega) _, (h.res.grown hg (fun e => own_blk_ne h.rV h.res (by decide) e.symm)).far (by simp only; omega) _, by simpa using hx.set_ 1 (.slice (some ⟨g', 0, none⟩) ((intsV lV).length + 1) cap), ?_, own_blk_far (h.wait.kept hg (own_own_ne h.wait h.rV (by decide))) hx (by decide), (h.below.grown hg h.below.size (fun j e => by have := h.rV.lt j e; omega)).setCell (p := ⟨q, 1, none⟩) (by simp only; omega) _, h.hq⟩
  have := RwL.app (l1 := []) (xs' := lV ++ [x]) (v' := .slice (some ⟨g', 0, none⟩) ((intsV lV).length + 1) cap) h.rows hg (by rw [e1, e2]; exact hr) (by
    rcases hat with hat | hat
    · exact .inl hat.symm
    · exact .inr ⟨g', rfl, by omega⟩)
  exact this.far hx (by decide)
theorem RfS.appC (h : RfS w sv n q wd lV lC lO lE lL vV vC vO vE vL vW ps W) {x : Int} {g' cap k : Nat} (hg : W.grownBy W' vC.ownBlock) (hr : W'.ownsRow w.heap.size 3 1 (.slice (some ⟨g', 0, none⟩) k cap) k (intsV lC ++ [.int .i64 x])) (hk : k = (intsV lC).length + 1) (hat : vC.ownBlock = some g' ∨ g' = W.heap.size) :
    RfS w sv n q wd lV (lC ++ [x]) lO lE lL vV (.slice (some ⟨g', 0, none⟩) k cap) vO vE vL vW ps (W'.setCell ⟨q, 2, none⟩ (.slice (some ⟨g', 0, none⟩) k cap)) := by
  subst hk
  have hh := h.hq
  have e1 : intsV (lC ++ [x]) = intsV lC ++ [.int .i64 x] := by simp [intsV]
  have e2 : (lC ++ [x]).length = (intsV lC).length + 1 := by simp [intsV]
  have hx := h.out.grown hg (fun e => own_blk_ne h.rC h.out (by decide) e.symm)
  refine ⟨(h.soup.grown hg (fun e => own_blk_ne h.rC h.soup (by decide) e.symm)).far (by simp only; omega) _, (h.res.grown hg (fun e => own_blk_ne h.rC h.res (by decide) e.symm)).far (by simp only; omega) _, by simpa using hx.set_ 2 (.slice (some ⟨g', 0, none⟩) ((intsV lC).length + 1) cap), ?_, own_blk_far (h.wait.kept hg (own_own_ne h.wait h.rC (by decide))) hx (by decide), (h.below.grown hg h.below.size (fun j e => by have := h.rC.lt j e; omega)).setCell (p := ⟨q, 2, none⟩) (by simp only; omega) _, h.hq⟩
  have := RwL.app (l1 := [_]) (xs' := lC ++ [x]) (v' := .slice (some ⟨g', 0, none⟩) ((intsV lC).length + 1) cap) h.rows hg (by rw [e1, e2]; exact hr) (by
    rcases hat with hat | hat
    · exact .inl hat.symm
    · exact .inr ⟨g', rfl, by omega⟩)
  exact this.far hx (by decide)
theorem RfS.appO (h : RfS w sv n q wd lV lC lO lE lL vV vC vO vE vL vW ps W) {x : Int} {g' cap k : Nat} (hg : W.grownBy W' vO.ownBlock) (hr : W'.ownsRow w.heap.size 3 1 (.slice (some ⟨g', 0, none⟩) k cap) k (intsV lO ++ [.int .i64 x])) (hk : k = (intsV lO).length + 1) (hat : vO.ownBlock = some g' ∨ g' = W.heap.size) :
    RfS w sv n q wd lV lC (lO ++ [x]) lE lL vV vC (.slice (some ⟨g', 0, none⟩) k cap) vE vL vW ps (W'.setCell ⟨q, 3, none⟩ (.slice (some ⟨g', 0, none⟩) k cap)) := by
  subst hk
  have hh := h.hq
  have e1 : intsV (lO ++ [x]) = intsV lO ++ [.int .i64 x] := by simp [intsV]
  have e2 : (lO ++ [x]).length = (intsV lO).length + 1 := by simp [intsV]
  have hx := h.out.grown hg (fun e => own_blk_ne h.rO h.out (by decide) e.symm)
  refine ⟨(h.soup.grown hg (fun e => own_blk_ne h.rO h.soup (by decide) e.symm)).far (by simp only; omega) _, (h.res.grown hg (fun e => own_blk_ne h.rO h.res (by decide) e.symm)).far (by simp only; omega) _, by simpa using hx.set_ 3 (.slice (some ⟨g', 0, none⟩) ((intsV lO).length + 1) cap), ?_, own_blk_far (h.wait.kept hg (own_own_ne h.wait h.rO (by decide))) hx (by decide), (h.below.grown hg h.below.size (fun j e => by have := h.rO.lt j e; omega)).setCell (p := ⟨q, 3, none⟩) (by simp only; omega) _, h.hq⟩
  have := RwL.app (l1 := [_, _]) (xs' := lO ++ [x]) (v' := .slice (some ⟨g', 0, none⟩) ((intsV lO).length + 1) cap) h.rows hg (by rw [e1, e2]; exact hr) (by
    rcases hat with hat | hat
    · exact .inl hat.symm
    · exact .inr ⟨g', rfl, by omega⟩)
  exact this.far hx (by decide)
theorem RfS.appE (h : RfS w sv n q wd lV lC lO lE lL vV vC vO vE vL vW ps W) {x : Int} {g' cap k : Nat} (hg : W.grownBy W' vE.ownBlock) (hr : W'.ownsRow w.heap.size 3 1 (.slice (some ⟨g', 0, none⟩) k cap) k (intsV lE ++ [.int .i64 x])) (hk : k = (intsV lE).length + 1) (hat : vE.ownBlock = some g' ∨ g' = W.heap.size) :
    RfS w sv n q wd lV lC lO (lE ++ [x]) lL vV vC vO (.slice (some ⟨g', 0, none⟩) k cap) vL vW ps (W'.setCell ⟨q, 4, none⟩ (.slice (some ⟨g', 0, none⟩) k cap)) := by
  subst hk
  have hh := h.hq
  have e1 : intsV (lE ++ [x]) = intsV lE ++ [.int .i64 x] := by simp [intsV]
  have e2 : (lE ++ [x]).length = (intsV lE).length + 1 := by simp [intsV]
  have hx := h.out.grown hg (fun e => own_blk_ne h.rE h.out (by decide) e.symm)
  refine ⟨(h.soup.grown hg (fun e => own_blk_ne h.rE h.soup (by decide) e.symm)).far (by simp only; omega) _, (h.res.grown hg (fun e => own_blk_ne h.rE h.res (by decide) e.symm)).far (by simp only; omega) _, by simpa using hx.set_ 4 (.slice (some ⟨g', 0, none⟩) ((intsV lE).length + 1) cap), ?_, own_blk_far (h.wait.kept hg (own_own_ne h.wait h.rE (by decide))) hx (by decide), (h.below.grown hg h.below.size (fun j e => by have := h.rE.lt j e; omega)).setCell (p := ⟨q, 4, none⟩) (by simp only; omega) _, h.hq⟩
  have := RwL.app (l1 := [_, _, _]) (xs' := lE ++ [x]) (v' := .slice (some ⟨g', 0, none⟩) ((intsV lE).length + 1) cap) h.rows hg (by rw [e1, e2]; exact hr) (by
    rcases hat with hat | hat
    · exact .inl hat.symm
    · exact .inr ⟨g', rfl, by omega⟩)
  exact this.far hx (by decide)
/-- The loop is another one. -/
theorem RfS.loop (h : RfS w sv n q wd lV lC lO lE lL vV vC vO vE vL vW ps W) (hb : Below W.heap.size W W') (hr : W'.ownsRow W.heap.size 3 1 v' l'.length (intsV l')) (hne : l' ≠ []) : RfS w sv n q wd lV lC lO lE l' vV vC vO vE v' vW ps W' := by
  have h2 := h.below' hb
  exact ⟨h2.soup, h2.res, h2.out, RwL.new (l1 := [_, _, _, _]) h.rows hb h.below.size hr hne, h2.wait, h2.below, h2.hq⟩
theorem RwL.nil_in {W : World} {base : Nat} {l1 l2 : List (Value × List Int)} (h : RwL W base (l1 ++ l2)) : RwL W base (l1 ++ (.slice none 0 0, []) :: l2) := by
  have h1 := List.pairwise_append.1 h.ne
  have ap : ∀ p : Value × List Int, Apart (.slice none 0 0, []) p := fun p => .inl rfl
  refine ⟨fun p hp => ?_, List.pairwise_append.2 ⟨h1.1, List.pairwise_cons.2 ⟨fun p _ => ap p, h1.2.1⟩, fun a ha b hb => ?_⟩⟩
  · rcases List.mem_append.1 hp with hp | hp
    · exact h.own p (List.mem_append_left _ hp)
    · rcases List.mem_cons.1 hp with rfl | hp
      · exact World.ownsRow_nil _ _ _ _
      · exact h.own p (List.mem_append_right _ hp)
  · rcases List.mem_cons.1 hb with rfl | hb
    · exact (ap a).symm
    · exact h1.2.2 a ha b hb
theorem RfS.empty (h : RfS w sv n q wd lV lC lO lE lL vV vC vO vE vL vW ps W) : RfS w sv n q wd lV lC lO lE [] vV vC vO vE (.slice none 0 0) vW ps W :=
  ⟨h.soup, h.res, h.out, RwL.nil_in (l1 := [_, _, _, _]) (h.rows.sub (List.Perm.refl _) (List.Sublist.cons_cons _ (List.Sublist.cons_cons _ (List.Sublist.cons_cons _ (List.Sublist.cons_cons _ (List.sublist_cons_self _ _)))))), h.wait, h.below, h.hq⟩
theorem RfS.pop {u : Value} {l : List Int} {aW : Option Addr} {k cW : Nat} (h : RfS w sv n q wd lV lC lO lE lL vV vC vO vE vL (.slice aW (k + 1) cW) (ps' ++ [(u, l)]) W) (hk : ps'.length = k) : RfS w sv n q wd lV lC lO lE l vV vC vO vE u (.slice aW k cW) ps' W := by
  have hW := h.wait
  rw [List.length_append, List.length_singleton, hk, List.map_append, List.map_singleton] at hW
  refine ⟨h.soup, h.res, h.out, h.rows.sub (m := (vV, lV) :: (vC, lC) :: (vO, lO) :: (vE, lE) :: (ps' ++ [(u, l)])) ?_ ?_, ?_, h.below, h.hq⟩
  · exact List.Perm.cons _ (List.Perm.cons _ (List.Perm.cons _ (List.Perm.cons _ (List.perm_append_singleton _ _).symm)))
  · exact List.Sublist.cons_cons _ (List.Sublist.cons_cons _ (List.Sublist.cons_cons _ (List.Sublist.cons_cons _ (List.sublist_cons_self _ _))))
  · rcases hW.2 with ⟨_, h0⟩ | ⟨q, cap, cur, e, h1, h2, h3, h4, h5, h6⟩
    · omega
    · injection e with e1 e2 e3
      subst e1 e3
      rw [hk]
      refine ⟨by simp; omega, .inr ⟨q, cW, cur, rfl, h1, h2, by omega, h4, h5, ?_⟩⟩
      have : (cur.toList.take ((k + 1) * 1)).take (k * 1) = (ps'.map (·.1) ++ [u]).take (k * 1) := by rw [h6]
      rw [List.take_take, show min (k * 1) ((k + 1) * 1) = k * 1 from by omega] at this
      rw [this, show k * 1 = (ps'.map (·.1)).length from by simp; omega, List.take_left]
/-- One loop more waits. -/
theorem RfS.push {W1 W2 : World} {tmp : Obj} {g' cap k : Nat} (h : RfS w sv n q wd lV lC lO lE lL vV vC vO vE vL vW ps W) (hb : Below W.heap.size W W1) (hr : W1.ownsRow W.heap.size 3 1 v' l'.length (intsV l')) (hg : (W1.alloc tmp).grownBy W2 vW.ownBlock)
    (hr2 : W2.ownsRow w.heap.size 28 1 (.slice (some ⟨g', 0, none⟩) k cap) k (ps.map (·.1) ++ [v'])) (hk : k = ps.length + 1) : RfS w sv n q wd lV lC lO lE lL vV vC vO vE vL (.slice (some ⟨g', 0, none⟩) k cap) (ps ++ [(v', l')]) W2 := by
  subst hk
  have h1 := h.below' hb
  have hrw : RwL W1 w.heap.size (((vV, lV) :: (vC, lC) :: (vO, lO) :: (vE, lE) :: (vL, lL) :: ps) ++ [(v', l')]) := h.rows.more hb h.below.size hr
  have h2 := h1.alloc tmp
  exact ⟨h2.soup.grown hg (fun e => own_blk_ne h2.wait h2.soup (by decide) e.symm), h2.res.grown hg (fun e => own_blk_ne h2.wait h2.res (by decide) e.symm), h2.out.grown hg (fun e => own_blk_ne h2.wait h2.out (by decide) e.symm), (hrw.alloc tmp).other h2.wait (by decide) hg,
    by rw [List.length_append, List.length_singleton, List.map_append, List.map_singleton]; exact hr2, h2.below.grown hg h2.below.size (fun j e => by have := h2.wait.lt j e; omega), h2.hq⟩
/-- A slice of the loop is read. -/
theorem RfS.partL {g m cap : Nat} (h : RfS w sv n q wd lV lC lO lE lL vV vC vO vE (.slice (some ⟨g, 0, none⟩) m cap) vW ps W) (hl : lL.length = m) (a k c' : Nat) (hak : a + k ≤ m) : IntsRd W (.slice (some ⟨g, a, none⟩) k c') ((lL.drop a).take k) := by
  have := h.rL
  rw [hl] at this
  exact IntsRd.part this hl a k c' hak
theorem RfS.cellL {g m cap : Nat} (h : RfS w sv n q wd lV lC lO lE lL vV vC vO vE (.slice (some ⟨g, 0, none⟩) m cap) vW ps W) (hl : lL.length = m) (j : Nat) {x : Int} (hx : lL[j]? = some x) : W.cell? ⟨g, j, none⟩ = some (.int .i64 x) ∧ g < W.heap.size := by
  have hj := (List.getElem?_eq_some_iff.1 hx).1
  refine ⟨?_, (h.rL.lt g rfl).2⟩
  have hr := h.rL
  rw [hl] at hr
  rw [hr.cellAt j (by omega)]
  unfold intsV
  rw [List.getElem?_map, hx]
  rfl
end
end Go.Proofs.YtghlnknncahkgaaGreat
/-
  The document's shells (gypsumref13.Of), in plain words: labels that sink till they stand; all are 0 just if all triangles hang together.
-/
namespace Go.Proofs.YtghlnknncahkgaaGreat
open Go.RowKit Go.Maps

def tv (t : Tr) (k : Nat) : Int := if k = 0 then t.1 else if k = 1 then t.2.1 else t.2.2
/-- Have two triangles an edge in common, the one this way, the other one the other way round? -/
def Nb (t u : Tr) : Prop := ∃ i k, i < 3 ∧ k < 3 ∧ tv t i = tv u ((k + 1) % 3) ∧ tv t ((i + 1) % 3) = tv u k
def trs (T : List Tr) (i : Nat) : Tr := T.getD i (0, 0, 0)
def NbT (T : List Tr) (i k : Nat) : Prop := Nb (trs T i) (trs T k)
theorem Nb.symm {t u : Tr} (h : Nb t u) : Nb u t := by
  obtain ⟨i, k, hi, hk, h1, h2⟩ := h
  refine ⟨k, i, hk, hi, h2.symm, h1.symm⟩
/-- Do the triangles hang together? -/
def Hang (F : Nat) (R : Nat → Nat → Prop) : Prop := ∀ S : Nat → Prop, S 0 → (∀ i k, i < F → k < F → R i k → S k → S i) → ∀ i, i < F → S i
section
variable {F : Nat} {R : Nat → Nat → Prop}
/-- What holds of the labels throughout. -/
structure Lab (F : Nat) (R : Nat → Nat → Prop) (o : Nat → Int) : Prop where
  lo : ∀ i, i < F → 0 ≤ o i ∧ o i ≤ i
  hang : ∀ S : Nat → Prop, (∀ i k, i < F → k < F → R i k → S k → S i) → ∀ i, i < F → S (o i).toNat → S i
/-- Within a round: the labels that stood ahead of it, and those that stand. -/
structure Rnd (F : Nat) (R : Nat → Nat → Prop) (p o : Nat → Int) (i k : Nat) : Prop where
  lab : Lab F R o
  le : ∀ j, j < F → o j ≤ p j
  done : ∀ j, j < i → ∀ l, l < F → R j l → o j ≤ p l
  now : ∀ l, l < k → R i l → o i ≤ p l
def updN (o : Nat → Int) (i : Nat) (x : Int) : Nat → Int := fun j => if j = i then x else o j
theorem Rnd.begin_ {o : Nat → Int} (h : Lab F R o) : Rnd F R o o 0 0 := ⟨h, fun _ _ => Int.le_refl _, fun _ h => absurd h (by omega), fun _ h => absurd h (by omega)⟩
theorem Rnd.row {p o : Nat → Int} {i : Nat} (h : Rnd F R p o i F) : Rnd F R p o (i + 1) 0 :=
  ⟨h.lab, h.le, fun j hj l hl hr => by
    rcases Nat.lt_or_ge j i with e | e
    · exact h.done j e l hl hr
    · obtain rfl : j = i := by omega
      exact h.now l hl hr, fun _ h => absurd h (by omega)⟩
theorem Rnd.skip {p o : Nat → Int} {i k : Nat} (h : Rnd F R p o i k) (hk : k < F) (hc : ¬ (o k < o i ∧ R i k)) : Rnd F R p o i (k + 1) :=
  ⟨h.lab, h.le, h.done, fun l hl hr => by
    rcases Nat.lt_or_ge l k with e | e
    · exact h.now l e hr
    · obtain rfl : l = k := by omega
      have h1 := h.le l hk
      have h2 : ¬ o l < o i := fun e => hc ⟨e, hr⟩
      omega⟩
theorem Rnd.take {p o : Nat → Int} {i k : Nat} (h : Rnd F R p o i k) (hi : i < F) (hk : k < F) (h1 : o k < o i) (h2 : R i k) : Rnd F R p (updN o i (o k)) i (k + 1) := by
  have hu : ∀ j, updN o i (o k) j ≤ o j := fun j => by
    unfold updN
    split
    · rename_i e; subst e; omega
    · exact Int.le_refl _
  refine ⟨⟨fun j hj => ?_, fun S hS j hj hs => ?_⟩, fun j hj => Int.le_trans (hu j) (h.le j hj), fun j hj l hl hr => Int.le_trans (hu j) (h.done j hj l hl hr), fun l hl hr => ?_⟩
  · unfold updN
    split
    · rename_i e
      subst e
      have a := h.lab.lo k hk
      have b := h.lab.lo j hi
      omega
    · exact h.lab.lo j hj
  · unfold updN at hs
    split at hs
    · rename_i e
      subst e
      exact hS j k hi hk h2 (h.lab.hang S hS k hk hs)
    · exact h.lab.hang S hS j hj hs
  · rcases Nat.lt_or_ge l k with e | e
    · exact Int.le_trans (hu i) (h.now l e hr)
    · obtain rfl : l = k := by omega
      have h3 := h.le l hk
      unfold updN
      rw [if_pos rfl]
      exact h3
/-- How many labels are 0. -/
def zs (F : Nat) (o : Nat → Int) : Nat := (List.range F).countP fun i => decide (o i = 0)
theorem zs_lt {p o : Nat → Int} (h : ∀ i, i < F → p i = 0 → o i = 0) {i : Nat} (hi : i < F) (h1 : p i ≠ 0) (h2 : o i = 0) : zs F p < zs F o := by
  unfold zs
  have hh : ∀ l : List Nat, (∀ j ∈ l, j < F) → i ∈ l → l.countP (fun i => decide (p i = 0)) < l.countP (fun i => decide (o i = 0)) := by
    have hle : ∀ l : List Nat, (∀ j ∈ l, j < F) → l.countP (fun i => decide (p i = 0)) ≤ l.countP (fun i => decide (o i = 0)) := fun l hl =>
      List.countP_mono_left (fun j hj hp => by simp only [decide_eq_true_eq] at hp ⊢; exact h j (hl j hj) hp)
    intro l
    induction l with
    | nil => intro _ hm; exact (List.not_mem_nil hm).elim
    | cons x r ih =>
      intro hl hm
      rw [List.countP_cons, List.countP_cons]
      rcases List.mem_cons.1 hm with rfl | hm
      · have := hle r (fun j hj => hl j (List.mem_cons_of_mem _ hj))
        rw [if_neg (by simpa using h1), if_pos (by simpa using h2)]
        omega
      · have := ih (fun j hj => hl j (List.mem_cons_of_mem _ hj)) hm
        have hx := h x (hl x (List.mem_cons_self ..))
        by_cases e : p x = 0
        · rw [if_pos (by simpa using e), if_pos (by simpa using hx e)]
          omega
        · rw [if_neg (by simpa using e)]
          split <;> omega
  exact hh _ (fun j hj => List.mem_range.1 hj) (List.mem_range.2 hi)
theorem zs_all {o : Nat → Int} (h : F ≤ zs F o) : ∀ i, i < F → o i = 0 := by
  unfold zs at h
  have h2 := List.countP_le_length (p := fun i => decide (o i = 0)) (l := List.range F)
  rw [List.length_range] at h2
  have h3 : (List.range F).countP (fun i => decide (o i = 0)) = (List.range F).length := by rw [List.length_range]; omega
  have := List.countP_eq_length.1 h3
  intro i hi
  simpa using this i (List.mem_range.2 hi)
/-- A round brings one label more to 0. -/
theorem Rnd.more {p o : Nat → Int} (h : Rnd F R p o F 0) (hp : Lab F R p) (hF : 0 < F) (hH : Hang F R) {r : Nat} (hz : r ≤ zs F p) (hr : r < F) : r + 1 ≤ zs F o := by
  have hm : ∀ i, i < F → p i = 0 → o i = 0 := fun i hi e => by
    have a := h.le i hi
    have b := h.lab.lo i hi
    omega
  by_cases hall : ∀ i, i < F → p i = 0
  · have : zs F o = F := by
      unfold zs
      have : (List.range F).countP (fun i => decide (o i = 0)) = (List.range F).length := List.countP_eq_length.2 (fun i hi => by simpa using hm i (List.mem_range.1 hi) (hall i (List.mem_range.1 hi)))
      rw [this, List.length_range]
    omega
  · have h0 : p 0 = 0 := by have := hp.lo 0 hF; omega
    have : ∃ i k, i < F ∧ k < F ∧ R i k ∧ p k = 0 ∧ p i ≠ 0 := Classical.byContradiction fun hno => hall (hH (fun i => p i = 0) h0 (fun i k hi hk hR hs => Classical.byContradiction fun he => hno ⟨i, k, hi, hk, hR, hs, he⟩))
    obtain ⟨i, k, hi, hk, hR, h1, h2⟩ := this
    have h3 := h.done i hi k hk hR
    have h4 := h.lab.lo i hi
    have := zs_lt hm hi h2 (by omega)
    omega
theorem Lab.one {o : Nat → Int} (h : Lab F R o) (hF : 0 < F) : 1 ≤ zs F o := by
  unfold zs
  have h0 : o 0 = 0 := by have := h.lo 0 hF; omega
  exact List.countP_pos_iff.2 ⟨0, List.mem_range.2 hF, by simpa using h0⟩
/-- The numbers, made of the labels. -/
structure Num (F : Nat) (o : Nat → Int) (i : Nat) (many : Int) (m : Nat → Int) : Prop where
  many : many = ((List.range i).countP fun j => decide (o j = j) : Nat)
  fix : ∀ j, j < i → o j = j → m j = ((List.range j).countP fun l => decide (o l = l) : Nat)
  rest : ∀ j, j < i → o j ≠ j → m j = m (o j).toNat
theorem Num.begin_ (o m : Nat → Int) : Num F o 0 0 m := ⟨rfl, fun _ h => absurd h (by omega), fun _ h => absurd h (by omega)⟩
theorem Num.new {o m : Nat → Int} {i : Nat} {c : Int} (hl : ∀ j, j < F → 0 ≤ o j ∧ o j ≤ j) (hi : i < F) (h : Num F o i c m) (e : o i = i) : Num F o (i + 1) (c + 1) (updN m i c) where
  many := by
    rw [List.range_succ, List.countP_append, h.many]
    simp [e]
  fix := fun j hj he => by
    unfold updN
    split
    · rename_i e'; subst e'; exact h.many
    · exact h.fix j (by omega) he
  rest := fun j hj he => by
    have hne : j ≠ i := fun e' => he (by rw [e']; exact e)
    have h2 := hl j (by omega)
    unfold updN
    rw [if_neg hne, if_neg (by omega)]
    exact h.rest j (by omega) he
theorem Num.old {o m : Nat → Int} {i : Nat} {c : Int} (hl : ∀ j, j < F → 0 ≤ o j ∧ o j ≤ j) (hi : i < F) (h : Num F o i c m) (e : o i ≠ i) : Num F o (i + 1) c (updN m i (m (o i).toNat)) where
  many := by
    rw [List.range_succ, List.countP_append, h.many]
    simp [e]
  fix := fun j hj he => by
    have hne : j ≠ i := fun e' => e (by rw [← e']; exact he)
    unfold updN
    rw [if_neg hne]
    exact h.fix j (by omega) he
  rest := fun j hj he => by
    have h2 := hl j (by omega)
    have h3 := hl i hi
    unfold updN
    by_cases e' : j = i
    · subst e'
      rw [if_pos rfl, if_neg (by omega)]
    · rw [if_neg e', if_neg (by omega)]
      exact h.rest j (by omega) he
theorem Num.zero {o m : Nat → Int} {c : Int} (hl : ∀ j, j < F → 0 ≤ o j ∧ o j ≤ j) (h : Num F o F c m) : (∀ j, j < F → m j = 0) ↔ ∀ j, j < F → o j = j → j = 0 := by
  constructor
  · intro h0 j hj he
    rcases Nat.eq_zero_or_pos j with e | e
    · exact e
    · exfalso
      have h1 := h.fix j hj he
      rw [h0 j hj] at h1
      have h2 : o 0 = 0 := by have := hl 0 (by omega); omega
      have := List.countP_pos_iff (p := fun l => decide (o l = (l : Int))) (l := List.range j) |>.2 ⟨0, List.mem_range.2 e, by simpa using h2⟩
      omega
  · intro h1 j
    induction j using Nat.strongRecOn with
    | _ j ih =>
      intro hj
      by_cases e : o j = j
      · obtain rfl := h1 j hj e
        rw [h.fix 0 hj e]
        rfl
      · have h2 := hl j hj
        rw [h.rest j hj e]
        exact ih _ (by omega) (by omega)
/-- All numbers are 0 just if the triangles hang together. -/
theorem Num.hang {o m : Nat → Int} {c : Int} (hF : 0 < F) (hl : Lab F R o) (h : Num F o F c m) (hz : Hang F R → F ≤ zs F o) : (∀ j, j < F → m j = 0) ↔ Hang F R := by
  rw [h.zero hl.lo]
  constructor
  · intro h1 S s0 hS i
    induction i using Nat.strongRecOn with
    | _ i ih =>
      intro hi
      have h2 := hl.lo i hi
      by_cases e : o i = i
      · rw [h1 i hi e]; exact s0
      · exact hl.hang S hS i hi (ih _ (by omega) (by omega))
  · intro hH j hj he
    have := zs_all (hz hH) j hj
    omega
end
theorem tv_vert {T : List Tr} {i k : Nat} (hk : k < 3) : tv (trs T i) k = vertN T (3 * i + k) := by
  unfold tv trs vertN triAt
  have e1 : (3 * i + k) / 3 = i := by omega
  have e2 : (3 * i + k) % 3 = k := by omega
  rw [e1, e2]
  rfl
/-- Who has a corner across is a neighbour, and no one else. -/
theorem nb_opp {N : Int} {T : List Tr} (hS : Surf N T) (hc : ClosedT T) {i k : Nat} (hi : i < T.length) (hk : k < T.length) : NbT T i k ↔ ∃ c, c < 3 * T.length ∧ c / 3 = k ∧ oppN T c / 3 = i := by
  constructor
  · rintro ⟨a, b, ha, hb, h1, h2⟩
    rw [tv_vert ha, tv_vert (by omega)] at h1
    rw [tv_vert (by omega), tv_vert hb] at h2
    have hd : Jor.pv (3 * i + a) < 3 * T.length := Jor.pv_lt (by omega)
    have hc' : Jor.pv (3 * k + b) < 3 * T.length := Jor.pv_lt (by omega)
    have e1 : Jor.nx (3 * i + a) = 3 * i + (a + 1) % 3 := by unfold Jor.nx; omega
    have e2 : Jor.nx (3 * k + b) = 3 * k + (b + 1) % 3 := by unfold Jor.nx; omega
    have := opp_is hS.twice hc' hd (by rw [edge_pv, edge_pv, e1, e2, h1, h2])
    refine ⟨_, hc', by rw [Jor.pv_div]; omega, by rw [this, Jor.pv_div]; omega⟩
  · rintro ⟨c, h1, h2, h3⟩
    have ho := hc.opp h1
    obtain ⟨h4, h5⟩ := opp_some h1 ho
    -- the edge that c faces, from its next corner to the one ahead
    have hcn : Jor.nx c = 3 * k + (c % 3 + 1) % 3 := by unfold Jor.nx; omega
    have hcp : Jor.pv c = 3 * k + (c % 3 + 2) % 3 := by unfold Jor.pv; omega
    have hon : Jor.nx (oppN T c) = 3 * i + (oppN T c % 3 + 1) % 3 := by unfold Jor.nx; omega
    have hop : Jor.pv (oppN T c) = 3 * i + (oppN T c % 3 + 2) % 3 := by unfold Jor.pv; omega
    unfold edgeN at h5
    rw [hcn, hcp, hon, hop] at h5
    simp only [Prod.mk.injEq] at h5
    obtain ⟨h5, h6⟩ := h5
    refine ⟨(oppN T c % 3 + 1) % 3, (c % 3 + 1) % 3, by omega, by omega, ?_, ?_⟩
    · have e : ((c % 3 + 1) % 3 + 1) % 3 = (c % 3 + 2) % 3 := by omega
      rw [e, tv_vert (by omega), tv_vert (by omega), h5]
    · have e : ((oppN T c % 3 + 1) % 3 + 1) % 3 = (oppN T c % 3 + 2) % 3 := by omega
      rw [e, tv_vert (by omega), tv_vert (by omega), h6]
theorem hang_conn {N : Int} {T : List Tr} (hS : Surf N T) (hc : ClosedT T) : Hang T.length (NbT T) ↔ ∀ S : Nat → Prop, S 0 → (∀ c, c < 3 * T.length → S (c / 3) → S (oppN T c / 3)) → ∀ t, t < T.length → S t := by
  have olt : ∀ c, c < 3 * T.length → oppN T c < 3 * T.length := fun c h => (opp_some h (hc.opp h)).1
  constructor
  · intro h S s0 hs
    exact h S s0 (fun i k hi hk hn hsk => by
      obtain ⟨c, h1, h2, h3⟩ := (nb_opp hS hc hi hk).1 hn
      have := hs c h1 (by rw [h2]; exact hsk)
      rwa [h3] at this)
  · intro h S s0 hs
    exact h S s0 (fun c hc' h1 => by
      have h2 := olt c hc'
      exact hs _ _ (by omega) (by omega) ((nb_opp hS hc (by omega) (by omega)).2 ⟨c, hc', rfl, rfl⟩) h1)
/-- The document's word for 'simple'. -/
def SimR (n : Nat) (T : List Tr) : Prop := T.length ≠ 0 ∧ ClosedT T ∧ (n : Int) - (T.length * 3 : Nat) / 2 + T.length = 2 ∧ Hang T.length (NbT T)
theorem simR_iff {n : Nat} {T : List Tr} (hS : Surf n T) : SimR n T ↔ Simp n T := by
  constructor
  · rintro ⟨h1, h2, h3, h4⟩
    have hc := (hang_conn hS h2).1 h4
    obtain ⟨m, e1, e2⟩ := even_of hS h2 hc
    refine ⟨hS, h2, hc, by omega, ?_⟩
    rw [e1] at h3 ⊢
    push_cast at h3 ⊢
    omega
  · intro h
    obtain ⟨m, e1, e2⟩ := even_of hS h.closed h.conn
    refine ⟨by have := h.pos; omega, h.closed, ?_, (hang_conn hS h.closed).2 h.conn⟩
    have h5 := h.euler
    rw [e1] at h5 ⊢
    push_cast at h5 ⊢
    omega
end Go.Proofs.YtghlnknncahkgaaGreat
/-
  gypsumref13.Neighbours, Facing, by walking their texts.
-/
namespace Go.Proofs.YtghlnknncahkgaaGreat
open Go.RowKit Go.Maps

theorem tv0 (x y z : Int) : tv (x, y, z) 0 = x := rfl
theorem tv1 (x y z : Int) : tv (x, y, z) 1 = y := rfl
theorem tv2 (x y z : Int) : tv (x, y, z) 2 = z := rfl
set_option maxRecDepth 100000 in
set_option maxHeartbeats 4000000 in
theorem neigh13_any (x y z x' y' z' : Int) (w : World) : Calls Tryz.prog 83 #[.agg #[.int .i64 x, .int .i64 y, .int .i64 z], .agg #[.int .i64 x', .int .i64 y', .int .i64 z']] w fun e w' => ∃ b : Bool, e = .returned (.bool b) ∧ (b = true ↔ Nb (x, y, z) (x', y', z')) ∧ Below w.heap.size w w' := by
  have bt := (Blk.new w 72 #[.int .i64 x, .int .i64 y, .int .i64 z]).alloc (.cells #[.int .i64 x', .int .i64 y', .int .i64 z'] 72)
  have bu : Blk ((w.alloc (.cells #[.int .i64 x, .int .i64 y, .int .i64 z] 72)).alloc (.cells #[.int .i64 x', .int .i64 y', .int .i64 z'] 72)) (w.heap.size + 1) 72 #[.int .i64 x', .int .i64 y', .int .i64 z'] := blk_new9 (by simp)
  have hB : Below w.heap.size w ((w.alloc (.cells #[.int .i64 x, .int .i64 y, .int .i64 z] 72)).alloc (.cells #[.int .i64 x', .int .i64 y', .int .i64 z'] 72)) := ((Below.refl _ _).alloc (Nat.le_refl _) _).alloc (by simp) _
  go_enter Tryz.func83, Tryz.ntmps83
  go_wp2
  generalize (w.alloc (.cells #[.int .i64 x, .int .i64 y, .int .i64 z] 72)).alloc (.cells #[.int .i64 x', .int .i64 y', .int .i64 z'] 72) = W0 at *
  have HX := Lib.hid (fun (W : World) (hW : Below W0.heap.size W0 W) => And.intro (bt.below hW bt.lt) (bu.below hW bu.lt))
  have HB := Lib.hid hB
  clear bt bu hB
  go_loopw [5] (fun i W => ∃ a : Nat, a ≤ 3 ∧ i = .int .i64 a ∧ Below W0.heap.size W0 W ∧ (∀ a', a' < a → ∀ k, k < 3 → ¬ (tv (x, y, z) a' = tv (x', y', z') ((k + 1) % 3) ∧ tv (x, y, z) ((a' + 1) % 3) = tv (x', y', z') k))) (fun i _ => 3 - (intOf i).toNat)
  case atStart => exact ⟨0, by omega, rfl, Below.refl _ _, fun _ h => absurd h (by omega)⟩
  case round =>
    obtain ⟨a, ha, rfl, hW, hno⟩ := hrel
    rename World => wr
    have HW := Lib.hid hW
    have HNo := Lib.hid hno
    clear hW hno
    by_cases ha3 : a < 3
    · have ha4 : (a : Int) < 3 := by omega
      go_wp2
      go_loopw [6] (fun i W => ∃ k : Nat, k ≤ 3 ∧ i = .int .i64 k ∧ Below W0.heap.size W0 W ∧ (∀ k', k' < k → ¬ (tv (x, y, z) a = tv (x', y', z') ((k' + 1) % 3) ∧ tv (x, y, z) ((a + 1) % 3) = tv (x', y', z') k'))) (fun i _ => 3 - (intOf i).toNat)
      case atStart => exact ⟨0, by omega, rfl, HW.out, fun _ h => absurd h (by omega)⟩
      case round =>
        obtain ⟨k, hk, rfl, hW, hno⟩ := hrel
        rename World => wq
        obtain ⟨bt, bu⟩ := HX.out _ hW
        obtain ⟨lt, p0, -, p1, -, p2, -⟩ := bt.three
        obtain ⟨lu, r0, -, r1, -, r2, -⟩ := bu.three
        have HWq := Lib.hid hW
        have HNq := Lib.hid hno
        clear hW hno bt bu
        by_cases hk3 : k < 3
        · have hk4 : (k : Int) < 3 := by omega
          by_cases h1 : tv (x, y, z) a = tv (x', y', z') ((k + 1) % 3)
          · have q1 : (tv (x, y, z) a == tv (x', y', z') ((k + 1) % 3)) = true := by simpa using h1
            by_cases h2 : tv (x, y, z) ((a + 1) % 3) = tv (x', y', z') k
            · have q2 : (tv (x, y, z) ((a + 1) % 3) == tv (x', y', z') k) = true := by simpa using h2
              have HY : Hid (Nb (x, y, z) (x', y', z')) := Lib.hid ⟨a, k, ha3, hk3, h1, h2⟩
              clear h1 h2 HNq HNo ha hk
              rcases (by omega : a = 0 ∨ a = 1 ∨ a = 2) with rfl | rfl | rfl <;> rcases (by omega : k = 0 ∨ k = 1 ∨ k = 2) with rfl | rfl | rfl <;> simp only [tv0, tv1, tv2, Nat.reduceAdd, Nat.reduceMod] at q1 q2
              all_goals
                go_wp2
                go_quiet (fail)
                go_wp2
                go_ret
                exact ⟨true, rfl, ⟨fun _ => HY.out, fun _ => rfl⟩, below_dn (HB.out.trans (HWq.out.mono HB.out.size)) _⟩
            · have q2 : (tv (x, y, z) ((a + 1) % 3) == tv (x', y', z') k) = false := by simpa using h2
              have HN2 := Lib.hid (show ∀ k', k' < k + 1 → ¬ (tv (x, y, z) a = tv (x', y', z') ((k' + 1) % 3) ∧ tv (x, y, z) ((a + 1) % 3) = tv (x', y', z') k') from fun k' hk' hh => by
                rcases Nat.lt_or_ge k' k with e | e
                · exact HNq.out k' e hh
                · obtain rfl : k' = k := by omega
                  exact h2 hh.2)
              clear h1 h2 HNq ha hk
              rcases (by omega : a = 0 ∨ a = 1 ∨ a = 2) with rfl | rfl | rfl <;> rcases (by omega : k = 0 ∨ k = 1 ∨ k = 2) with rfl | rfl | rfl <;> simp only [tv0, tv1, tv2, Nat.reduceAdd, Nat.reduceMod] at q1 q2
              all_goals
                go_wp2
                go_quiet (fail)
                go_wp2
                go_roundw
              all_goals first
                | (show _ < _; simp [intOf]; done)
                | exact ⟨_, by omega, by go_num, below_dn HWq.out _, HN2.out⟩
          · have q1 : (tv (x, y, z) a == tv (x', y', z') ((k + 1) % 3)) = false := by simpa using h1
            have HN2 := Lib.hid (show ∀ k', k' < k + 1 → ¬ (tv (x, y, z) a = tv (x', y', z') ((k' + 1) % 3) ∧ tv (x, y, z) ((a + 1) % 3) = tv (x', y', z') k') from fun k' hk' hh => by
              rcases Nat.lt_or_ge k' k with e | e
              · exact HNq.out k' e hh
              · obtain rfl : k' = k := by omega
                exact h1 hh.1)
            clear h1 HNq ha hk
            rcases (by omega : a = 0 ∨ a = 1 ∨ a = 2) with rfl | rfl | rfl <;> rcases (by omega : k = 0 ∨ k = 1 ∨ k = 2) with rfl | rfl | rfl <;> simp only [tv0, tv1, tv2, Nat.reduceAdd, Nat.reduceMod] at q1
            all_goals
              go_wp2
              go_quiet (fail)
              go_wp2
              go_roundw
            all_goals first
              | (show _ < _; simp [intOf]; done)
              | exact ⟨_, by omega, by go_num, below_dn HWq.out _, HN2.out⟩
        · obtain rfl : k = 3 := by omega
          go_wp2
          go_roundw
          case measure => simp [intOf]; omega
          case rel =>
            refine ⟨a + 1, by omega, by go_num, HWq.out, fun a' ha' k hk => ?_⟩
            rcases Nat.lt_or_ge a' a with e | e
            · exact HNo.out a' e k hk
            · obtain rfl : a' = a := by omega
              exact HNq.out k hk
    · obtain rfl : a = 3 := by omega
      go_wp2
      go_ret
      exact ⟨false, rfl, ⟨fun h => (by cases h), fun ⟨i, k, hi, hk, h⟩ => absurd h (HNo.out i hi k hk)⟩, HB.out.trans (HW.out.mono HB.out.size)⟩
end Go.Proofs.YtghlnknncahkgaaGreat
/-
  gypsumref13.Facing, gypsumref21.Facing, by walking their texts.
-/
namespace Go.Proofs.YtghlnknncahkgaaGreat
open Go.RowKit Go.Maps

theorem edgeN_at {T : List Tr} {i : Nat} {x y z : Int} (h : T[i]? = some (x, y, z)) : edgeN T (3 * i) = (y, z) ∧ edgeN T (3 * i + 1) = (z, x) ∧ edgeN T (3 * i + 2) = (x, y) := by
  have hv : ∀ k, k < 3 → vertN T (3 * i + k) = tv (x, y, z) k := fun k hk => by
    rw [← tv_vert hk]
    unfold trs
    rw [List.getD_eq_getElem?_getD, h]
    rfl
  have v0 := hv 0 (by omega)
  have v1 := hv 1 (by omega)
  have v2 := hv 2 (by omega)
  rw [tv0] at v0
  rw [tv1] at v1
  rw [tv2] at v2
  have a0 : Jor.nx (3 * i) = 3 * i + 1 := by unfold Jor.nx; omega
  have b0 : Jor.pv (3 * i) = 3 * i + 2 := by unfold Jor.pv; omega
  have a1 : Jor.nx (3 * i + 1) = 3 * i + 2 := by unfold Jor.nx; omega
  have b1 : Jor.pv (3 * i + 1) = 3 * i + 0 := by unfold Jor.pv; omega
  have a2 : Jor.nx (3 * i + 2) = 3 * i + 0 := by unfold Jor.nx; omega
  have b2 : Jor.pv (3 * i + 2) = 3 * i + 1 := by unfold Jor.pv; omega
  unfold edgeN
  rw [a0, b0, a1, b1, a2, b2, v0, v1, v2]
  exact ⟨rfl, rfl, rfl⟩
theorem facI_at {T : List Tr} {k : Nat} {e : Int × Int} (hk : k < 3 * T.length) (h : facFrom T 0 e = facFrom T k e) (he : edgeN T k = e) : facI T e = (k : Int) := by
  unfold facI
  rw [h, facFrom_step hk, if_pos he]
theorem facI_no {T : List Tr} {e : Int × Int} (h : facFrom T 0 e = facFrom T (3 * T.length) e) : facI T e = -1 := by
  unfold facI
  rw [h]
  simp [facFrom]
theorem facFrom_on {T : List Tr} {k : Nat} {e : Int × Int} (hk : k < 3 * T.length) (h : facFrom T 0 e = facFrom T k e) (he : edgeN T k ≠ e) : facFrom T 0 e = facFrom T (k + 1) e := by
  rw [h, facFrom_step hk, if_neg he]
set_option maxRecDepth 100000 in
set_option maxHeartbeats 4000000 in
theorem facing13_any (N a b : Int) (v : Value) (T : List Tr) (w : World) (h : TrisRd w v T) (hl : T.length ≤ 100000) : Calls Tryz.prog 84 #[.agg #[.int .i64 N, v], .int .i64 a, .int .i64 b] w fun e w' => e = .returned (.int .i64 (facI T (a, b))) ∧ Below w.heap.size w w' := by
  have b1 := Blk.new w 24 #[.int .i64 N, v]
  have hB0 : Below w.heap.size w (w.alloc (.cells #[.int .i64 N, v] 24)) := (Below.refl _ _).alloc (Nat.le_refl _) _
  obtain ⟨l0, x0, -, x1, -⟩ := b1.two
  have ht := h.below hB0
  obtain ⟨ad, c, rfl, hc1, hc2, hr⟩ := ht
  obtain ⟨n, hn⟩ : ∃ n, T.length = n := ⟨_, rfl⟩
  obtain ⟨A, hA⟩ : ∃ A, facI T (a, b) = A := ⟨_, rfl⟩
  rw [hn] at hl hc1 x0 x1 hB0 b1 l0 hr ⊢
  rw [hA]
  have HN := Lib.hid hn
  have HA := Lib.hid hA
  have HB := Lib.hid hB0
  have HR := Lib.hid hr
  clear hn hA hB0 hr h b1
  go_enter Tryz.func84, Tryz.ntmps84
  go_wp2
  generalize w.alloc (.cells #[.int .i64 N, .slice ad n c] 24) = W0 at *
  go_loopw [7] (fun i W => ∃ k : Nat, k ≤ n ∧ i = .int .i64 k ∧ W = W0 ∧ facFrom T 0 (a, b) = facFrom T (3 * k) (a, b)) (fun i _ => n - (intOf i).toNat)
  case atStart => exact ⟨0, Nat.zero_le _, rfl, rfl, rfl⟩
  case round =>
    obtain ⟨k, hk, rfl, rfl, hf⟩ := hrel
    have HF := Lib.hid hf
    clear hf
    by_cases hlt : k < n
    · have hk3 : (k : Int) < (n : Int) := by omega
      have hk0 : (0 : Int) ≤ (k : Int) := by omega
      obtain ⟨⟨x, y, z⟩, ht⟩ : ∃ t, T[k]? = some t := ⟨T[k]'(by have := HN.out; omega), List.getElem?_eq_getElem _⟩
      obtain ⟨bb, o, rfl, hbl, s0, s1, s2⟩ := HR.out k x y z ht
      have HE := Lib.hid (edgeN_at ht)
      have HL := Lib.hid (show 3 * k + 2 < 3 * T.length by have := HN.out; omega)
      clear ht
      rename World => W0
      go_wp2
      go_loopw [8] (fun i W => ∃ j : Nat, j ≤ 3 ∧ i = .int .i64 j ∧ W = W0 ∧ facFrom T 0 (a, b) = facFrom T (3 * k + j) (a, b)) (fun i _ => 3 - (intOf i).toNat)
      case atStart => exact ⟨0, by omega, rfl, rfl, HF.out⟩
      case round =>
        obtain ⟨j, hj, rfl, rfl, hf⟩ := hrel
        have HF2 := Lib.hid hf
        clear hf
        rcases (by omega : j = 0 ∨ j = 1 ∨ j = 2 ∨ j = 3) with rfl | rfl | rfl | rfl
        · by_cases h1 : y = a
          · have q1 : (y == a) = true := by simpa using h1
            by_cases h2 : z = b
            · have q2 : (z == b) = true := by simpa using h2
              have HY := Lib.hid (facI_at (by have := HL.out; omega) HF2.out (by rw [Nat.add_zero, HE.out.1, h1, h2]))
              clear h1 h2
              go_wp2
              go_ret
              refine ⟨?_, HB.out⟩
              rw [← HA.out, HY.out]
              first | rfl | (push_cast; rfl) | (push_cast; simp)
            · have q2 : (z == b) = false := by simpa using h2
              have HY := Lib.hid (facFrom_on (by have := HL.out; omega) HF2.out (by rw [Nat.add_zero, HE.out.1]; intro e; cases e; exact h2 rfl))
              clear h1 h2
              go_wp2
              go_roundw
              case measure => simp [intOf]
              case rel => exact ⟨1, by omega, by go_num, by first | rfl | trivial, HY.out⟩
          · have q1 : (y == a) = false := by simpa using h1
            have HY := Lib.hid (facFrom_on (by have := HL.out; omega) HF2.out (by rw [Nat.add_zero, HE.out.1]; intro e; cases e; exact h1 rfl))
            clear h1
            go_wp2
            go_roundw
            case measure => simp [intOf]
            case rel => exact ⟨1, by omega, by go_num, by first | rfl | trivial, HY.out⟩
        · by_cases h1 : z = a
          · have q1 : (z == a) = true := by simpa using h1
            by_cases h2 : x = b
            · have q2 : (x == b) = true := by simpa using h2
              have HY := Lib.hid (facI_at (by have := HL.out; omega) HF2.out (by rw [HE.out.2.1, h1, h2]))
              clear h1 h2
              go_wp2
              go_ret
              refine ⟨?_, HB.out⟩
              rw [← HA.out, HY.out]
              first | rfl | (push_cast; rfl) | (push_cast; simp)
            · have q2 : (x == b) = false := by simpa using h2
              have HY := Lib.hid (facFrom_on (by have := HL.out; omega) HF2.out (by rw [HE.out.2.1]; intro e; cases e; exact h2 rfl))
              clear h1 h2
              go_wp2
              go_roundw
              case measure => simp [intOf]
              case rel => exact ⟨2, by omega, by go_num, by first | rfl | trivial, HY.out⟩
          · have q1 : (z == a) = false := by simpa using h1
            have HY := Lib.hid (facFrom_on (by have := HL.out; omega) HF2.out (by rw [HE.out.2.1]; intro e; cases e; exact h1 rfl))
            clear h1
            go_wp2
            go_roundw
            case measure => simp [intOf]
            case rel => exact ⟨2, by omega, by go_num, by first | rfl | trivial, HY.out⟩
        · by_cases h1 : x = a
          · have q1 : (x == a) = true := by simpa using h1
            by_cases h2 : y = b
            · have q2 : (y == b) = true := by simpa using h2
              have HY := Lib.hid (facI_at (by have := HL.out; omega) HF2.out (by rw [HE.out.2.2, h1, h2]))
              clear h1 h2
              go_wp2
              go_ret
              refine ⟨?_, HB.out⟩
              rw [← HA.out, HY.out]
              first | rfl | (push_cast; rfl) | (push_cast; simp)
            · have q2 : (y == b) = false := by simpa using h2
              have HY := Lib.hid (facFrom_on (by have := HL.out; omega) HF2.out (by rw [HE.out.2.2]; intro e; cases e; exact h2 rfl))
              clear h1 h2
              go_wp2
              go_roundw
              case measure => simp [intOf]
              case rel => exact ⟨3, by omega, by go_num, by first | rfl | trivial, HY.out⟩
          · have q1 : (x == a) = false := by simpa using h1
            have HY := Lib.hid (facFrom_on (by have := HL.out; omega) HF2.out (by rw [HE.out.2.2]; intro e; cases e; exact h1 rfl))
            clear h1
            go_wp2
            go_roundw
            case measure => simp [intOf]
            case rel => exact ⟨3, by omega, by go_num, by first | rfl | trivial, HY.out⟩
        · go_wp2
          go_roundw
          case measure => simp [intOf]; omega
          case rel => exact ⟨k + 1, by omega, by go_num, by first | rfl | trivial, by rw [show 3 * (k + 1) = 3 * k + 3 from by omega]; exact HF2.out⟩
    · obtain rfl : k = n := by omega
      have HY := Lib.hid (facI_no (T := T) (e := (a, b)) (by rw [HN.out]; exact HF.out))
      go_wp2
      go_ret
      exact ⟨by rw [← HA.out, HY.out]; rfl, HB.out⟩
set_option maxHeartbeats 1000000 in
theorem facing21_any (N a b : Int) (v : Value) (T : List Tr) (w : World) (h : TrisRd w v T) (hl : T.length ≤ 100000) : Calls Tryz.prog 55 #[.agg #[.int .i64 N, v], .int .i64 a, .int .i64 b] w fun e w' => e = .returned (.int .i64 (facI T (a, b))) ∧ Below w.heap.size w w' := by
  have b1 := Blk.new w 24 #[.int .i64 N, v]
  have hB0 : Below w.heap.size w (w.alloc (.cells #[.int .i64 N, v] 24)) := (Below.refl _ _).alloc (Nat.le_refl _) _
  obtain ⟨l0, x0, -, x1, -⟩ := b1.two
  have HF := Lib.hid (facing13_any N a b v T _ (h.below hB0) hl)
  have HB := Lib.hid hB0
  clear h hB0 b1
  go_enter Tryz.func55, Tryz.ntmps55
  go_wp2_with fail
  refine HF.out.mono ?_
  rintro e w1 ⟨rfl, hb⟩
  have HB1 := Lib.hid (HB.out.trans (hb.mono HB.out.size))
  clear hb x0 x1
  go_wp2
  go_ret
  exact ⟨rfl, HB1.out⟩
end Go.Proofs.YtghlnknncahkgaaGreat
/-
  gypsumref21.Walk, by walking its text: it is the walk's steps.
-/
namespace Go.Proofs.YtghlnknncahkgaaGreat
open Go.RowKit Go.Maps

theorem TrisRd.vert {w : World} {a : Option Addr} {m c : Nat} {T : List Tr} (h : TrisRd w (.slice a m c) T) {d : Nat} (hd : d < 3 * T.length) :
    ∃ b o, a = some ⟨b, o, none⟩ ∧ b < w.heap.size ∧ w.cell? ⟨b, o + d / 3 * 3 + d % 3, none⟩ = some (.int .i64 (vertN T d)) := by
  obtain ⟨a', c', e, -, -, hr⟩ := h
  cases e
  obtain ⟨⟨x, y, z⟩, hx⟩ : ∃ q, T[d / 3]? = some q := ⟨T[d / 3], List.getElem?_eq_getElem (by omega)⟩
  obtain ⟨b, o, rfl, hb, s0, s1, s2⟩ := hr _ x y z hx
  refine ⟨b, o, rfl, hb, ?_⟩
  unfold vertN triAt
  rw [hx]
  have : d % 3 = 0 ∨ d % 3 = 1 ∨ d % 3 = 2 := by omega
  rcases this with e | e | e <;> rw [e]
  · exact s0
  · exact s1
  · exact s2
theorem TrisRd.whole {w : World} {a : Option Addr} {m c : Nat} {T : List Tr} (h : TrisRd w (.slice a m c) T) {t : Nat} (ht : t < T.length) :
    ∃ b o, a = some ⟨b, o, none⟩ ∧ b < w.heap.size ∧ w.cell? ⟨b, o + t * 3, none⟩ = some (.int .i64 (vertN T (3 * t))) ∧ w.cell? ⟨b, o + t * 3 + 1, none⟩ = some (.int .i64 (vertN T (3 * t + 1))) ∧ w.cell? ⟨b, o + t * 3 + 2, none⟩ = some (.int .i64 (vertN T (3 * t + 2))) := by
  obtain ⟨a', c', e, -, -, hr⟩ := h
  cases e
  obtain ⟨⟨x, y, z⟩, hx⟩ : ∃ q, T[t]? = some q := ⟨T[t], List.getElem?_eq_getElem _⟩
  obtain ⟨b, o, rfl, hb, s0, s1, s2⟩ := hr _ x y z hx
  refine ⟨b, o, rfl, hb, ?_, ?_, ?_⟩
  · rw [show vertN T (3 * t) = x from by unfold vertN triAt; rw [if_pos (by omega), show 3 * t / 3 = t from by omega, hx]; rfl]; exact s0
  · rw [show vertN T (3 * t + 1) = y from by unfold vertN triAt; rw [if_neg (by omega), if_pos (by omega), show (3 * t + 1) / 3 = t from by omega, hx]; rfl]; exact s1
  · rw [show vertN T (3 * t + 2) = z from by unfold vertN triAt; rw [if_neg (by omega), if_neg (by omega), show (3 * t + 2) / 3 = t from by omega, hx]; rfl]; exact s2
/-- The rows that the document's walk fills. -/
def traceR (_T : List Tr) (c : Nat) (L : List WStep) (come : List Int) (vV vC vLo vLe : Value) : List (Value × List Int) :=
  [(vV, come), (vC, (c : Int) :: L.map (·.corner)), (vLo, L.map fun x => (x.loops : Int)), (vLe, L.map fun x => (x.length : Int))]
/-- What it answers. -/
def RefPost (w : World) (T : List Tr) (c : Nat) (e : Ending) (w' : World) : Prop :=
  ∃ vV vC vLo vLe, e = .returned (.agg #[.string (wordS (stepsM T c)), vV, vC, vLo, vLe]) ∧ RwL w' w.heap.size (traceR T c (stepsM T c) ((beginS T c).come ++ newV T (stepsM T c)) vV vC vLo vLe) ∧ Below w.heap.size w w'

set_option maxRecDepth 100000 in
set_option maxHeartbeats 4000000 in
theorem ref21_any {n c : Nat} {v : Value} {T : List Tr} {w : World} (hs : Simp n T) (h : TrisRd w v T) (hc : c < 3 * T.length) (hl : T.length ≤ 40) :
    Calls Tryz.prog 25 #[.agg #[.int .i64 (n : Int), v], .int .i64 c] w (RefPost w T c) := by
  have hB0 : Below w.heap.size w ((w.alloc (.cells #[.int .i64 (n : Int), v] 24)).alloc (.cells #[.string ByteArray.empty, .slice none 0 0, .slice none 0 0, .slice none 0 0, .slice none 0 0] 49)) := ((Below.refl _ _).alloc (Nat.le_refl _) _).alloc (by simp) _
  have bs := (Blk.new w 24 #[.int .i64 (n : Int), v]).alloc (.cells #[.string ByteArray.empty, .slice none 0 0, .slice none 0 0, .slice none 0 0, .slice none 0 0] 49)
  have br : Blk ((w.alloc (.cells #[.int .i64 (n : Int), v] 24)).alloc (.cells #[.string ByteArray.empty, .slice none 0 0, .slice none 0 0, .slice none 0 0, .slice none 0 0] 49)) (w.heap.size + 1) 49 #[.string ByteArray.empty, .slice none 0 0, .slice none 0 0, .slice none 0 0, .slice none 0 0] := blk_new_at (by simp)
  have HR := Lib.hid (fun (W : World) (hW : Below w.heap.size w W) => h.below hW)
  obtain ⟨a, cc, rfl, -, -, -⟩ := h
  obtain ⟨b, o, rfl, hbl, s0, s1, s2⟩ := (HR.out _ (Below.refl _ _)).whole (t := c / 3) (by omega)
  obtain ⟨F, hF⟩ : ∃ F, T.length = F := ⟨_, rfl⟩
  rw [hF] at hc hl bs br hB0 ⊢
  obtain ⟨l0, x0, -, x1, -⟩ := bs.two
  have HB0 := Lib.hid hB0
  have HBs := Lib.hid bs
  have HBr := Lib.hid br
  have HS := Lib.hid hs
  have HF := Lib.hid hF
  clear hs bs br hB0 hF
  have q1 : ((c : Int)).tdiv 3 = ((c / 3 : Nat) : Int) := by rw [Int.tdiv_eq_ediv_of_nonneg (by omega)]; rfl
  have q2 : ((c : Int)).tmod 3 = ((c % 3 : Nat) : Int) := by rw [Int.tmod_eq_emod_of_nonneg (by omega)]; rfl
  have q3 : ((c / 3 : Nat) : Int) < (F : Int) := by omega
  obtain ⟨t, ht⟩ : ∃ t, c / 3 = t := ⟨_, rfl⟩
  rw [ht] at s0 s1 s2 q1 q3
  go_enter Tryz.func25, Tryz.ntmps25
  go_upto_region 2 with fail
  obtain ⟨i3, hi3, a30, a31, a32⟩ := info_parts infoInt
  have m0 : (0 : Int).tmod 3 = 0 := by decide
  have m1 : (1 : Int).tmod 3 = 1 := by decide
  have m2 : (2 : Int).tmod 3 = 2 := by decide
  have m3 : (3 : Int).tmod 3 = 0 := by decide
  have m4 : (4 : Int).tmod 3 = 1 := by decide
  have hB2 := (HB0.out.alloc HB0.out.size (.cells #[.int .i64 (vertN T (3 * t)), .int .i64 (vertN T (3 * t + 1)), .int .i64 (vertN T (3 * t + 2))] 72))
  have bs2 := HBs.out.alloc (.cells #[.int .i64 (vertN T (3 * t)), .int .i64 (vertN T (3 * t + 1)), .int .i64 (vertN T (3 * t + 2))] 72)
  have br2 := HBr.out.alloc (.cells #[.int .i64 (vertN T (3 * t)), .int .i64 (vertN T (3 * t + 1)), .int .i64 (vertN T (3 * t + 2))] 72)
  have HB2 := Lib.hid hB2
  have HBs2 := Lib.hid bs2
  have HBr2 := Lib.hid br2
  clear hB2 bs2 br2 HB0 HBs HBr x0 x1 l0
  go_cut [6, 7, 8, 9] (fun _v6 v7 v8 v9 W => v7 = .int .i64 (vertN T c) ∧ v8 = .int .i64 (vertN T (Jor.nx c)) ∧ v9 = .int .i64 (vertN T (Jor.pv c)) ∧ Blk W w.heap.size 24 #[.int .i64 (n : Int), .slice (some ⟨b, o, none⟩) F cc] ∧ Blk W (w.heap.size + 1) 49 #[.string ByteArray.empty, .slice none 0 0, .slice none 0 0, .slice none 0 0, .slice none 0 0] ∧ Below w.heap.size w W)
  case first =>
    have hcc : (c = 3 * t ∨ c = 3 * t + 1 ∨ c = 3 * t + 2) ∧ ((c : Int) % 3 = 0 ∨ (c : Int) % 3 = 1 ∨ (c : Int) % 3 = 2) := by omega
    have e0 : (c : Int) % 3 = 0 → c = 3 * t := by omega
    have e1 : (c : Int) % 3 = 1 → c = 3 * t + 1 := by omega
    have e2 : (c : Int) % 3 = 2 → c = 3 * t + 2 := by omega
    rcases hcc.2 with e | e | e
    · have ec := e0 e
      have n1 : Jor.nx c = 3 * t + 1 := by unfold Jor.nx; omega
      have n2 : Jor.pv c = 3 * t + 2 := by unfold Jor.pv; omega
      have E0 := Lib.hid ec
      have E1 := Lib.hid n1
      have E2 := Lib.hid n2
      simp only [e]
      clear e0 e1 e2 hcc e q1 q2 ec n1 n2
      go_region
      all_goals
        go_wp2_with fail
        go_meet
        exact ⟨by rw [E0.out], by rw [E1.out], by rw [E2.out], HBs2.out.drew, HBr2.out.drew, below_d HB2.out⟩
    · have ec := e1 e
      have n1 : Jor.nx c = 3 * t + 2 := by unfold Jor.nx; omega
      have n2 : Jor.pv c = 3 * t := by unfold Jor.pv; omega
      have E0 := Lib.hid ec
      have E1 := Lib.hid n1
      have E2 := Lib.hid n2
      simp only [e]
      clear e0 e1 e2 hcc e q1 q2 ec n1 n2
      go_region
      all_goals
        go_wp2_with fail
        go_meet
        exact ⟨by rw [E0.out], by rw [E1.out], by rw [E2.out], HBs2.out.drew, HBr2.out.drew, below_d HB2.out⟩
    · have ec := e2 e
      have n1 : Jor.nx c = 3 * t := by unfold Jor.nx; omega
      have n2 : Jor.pv c = 3 * t + 1 := by unfold Jor.pv; omega
      have E0 := Lib.hid ec
      have E1 := Lib.hid n1
      have E2 := Lib.hid n2
      simp only [e]
      clear e0 e1 e2 hcc e q1 q2 ec n1 n2
      go_region
      all_goals
        go_wp2_with fail
        go_meet
        exact ⟨by rw [E0.out], by rw [E1.out], by rw [E2.out], HBs2.out.drew, HBr2.out.drew, below_d HB2.out⟩
  case rest =>
    obtain ⟨rfl, rfl, rfl, hBs, hBr, hB⟩ := hcut
    clear s0 s1 s2 HB2 HBs2 HBr2 q1 q2 q3 ht
    generalize hx0 : vertN T c = x0
    generalize hx1 : vertN T (Jor.nx c) = x1
    generalize hx2 : vertN T (Jor.pv c) = x2
    go_upto_region 5 with fail
    have hb5 : Below wc.heap.size wc ((((wc.alloc (.cells #[.int .i64 x0, .int .i64 x1, .int .i64 x2] 3)).alloc (.cells #[.int .i64 (c : Int)] 3)).alloc (.cells #[.string ⟨#[]⟩, .slice (some ⟨wc.heap.size, 0, none⟩) 3 3, .slice (some ⟨wc.heap.size + 1, 0, none⟩) 1 1, .slice none 0 0, .slice none 0 0] 49)).alloc (.cells #[.int .i64 x1, .int .i64 x0, .int .i64 x2] 3)) := ((((Below.refl _ _).alloc (Nat.le_refl _) _).alloc (by simp) _).alloc (by simp; omega) _).alloc (by simp; omega) _
    have hI0 : RfS w (.slice (some ⟨b, o, none⟩) F cc) n (wc.heap.size + 1 + 1) (wordS []) (beginS T c).come [(c : Int)] [] [] (beginS T c).loop (.slice (some ⟨wc.heap.size, 0, none⟩) 3 3) (.slice (some ⟨wc.heap.size + 1, 0, none⟩) 1 1) (.slice none 0 0) (.slice none 0 0) (.slice (some ⟨wc.heap.size + 1 + 1 + 1, 0, none⟩) 3 3) (.slice none 0 0) [] ((((wc.alloc (.cells #[.int .i64 x0, .int .i64 x1, .int .i64 x2] 3)).alloc (.cells #[.int .i64 (c : Int)] 3)).alloc (.cells #[.string ⟨#[]⟩, .slice (some ⟨wc.heap.size, 0, none⟩) 3 3, .slice (some ⟨wc.heap.size + 1, 0, none⟩) 1 1, .slice none 0 0, .slice none 0 0] 49)).alloc (.cells #[.int .i64 x1, .int .i64 x0, .int .i64 x2] 3)) := by
      have hz := hB.size
      have hbr := hBr.lt
      have k0 := (((Blk.new wc 3 #[.int .i64 x0, .int .i64 x1, .int .i64 x2]).alloc (.cells #[.int .i64 (c : Int)] 3)).alloc (.cells #[.string ⟨#[]⟩, .slice (some ⟨wc.heap.size, 0, none⟩) 3 3, .slice (some ⟨wc.heap.size + 1, 0, none⟩) 1 1, .slice none 0 0, .slice none 0 0] 49)).alloc (.cells #[.int .i64 x1, .int .i64 x0, .int .i64 x2] 3)
      have k1 : Blk _ (wc.heap.size + 1) 3 #[.int .i64 (c : Int)] := ((blk_new_at (w := wc.alloc (.cells #[.int .i64 x0, .int .i64 x1, .int .i64 x2] 3)) (by simp)).alloc (.cells #[.string ⟨#[]⟩, .slice (some ⟨wc.heap.size, 0, none⟩) 3 3, .slice (some ⟨wc.heap.size + 1, 0, none⟩) 1 1, .slice none 0 0, .slice none 0 0] 49)).alloc (.cells #[.int .i64 x1, .int .i64 x0, .int .i64 x2] 3)
      have k2 : Blk _ (wc.heap.size + 1 + 1) 49 #[.string ⟨#[]⟩, .slice (some ⟨wc.heap.size, 0, none⟩) 3 3, .slice (some ⟨wc.heap.size + 1, 0, none⟩) 1 1, .slice none 0 0, .slice none 0 0] := (blk_new_at (w := (wc.alloc (.cells #[.int .i64 x0, .int .i64 x1, .int .i64 x2] 3)).alloc (.cells #[.int .i64 (c : Int)] 3)) (by simp)).alloc (.cells #[.int .i64 x1, .int .i64 x0, .int .i64 x2] 3)
      have k3 : Blk _ (wc.heap.size + 1 + 1 + 1) 3 #[.int .i64 x1, .int .i64 x0, .int .i64 x2] := blk_new_at (w := ((wc.alloc (.cells #[.int .i64 x0, .int .i64 x1, .int .i64 x2] 3)).alloc (.cells #[.int .i64 (c : Int)] 3)).alloc (.cells #[.string ⟨#[]⟩, .slice (some ⟨wc.heap.size, 0, none⟩) 3 3, .slice (some ⟨wc.heap.size + 1, 0, none⟩) 1 1, .slice none 0 0, .slice none 0 0] 49)) (by simp)
      have e0 : (beginS T c).come = [x0, x1, x2] := by simp [beginS, hx0, hx1, hx2]
      have e1 : (beginS T c).loop = [x1, x0, x2] := by simp [beginS, hx0, hx1, hx2]
      refine ⟨hBs.below hb5 hBs.lt, hBr.below hb5 hBr.lt, k2, ⟨fun p hp => ?_, ?_⟩, World.ownsRow_nil _ _ _ _, hB.trans (hb5.mono hz), by omega⟩
      · rw [e0, e1] at hp
        simp only [List.mem_cons, List.not_mem_nil, or_false] at hp
        rcases hp with rfl | rfl | rfl | rfl | rfl
        · exact own_three k0 hz
        · exact own_one k1 (by omega)
        · exact World.ownsRow_nil _ _ _ _
        · exact World.ownsRow_nil _ _ _ _
        · exact own_three k3 (by omega)
      · simp [Apart, Value.ownBlock]; omega
    have HI0 := Lib.hid hI0
    have HW5 := Lib.hid hb5
    have hqz : w.heap.size ≤ wc.heap.size := hB.size
    generalize (((wc.alloc (.cells #[.int .i64 x0, .int .i64 x1, .int .i64 x2] 3)).alloc (.cells #[.int .i64 (c : Int)] 3)).alloc (.cells #[.string ⟨#[]⟩, .slice (some ⟨wc.heap.size, 0, none⟩) 3 3, .slice (some ⟨wc.heap.size + 1, 0, none⟩) 1 1, .slice none 0 0, .slice none 0 0] 49)).alloc (.cells #[.int .i64 x1, .int .i64 x0, .int .i64 x2] 3) = W5 at *
    clear hI0 hb5 hBs hBr hB hx0 hx1 hx2
    go_wp2
    go_loopg [11, 12] (F) (fun k v11 v12 wr => ∃ L s ps vV vC vO vE, Ran T (beginS T c) L s ∧ ps.map (·.2) = s.wait ∧ k + L.length = F ∧ RfS w (.slice (some ⟨b, o, none⟩) F cc) n (wc.heap.size + 1 + 1) (wordS L) s.come ((c : Int) :: L.map (·.corner)) (L.map fun x => (x.loops : Int)) (L.map fun x => (x.length : Int)) s.loop vV vC vO vE v11 v12 ps wr)
    case atStart => exact ⟨[], beginS T c, [], _, _, _, _, Ran.nil, rfl, by simp, HI0.out⟩
    case round =>
      rename World => wr
      obtain ⟨L, s, ps, vV, vC, vO, vE, hR, hpw, hk, hI⟩ := hrel
      obtain ⟨av, cv, rfl⟩ := ownsRow_slice hI.rL
      obtain ⟨aW, cW, rfl⟩ := ownsRow_slice hI.wait
      by_cases hnil : s.loop = []
      · obtain ⟨Xs, G⟩ := hR.gone HS.out (by rw [HF.out]; exact hc)
        have hL := hR.steps HS.out (by rw [HF.out]; exact hc) hnil
        have hcome := G.come
        have hl0 : s.loop.length = 0 := by rw [hnil]; rfl
        obtain ⟨aV, cV, rfl⟩ := ownsRow_slice hI.rV
        obtain ⟨aC, cC, rfl⟩ := ownsRow_slice hI.rC
        obtain ⟨aO, cO, rfl⟩ := ownsRow_slice hI.rO
        obtain ⟨aE, cE, rfl⟩ := ownsRow_slice hI.rE
        rw [hl0] at hI ⊢
        generalize hnV : (intsV s.come).length = nV at *
        generalize hnC : (intsV ((c : Int) :: L.map (·.corner))).length = nC at *
        generalize hnO : (intsV (L.map fun x => (x.loops : Int))).length = nO at *
        generalize hnE : (intsV (L.map fun x => (x.length : Int))).length = nE at *
        obtain ⟨lq, c0, f0, c1, f1, c2, f2, c3, f3, c4, f4⟩ := five9 hI.out
        obtain ⟨lr, r0, g0, r1, g1, r2, g2, r3, g3, r4, g4⟩ := five9 hI.res
        have hqr : wc.heap.size + 1 + 1 ≠ w.heap.size + 1 := by omega
        have HI := Lib.hid hI
        have HL := Lib.hid hL
        have HC := Lib.hid hcome
        clear hI hL hcome G hR hnil hl0 hpw hnV hnC hnO hnE
        generalize hwd : wordS L = wdd at *
        go_wp2
        have bF := ((((HI.out.res.set_ 0 (.string wdd)).set_ 1 (.slice aV nV cV)).set_ 2 (.slice aC nC cC)).set_ 3 (.slice aO nO cO)).set_ 4 (.slice aE nE cE)
        have hBF := ((((HI.out.below.setCell (p := ⟨w.heap.size + 1, 0, none⟩) (by simp only; omega) (.string wdd)).setCell (p := ⟨w.heap.size + 1, 1, none⟩) (by simp only; omega) (.slice aV nV cV)).setCell (p := ⟨w.heap.size + 1, 2, none⟩) (by simp only; omega) (.slice aC nC cC)).setCell (p := ⟨w.heap.size + 1, 3, none⟩) (by simp only; omega) (.slice aO nO cO)).setCell (p := ⟨w.heap.size + 1, 4, none⟩) (by simp only; omega) (.slice aE nE cE)
        have hrF := ((((HI.out.rows.far HI.out.res (by decide) (j := 0) (u := .string wdd)).far (HI.out.res.set_ 0 (.string wdd)) (by decide) (j := 1) (u := .slice aV nV cV)).far ((HI.out.res.set_ 0 (.string wdd)).set_ 1 (.slice aV nV cV)) (by decide) (j := 2) (u := .slice aC nC cC)).far (((HI.out.res.set_ 0 (.string wdd)).set_ 1 (.slice aV nV cV)).set_ 2 (.slice aC nC cC)) (by decide) (j := 3) (u := .slice aO nO cO)).far ((((HI.out.res.set_ 0 (.string wdd)).set_ 1 (.slice aV nV cV)).set_ 2 (.slice aC nC cC)).set_ 3 (.slice aO nO cO)) (by decide) (j := 4) (u := .slice aE nE cE)
        generalize (((((wr.setCell ⟨w.heap.size + 1, 0, none⟩ (.string wdd)).setCell ⟨w.heap.size + 1, 1, none⟩ (.slice aV nV cV)).setCell ⟨w.heap.size + 1, 2, none⟩ (.slice aC nC cC)).setCell ⟨w.heap.size + 1, 3, none⟩ (.slice aO nO cO)).setCell ⟨w.heap.size + 1, 4, none⟩ (.slice aE nE cE)) = WF at *
        have bF2 : Blk WF (w.heap.size + 1) 49 #[.string wdd, .slice aV nV cV, .slice aC nC cC, .slice aO nO cO, .slice aE nE cE] := by simpa using bF
        obtain ⟨-, p0, -, p1, -, p2, -, p3, -, p4, -⟩ := five9 bF2
        refine bodyPost_ret (v := .agg #[.string wdd, .slice aV nV cV, .slice aC nC cC, .slice aO nO cO, .slice aE nE cE]) (by simp [results, Tryz.results25, go_sem, p0, p1, p2, p3, p4]) rfl ?_
        refine ⟨_, _, _, _, by rw [← HL.out, hwd], ?_, hBF⟩
        rw [← HL.out, ← HC.out]
        exact hrF.sub (List.Perm.refl _) (List.Sublist.cons_cons _ (List.Sublist.cons_cons _ (List.Sublist.cons_cons _ (List.Sublist.cons_cons _ (List.nil_sublist _)))))
      · obtain ⟨Xs, G⟩ := hR.gone HS.out (by rw [HF.out]; exact hc)
        obtain ⟨x, s', Xs', hst, G', -, -, -⟩ := G.next HS.out hnil
        have HR' := Lib.hid (Ran.snoc hR hst)
        have hLF := (G.lt HS.out).1
        obtain ⟨a0, b0, r, u, hloop, hu, hd0, hxc, hxo, hxl, hcase⟩ := step_cases hst
        obtain ⟨d, hd1, hd2, h3, h4, h5, -⟩ := G'.each x (by simp)
        rw [hxc] at hd1
        rw [hd1, vertI_nat hd2] at hu
        rw [hd1] at hd0
        rw [HF.out] at hd2 h4 h5 hLF
        have hps : ps.length = s.wait.length := by rw [← hpw]; simp
        have Hps := Lib.hid hps
        have Hpw := Lib.hid hpw
        have hcl : s.come.length ≤ 200 := by
          have := List.length_filter_le (fun x : WStep => decide (x.letter = 67)) L
          rw [G.come]
          simp only [newV, beginS, List.length_map, List.length_append, List.length_cons, List.length_nil]
          omega
        have hws : (wordS L).size ≤ 200 := by
          have : (wordS L).size = L.length := by simp [wordS, ByteArray.size]
          omega
        have hll : s.loop.length = r.length + 2 := by rw [hloop]; rfl
        have Hloop := Lib.hid hloop
        have Hcase := Lib.hid hcase
        have Hxc := Lib.hid (hxc.trans hd1)
        have Hxo := Lib.hid hxo
        have Hxl := Lib.hid hxl
        have Hfac := Lib.hid hd1
        have HJ0 := Lib.hid hI
        obtain ⟨gl, capl, eL, -, hgl⟩ := hI.rL.form (by omega)
        cases eL
        have hc0 := (hI.cellL rfl 0 (x := a0) (by rw [hloop]; rfl)).1
        have hc1 := (hI.cellL rfl 1 (x := b0) (by rw [hloop]; rfl)).1
        obtain ⟨ls, s0, -, s1, -⟩ := hI.soup.two
        have hbw := hI.below
        have HFa := Lib.hid (fun (W : World) (hW : Below w.heap.size w W) => (show Calls Tryz.prog 55 #[.agg #[.int .i64 (n : Int), .slice (some ⟨b, o, none⟩) F cc], .int .i64 a0, .int .i64 b0] W fun e w' => e = .returned (.int .i64 (d : Int)) ∧ Below W.heap.size W w' from by
          have := facing21_any n a0 b0 _ T W (HR.out W hW) (by rw [HF.out]; omega)
          rw [hd1, HF.out] at this
          exact this))
        have hlenN : 0 < s.loop.length := by omega
        obtain ⟨m, hm⟩ : ∃ m, s.loop.length = m := ⟨_, rfl⟩
        rw [hm] at hll hlenN HJ0 hI ⊢
        have HM := Lib.hid hm
        have hm2 : (1 : Int) < (m : Int) := by omega
        have hm0 : (0 : Int) < (m : Int) := by omega
        have HLL := Lib.hid hll
        have Hr3 := Lib.hid (show 1 ≤ r.length from by omega)
        have hm3 : m ≤ 200 := by omega
        have hp3 : ps.length ≤ 200 := by omega
        clear hI hcase hxc hxo hxl hloop hst G G' hR hm hnil hd0 hll h3 h4 hpw hps
        go_upto_region 8 with fail
        go_cut [14] (fun v14 W => v14 = .int .i64 (d : Int) ∧ Below wr.heap.size wr W)
        case first =>
          have d0 := cell_regrown s0
          have d1 := cell_regrown s1
          have d2 := cell_regrown hc0
          have d3 := cell_regrown hc1
          refine wp_region_quiet_below (by kernel_rfl) (by kernel_rfl) ?_
          repeat (go_big_quiet_step ((go_at_call 55; exact Calls.regrown_of (HFa.out _ (hbw.trans ((below_regrown _ _ _).mono hbw.size))))))
          refine wpQuiet_nil ?_
          intro _ hw'
          obtain ⟨⟨dq, osq⟩, hw''⟩ := hw'
          have hb3 := below_regrown wr dq osq
          subst hw''
          generalize Sort.grow (redrawn wr dq) osq = w3 at *
          go_wp2_with fail
          go_meet
          exact ⟨rfl, hb3⟩
        case rest =>
          obtain ⟨rfl, hbC⟩ := hcut
          rename World => wd
          have HJ1 := Lib.hid (HJ0.out.below' hbC)
          obtain ⟨bb, oo, e, hbb, hcu⟩ := (HR.out _ HJ1.out.below).vert (d := d) (by rw [HF.out]; exact hd2)
          cases e
          rw [← hu] at hcu
          clear hu
          obtain ⟨ls, s0, -, s1, -⟩ := HJ1.out.soup.two
          obtain ⟨dq, hdq⟩ : ∃ dq, d / 3 = dq := ⟨_, rfl⟩
          obtain ⟨dm, hdm⟩ : ∃ dm, d % 3 = dm := ⟨_, rfl⟩
          rw [hdq, hdm] at hcu
          have t1 : ((d : Int)).tdiv 3 = (dq : Int) := by rw [Int.tdiv_eq_ediv_of_nonneg (by omega)]; omega
          have t2 : ((d : Int)).tmod 3 = (dm : Int) := by rw [Int.tmod_eq_emod_of_nonneg (by omega)]; omega
          have t3 : (d : Int) % 3 = (dm : Int) := by omega
          have t4 : (d : Int) / 3 = (dq : Int) := by omega
          have t5 : (dq : Int) < (F : Int) := by omega
          have t6 : (dm : Int) < 3 := by omega
          have hbl1 : b < w.heap.size := hbl
          clear hbC HJ0 hc0 hc1 hdq hdm hbw HFa
          go_upto_region 10 with fail
          clear s0 s1 ls hcu t1 t2 t3 t4 t5 t6 hbb
          obtain ⟨lq, c0, f0, c1, f1, c2, f2, c3, f3, c4, f4⟩ := five9 HJ1.out.out
          have hbs1 := HJ1.out.below.size
          go_upto_region 11 with (first
            | (at_builtin; go_loud (refine wpList_append_lies _ rfl (.tmp 72) (.tmp 74) 28 rfl w.heap.size 3 i3 _ 1 8 Tryz.underlying28 hi3 a30 a31 a32 rfl (by decide) _ _ _ rfl (HJ1.out.alloc (.cells #[.int .i64 (d : Int)] 3)).rC ⟨wd.heap.size, 0, none⟩ 1 1 [.int .i64 (d : Int)] rfl rfl (World.news_of_block (heap_alloc_new _ _)) (by simp [Value.oneCell']) (by decide) (by unfold maxLen; simp [intsV]; omega) (by simp [intsV]; omega) (by simp; omega) _ rfl ?_); intro g8 cap8 W8 hr8 hg8 hat8 hlt8; obtain ⟨mq, d0, e0, d1, e1, d2, e2, d3, e3, d4, e4⟩ := five9 ((HJ1.out.alloc (.cells #[.int .i64 (d : Int)] 3)).out.grown hg8 (fun e => own_blk_ne (HJ1.out.alloc (.cells #[.int .i64 (d : Int)] 3)).rC (HJ1.out.alloc (.cells #[.int .i64 (d : Int)] 3)).out (by decide) e.symm)); have HR8 := Lib.hid hr8; have HG8 := Lib.hid hg8; have HA8 := Lib.hid hat8; clear hr8 hg8 hat8))
          have HJ2 := Lib.hid ((HJ1.out.alloc (.cells #[.int .i64 (d : Int)] 3)).appC HG8.out HR8.out rfl HA8.out)
          clear lq c0 f0 c1 f1 c2 f2 c3 f3 c4 f4 mq d0 e0 d1 e1 d2 e2 d3 e3 d4 e4 HR8 HG8 HA8 HJ1 hlt8 hbs1
          generalize W8.setCell _ _ = W2 at *
          obtain ⟨lq, c0, f0, c1, f1, c2, f2, c3, f3, c4, f4⟩ := five9 HJ2.out.out
          have hbs2 := HJ2.out.below.size
          go_upto_region 12 with (first
            | (at_builtin; go_loud (refine wpList_append_lies _ rfl (.tmp 78) (.tmp 81) 28 rfl w.heap.size 3 i3 _ 1 8 Tryz.underlying28 hi3 a30 a31 a32 rfl (by decide) _ _ _ rfl (HJ2.out.alloc (.cells #[.int .i64 (ps.length : Int)] 3)).rO ⟨W2.heap.size, 0, none⟩ 1 1 [.int .i64 (ps.length : Int)] rfl rfl (World.news_of_block (heap_alloc_new _ _)) (by simp [Value.oneCell']) (by decide) (by unfold maxLen; simp [intsV]; omega) (by simp [intsV]; omega) (by simp; omega) _ rfl ?_); intro g8 cap8 W8 hr8 hg8 hat8 hlt8; obtain ⟨mq, d0, e0, d1, e1, d2, e2, d3, e3, d4, e4⟩ := five9 ((HJ2.out.alloc (.cells #[.int .i64 (ps.length : Int)] 3)).out.grown hg8 (fun e => own_blk_ne (HJ2.out.alloc (.cells #[.int .i64 (ps.length : Int)] 3)).rO (HJ2.out.alloc (.cells #[.int .i64 (ps.length : Int)] 3)).out (by decide) e.symm)); have HR8 := Lib.hid hr8; have HG8 := Lib.hid hg8; have HA8 := Lib.hid hat8; clear hr8 hg8 hat8))
          have HJ3 := Lib.hid ((HJ2.out.alloc (.cells #[.int .i64 (ps.length : Int)] 3)).appO HG8.out HR8.out rfl HA8.out)
          clear lq c0 f0 c1 f1 c2 f2 c3 f3 c4 f4 mq d0 e0 d1 e1 d2 e2 d3 e3 d4 e4 HR8 HG8 HA8 HJ2 hlt8 hbs2
          generalize W8.setCell _ _ = W3 at *
          obtain ⟨lq, c0, f0, c1, f1, c2, f2, c3, f3, c4, f4⟩ := five9 HJ3.out.out
          have hbs3 := HJ3.out.below.size
          go_upto_region 13 with (first
            | (at_builtin; go_loud (refine wpList_append_lies _ rfl (.tmp 85) (.tmp 87) 28 rfl w.heap.size 3 i3 _ 1 8 Tryz.underlying28 hi3 a30 a31 a32 rfl (by decide) _ _ _ rfl (HJ3.out.alloc (.cells #[.int .i64 (m : Int)] 3)).rE ⟨W3.heap.size, 0, none⟩ 1 1 [.int .i64 (m : Int)] rfl rfl (World.news_of_block (heap_alloc_new _ _)) (by simp [Value.oneCell']) (by decide) (by unfold maxLen; simp [intsV]; omega) (by simp [intsV]; omega) (by simp; omega) _ rfl ?_); intro g8 cap8 W8 hr8 hg8 hat8 hlt8; obtain ⟨mq, d0, e0, d1, e1, d2, e2, d3, e3, d4, e4⟩ := five9 ((HJ3.out.alloc (.cells #[.int .i64 (m : Int)] 3)).out.grown hg8 (fun e => own_blk_ne (HJ3.out.alloc (.cells #[.int .i64 (m : Int)] 3)).rE (HJ3.out.alloc (.cells #[.int .i64 (m : Int)] 3)).out (by decide) e.symm)); have HR8 := Lib.hid hr8; have HG8 := Lib.hid hg8; have HA8 := Lib.hid hat8; clear hr8 hg8 hat8))
          have HJ4 := Lib.hid ((HJ3.out.alloc (.cells #[.int .i64 (m : Int)] 3)).appE HG8.out HR8.out rfl HA8.out)
          clear lq c0 f0 c1 f1 c2 f2 c3 f3 c4 f4 mq d0 e0 d1 e1 d2 e2 d3 e3 d4 e4 HR8 HG8 HA8 HJ3 hlt8 hbs3
          generalize W8.setCell _ _ = W4 at *
          have HLL2 := Lib.hid HLL.out
          have HPl := Lib.hid (place_any vV s.come u W4 (IntsRd.of_row (xs := s.come) HJ4.out.rV (by simp [intsV])) (by omega))
          have hzq := Lib.idxOf_nonneg_iff s.come u
          rcases Hcase.out with ⟨hnin, hlet, hs'⟩ | ⟨hin, hr1, hlet, hs'⟩ | ⟨hin, hr1, hi1, hlet, hs'⟩ | ⟨hin, hr1, hi1, hi2, hlet, hs'⟩ | ⟨hin, hr1, hi1, hi2, hlet, hs'⟩
          · have hz0 : Lib.idxOf s.come u < 0 := by
              have : ¬ (0 ≤ Lib.idxOf s.come u) := by rw [hzq]; simpa using hnin
              omega
            obtain ⟨z, hz⟩ : ∃ z, Lib.idxOf s.come u = z := ⟨_, rfl⟩
            rw [hz] at HPl hz0
            have Hs' := Lib.hid hs'
            have Hlet := Lib.hid hlet
            clear hzq hz hnin hlet hs'
            obtain ⟨lq, c0, f0, c1, f1, c2, f2, c3, f3, c4, f4⟩ := five9 HJ4.out.out
            go_upto_region 14 with (go_at_call 56; refine HPl.out.mono ?_; rintro e Wp ⟨rfl, hWp⟩; replace hWp := hWp.symm; subst hWp)
            clear lq c0 f0 c1 f1 c2 f2 c3 f3 c4 f4
            obtain ⟨lq, c0, f0, c1, f1, c2, f2, c3, f3, c4, f4⟩ := five9 HJ4.out.out
            have hbs4 := HJ4.out.below.size
            go_upto_region 15 with (first
              | (at_builtin; go_loud (refine wpList_append_lies _ rfl (.tmp 96) (.tmp 98) 28 rfl w.heap.size 3 i3 _ 1 8 Tryz.underlying28 hi3 a30 a31 a32 rfl (by decide) _ _ _ rfl (HJ4.out.alloc (.cells #[.int .i64 u] 3)).rV ⟨W4.heap.size, 0, none⟩ 1 1 [.int .i64 u] rfl rfl (World.news_of_block (heap_alloc_new _ _)) (by simp [Value.oneCell']) (by decide) (by unfold maxLen; simp [intsV]; omega) (by simp [intsV]; omega) (by simp; omega) _ rfl ?_); intro g8 cap8 W8 hr8 hg8 hat8 hlt8; obtain ⟨mq, d0, e0, d1, e1, d2, e2, d3, e3, d4, e4⟩ := five9 ((HJ4.out.alloc (.cells #[.int .i64 u] 3)).out.grown hg8 (fun e => own_blk_ne (HJ4.out.alloc (.cells #[.int .i64 u] 3)).rV (HJ4.out.alloc (.cells #[.int .i64 u] 3)).out (by decide) e.symm)); have HR8 := Lib.hid hr8; have HG8 := Lib.hid hg8; have HA8 := Lib.hid hat8; clear hr8 hg8 hat8))
            have HJ5 := Lib.hid ((HJ4.out.alloc (.cells #[.int .i64 u] 3)).appV HG8.out HR8.out rfl HA8.out)
            clear lq c0 f0 c1 f1 c2 f2 c3 f3 c4 f4 mq d0 e0 d1 e1 d2 e2 d3 e3 d4 e4 HR8 HG8 HA8 HJ4 hlt8 hbs4
            generalize W8.setCell _ _ = W5 at *
            obtain ⟨lq, c0, f0, c1, f1, c2, f2, c3, f3, c4, f4⟩ := five9 HJ5.out.out
            go_upto_region 16 with fail
            have HJ6 := Lib.hid (HJ5.out.word (wordS L ++ ⟨#[67]⟩))
            clear lq c0 f0 c1 f1 c2 f2 c3 f3 c4 f4
            generalize W5.setCell _ _ = W6 at *
            obtain ⟨hc0, hgl⟩ := HJ6.out.cellL HM.out 0 (x := a0) (by rw [Hloop.out]; rfl)
            have hbs6 := HJ6.out.below.size
            have hcapL : m ≤ cv := by have := HJ6.out.rL; rw [HM.out] at this; exact own_cap9 this
            have hm1n : 1 ≤ m := by omega
            have hm1i : (1 : Int) ≤ (m : Int) := by omega
            have hcapI : (m : Int) ≤ (cv : Int) := by omega
            have hlp : (b0 :: r).length ≤ 100000 := by have := HLL.out; simp; omega
            have HPt := Lib.hid (fun (W : World) (hW : Below W6.heap.size W6 W) => (show IntsRd W (.slice (some ⟨gl, 1, none⟩) (m - 1) (cv - 1)) (b0 :: r) from by
              have := (HJ6.out.below' hW).partL HM.out 1 (m - 1) (cv - 1) (by omega)
              have e : (s.loop.drop 1).take (m - 1) = b0 :: r := by rw [Hloop.out]; exact List.take_of_length_le (by have := HLL.out; simp; omega)
              rw [e] at this
              exact this))
            go_region_held3 (fun w' => w'.cell? ⟨gl, 0, none⟩ = some (.int .i64 a0)) (first | go_keep | (exact (HBz.out.cell (p := ⟨gl, 0, none⟩) (by simp; omega)).trans (by assumption)))
              (first
              | (go_at_call 57; with_reducible refine (join_any _ (.slice none 0 0) [a0, u] [] _ (IntsRd.two (Blk.new W6 _ _).drew) (IntsRd.nil _) (by simp) (.inr rfl) (by simp) (by simp)).mono ?_; rintro e Wj ⟨vj, rfl, hrj, hbj⟩; simp only [List.append_nil, List.length_cons, List.length_nil, Nat.zero_add, Nat.reduceAdd] at hrj; obtain ⟨gj, capj, rfl, -, -⟩ := hrj.form (by simp); have HRj := Lib.hid hrj; have HBz := Lib.hid hbj; clear hrj hbj)
              | (go_at_call 57; have hb6j := ((((Below.refl W6.heap.size W6).alloc (Nat.le_refl _) (.cells #[.int .i64 a0, .int .i64 u] 3)).drew).trans (HBz.out.mono (by simp))); go_loud (refine (join_any _ _ [a0, u] (b0 :: r) _ (IntsRd.of_row (xs := [a0, u]) HRj.out rfl) (HPt.out _ hb6j) (by simp) (.inl (by simp)) (by simp) hlp).mono ?_); rintro e Wk ⟨vk, rfl, hrk, hbk⟩; have HJ7 := Lib.hid (HJ6.out.loop (hb6j.trans (hbk.mono (by have := hb6j.size; exact this))) (own_base hrk hb6j.size) (by simp)); obtain ⟨gk9, capk, rfl, -, -⟩ := hrk.form (by simp); have hglz := Nat.lt_of_lt_of_le hgl hb6j.size; have HBz := Lib.hid hbk; clear hrk hbk hb6j))
            all_goals
              go_wp2
              have HJ8 := Lib.hid (show RfS w (.slice (some ⟨b, o, none⟩) F cc) n (wc.heap.size + 1 + 1) (wordS (L ++ [x])) s'.come ((c : Int) :: (L ++ [x]).map (·.corner)) ((L ++ [x]).map fun x => (x.loops : Int)) ((L ++ [x]).map fun x => (x.length : Int)) s'.loop _ _ _ _ _ (.slice aW ps.length cW) ps _ from by
                have e1 : wordS (L ++ [x]) = wordS L ++ ⟨#[67]⟩ := by rw [wordS_snoc9, Hlet.out]; rfl
                have e2 : (c : Int) :: (L ++ [x]).map (·.corner) = (c : Int) :: L.map (·.corner) ++ [(d : Int)] := by simp [Hxc.out]
                have e3 : ((L ++ [x]).map fun x => (x.loops : Int)) = (L.map fun x => (x.loops : Int)) ++ [(ps.length : Int)] := by simp [Hxo.out, Hps.out]
                have e4 : ((L ++ [x]).map fun x => (x.length : Int)) = (L.map fun x => (x.length : Int)) ++ [(m : Int)] := by simp [Hxl.out, HLL.out]
                rw [e1, e2, e3, e4, Hs'.out]
                exact HJ7.out)
              go_roundg (gk - 1)
              case measure => omega
              case rel => exact ⟨L ++ [x], s', ps, _, _, _, _, HR'.out, by rw [Hs'.out]; exact Hpw.out, by simp; omega, HJ8.out⟩
          · have hz0 : 0 ≤ Lib.idxOf s.come u := by rw [hzq]; simpa using hin
            obtain ⟨z, hz⟩ : ∃ z, Lib.idxOf s.come u = z := ⟨_, rfl⟩
            have hzn : ¬ z < 0 := by omega
            obtain ⟨zk, hzk⟩ : ∃ zk, Lib.idxOf s.loop u = zk := ⟨_, rfl⟩
            have HPk := Lib.hid (show Calls Tryz.prog 56 #[.slice (some ⟨gl, 0, none⟩) m cv, .int .i64 u] W4 (fun e w' => e = .returned (.int .i64 zk) ∧ w' = W4) from by
              have h1 := place_any (.slice (some ⟨gl, 0, none⟩) m cv) s.loop u W4 (IntsRd.of_row (xs := s.loop) HJ4.out.rL rfl) (by rw [HM.out]; omega)
              rw [hzk] at h1
              exact h1)
            rw [hz] at HPl
            have Hs' := Lib.hid hs'
            have Hlet := Lib.hid hlet
            have hm3f : ((m : Int) == 3) = true := by have := HLL.out; simp; omega
            clear hzq hz hin hlet hs' hr1 hz0 hzk
            obtain ⟨lq, c0, f0, c1, f1, c2, f2, c3, f3, c4, f4⟩ := five9 HJ4.out.out
            go_upto_region 17 with (go_at_call 56; refine HPl.out.mono ?_; rintro e Wp ⟨rfl, hWp⟩; replace hWp := hWp.symm; subst hWp)
            go_upto_region 20 with (go_at_call 56; refine HPk.out.mono ?_; rintro e Wp ⟨rfl, hWp⟩; replace hWp := hWp.symm; subst hWp)
            have HJ6 := Lib.hid (HJ4.out.word (wordS L ++ ⟨#[69]⟩))
            clear lq c0 f0 c1 f1 c2 f2 c3 f3 c4 f4
            generalize W4.setCell _ _ = W6 at *
            have HEq := Lib.hid (show wordS (L ++ [x]) = wordS L ++ ⟨#[69]⟩ ∧ ((c : Int) :: (L ++ [x]).map (·.corner) = (c : Int) :: L.map (·.corner) ++ [(d : Int)]) ∧ (((L ++ [x]).map fun x => (x.loops : Int)) = (L.map fun x => (x.loops : Int)) ++ [(ps.length : Int)]) ∧ (((L ++ [x]).map fun x => (x.length : Int)) = (L.map fun x => (x.length : Int)) ++ [(m : Int)]) from
              ⟨by rw [wordS_snoc9, Hlet.out]; rfl, by simp [Hxc.out], by simp [Hxo.out, Hps.out], by simp [Hxl.out, HLL.out]⟩)
            rcases List.eq_nil_or_concat ps with hp | ⟨ps', ⟨u2, l2⟩, hp⟩
            · subst hp
              have hw0 : s.wait = [] := by rw [← Hpw.out]; rfl
              have Hw0 := Lib.hid hw0
              clear hw0
              go_wp2
              have HJ8 := Lib.hid (show RfS w (.slice (some ⟨b, o, none⟩) F cc) n (wc.heap.size + 1 + 1) (wordS (L ++ [x])) s'.come ((c : Int) :: (L ++ [x]).map (·.corner)) ((L ++ [x]).map fun x => (x.loops : Int)) ((L ++ [x]).map fun x => (x.length : Int)) s'.loop _ _ _ _ (.slice none 0 0) (.slice aW 0 cW) [] W6 from by
                obtain ⟨e1, e2, e3, e4⟩ := HEq.out
                rw [e1, e2, e3, e4, Hs'.out, Hw0.out]
                exact HJ6.out.empty)
              go_roundg (gk - 1)
              case measure => omega
              case rel => exact ⟨L ++ [x], s', [], _, _, _, _, HR'.out, by rw [Hs'.out, Hw0.out]; rfl, by simp; omega, HJ8.out⟩
            · rw [List.concat_eq_append] at hp
              subst hp
              have hw0 : s.wait = ps'.map (·.2) ++ [l2] := by rw [← Hpw.out]; simp
              have Hw0 := Lib.hid hw0
              obtain ⟨np, hnp⟩ : ∃ np, ps'.length = np := ⟨_, rfl⟩
              have hnl : (ps' ++ [(u2, l2)]).length = np + 1 := by simp [hnp]
              have hrow := HJ6.out.wait
              rw [hnl] at hrow HJ6 hp3 ⊢
              obtain ⟨gW, capW, eW, -, hgW⟩ := hrow.form (by omega)
              cases eW
              have hcW : W6.cell? ⟨gW, np, none⟩ = some u2 := by rw [hrow.cellAt np (by omega)]; simp [← hnp]
              have hcapW := own_cap9 hrow
              have Hnp := Lib.hid hnp
              clear hw0 hrow hnl hnp
              go_wp2
              have HJ8 := Lib.hid (show RfS w (.slice (some ⟨b, o, none⟩) F cc) n (wc.heap.size + 1 + 1) (wordS (L ++ [x])) s'.come ((c : Int) :: (L ++ [x]).map (·.corner)) ((L ++ [x]).map fun x => (x.loops : Int)) ((L ++ [x]).map fun x => (x.length : Int)) s'.loop _ _ _ _ u2 (.slice (some ⟨gW, 0, none⟩) np cW) ps' W6 from by
                obtain ⟨e1, e2, e3, e4⟩ := HEq.out
                have hf := HJ6.out.pop Hnp.out
                have e5 : (ps' ++ [(u2, l2)]).length = np + 1 := by simp [Hnp.out]
                rw [e1, e2, e3, e4, Hs'.out, Hw0.out]
                simpa [e5] using hf)
              go_roundg (gk - 1)
              case measure => omega
              case rel => exact ⟨L ++ [x], s', ps', _, _, _, _, HR'.out, by rw [Hs'.out, Hw0.out]; simp, by simp; omega, HJ8.out⟩
          · have hz0 : 0 ≤ Lib.idxOf s.come u := by rw [hzq]; simpa using hin
            obtain ⟨z, hz⟩ : ∃ z, Lib.idxOf s.come u = z := ⟨_, rfl⟩
            have hzn : ¬ z < 0 := by omega
            have HPk := Lib.hid (show Calls Tryz.prog 56 #[.slice (some ⟨gl, 0, none⟩) m cv, .int .i64 u] W4 (fun e w' => e = .returned (.int .i64 ((m : Int) - 1)) ∧ w' = W4) from by
              have h1 := place_any (.slice (some ⟨gl, 0, none⟩) m cv) s.loop u W4 (IntsRd.of_row (xs := s.loop) HJ4.out.rL rfl) (by rw [HM.out]; omega)
              have h2 : Lib.idxOf s.loop u = (m : Int) - 1 := by rw [Hloop.out, hi1]; have := HLL.out; omega
              rw [h2] at h1
              exact h1)
            rw [hz] at HPl
            have Hs' := Lib.hid hs'
            have Hlet := Lib.hid hlet
            have hm3f : ((m : Int) == 3) = false := by have := HLL.out; simp; omega
            have hcapL : m ≤ cv := by have := HJ4.out.rL; rw [HM.out] at this; exact own_cap9 this
            have hm1n : 1 ≤ m := by omega
            have hm2n : 4 ≤ m := by have := HLL.out; have := Hr3.out; omega
            clear hzq hz hin hlet hs' hi1 hr1 hz0
            obtain ⟨lq, c0, f0, c1, f1, c2, f2, c3, f3, c4, f4⟩ := five9 HJ4.out.out
            go_upto_region 17 with (go_at_call 56; refine HPl.out.mono ?_; rintro e Wp ⟨rfl, hWp⟩; replace hWp := hWp.symm; subst hWp)
            go_upto_region 24 with (go_at_call 56; refine HPk.out.mono ?_; rintro e Wp ⟨rfl, hWp⟩; replace hWp := hWp.symm; subst hWp)
            go_upto_region 26 with fail
            have HJ6 := Lib.hid (HJ4.out.word (wordS L ++ ⟨#[76]⟩))
            clear lq c0 f0 c1 f1 c2 f2 c3 f3 c4 f4
            generalize W4.setCell _ _ = W6 at *
            have HPt := Lib.hid (fun (W : World) (hW : Below W6.heap.size W6 W) => (show IntsRd W (.slice (some ⟨gl, 1, none⟩) (m - 1 - 1) (cv - 1)) ((b0 :: r).dropLast) from by
              have := (HJ6.out.below' hW).partL HM.out 1 (m - 1 - 1) (cv - 1) (by omega)
              have e : (s.loop.drop 1).take (m - 1 - 1) = (b0 :: r).dropLast := by rw [Hloop.out, List.dropLast_eq_take]; have := HLL.out; simp; omega
              rw [e] at this
              exact this))
            have hlp : ((b0 :: r).dropLast).length ≤ 100000 := by have := HLL.out; simp; omega
            have hln : (b0 :: r).dropLast ≠ [] := by
              intro e
              have h9 := congrArg List.length e
              rw [List.length_dropLast] at h9
              simp only [List.length_cons, List.length_nil] at h9
              have := Hr3.out
              omega
            have hbs6 := HJ6.out.below.size
            go_wp2_with (go_at_call 57; have hb6 := (Below.refl W6.heap.size W6).alloc (Nat.le_refl _) (.cells #[.int .i64 u] 3); go_loud (refine (join_any _ _ [u] ((b0 :: r).dropLast) _ (IntsRd.one (Blk.new W6 _ _)) (HPt.out _ hb6) (by simp) (.inl hln) (by simp) hlp).mono ?_); rintro e Wk ⟨vk, rfl, hrk, hbk⟩; have HJ7 := Lib.hid (HJ6.out.loop (hb6.trans (hbk.mono hb6.size)) (own_base hrk hb6.size) (by simp)); clear hrk hbk hb6)
            have HJ8 := Lib.hid (show RfS w (.slice (some ⟨b, o, none⟩) F cc) n (wc.heap.size + 1 + 1) (wordS (L ++ [x])) s'.come ((c : Int) :: (L ++ [x]).map (·.corner)) ((L ++ [x]).map fun x => (x.loops : Int)) ((L ++ [x]).map fun x => (x.length : Int)) s'.loop _ _ _ _ vk (.slice aW ps.length cW) ps Wk from by
              have e1 : wordS (L ++ [x]) = wordS L ++ ⟨#[76]⟩ := by rw [wordS_snoc9, Hlet.out]; rfl
              have e2 : (c : Int) :: (L ++ [x]).map (·.corner) = (c : Int) :: L.map (·.corner) ++ [(d : Int)] := by simp [Hxc.out]
              have e3 : ((L ++ [x]).map fun x => (x.loops : Int)) = (L.map fun x => (x.loops : Int)) ++ [(ps.length : Int)] := by simp [Hxo.out, Hps.out]
              have e4 : ((L ++ [x]).map fun x => (x.length : Int)) = (L.map fun x => (x.length : Int)) ++ [(m : Int)] := by simp [Hxl.out, HLL.out]
              rw [e1, e2, e3, e4, Hs'.out]
              exact HJ7.out)
            go_roundg (gk - 1)
            case measure => omega
            case rel => exact ⟨L ++ [x], s', ps, _, _, _, _, HR'.out, by rw [Hs'.out]; exact Hpw.out, by simp; omega, HJ8.out⟩
          · have hz0 : 0 ≤ Lib.idxOf s.come u := by rw [hzq]; simpa using hin
            obtain ⟨z, hz⟩ : ∃ z, Lib.idxOf s.come u = z := ⟨_, rfl⟩
            have hzn : ¬ z < 0 := by omega
            have HPk := Lib.hid (show Calls Tryz.prog 56 #[.slice (some ⟨gl, 0, none⟩) m cv, .int .i64 u] W4 (fun e w' => e = .returned (.int .i64 2) ∧ w' = W4) from by
              have h1 := place_any (.slice (some ⟨gl, 0, none⟩) m cv) s.loop u W4 (IntsRd.of_row (xs := s.loop) HJ4.out.rL rfl) (by rw [HM.out]; omega)
              have h2 : Lib.idxOf s.loop u = 2 := by rw [Hloop.out, hi2]
              rw [h2] at h1
              exact h1)
            rw [hz] at HPl
            have Hs' := Lib.hid hs'
            have Hlet := Lib.hid hlet
            have hm3f : ((m : Int) == 3) = false := by have := HLL.out; simp; omega
            have hcapL : m ≤ cv := by have := HJ4.out.rL; rw [HM.out] at this; exact own_cap9 this
            have hm1n : 1 ≤ m := by omega
            have hm2n : 4 ≤ m := by have := HLL.out; have := Hr3.out; omega
            have hm2f : ((2 : Int) == (m : Int) - 1) = false := by have := HLL.out; simp; omega
            clear hzq hz hin hlet hs' hi1 hi2 hr1 hz0
            obtain ⟨lq, c0, f0, c1, f1, c2, f2, c3, f3, c4, f4⟩ := five9 HJ4.out.out
            go_upto_region 17 with (go_at_call 56; refine HPl.out.mono ?_; rintro e Wp ⟨rfl, hWp⟩; replace hWp := hWp.symm; subst hWp)
            go_upto_region 24 with (go_at_call 56; refine HPk.out.mono ?_; rintro e Wp ⟨rfl, hWp⟩; replace hWp := hWp.symm; subst hWp)
            go_upto_region 27 with fail
            go_upto_region 29 with fail
            have HJ6 := Lib.hid (HJ4.out.word (wordS L ++ ⟨#[82]⟩))
            clear lq c0 f0 c1 f1 c2 f2 c3 f3 c4 f4
            generalize W4.setCell _ _ = W6 at *
            have HPt := Lib.hid (fun (W : World) (hW : Below W6.heap.size W6 W) => (show IntsRd W (.slice (some ⟨gl, 2, none⟩) (m - 2) (cv - 2)) r from by
              have := (HJ6.out.below' hW).partL HM.out 2 (m - 2) (cv - 2) (by omega)
              have e : (s.loop.drop 2).take (m - 2) = r := by rw [Hloop.out]; exact List.take_of_length_le (by have := HLL.out; simp; omega)
              rw [e] at this
              exact this))
            have hlp : r.length ≤ 100000 := by have := HLL.out; omega
            have hln : r ≠ [] := fun e => by have := Hr3.out; rw [e] at this; simp at this
            obtain ⟨hc0, hgl⟩ := HJ6.out.cellL HM.out 0 (x := a0) (by rw [Hloop.out]; rfl)
            have hbs6 := HJ6.out.below.size
            have hm2m : 2 ≤ m := by omega
            go_region_with (go_at_call 57; have hb6 := ((Below.refl W6.heap.size W6).alloc (Nat.le_refl _) (.cells #[.int .i64 a0] 3)).drew; refine (join_any _ _ [a0] r _ (IntsRd.one (Blk.new W6 _ _).drew) (HPt.out _ hb6) (by simp) (.inl hln) (by simp) hlp).mono ?_; rintro e Wk ⟨vk, rfl, hrk, hbk⟩; have HJ7 := Lib.hid (HJ6.out.loop (hb6.trans (hbk.mono hb6.size)) (own_base hrk hb6.size) (by simp)); clear hrk hbk hb6)
            all_goals
              go_wp2
              have HJ8 := Lib.hid (show RfS w (.slice (some ⟨b, o, none⟩) F cc) n (wc.heap.size + 1 + 1) (wordS (L ++ [x])) s'.come ((c : Int) :: (L ++ [x]).map (·.corner)) ((L ++ [x]).map fun x => (x.loops : Int)) ((L ++ [x]).map fun x => (x.length : Int)) s'.loop _ _ _ _ vk (.slice aW ps.length cW) ps Wk from by
                have e1 : wordS (L ++ [x]) = wordS L ++ ⟨#[82]⟩ := by rw [wordS_snoc9, Hlet.out]; rfl
                have e2 : (c : Int) :: (L ++ [x]).map (·.corner) = (c : Int) :: L.map (·.corner) ++ [(d : Int)] := by simp [Hxc.out]
                have e3 : ((L ++ [x]).map fun x => (x.loops : Int)) = (L.map fun x => (x.loops : Int)) ++ [(ps.length : Int)] := by simp [Hxo.out, Hps.out]
                have e4 : ((L ++ [x]).map fun x => (x.length : Int)) = (L.map fun x => (x.length : Int)) ++ [(m : Int)] := by simp [Hxl.out, HLL.out]
                rw [e1, e2, e3, e4, Hs'.out]
                exact HJ7.out)
              go_roundg (gk - 1)
              case measure => omega
              case rel => exact ⟨L ++ [x], s', ps, _, _, _, _, HR'.out, by rw [Hs'.out]; exact Hpw.out, by simp; omega, HJ8.out⟩
          · have hz0 : 0 ≤ Lib.idxOf s.come u := by rw [hzq]; simpa using hin
            obtain ⟨z, hz⟩ : ∃ z, Lib.idxOf s.come u = z := ⟨_, rfl⟩
            have hzn : ¬ z < 0 := by omega
            obtain ⟨ik, hik⟩ : ∃ ik : Nat, Lib.idxOf (a0 :: b0 :: r) u = (ik : Int) := ⟨(Lib.idxOf (a0 :: b0 :: r) u).toNat, by omega⟩
            have hikm : ik < m := by have h9 := idxOf_le u (a0 :: b0 :: r); rw [hik] at h9; have := HLL.out; simp at h9; omega
            rw [hik] at hi1 hi2 hs'
            have HPk := Lib.hid (show Calls Tryz.prog 56 #[.slice (some ⟨gl, 0, none⟩) m cv, .int .i64 u] W4 (fun e w' => e = .returned (.int .i64 (ik : Int)) ∧ w' = W4) from by
              have h1 := place_any (.slice (some ⟨gl, 0, none⟩) m cv) s.loop u W4 (IntsRd.of_row (xs := s.loop) HJ4.out.rL rfl) (by rw [HM.out]; omega)
              rw [Hloop.out, hik] at h1
              exact h1)
            rw [hz] at HPl
            have hm3f : ((m : Int) == 3) = false := by have := HLL.out; simp; omega
            have hcapL : m ≤ cv := by have := HJ4.out.rL; rw [HM.out] at this; exact own_cap9 this
            have hm1n : 1 ≤ m := by omega
            have hik3 : 3 ≤ ik := by omega
            have hik1 : ik < m - 1 := by have := HLL.out; omega
            have him1f : ((ik : Int) == (m : Int) - 1) = false := by simp; omega
            have hi2f : ((ik : Int) == 2) = false := by simp; omega
            rw [Int.toNat_natCast] at hs'
            have Hs' := Lib.hid hs'
            have Hlet := Lib.hid hlet
            clear hzq hz hin hlet hs' hi1 hi2 hr1 hz0 hik
            obtain ⟨lq, c0, f0, c1, f1, c2, f2, c3, f3, c4, f4⟩ := five9 HJ4.out.out
            go_upto_region 17 with (go_at_call 56; refine HPl.out.mono ?_; rintro e Wp ⟨rfl, hWp⟩; replace hWp := hWp.symm; subst hWp)
            go_upto_region 24 with (go_at_call 56; refine HPk.out.mono ?_; rintro e Wp ⟨rfl, hWp⟩; replace hWp := hWp.symm; subst hWp)
            go_upto_region 27 with fail
            go_upto_region 30 with fail
            go_upto_region 31 with fail
            have HJ6 := Lib.hid (HJ4.out.word (wordS L ++ ⟨#[83]⟩))
            clear lq c0 f0 c1 f1 c2 f2 c3 f3 c4 f4
            generalize W4.setCell _ _ = W6 at *
            have HPt := Lib.hid (fun (W : World) (hW : Below W6.heap.size W6 W) => (show IntsRd W (.slice (some ⟨gl, 1, none⟩) (ik - 1) (cv - 1)) ((b0 :: r).take (ik - 1)) from by
              have := (HJ6.out.below' hW).partL HM.out 1 (ik - 1) (cv - 1) (by omega)
              rw [Hloop.out] at this
              exact this))
            have hln : (b0 :: r).take (ik - 1) ≠ [] := by
              intro e
              have h9 := congrArg List.length e
              rw [List.length_take] at h9
              simp only [List.length_cons, List.length_nil] at h9
              omega
            have hlp : ((b0 :: r).take (ik - 1)).length ≤ 100000 := by rw [List.length_take]; omega
            have hbs6 := HJ6.out.below.size
            obtain ⟨isl, hisl, asl0, asl1, asl2⟩ := info_parts infoInts
            have hps9 : ps.length ≤ 200 := hp3
            go_upto_region 32 with (first
              | (go_at_call 57; have hb6 := (Below.refl W6.heap.size W6).alloc (Nat.le_refl _) (.cells #[.int .i64 u] 3); go_loud (refine (join_any _ _ [u] ((b0 :: r).take (ik - 1)) _ (IntsRd.one (Blk.new W6 _ _)) (HPt.out _ hb6) (by simp) (.inl hln) (by simp) hlp).mono ?_); rintro e Wk ⟨vk, rfl, hrk, hbk⟩; have hbq := hb6.trans (hbk.mono hb6.size); have HJ7 := Lib.hid (HJ6.out.below' hbq); have HRk := Lib.hid (own_base (base' := W6.heap.size) hrk hb6.size); have HBq := Lib.hid hbq; obtain ⟨gk9, capk, rfl, -, -⟩ := hrk.form (by simp); have hbqs := hbq.size; clear hrk hbk hb6 hbq; generalize hnk : ([u] ++ (b0 :: r).take (ik - 1)).length = nk at *; have HNk := Lib.hid hnk; clear hnk)
              | (at_builtin; go_loud (refine wpList_append_lies _ rfl (.tmp 169) (.tmp 176) 98 rfl w.heap.size 28 isl _ 1 24 Tryz.underlying98 hisl asl0 asl1 asl2 rfl (by decide) _ _ _ rfl (HJ7.out.alloc (.cells #[.slice (some ⟨gk9, 0, none⟩) nk capk] 28)).wait ⟨Wk.heap.size, 0, none⟩ 1 1 [.slice (some ⟨gk9, 0, none⟩) nk capk] rfl rfl (World.news_of_block (heap_alloc_new _ _)) (by simp [Value.oneCell']) (by decide) (by unfold maxLen; omega) (by omega) (by simp; omega) _ rfl ?_); intro g8 cap8 W8 hr8 hg8 hat8 hlt8; have HR8 := Lib.hid hr8; have HG8 := Lib.hid hg8; clear hr8 hg8 hat8))
            have HJ9 := Lib.hid (HJ6.out.push (W1 := Wk) (l' := [u] ++ (b0 :: r).take (ik - 1)) HBq.out (by rw [HNk.out]; exact HRk.out) HG8.out HR8.out rfl)
            clear HJ7 HRk HBq HG8 HR8 hlt8 HPt hln hlp
            have hbs8 := HJ9.out.below.size
            have HPt := Lib.hid (fun (W : World) (hW : Below W8.heap.size W8 W) => (show IntsRd W (.slice (some ⟨gl, ik, none⟩) (m - ik) (cv - ik)) ((a0 :: b0 :: r).drop ik) from by
              have := (HJ9.out.below' hW).partL HM.out ik (m - ik) (cv - ik) (by omega)
              have e : (s.loop.drop ik).take (m - ik) = (a0 :: b0 :: r).drop ik := by rw [Hloop.out]; exact List.take_of_length_le (by have := HLL.out; simp; omega)
              rw [e] at this
              exact this))
            have hlp : ((a0 :: b0 :: r).drop ik).length ≤ 100000 := by have := HLL.out; simp; omega
            have hln : (a0 :: b0 :: r).drop ik ≠ [] := by
              intro e
              have h9 := congrArg List.length e
              rw [List.length_drop] at h9
              simp only [List.length_cons, List.length_nil] at h9
              have := HLL.out
              omega
            obtain ⟨hc0, hgl⟩ := HJ9.out.cellL HM.out 0 (x := a0) (by rw [Hloop.out]; rfl)
            have hikI : (ik : Int) ≤ (m : Int) := by omega
            have hikm2 : ik ≤ m := by omega
            have hcvik : ¬ cv = ik := by omega
            have hcapI : (m : Int) ≤ (cv : Int) := by omega
            go_region_held3 (fun w' => w'.cell? ⟨gl, 0, none⟩ = some (.int .i64 a0)) (first | go_keep | (exact (HBz.out.cell (p := ⟨gl, 0, none⟩) (by simp; omega)).trans (by assumption)))
              (first
              | (go_at_call 57; have hb6 := ((Below.refl W8.heap.size W8).alloc (Nat.le_refl _) (.cells #[.int .i64 a0] 3)).drew; refine (join_any _ _ [a0] ((a0 :: b0 :: r).drop ik) _ (IntsRd.one (Blk.new W8 _ _).drew) (HPt.out _ hb6) (by simp) (.inl hln) (by simp) hlp).mono ?_; rintro e Wq ⟨vk, rfl, hrk, hbk⟩; have HJ10 := Lib.hid (HJ9.out.loop (hb6.trans (hbk.mono hb6.size)) (own_base hrk hb6.size) (by simp)); obtain ⟨gq9, capq, rfl, -, -⟩ := hrk.form (by simp); have HBz := Lib.hid hbk; clear hrk hbk hb6))
            all_goals
              go_wp2
              have HJ8 := Lib.hid (show RfS w (.slice (some ⟨b, o, none⟩) F cc) n (wc.heap.size + 1 + 1) (wordS (L ++ [x])) s'.come ((c : Int) :: (L ++ [x]).map (·.corner)) ((L ++ [x]).map fun x => (x.loops : Int)) ((L ++ [x]).map fun x => (x.length : Int)) s'.loop _ _ _ _ _ (.slice (some ⟨g8, 0, none⟩) (ps.length + 1) cap8) (ps ++ [(.slice (some ⟨gk9, 0, none⟩) nk capk, [u] ++ (b0 :: r).take (ik - 1))]) _ from by
                have e1 : wordS (L ++ [x]) = wordS L ++ ⟨#[83]⟩ := by rw [wordS_snoc9, Hlet.out]; rfl
                have e2 : (c : Int) :: (L ++ [x]).map (·.corner) = (c : Int) :: L.map (·.corner) ++ [(d : Int)] := by simp [Hxc.out]
                have e3 : ((L ++ [x]).map fun x => (x.loops : Int)) = (L.map fun x => (x.loops : Int)) ++ [(ps.length : Int)] := by simp [Hxo.out, Hps.out]
                have e4 : ((L ++ [x]).map fun x => (x.length : Int)) = (L.map fun x => (x.length : Int)) ++ [(m : Int)] := by simp [Hxl.out, HLL.out]
                rw [e1, e2, e3, e4, Hs'.out]
                exact HJ10.out)
              go_roundg (gk - 1)
              case measure => omega
              case rel => exact ⟨L ++ [x], s', ps ++ [(.slice (some ⟨gk9, 0, none⟩) nk capk, [u] ++ (b0 :: r).take (ik - 1))], _, _, _, _, HR'.out, by rw [Hs'.out, ← Hpw.out]; simp, by simp; omega, by have h9 := HJ8.out; simp only [List.singleton_append, List.length_cons, List.length_drop] at h9; exact h9⟩
end Go.Proofs.YtghlnknncahkgaaGreat
/-
  gypsumref13.Of, by walking its text: all numbers are 0 just if the triangles hang together.
-/
namespace Go.Proofs.YtghlnknncahkgaaGreat
open Go.RowKit Go.Maps

def gt (l : List Int) (j : Nat) : Int := l.getD j 0
theorem gt_set {l : List Int} {i : Nat} (x : Int) (h : i < l.length) : gt (l.set i x) = updN (gt l) i x := by
  funext j
  unfold gt updN
  rw [List.getD_eq_getElem?_getD, List.getElem?_set]
  by_cases e : i = j
  · subst e
    rw [if_pos rfl, if_pos h, if_pos rfl]
    rfl
  · rw [if_neg e, if_neg (fun h => e h.symm)]
    exact (List.getD_eq_getElem?_getD).symm
/-- The labels while they sink. -/
structure OF (w : World) (F : Nat) (N : Int) (vT : Value) (g : Nat) (out : List Int) (W : World) : Prop where
  row : W.ownsRow w.heap.size 3 1 (.slice (some ⟨g, 0, none⟩) F F) F (intsV out)
  len : out.length = F
  soup : Blk W w.heap.size 24 #[.int .i64 N, vT]
  below : Below w.heap.size w W
section
variable {w W W' : World} {F : Nat} {N : Int} {vT : Value} {g : Nat} {out : List Int}
theorem OF.le (h : OF w F N vT g out W) (hb : Below W.heap.size W W') : OF w F N vT g out W' := ⟨own_below9 h.row hb, h.len, h.soup.below hb h.soup.lt, h.below.trans (hb.mono h.below.size)⟩
theorem cell_gt {base : Nat} {xs : List Int} {n : Nat} (h : W.ownsRow base 3 1 (.slice (some ⟨g, 0, none⟩) n n) n (intsV xs)) (hl : xs.length = n) {i : Nat} (hi : i < n) : W.cell? ⟨g, i, none⟩ = some (.int .i64 (gt xs i)) := by
  rw [h.cellAt i (by omega), intsV, List.getElem?_map]
  have : i < xs.length := by omega
  rw [List.getElem?_eq_getElem this]
  unfold gt
  rw [List.getD_eq_getElem?_getD, List.getElem?_eq_getElem this]
  rfl
theorem OF.lt (h : OF w F N vT g out W) : g < W.heap.size := (h.row.lt g rfl).2
theorem OF.cell (h : OF w F N vT g out W) {i : Nat} (hi : i < F) : W.cell? ⟨g, i, none⟩ = some (.int .i64 (gt out i)) ∧ W.frozen? ⟨g, i, none⟩ = false :=
  ⟨cell_gt h.row h.len hi, h.row.frozenAt i⟩
theorem OF.put (h : OF w F N vT g out W) (i : Nat) (x : Int) : OF w F N vT g (out.set i x) (W.setCell ⟨g, i, none⟩ (.int .i64 x)) := by
  obtain ⟨k1, k2⟩ := h.row.stored i (.int .i64 x)
  rw [intsV_set] at k1
  refine ⟨k1, by rw [List.length_set]; exact h.len, ?_, h.below.grown k2 h.below.size (fun k e => (h.row.lt k e).1)⟩
  refine h.soup.grown k2 (fun e => own_blk_ne h.row h.soup (by decide) e.symm)
end
theorem lab_start {F : Nat} {R : Nat → Nat → Prop} {out : List Int} (h : ∀ j, j < F → gt out j = j) : Lab F R (gt out) :=
  ⟨fun i hi => by rw [h i hi]; omega, fun S _ i hi hs => by rw [h i hi] at hs; simpa using hs⟩
theorem zs_more {F : Nat} {R : Nat → Nat → Prop} {p o : Nat → Int} (h : Rnd F R p o F 0) (hp : Lab F R p) (hF : 0 < F) (hH : Hang F R) {q : Nat} (hz : min (q + 1) F ≤ zs F p) : min (q + 2) F ≤ zs F o := by
  rcases Nat.lt_or_ge (q + 1) F with e | e
  · have := h.more hp hF hH (r := q + 1) (by omega) e
    omega
  · have := h.more hp hF hH (r := F - 1) (by omega) (by omega)
    omega
set_option maxRecDepth 100000 in
set_option maxHeartbeats 8000000 in
theorem of13_any (N : Int) (v : Value) (T : List Tr) (w : World) (h : TrisRd w v T) (hl : T.length ≤ 40) : Calls Tryz.prog 54 #[.agg #[.int .i64 N, v]] w fun e w' =>
    ∃ v' nums, e = .returned v' ∧ w'.ownsRow w.heap.size 3 1 v' T.length (intsV nums) ∧ nums.length = T.length ∧ (0 < T.length → ((∀ j, j < T.length → gt nums j = 0) ↔ Hang T.length (NbT T))) ∧ Below w.heap.size w w' := by
  obtain ⟨i1, hi', hy0, hy1, hy2⟩ := info_parts infoInt
  have b1 := Blk.new w 24 #[.int .i64 N, v]
  have hB0 : Below w.heap.size w (w.alloc (.cells #[.int .i64 N, v] 24)) := (Below.refl _ _).alloc (Nat.le_refl _) _
  obtain ⟨l0, x0, -, x1, -⟩ := b1.two
  obtain ⟨ad, c, rfl, hc1, hc2, hr⟩ := h
  have HRr : Hid (∀ i, i < T.length → ∃ x y z b o, trs T i = (x, y, z) ∧ ad = some ⟨b, o, none⟩ ∧ b < w.heap.size ∧ w.cell? ⟨b, o + i * 3, none⟩ = some (.int .i64 x) ∧ w.cell? ⟨b, o + i * 3 + 1, none⟩ = some (.int .i64 y) ∧ w.cell? ⟨b, o + i * 3 + 2, none⟩ = some (.int .i64 z)) := Lib.hid (fun i hi => by
    obtain ⟨⟨x, y, z⟩, ht⟩ : ∃ t, T[i]? = some t := ⟨T[i], List.getElem?_eq_getElem _⟩
    obtain ⟨b, o, e, hb, s0, s1, s2⟩ := hr i x y z ht
    exact ⟨x, y, z, b, o, by unfold trs; rw [List.getD_eq_getElem?_getD, ht]; rfl, e, hb, s0, s1, s2⟩)
  obtain ⟨R, hR⟩ : ∃ R, NbT T = R := ⟨_, rfl⟩
  have HNb : Hid (∀ i k, R i k ↔ Nb (trs T i) (trs T k)) := Lib.hid (fun i k => by rw [← hR]; exact Iff.rfl)
  rw [hR]
  obtain ⟨n, hn⟩ : ∃ n, T.length = n := ⟨_, rfl⟩
  rw [hn] at hl hc1 x0 x1 hB0 b1 l0 HRr ⊢
  have HC := Lib.hid neigh13_any
  clear hr hn hR
  go_enter Tryz.func54, Tryz.ntmps54
  go_wp2_with (at_make; refine wpList_make_full _ rfl (.tmp 12) (.tmp 12) 28 rfl w.heap.size 3 i1 _ 1 Tryz.underlying28 hi' hy0 hy1 .i64 .i64 _ _ n rfl rfl rfl rfl (by rw [hy2]; omega) (by unfold maxLen; omega) (by rw [size_alloc']; omega) ?_; intro w1 hr1 hg1; have k1 := b1.grown hg1 (by simp); obtain ⟨l1, y0, -, y1, -⟩ := k1.two)
  have hz : (madeCells (Value.int IntKind.i64 0).cells (n * 1)).toList = intsV (List.replicate n 0) := by
    rw [Nat.mul_one]
    show (madeCells #[Value.int IntKind.i64 0] n).toList = _
    rw [toList_madeCells_one]
    simp [intsV]
  rw [hz, size_alloc'] at hr1
  have hO : OF w n N (.slice ad n c) (w.heap.size + 1) (List.replicate n 0) w1 := ⟨hr1, by simp, k1, hB0.grown hg1 (by rw [size_alloc']; omega) (fun j e => by cases e)⟩
  have HO := Lib.hid hO
  clear hr1 hg1 k1 b1 x0 x1 l0 hB0 hO hz y0 y1 l1
  generalize hg : w.heap.size + 1 = g at *
  clear hg
  go_loopw [4] (fun i wr => ∃ (k : Nat) (out : List Int), k ≤ n ∧ i = .int .i64 k ∧ OF w n N (.slice ad n c) g out wr ∧ ∀ j, j < k → gt out j = j) (fun i _ => n - (intOf i).toNat)
  case atStart => exact ⟨0, _, Nat.zero_le _, rfl, HO.out, fun _ h => absurd h (by omega)⟩
  case round =>
    obtain ⟨k, out, hk, rfl, hO, hid⟩ := hrel
    rename World => wr
    clear HO
    have HO := Lib.hid hO
    have HId := Lib.hid hid
    clear hid
    by_cases hlt : k < n
    · have hk3 : (k : Int) < (n : Int) := by omega
      have hk0 : (0 : Int) ≤ (k : Int) := by omega
      obtain ⟨c0, f0⟩ := hO.cell hlt
      clear hO
      go_wp2
      go_roundw
      case measure => simp [intOf]; omega
      case rel =>
        refine ⟨k + 1, _, by omega, by go_num, HO.out.put k _, fun j hj => ?_⟩
        rw [gt_set _ (by rw [HO.out.len]; exact hlt)]
        unfold updN
        by_cases e : j = k
        · rw [if_pos e, e]
        · rw [if_neg e]; exact HId.out j (by omega)
    · obtain rfl : k = n := by omega
      clear hO hk hlt
      go_wp2
      rename World => wS
      go_loopw [26] (fun i wr => ∃ (q : Nat) (out : List Int), q ≤ k ∧ i = .int .i64 q ∧ OF w k N (.slice ad k c) g out wr ∧ Lab k R (gt out) ∧ (0 < k → Hang k R → min (q + 1) k ≤ zs k (gt out))) (fun i _ => k - (intOf i).toNat)
      case atStart => exact ⟨0, out, Nat.zero_le _, rfl, HO.out, lab_start HId.out, fun hk _ => by have := (lab_start (R := R) HId.out).one hk; omega⟩
      case round =>
        clear HO HId
        obtain ⟨q, out, hq, rfl, hO, hLab, hZ⟩ := hrel
        rename World => wA
        have HO := Lib.hid hO
        have HLab := Lib.hid hLab
        have HZ := Lib.hid hZ
        clear hO hLab hZ
        by_cases hqn : q < k
        · have hq3 : (q : Int) < (k : Int) := by omega
          obtain ⟨p, hp⟩ : ∃ p, gt out = p := ⟨_, rfl⟩
          have HP := Lib.hid hp
          clear hp
          go_wp2
          go_loopw [5] (fun i wr => ∃ (i1 : Nat) (out : List Int), i1 ≤ k ∧ i = .int .i64 i1 ∧ OF w k N (.slice ad k c) g out wr ∧ Rnd k R p (gt out) i1 0) (fun i _ => k - (intOf i).toNat)
          case atStart => exact ⟨0, out, Nat.zero_le _, rfl, HO.out, by rw [HP.out]; exact Rnd.begin_ (by rw [← HP.out]; exact HLab.out)⟩
          case round =>
            clear HO
            obtain ⟨i1, out1, hi1, rfl, hO, hRn⟩ := hrel
            rename World => wB
            have HO := Lib.hid hO
            have HRn := Lib.hid hRn
            clear hO hRn
            by_cases hin : i1 < k
            · have hi3 : (i1 : Int) < (k : Int) := by omega
              have hi0 : (0 : Int) ≤ (i1 : Int) := by omega
              go_wp2
              go_loopw [6] (fun i wr => ∃ (k1 : Nat) (out : List Int), k1 ≤ k ∧ i = .int .i64 k1 ∧ OF w k N (.slice ad k c) g out wr ∧ Rnd k R p (gt out) i1 k1) (fun i _ => k - (intOf i).toNat)
              case atStart => exact ⟨0, out1, Nat.zero_le _, rfl, HO.out, HRn.out⟩
              case round =>
                clear HO HRn
                obtain ⟨k1, out2, hk1, rfl, hO, hRn⟩ := hrel
                rename World => wC
                have HO := Lib.hid hO
                have HRn := Lib.hid hRn
                clear hO hRn
                by_cases hkn : k1 < k
                · have hk3 : (k1 : Int) < (k : Int) := by omega
                  have hk0 : (0 : Int) ≤ (k1 : Int) := by omega
                  obtain ⟨ci, fi⟩ := HO.out.cell hin
                  obtain ⟨ck, -⟩ := HO.out.cell hkn
                  obtain ⟨li, hli⟩ : ∃ z, gt out2 i1 = z := ⟨_, rfl⟩
                  obtain ⟨lk, hlk⟩ : ∃ z, gt out2 k1 = z := ⟨_, rfl⟩
                  rw [hli] at ci
                  rw [hlk] at ck
                  have Hli := Lib.hid hli
                  have Hlk := Lib.hid hlk
                  clear hli hlk
                  obtain ⟨ls, s0, -, s1, -⟩ := HO.out.soup.two
                  by_cases hlt : lk < li
                  · obtain ⟨x, y, z, b, o, ht, rfl, hbl, r0, r1, r2⟩ := HRr.out i1 hin
                    obtain ⟨x', y', z', b', o', hu, e2, hbl', t0, t1, t2⟩ := HRr.out k1 hkn
                    cases e2
                    have r0' := (HO.out.below.cell (p := ⟨b, _, none⟩) hbl).trans r0
                    have r1' := (HO.out.below.cell (p := ⟨b, _, none⟩) hbl).trans r1
                    have r2' := (HO.out.below.cell (p := ⟨b, _, none⟩) hbl).trans r2
                    have t0' := (HO.out.below.cell (p := ⟨b, _, none⟩) hbl).trans t0
                    have t1' := (HO.out.below.cell (p := ⟨b, _, none⟩) hbl).trans t1
                    have t2' := (HO.out.below.cell (p := ⟨b, _, none⟩) hbl).trans t2
                    have HNm := Lib.hid (show R i1 k1 ↔ Nb (x, y, z) (x', y', z') by rw [HNb.out, ht, hu])
                    clear r0 r1 r2 t0 t1 t2 ht hu
                    have hlt' : decide (lk < li) = true := by simpa using hlt
                    have hszC := HO.out.below.size
                    have hgC := HO.out.lt
                    have hbl2 : b < wC.heap.size := by omega
                    clear fi
                    go_upto_region 14 with fail
                    go_cut [61] (fun v61 W => ∃ b1 : Bool, v61 = .bool b1 ∧ (b1 = true ↔ Nb (x, y, z) (x', y', z')) ∧ Below wC.heap.size wC W)
                    case first =>
                      go_region_held3 (fun w' => w'.cell? ⟨g, k1, none⟩ = some (.int .i64 lk) ∧ w'.cell? ⟨g, i1, none⟩ = some (.int .i64 li) ∧ w'.cell? ⟨w.heap.size, 1, none⟩ = some (.slice (some ⟨b, o, none⟩) k c) ∧ w'.cell? ⟨b, o + i1 * 3, none⟩ = some (.int .i64 x) ∧ w'.cell? ⟨b, o + i1 * 3 + 1, none⟩ = some (.int .i64 y) ∧ w'.cell? ⟨b, o + i1 * 3 + 2, none⟩ = some (.int .i64 z) ∧ w'.cell? ⟨b, o + k1 * 3, none⟩ = some (.int .i64 x') ∧ w'.cell? ⟨b, o + k1 * 3 + 1, none⟩ = some (.int .i64 y') ∧ w'.cell? ⟨b, o + k1 * 3 + 2, none⟩ = some (.int .i64 z')) (go_keep)
                        (first
                          | (go_at_call 83; refine (HC.out _ _ _ _ _ _ _).mono ?_; rintro e w3 ⟨b1, rfl, hiff, hb3⟩; have HI3 := Lib.hid hiff; clear hiff; have q0 := (hb3.cell (p := ⟨g, k1, none⟩) hgC).trans ck; have q1 := (hb3.cell (p := ⟨g, i1, none⟩) hgC).trans ci; have q2 := (hb3.cell (p := ⟨w.heap.size, 1, none⟩) ls).trans s1; have q3 := (hb3.cell (p := ⟨b, o + i1 * 3, none⟩) hbl2).trans r0'; have q4 := (hb3.cell (p := ⟨b, o + i1 * 3 + 1, none⟩) hbl2).trans r1'; have q5 := (hb3.cell (p := ⟨b, o + i1 * 3 + 2, none⟩) hbl2).trans r2'; have q6 := (hb3.cell (p := ⟨b, o + k1 * 3, none⟩) hbl2).trans t0'; have q7 := (hb3.cell (p := ⟨b, o + k1 * 3 + 1, none⟩) hbl2).trans t1'; have q8 := (hb3.cell (p := ⟨b, o + k1 * 3 + 2, none⟩) hbl2).trans t2'))
                      all_goals
                        go_wp2_with fail
                        go_meet
                        exact ⟨_, rfl, HI3.out, ⟨hb3.os, hb3.tape, hb3.output, hb3.size, hb3.block⟩⟩
                    case rest =>
                      obtain ⟨b1, rfl, hiff, hbC⟩ := hcut
                      have HOc := Lib.hid (HO.out.le hbC)
                      have HI := Lib.hid (hiff.symm.trans Iff.rfl)
                      clear hiff hbC ci ck r0' r1' r2' t0' t1' t2' s0 s1
                      obtain ⟨ci, fi⟩ := HOc.out.cell hin
                      obtain ⟨ck, -⟩ := HOc.out.cell hkn
                      rw [Hli.out] at ci
                      rw [Hlk.out] at ck
                      cases b1
                      · have HR2 := Lib.hid (HRn.out.skip hkn (fun hh => by have := HI.out.1 (HNm.out.1 hh.2); cases this))
                        clear fi ci ck
                        go_wp2
                        go_roundw
                        case measure => simp [intOf]; omega
                        case rel => exact ⟨k1 + 1, out2, by omega, by go_num, HOc.out, HR2.out⟩
                      · have HR2 := Lib.hid (HRn.out.take hin hkn (by rw [Hli.out, Hlk.out]; exact hlt) (HNm.out.2 (HI.out.2 rfl)))
                        go_wp2
                        go_roundw
                        case measure => simp [intOf]; omega
                        case rel =>
                          refine ⟨k1 + 1, _, by omega, by go_num, HOc.out.put i1 lk, ?_⟩
                          rw [gt_set _ (by rw [HO.out.len]; exact hin), ← Hlk.out]
                          exact HR2.out
                  · have hlt' : decide (lk < li) = false := by simpa using hlt
                    have HR2 := Lib.hid (HRn.out.skip hkn (fun hh => hlt (by rw [← Hlk.out, ← Hli.out]; exact hh.1)))
                    clear hlt fi
                    go_wp2
                    go_quiet (fail)
                    go_wp2
                    go_roundw
                    case measure => simp [intOf]; omega
                    case rel => exact ⟨k1 + 1, out2, by omega, by go_num, HO.out.le (below_dn (Below.refl _ _) _), HR2.out⟩
                · obtain rfl : k1 = k := by omega
                  go_wp2
                  go_roundw
                  case measure => simp [intOf]; omega
                  case rel => exact ⟨i1 + 1, out2, by omega, by go_num, HO.out, HRn.out.row⟩
            · obtain rfl : i1 = k := by omega
              go_wp2
              go_roundw
              case measure => simp [intOf]; omega
              case rel => exact ⟨q + 1, out1, by omega, by go_num, HO.out, HRn.out.lab, fun h0 hH => zs_more HRn.out (by rw [← HP.out]; exact HLab.out) h0 hH (by rw [← HP.out]; exact HZ.out h0 hH)⟩
        · obtain rfl : q = k := by omega
          have HZ2 := Lib.hid (show 0 < q → (Hang q R → q ≤ zs q (gt out)) from fun h0 hH => by have := HZ.out h0 hH; omega)
          have hgl := HO.out.lt
          have hszA := HO.out.below.size
          obtain ⟨ls, s0, -, s1, -⟩ := HO.out.soup.two
          have hlA : w.heap.size < wA.heap.size := ls
          clear HZ
          go_wp2_with (at_make; refine wpList_make_full _ rfl (.tmp 71) (.tmp 71) 28 rfl wA.heap.size 3 i1 _ 1 Tryz.underlying28 hi' hy0 hy1 .i64 .i64 _ _ q rfl rfl rfl rfl (by rw [hy2]; omega) (by unfold maxLen; omega) (Nat.le_refl _) ?_; intro w2 hr2 hg2; have hbm := below_of_grown hg2 (Nat.le_refl _) (fun j e => by cases e))
          have hz : (madeCells (Value.int IntKind.i64 0).cells (q * 1)).toList = intsV (List.replicate q 0) := by
            rw [Nat.mul_one]
            show (madeCells #[Value.int IntKind.i64 0] q).toList = _
            rw [toList_madeCells_one]
            simp [intsV]
          rw [hz] at hr2
          have HO2 := Lib.hid (HO.out.le hbm)
          have Hr2 := Lib.hid hr2
          have hz2 := hbm.size
          clear hr2 hg2 hbm HO s0 s1 ls hz
          go_loopw [8, 9] (fun v8 i wr => ∃ (k1 : Nat) (many : Int) (nums : List Int), k1 ≤ q ∧ i = .int .i64 k1 ∧ v8 = .int .i64 many ∧ OF w q N (.slice ad q c) g out wr ∧ wr.ownsRow wA.heap.size 3 1 (.slice (some ⟨wA.heap.size, 0, none⟩) q q) q (intsV nums) ∧ nums.length = q ∧ Num q (gt out) k1 many (gt nums) ∧ 0 ≤ many ∧ many ≤ k1) (fun _ i _ => q - (intOf i).toNat)
          case atStart => exact ⟨0, 0, _, Nat.zero_le _, rfl, rfl, HO2.out, Hr2.out, by simp, Num.begin_ _ _, by omega, by omega⟩
          case round =>
            clear HO2 Hr2
            obtain ⟨k1, many, nums, hk1, rfl, rfl, hO, hrow, hnl, hNum, hm0, hm1⟩ := hrel
            rename World => wB
            have HO := Lib.hid hO
            have HNum := Lib.hid hNum
            have Hrow := Lib.hid hrow
            clear hO hNum hrow
            by_cases hkn : k1 < q
            · have hk3 : (k1 : Int) < (q : Int) := by omega
              have hk0 : (0 : Int) ≤ (k1 : Int) := by omega
              obtain ⟨ci, fi⟩ := HO.out.cell hkn
              have fn := Hrow.out.frozenAt k1
              have cn0 := cell_gt Hrow.out hnl hkn
              have hlo := HLab.out.lo k1 hkn
              obtain ⟨li, hli⟩ : ∃ z, gt out k1 = z := ⟨_, rfl⟩
              rw [hli] at ci hlo
              obtain ⟨l, rfl⟩ : ∃ l : Nat, li = l := ⟨li.toNat, by omega⟩
              have cn := cell_gt Hrow.out hnl (i := l) (by omega)
              have Hli := Lib.hid hli
              clear hli
              have keep : ∀ x : Int, OF w q N (.slice ad q c) g out (wB.setCell ⟨wA.heap.size, k1, none⟩ (.int .i64 x)) ∧ (wB.setCell ⟨wA.heap.size, k1, none⟩ (.int .i64 x)).ownsRow wA.heap.size 3 1 (.slice (some ⟨wA.heap.size, 0, none⟩) q q) q (intsV (nums.set k1 x)) := fun x => by
                obtain ⟨z1, z2⟩ := Hrow.out.stored k1 (.int .i64 x)
                rw [intsV_set] at z1
                refine ⟨⟨HO.out.row.kept z2 (.inr (by simp only [Value.ownBlock, ne_eq, Option.some.injEq]; omega)), HO.out.len, HO.out.soup.grown z2 (by simp only [ne_eq, Option.some.injEq]; omega), HO.out.below.grown z2 HO.out.below.size (fun j e => by simp only [Option.some.injEq] at e; omega)⟩, z1⟩
              have Keep := Lib.hid keep
              clear keep fi
              by_cases he : (l : Int) = k1
              · have he2 : (gt out k1 : Int) = k1 := by rw [Hli.out]; exact he
                have HN2 := Lib.hid (HNum.out.new HLab.out.lo hkn he2)
                have hq' : ((l : Int) == (k1 : Int)) = true := by simpa using he
                clear he he2 cn
                go_wp2
                go_roundw
                case measure => simp [intOf]; omega
                case rel =>
                  refine ⟨k1 + 1, many + 1, nums.set k1 many, by omega, by go_num, by go_num, (Keep.out _).1, (Keep.out _).2, by rw [List.length_set]; exact hnl, ?_, by omega, by push_cast; omega⟩
                  rw [gt_set _ (by omega)]
                  exact HN2.out
              · have he2 : (gt out k1 : Int) ≠ k1 := by rw [Hli.out]; exact he
                have HN2 := Lib.hid (HNum.out.old HLab.out.lo hkn he2)
                have hq' : ((l : Int) == (k1 : Int)) = false := by simpa using he
                have hl3 : (l : Int) < (q : Int) := by omega
                have hl0 : (0 : Int) ≤ (l : Int) := by omega
                clear he he2
                go_wp2
                go_roundw
                case measure => simp [intOf]; omega
                case rel =>
                  refine ⟨k1 + 1, many, nums.set k1 (gt nums l), by omega, by go_num, rfl, (Keep.out _).1, (Keep.out _).2, by rw [List.length_set]; exact hnl, ?_, by omega, by push_cast; omega⟩
                  rw [gt_set _ (by omega)]
                  have := HN2.out
                  rw [Hli.out, Int.toNat_natCast] at this
                  exact this
            · obtain rfl : k1 = q := by omega
              go_wp2
              go_ret
              exact ⟨_, nums, rfl, own_base9 Hrow.out (by omega), hnl, fun h0 => HNum.out.hang h0 HLab.out (HZ2.out h0), HO.out.below⟩
end Go.Proofs.YtghlnknncahkgaaGreat
/-
  gypsumref21.Edges, Simple, by walking their texts: the document's word for a simple surface.
-/
namespace Go.Proofs.YtghlnknncahkgaaGreat
open Go.RowKit Go.Maps

/-- Who faces the edge behind a corner, the other way round. -/
def fc (T : List Tr) (i k : Nat) : Int := facI T (tv (trs T i) ((k + 1) % 3), tv (trs T i) k)
theorem fc_opp {T : List Tr} {i k : Nat} (hi : i < T.length) (hk : k < 3) : fc T i k = oppI T ((3 * i + (k + 2) % 3 : Nat) : Int) := by
  have hc : 3 * i + (k + 2) % 3 < 3 * T.length := by omega
  have e1 : edgeI T ((3 * i + (k + 2) % 3 : Nat) : Int) = edgeN T (3 * i + (k + 2) % 3) := edgeI_nat hc
  unfold oppI fc
  rw [e1]
  unfold edgeN
  have a0 : Jor.nx (3 * i + (k + 2) % 3) = 3 * i + k := by unfold Jor.nx; omega
  have b0 : Jor.pv (3 * i + (k + 2) % 3) = 3 * i + (k + 1) % 3 := by unfold Jor.pv; omega
  rw [a0, b0, tv_vert (by omega), tv_vert hk]
theorem closed_fc {T : List Tr} : ClosedT T ↔ ∀ i, i < T.length → ∀ k, k < 3 → 0 ≤ fc T i k := by
  constructor
  · intro h i hi k hk
    rw [fc_opp hi hk]
    exact h _ (by omega)
  · intro h c hc
    have := h (c / 3) (by omega) ((c % 3 + 1) % 3) (by omega)
    rw [fc_opp (by omega) (by omega)] at this
    have e : 3 * (c / 3) + ((c % 3 + 1) % 3 + 2) % 3 = c := by omega
    rw [e] at this
    exact this
/-- The flag, while it is looked at. -/
def Clo (T : List Tr) (i k : Nat) (b : Bool) : Prop := b = true ↔ (∀ i', i' < i → ∀ k, k < 3 → 0 ≤ fc T i' k) ∧ ∀ k', k' < k → 0 ≤ fc T i k'
theorem Clo.start (T : List Tr) : Clo T 0 0 true := ⟨fun _ => ⟨fun _ h => absurd h (by omega), fun _ h => absurd h (by omega)⟩, fun _ => rfl⟩
theorem Clo.row {T : List Tr} {i : Nat} {b : Bool} (h : Clo T i 3 b) : Clo T (i + 1) 0 b := by
  unfold Clo at h ⊢
  rw [h]
  constructor
  · rintro ⟨h1, h2⟩
    refine ⟨fun i' hi' k hk => ?_, fun _ h => absurd h (by omega)⟩
    rcases Nat.lt_or_ge i' i with e | e
    · exact h1 i' e k hk
    · obtain rfl : i' = i := by omega
      exact h2 k hk
  · rintro ⟨h1, -⟩
    exact ⟨fun i' hi' => h1 i' (by omega), fun k' hk' => h1 i (by omega) k' hk'⟩
theorem Clo.good {T : List Tr} {i k : Nat} {b : Bool} (h : Clo T i k b) (h0 : 0 ≤ fc T i k) : Clo T i (k + 1) b := by
  unfold Clo at h ⊢
  rw [h]
  constructor
  · rintro ⟨h1, h2⟩
    refine ⟨h1, fun k' hk' => ?_⟩
    rcases Nat.lt_or_ge k' k with e | e
    · exact h2 k' e
    · obtain rfl : k' = k := by omega
      exact h0
  · rintro ⟨h1, h2⟩
    exact ⟨h1, fun k' hk' => h2 k' (by omega)⟩
theorem Clo.bad {T : List Tr} {i k : Nat} (h0 : fc T i k < 0) : Clo T i (k + 1) false := by
  refine ⟨fun h => (by cases h), fun ⟨_, h2⟩ => ?_⟩
  have := h2 k (by omega)
  omega
set_option maxRecDepth 100000 in
set_option maxHeartbeats 8000000 in
theorem edges21_any (N : Int) (v : Value) (T : List Tr) (w : World) (h : TrisRd w v T) (hl : T.length ≤ 40) : Calls Tryz.prog 53 #[.agg #[.int .i64 N, v]] w fun e w' =>
    ∃ b : Bool, e = .returned (.tuple #[.int .i64 ((T.length : Int) * 3 / 2), .bool b]) ∧ (b = true ↔ ClosedT T) ∧ Below w.heap.size w w' := by
  have b1 := Blk.new w 24 #[.int .i64 N, v]
  have hB0 : Below w.heap.size w (w.alloc (.cells #[.int .i64 N, v] 24)) := (Below.refl _ _).alloc (Nat.le_refl _) _
  have HF := Lib.hid (fun (W : World) (a b : Int) (hW : Below w.heap.size w W) => facing21_any N a b v T W (h.below hW) (by omega))
  obtain ⟨ad, c, rfl, hc1, hc2, hr⟩ := h
  have HRr : Hid (∀ i, i < T.length → ∃ x y z b o, trs T i = (x, y, z) ∧ ad = some ⟨b, o, none⟩ ∧ b < w.heap.size ∧ w.cell? ⟨b, o + i * 3, none⟩ = some (.int .i64 x) ∧ w.cell? ⟨b, o + i * 3 + 1, none⟩ = some (.int .i64 y) ∧ w.cell? ⟨b, o + i * 3 + 2, none⟩ = some (.int .i64 z)) := Lib.hid (fun i hi => by
    obtain ⟨⟨x, y, z⟩, ht⟩ : ∃ t, T[i]? = some t := ⟨T[i], List.getElem?_eq_getElem _⟩
    obtain ⟨b, o, e, hb, s0, s1, s2⟩ := hr i x y z ht
    exact ⟨x, y, z, b, o, by unfold trs; rw [List.getD_eq_getElem?_getD, ht]; rfl, e, hb, s0, s1, s2⟩)
  have HCl := Lib.hid (closed_fc (T := T))
  obtain ⟨n, hn⟩ : ∃ n, T.length = n := ⟨_, rfl⟩
  rw [hn] at hl hc1 hB0 b1 HRr HF HCl ⊢
  have HB0 := Lib.hid hB0
  have Hb1 := Lib.hid b1
  obtain ⟨l0, x0, -, x1, -⟩ := b1.two
  clear hr hn b1 hB0
  go_enter Tryz.func53, Tryz.ntmps53
  go_wp2
  go_loopw [4, 5] (fun v4 i wr => ∃ (k : Nat) (b : Bool), k ≤ n ∧ i = .int .i64 k ∧ v4 = .bool b ∧ Blk wr w.heap.size 24 #[.int .i64 N, .slice ad n c] ∧ Below w.heap.size w wr ∧ Clo T k 0 b) (fun _ i _ => n - (intOf i).toNat)
  case atStart => exact ⟨0, true, Nat.zero_le _, rfl, rfl, Hb1.out, HB0.out, Clo.start T⟩
  case round =>
    obtain ⟨k, b, hk, rfl, rfl, hS, hB, hC⟩ := hrel
    rename World => wr
    clear x0 x1 l0
    obtain ⟨ls, s0, -, s1, -⟩ := hS.two
    have HS := Lib.hid hS
    have HB := Lib.hid hB
    have HC := Lib.hid hC
    have hsz := hB.size
    clear hS hB hC
    by_cases hlt : k < n
    · have hk3 : (k : Int) < (n : Int) := by omega
      have hk0 : (0 : Int) ≤ (k : Int) := by omega
      go_wp2
      go_loopw [4, 6] (fun v4 i wq => ∃ (j : Nat) (b : Bool), j ≤ 3 ∧ i = .int .i64 j ∧ v4 = .bool b ∧ Blk wq w.heap.size 24 #[.int .i64 N, .slice ad n c] ∧ Below w.heap.size w wq ∧ Clo T k j b) (fun _ i _ => 3 - (intOf i).toNat)
      case atStart => exact ⟨0, b, by omega, rfl, rfl, HS.out, HB.out, HC.out⟩
      case round =>
        clear s0 s1 ls hsz HS HB HC
        obtain ⟨j, b2, hj, rfl, rfl, hS, hB, hC⟩ := hrel
        rename World => wq
        obtain ⟨ls, s0, -, s1, -⟩ := hS.two
        have HS := Lib.hid hS
        have HB := Lib.hid hB
        have HC := Lib.hid hC
        have hsz := hB.size
        by_cases hj3 : j < 3
        · obtain ⟨x, y, z, bb, o, ht, rfl, hbl, r0, r1, r2⟩ := HRr.out k hlt
          have r0' := (hB.cell (p := ⟨bb, _, none⟩) hbl).trans r0
          have r1' := (hB.cell (p := ⟨bb, _, none⟩) hbl).trans r1
          have r2' := (hB.cell (p := ⟨bb, _, none⟩) hbl).trans r2
          have hbl2 : bb < wq.heap.size := by omega
          have HT := Lib.hid ht
          clear r0 r1 r2 hS hB hC ht
          have hfc : ∃ z0 : Int, facI T (tv (x, y, z) ((j + 1) % 3), tv (x, y, z) j) = z0 := ⟨_, rfl⟩
          obtain ⟨z0, hz0⟩ := hfc
          have HZ : Hid (fc T k j = z0) := Lib.hid (by unfold fc; rw [HT.out]; exact hz0)
          have HF1 := Lib.hid (fun (W : World) (hW : Below w.heap.size w W) => (show Calls Tryz.prog 55 #[.agg #[.int .i64 N, .slice (some ⟨bb, o, none⟩) n c], .int .i64 (tv (x, y, z) ((j + 1) % 3)), .int .i64 (tv (x, y, z) j)] W fun e w' => e = .returned (.int .i64 z0) ∧ Below W.heap.size W w' from by rw [← hz0]; exact HF.out W _ _ hW))
          clear hz0
          have m1 : (1 : Int).tmod 3 = 1 := by decide
          have m2 : (2 : Int).tmod 3 = 2 := by decide
          have m3 : (3 : Int).tmod 3 = 0 := by decide
          go_upto_region 8 with fail
          go_cut [36] (fun v36 W => v36 = .bool (decide (z0 < 0)) ∧ Below wq.heap.size wq W)
          case first =>
            rcases (by omega : j = 0 ∨ j = 1 ∨ j = 2) with rfl | rfl | rfl <;> simp only [tv0, tv1, tv2, Nat.reduceAdd, Nat.reduceMod] at HF1
            all_goals
              have d0 := cell_regrown s0
              have d1 := cell_regrown s1
              have d2 := cell_regrown r0'
              have d3 := cell_regrown r1'
              have d4 := cell_regrown r2'
              push_cast
              refine wp_region_quiet_below (by kernel_rfl) (by kernel_rfl) ?_
              repeat (go_big_quiet_step ((go_at_call 55; exact Calls.regrown_of (HF1.out _ (HB.out.trans ((below_regrown _ _ _).mono HB.out.size))))))
              refine wpQuiet_nil ?_
              intro _ hw'
              obtain ⟨⟨dq, osq⟩, hw''⟩ := hw'
              have hb3 := below_regrown wq dq osq
              subst hw''
              generalize Sort.grow (redrawn wq dq) osq = w3 at *
              go_wp2_with fail
              go_meet
              exact ⟨rfl, hb3⟩
          case rest =>
            obtain ⟨rfl, hbC⟩ := hcut
            have HSc := Lib.hid (HS.out.below hbC ls)
            have HBc := Lib.hid (HB.out.trans (hbC.mono hsz))
            clear hbC s0 s1 r0' r1' r2' m1 m2 m3
            by_cases hz : z0 < 0
            · have HC2 := Lib.hid (Clo.bad (T := T) (i := k) (k := j) (by rw [HZ.out]; exact hz))
              go_wp2
              go_roundw
              case measure => simp [intOf]; omega
              case rel => exact ⟨j + 1, false, by omega, by go_num, rfl, HSc.out, HBc.out, HC2.out⟩
            · have HC2 := Lib.hid (HC.out.good (by rw [HZ.out]; omega))
              go_wp2
              go_roundw
              case measure => simp [intOf]; omega
              case rel => exact ⟨j + 1, b2, by omega, by go_num, rfl, HSc.out, HBc.out, HC2.out⟩
        · obtain rfl : j = 3 := by omega
          clear hS hB hC
          go_wp2
          go_roundw
          case measure => simp [intOf]; omega
          case rel => exact ⟨k + 1, b2, by omega, by go_num, rfl, HS.out, HB.out, HC.out.row⟩
    · obtain rfl : k = n := by omega
      have HI : Hid (b = true ↔ ClosedT T) := Lib.hid (by
        rw [HCl.out]
        have := HC.out
        unfold Clo at this
        rw [this]
        exact ⟨fun h => h.1, fun h => ⟨h, fun _ h => absurd h (by omega)⟩⟩)
      go_wp2
      go_ret2
      exact ⟨b, rfl, HI.out, HB.out⟩
set_option maxRecDepth 100000 in
set_option maxHeartbeats 2000000 in
theorem simple21_any (n : Nat) (v : Value) (T : List Tr) (w : World) (h : TrisRd w v T) (hl : T.length ≤ 40) (hn : n ≤ 4096) : Calls Tryz.prog 24 #[.agg #[.int .i64 (n : Int), v]] w fun e w' =>
    ∃ b : Bool, e = .returned (.bool b) ∧ (b = true ↔ SimR n T) ∧ Below w.heap.size w w' := by
  have b1 := Blk.new w 24 #[.int .i64 (n : Int), v]
  have hB0 : Below w.heap.size w (w.alloc (.cells #[.int .i64 (n : Int), v] 24)) := (Below.refl _ _).alloc (Nat.le_refl _) _
  have HE := Lib.hid (fun (W : World) (hW : Below w.heap.size w W) => edges21_any (n : Int) v T W (h.below hW) hl)
  have HO := Lib.hid (fun (W : World) (hW : Below w.heap.size w W) => of13_any (n : Int) v T W (h.below hW) hl)
  obtain ⟨ad, c, rfl, -, -, -⟩ := h
  have HD : Hid (SimR n T ↔ T.length ≠ 0 ∧ ClosedT T ∧ (n : Int) - (T.length : Int) * 3 / 2 + T.length = 2 ∧ Hang T.length (NbT T)) := Lib.hid (by unfold SimR; push_cast; exact Iff.rfl)
  obtain ⟨F, hF⟩ : ∃ F, T.length = F := ⟨_, rfl⟩
  rw [hF] at hl hB0 b1 HE HO HD
  have HB0 := Lib.hid hB0
  have Hb1 := Lib.hid b1
  rw [hF]
  obtain ⟨l0, x0, -, x1, -⟩ := b1.two
  clear hF b1 hB0
  go_enter Tryz.func24, Tryz.ntmps24
  go_wp2_with fail
  refine (HE.out _ HB0.out).mono ?_
  rintro e w1 ⟨b, rfl, hcl, hb1⟩
  have HS1 := Lib.hid (Hb1.out.below hb1 l0)
  have HB1 := Lib.hid (HB0.out.trans (hb1.mono HB0.out.size))
  have HCl := Lib.hid hcl
  clear hb1 x0 x1 l0 hcl
  obtain ⟨l0, x0, -, x1, -⟩ := HS1.out.two
  by_cases hF0 : F = 0
  · have hno := Lib.hid (show ¬ SimR n T from fun h => (HD.out.1 h).1 hF0)
    subst hF0
    go_wp2
    go_ret
    exact ⟨false, rfl, ⟨fun h => (by cases h), fun h => absurd h hno.out⟩, HB1.out⟩
  · have hFz : ((F : Int) == 0) = false := by simp; omega
    cases b
    · have hno := Lib.hid (show ¬ SimR n T from fun h => by have := HCl.out.2 (HD.out.1 h).2.1; cases this)
      clear hF0
      go_wp2
      go_ret
      exact ⟨false, rfl, ⟨fun h => (by cases h), fun h => absurd h hno.out⟩, HB1.out⟩
    · by_cases hE : (n : Int) - (F : Int) * 3 / 2 + F = 2
      · have hE2 : ((n : Int) - (F : Int) * 3 / 2 + F != 2) = false := by simpa using hE
        have HE2 := Lib.hid hE
        have HF0 := Lib.hid hF0
        clear hF0 hE
        go_wp2_with fail
        refine (HO.out _ HB1.out).mono ?_
        rintro e w2 ⟨v2, nums, rfl, hrow, hnl, hiff, hb2⟩
        have HB2 := Lib.hid (HB1.out.trans (hb2.mono HB1.out.size))
        have HI : Hid ((∀ j, j < F → gt nums j = 0) ↔ SimR n T) := Lib.hid (by
          rw [hiff (by have := HF0.out; omega), HD.out]
          exact ⟨fun h => ⟨HF0.out, HCl.out.1 (by first | rfl | trivial), HE2.out, h⟩, fun h => h.2.2.2⟩)
        obtain ⟨gO, cO, rfl, -, -⟩ := hrow.form (by have := HF0.out; omega)
        have HC : Hid (∀ i, i < F → w2.cell? ⟨gO, i, none⟩ = some (.int .i64 (gt nums i))) := Lib.hid (fun i hi => by
          rw [hrow.cellAt i (by omega), intsV, List.getElem?_map]
          have : i < nums.length := by omega
          rw [List.getElem?_eq_getElem this]
          unfold gt
          rw [List.getD_eq_getElem?_getD, List.getElem?_eq_getElem this]
          rfl)
        clear hrow hiff hb2 x0 x1 l0
        go_wp2
        go_loopw [6] (fun i W => ∃ k : Nat, k ≤ F ∧ i = .int .i64 k ∧ W = w2 ∧ ∀ j, j < k → gt nums j = 0) (fun i _ => F - (intOf i).toNat)
        case atStart => exact ⟨0, Nat.zero_le _, rfl, rfl, fun _ h => absurd h (by omega)⟩
        case round =>
          obtain ⟨k, hk, rfl, rfl, hz⟩ := hrel
          have HZ := Lib.hid hz
          clear hz
          by_cases hlt : k < F
          · have hk3 : (k : Int) < (F : Int) := by omega
            have hk0 : (0 : Int) ≤ (k : Int) := by omega
            have hc := HC.out k hlt
            obtain ⟨z, hz⟩ : ∃ z, gt nums k = z := ⟨_, rfl⟩
            rw [hz] at hc
            have Hz := Lib.hid hz
            clear hz
            by_cases z0 : z = 0
            · have z1 : (z != 0) = false := by simpa using z0
              have HZ2 := Lib.hid (show ∀ j, j < k + 1 → gt nums j = 0 from fun j hj => by
                rcases Nat.lt_or_ge j k with e | e
                · exact HZ.out j e
                · obtain rfl : j = k := by omega
                  rw [Hz.out, z0])
              clear z0
              go_wp2
              go_roundw
              case measure => simp [intOf]; omega
              case rel => exact ⟨k + 1, by omega, by go_num, by first | rfl | trivial, HZ2.out⟩
            · have z1 : (z != 0) = true := by simpa using z0
              have hno := Lib.hid (show ¬ SimR n T from fun h => z0 (by rw [← Hz.out]; exact HI.out.2 h k hlt))
              clear z0
              go_wp2
              go_ret
              exact ⟨false, rfl, ⟨fun h => (by cases h), fun h => absurd h hno.out⟩, HB2.out⟩
          · obtain rfl : k = F := by omega
            go_wp2
            go_ret
            exact ⟨true, rfl, ⟨fun _ => HI.out.1 HZ.out, fun _ => rfl⟩, HB2.out⟩
      · have hE2 : ((n : Int) - (F : Int) * 3 / 2 + F != 2) = true := by simpa using hE
        have hno := Lib.hid (show ¬ SimR n T from fun h => hE (HD.out.1 h).2.2.1)
        clear hF0 hE
        go_wp2
        go_ret
        exact ⟨false, rfl, ⟨fun h => (by cases h), fun h => absurd h hno.out⟩, HB1.out⟩
end Go.Proofs.YtghlnknncahkgaaGreat
