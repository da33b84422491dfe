/-
  What zip makes: triangles, the loop, the loops that wait; where they lie in memory.
-/
import Derived.Test.YtgjcigokjfhfkaaSort3
import Derived.Test.YtgjcigokjfhfkaaMaps
namespace Go.Proofs.Ytgjcigokjfhfkaa
open Go.RowKit Go.Maps

abbrev Tr := Int × Int × Int
/-- What is zipped so far; of the loops that wait the next one stands first. -/
structure ZM where
  n : Nat
  T : List Tr
  loop : List Int
  waits : List (List Int)
def edgesOf (T : List Tr) : List (Int × Int) := T.flatMap fun t => [(t.1, t.2.1), (t.2.1, t.2.2), (t.2.2, t.1)]
def edgeV (e : Int × Int) : Value := .agg #[.int .i64 e.1, .int .i64 e.2]
def triV (t : Tr) : Value := .agg #[.int .i64 t.1, .int .i64 t.2.1, .int .i64 t.2.2]
def triCells (T : List Tr) : List Value := T.flatMap fun t => [.int .i64 t.1, .int .i64 t.2.1, .int .i64 t.2.2]
def sortedT (t : Tr) : Tr := sort3 t.1 t.2.1 t.2.2
/-- A triangle may lie beside others: no corners, no edge of theirs. -/
def fitsM (T : List Tr) (t : Tr) : Bool :=
  decide (sortedT t ∉ T.map sortedT) && decide ((t.1, t.2.1) ∉ edgesOf T) && decide ((t.2.1, t.2.2) ∉ (t.1, t.2.1) :: edgesOf T) && decide ((t.2.2, t.1) ∉ (t.2.1, t.2.2) :: (t.1, t.2.1) :: edgesOf T)
theorem edgeV_inj {e e' : Int × Int} (h : edgeV e = edgeV e') : e = e' := by
  obtain ⟨a, b⟩ := e
  obtain ⟨c, d⟩ := e'
  simp [edgeV] at h
  simp [h]
theorem triV_inj {e e' : Tr} (h : triV e = triV e') : e = e' := by
  obtain ⟨a, b, c⟩ := e
  obtain ⟨a', b', c'⟩ := e'
  simp [triV] at h
  simp [h]
theorem mem_edgeV (e : Int × Int) (l : List (Int × Int)) : edgeV e ∈ l.map edgeV ↔ e ∈ l := by
  rw [List.mem_map]
  exact ⟨fun ⟨x, h, he⟩ => edgeV_inj he ▸ h, fun h => ⟨e, h, rfl⟩⟩
theorem mem_triV (e : Tr) (l : List Tr) : triV e ∈ l.map triV ↔ e ∈ l := by
  rw [List.mem_map]
  exact ⟨fun ⟨x, h, he⟩ => triV_inj he ▸ h, fun h => ⟨e, h, rfl⟩⟩
theorem triCells_length (T : List Tr) : (triCells T).length = T.length * 3 := by
  induction T with
  | nil => rfl
  | cons t r ih => simp only [triCells, List.flatMap_cons] at ih ⊢; simp only [List.length_append, ih, List.length_cons, List.length_nil]; omega
theorem triCells_snoc (T : List Tr) (t : Tr) : triCells (T ++ [t]) = triCells T ++ [.int .i64 t.1, .int .i64 t.2.1, .int .i64 t.2.2] := by simp [triCells]
theorem edgesOf_snoc (T : List Tr) (t : Tr) : edgesOf (T ++ [t]) = edgesOf T ++ [(t.1, t.2.1), (t.2.1, t.2.2), (t.2.2, t.1)] := by simp [edgesOf]

section
variable {P : Program} {k e : TypeId} {w w' : World} {b n : Nat} {seen : List Value}
theorem MapB.congr {seen' : List Value} (h : MapB P k e w b n seen) (hs : ∀ v, v ∈ seen ↔ v ∈ seen') : MapB P k e w b n seen' := by
  obtain ⟨D, h1, h2, h3⟩ := h
  refine ⟨D, h1, h2, fun key kl hk => ?_⟩
  obtain ⟨x, hx, hi⟩ := h3 key kl hk
  exact ⟨x, hx, hi.trans (hs key)⟩
theorem MapB.obj (h : MapB P k e w b n seen) : ∃ o : Obj, w.heap[b]? = some o ∧ o.isCells = false := by
  obtain ⟨D, ⟨es, clock, hh, _⟩, _⟩ := h
  exact ⟨_, hh, rfl⟩
theorem MapB.block (h : MapB P k e w b n seen) (hb : w'.heap[b]? = w.heap[b]?) : MapB P k e w' b n seen := by
  obtain ⟨D, ⟨es, clock, hh, hr⟩, h2⟩ := h
  exact ⟨D, ⟨es, clock, hb.trans hh, hr⟩, h2⟩
theorem MapB.ne_blk {g : Nat} {t : TypeId} {cs : Array Value} (h : MapB P k e w b n seen) (hg : Blk w g t cs) : b ≠ g := by
  rintro rfl
  obtain ⟨o, ho, hc⟩ := h.obj
  rw [show w.heap[b]? = _ from hg] at ho
  cases ho
  cases hc
theorem MapB.ne_own {base : Nat} {e' : TypeId} {size m : Nat} {v : Value} {xs : List Value} (h : MapB P k e w b n seen) (hg : w.ownsRow base e' size v m xs) : v.ownBlock ≠ some b := by
  obtain ⟨o, ho, hc⟩ := h.obj
  rcases hg.2 with ⟨rfl, _⟩ | ⟨g', cap, cur, rfl, _, hh, _⟩
  · simp [Value.ownBlock]
  · intro he
    have : g' = b := by simpa [Value.ownBlock] using he
    subst this
    rw [hh] at ho
    cases ho
    cases hc
end

/-- Loops lie at vs, one by one. -/
def RowsAt (w : World) (vs : List Value) (ls : List (List Int)) : Prop := vs.length = ls.length ∧ ∀ (j : Nat) (v : Value) (l : List Int), vs[j]? = some v → ls[j]? = some l → w.ownsRow 0 3 1 v l.length (l.map (Value.int .i64))
theorem RowsAt.kept {w w' : World} {vs : List Value} {ls : List (List Int)} (h : RowsAt w vs ls) (hk : ∀ v n xs, w.ownsRow 0 3 1 v n xs → w'.ownsRow 0 3 1 v n xs) : RowsAt w' vs ls :=
  ⟨h.1, fun j v l h1 h2 => hk _ _ _ (h.2 j v l h1 h2)⟩
theorem RowsAt.cons {w : World} {vs : List Value} {ls : List (List Int)} {v : Value} {l : List Int} (h : RowsAt w vs ls) (hv : w.ownsRow 0 3 1 v l.length (l.map (Value.int .i64))) : RowsAt w (v :: vs) (l :: ls) := by
  refine ⟨by simp [h.1], fun j u m h1 h2 => ?_⟩
  cases j with
  | zero => simp at h1 h2; subst h1 h2; exact hv
  | succ j => exact h.2 j u m (by simpa using h1) (by simpa using h2)
theorem RowsAt.tail {w : World} {vs : List Value} {ls : List (List Int)} {v : Value} {l : List Int} (h : RowsAt w (v :: vs) (l :: ls)) : RowsAt w vs ls ∧ w.ownsRow 0 3 1 v l.length (l.map (Value.int .i64)) :=
  ⟨⟨by simpa using h.1, fun j u m h1 h2 => h.2 (j + 1) u m (by simpa using h1) (by simpa using h2)⟩, h.2 0 v l rfl rfl⟩
/-- Where what is zipped lies: the zipper at z, its maps at be and bt; everything from base on. -/
structure ZSX (w : World) (base z be bt : Nat) (vT vL vW : Value) (vs : List Value) (m : ZM) (nE : Nat) (es : List (Int × Int)) (nS : Nat) (ss : List Tr) : Prop where
  hz : base ≤ z
  he : base ≤ be
  ht : base ≤ bt
  ne : be ≠ bt
  blk : Blk w z 67 #[.int .i64 (m.n : Int), vT, vL, vW, .map (some be), .map (some bt)]
  T : w.ownsRow base 57 3 vT m.T.length (triCells m.T)
  L : w.ownsRow 0 3 1 vL m.loop.length (m.loop.map (Value.int .i64))
  W : w.ownsRow base 52 1 vW m.waits.length vs.reverse
  R : RowsAt w vs m.waits
  E : MapB Try.prog 87 4 w be nE (es.map edgeV)
  S : MapB Try.prog 56 4 w bt nS (ss.map triV)
def ZS (w : World) (base z be bt : Nat) (vT vL vW : Value) (vs : List Value) (m : ZM) : Prop :=
  ∃ nE nS, nE ≤ 3 * m.T.length ∧ nS ≤ m.T.length ∧ ZSX w base z be bt vT vL vW vs m nE (edgesOf m.T) nS (m.T.map sortedT)
section
variable {w w' : World} {base z be bt : Nat} {vT vL vW : Value} {vs : List Value} {m : ZM} {nE nS : Nat} {es : List (Int × Int)} {ss : List Tr}
/-- A change that leaves all that is zipped. -/
theorem ZSX.kept (h : ZSX w base z be bt vT vL vW vs m nE es nS ss) {row : Option Nat} (hg : w.grownBy w' row)
    (hr : ∀ r, row = some r → r ≠ z ∧ r ≠ be ∧ r ≠ bt ∧ vT.ownBlock ≠ some r ∧ vW.ownBlock ≠ some r ∧ ∀ v n xs, w.ownsRow 0 3 1 v n xs → v.ownBlock ≠ some r) : ZSX w' base z be bt vT vL vW vs m nE es nS ss := by
  have ne : ∀ (v : Value), (∀ r, row = some r → v.ownBlock ≠ some r) → v.ownBlock = none ∨ v.ownBlock ≠ row := by
    intro v hv
    cases hb : v.ownBlock with
    | none => exact .inl rfl
    | some g => exact .inr (fun e => hv g e.symm hb)
  have nb : ∀ b : Nat, (∀ r, row = some r → r ≠ b) → some b ≠ row := fun b hb e => hb b e.symm rfl
  obtain ⟨a1, a2, a3, a4, a5, a6, a7, a8, a9, c1, c2⟩ := h
  exact ⟨a1, a2, a3, a4, a5.grown hg (nb _ fun r e => (hr r e).1), a6.kept hg (ne _ fun r e => (hr r e).2.2.2.1), a7.kept hg (ne _ fun r e => (hr r e).2.2.2.2.2 _ _ _ a7),
    a8.kept hg (ne _ fun r e => (hr r e).2.2.2.2.1), a9.kept fun v n xs hv => hv.kept hg (ne _ fun r e => (hr r e).2.2.2.2.2 _ _ _ hv),
    c1.kept hg (nb _ fun r e => (hr r e).2.1), c2.kept hg (nb _ fun r e => (hr r e).2.2.1)⟩
theorem ZSX.alloc (h : ZSX w base z be bt vT vL vW vs m nE es nS ss) (o : Obj) : ZSX (w.alloc o) base z be bt vT vL vW vs m nE es nS ss :=
  h.kept (World.grownBy_alloc w o none) (fun r e => by cases e)
theorem ZSX.below (h : ZSX w base z be bt vT vL vW vs m nE es nS ss) (hb : Below w.heap.size w w') : ZSX w' base z be bt vT vL vW vs m nE es nS ss :=
  h.kept (grown_of_below hb none) (fun r e => by cases e)
theorem ZSX.drew (h : ZSX w base z be bt vT vL vW vs m nE es nS ss) : ZSX w.drew base z be bt vT vL vW vs m nE es nS ss :=
  h.kept (gDrew (World.grownBy.refl _ none)) (fun r e => by cases e)
theorem ZSX.edge {n' : Nat} {es' : List (Int × Int)} (h : ZSX w base z be bt vT vL vW vs m nE es nS ss) (hg : w.grownBy w' (some be)) (hm : MapB Try.prog 87 4 w' be n' (es'.map edgeV)) : ZSX w' base z be bt vT vL vW vs m n' es' nS ss := by
  obtain ⟨a1, a2, a3, a4, a5, a6, a7, a8, a9, c1, c2⟩ := h
  exact ⟨a1, a2, a3, a4, a5.grown hg (fun e => c1.ne_blk a5 (by simpa using e.symm)), a6.kept hg (.inr (c1.ne_own a6)), a7.kept hg (.inr (c1.ne_own a7)), a8.kept hg (.inr (c1.ne_own a8)),
    a9.kept (fun v n xs hv => hv.kept hg (.inr (c1.ne_own hv))), hm, c2.kept hg (fun e => a4 (by simpa using e.symm))⟩
theorem ZSX.tri {n' : Nat} {ss' : List Tr} (h : ZSX w base z be bt vT vL vW vs m nE es nS ss) (hg : w.grownBy w' (some bt)) (hm : MapB Try.prog 56 4 w' bt n' (ss'.map triV)) : ZSX w' base z be bt vT vL vW vs m nE es n' ss' := by
  obtain ⟨a1, a2, a3, a4, a5, a6, a7, a8, a9, c1, c2⟩ := h
  exact ⟨a1, a2, a3, a4, a5.grown hg (fun e => c2.ne_blk a5 (by simpa using e.symm)), a6.kept hg (.inr (c2.ne_own a6)), a7.kept hg (.inr (c2.ne_own a7)), a8.kept hg (.inr (c2.ne_own a8)),
    a9.kept (fun v n xs hv => hv.kept hg (.inr (c2.ne_own hv))), c1.kept hg (fun e => a4 (by simpa using e)), hm⟩
/-- One triangle more, in a row that has grown; the zipper learns of it. -/
theorem ZSX.putT {W : World} {tmp : Obj} {vT' : Value} {a b c : Int} (h : ZSX w base z be bt vT vL vW vs m nE es nS ss) (hg : (w.alloc tmp).grownBy W vT.ownBlock) (hr : W.ownsRow base 57 3 vT' (m.T.length + 1) (triCells m.T ++ [.int .i64 a, .int .i64 b, .int .i64 c])) :
    ZSX (W.setCell ⟨z, 1, none⟩ vT') base z be bt vT' vL vW vs { m with T := m.T ++ [(a, b, c)] } nE es nS ss := by
  obtain ⟨a1, a2, a3, a4, a5, a6, a7, a8, a9, c1, c2⟩ := h
  have hg' := gGrown (World.grownBy_alloc w tmp _) hg (fun j e => .inl e)
  have hrow : ∀ {n xs v}, w.ownsRow 0 3 1 v n xs → (W.setCell ⟨z, 1, none⟩ vT').ownsRow 0 3 1 v n xs := fun hv =>
    (hv.kept hg' (own_own_ne hv a6 (by decide))).kept (row := some z) (gSet (World.grownBy.refl _ _) _ _ (.inl rfl)) (.inr (own_blk_ne (hv.kept hg' (own_own_ne hv a6 (by decide))) (a5.grown hg' (fun e => own_blk_ne a6 a5 (by decide) e.symm)) (by decide)))
  have hz := a5.grown hg' (fun e => own_blk_ne a6 a5 (by decide) e.symm)
  refine ⟨a1, a2, a3, a4, ?_, ?_, hrow a7, ?_, a9.kept (fun v n xs hv => hrow hv), ?_, ?_⟩
  · have := hz.set_ 1 vT'
    simpa using this
  · simp only [List.length_append, List.length_cons, List.length_nil, triCells_snoc]
    exact hr.kept (row := some z) (gSet (World.grownBy.refl _ _) _ _ (.inl rfl)) (.inr (own_blk_ne hr hz (by decide)))
  · have h8 := a8.kept hg' (own_own_ne a8 a6 (by decide))
    exact h8.kept (row := some z) (gSet (World.grownBy.refl _ _) _ _ (.inl rfl)) (.inr (own_blk_ne h8 hz (by decide)))
  · have h9 := c1.kept hg' (fun e => c1.ne_own a6 e.symm)
    exact h9.kept (row := some z) (gSet (World.grownBy.refl _ _) _ _ (.inl rfl)) (fun e => c1.ne_blk a5 (by simpa using e))
  · have h9 := c2.kept hg' (fun e => c2.ne_own a6 e.symm)
    exact h9.kept (row := some z) (gSet (World.grownBy.refl _ _) _ _ (.inl rfl)) (fun e => c2.ne_blk a5 (by simpa using e))
/-- A cell of the zipper is set anew. -/
theorem ZSX.put (h : ZSX w base z be bt vT vL vW vs m nE es nS ss) (k : Nat) (u : Value) {vL' vW' : Value} {vs' : List Value} {m' : ZM} (hT : m'.T = m.T)
    (hb : (#[.int .i64 (m.n : Int), vT, vL, vW, .map (some be), .map (some bt)] : Array Value).setIfInBounds k u = #[.int .i64 (m'.n : Int), vT, vL', vW', .map (some be), .map (some bt)])
    (hL : w.ownsRow 0 3 1 vL' m'.loop.length (m'.loop.map (Value.int .i64))) (hW : w.ownsRow base 52 1 vW' m'.waits.length vs'.reverse) (hR : RowsAt w vs' m'.waits) :
    ZSX (w.setCell ⟨z, k, none⟩ u) base z be bt vT vL' vW' vs' m' nE es nS ss := by
  obtain ⟨a1, a2, a3, a4, a5, a6, a7, a8, a9, c1, c2⟩ := h
  have hg : w.grownBy (w.setCell ⟨z, k, none⟩ u) (some z) := gSet (World.grownBy.refl _ _) _ _ (.inl rfl)
  refine ⟨a1, a2, a3, a4, ?_, ?_, hL.kept hg (.inr (own_blk_ne hL a5 (by decide))), hW.kept hg (.inr (own_blk_ne hW a5 (by decide))), hR.kept (fun v n xs hv => hv.kept hg (.inr (own_blk_ne hv a5 (by decide)))),
    c1.kept hg (fun e => c1.ne_blk a5 (by simpa using e)), c2.kept hg (fun e => c2.ne_blk a5 (by simpa using e))⟩
  · rw [← hb]
    exact a5.set_ k u
  · rw [hT]
    exact a6.kept hg (.inr (own_blk_ne a6 a5 (by decide)))
/-- One loop more waits, in a row that has grown; the zipper learns of it. -/
theorem ZSX.putW {W : World} {tmp : Obj} {vW' v : Value} {l : List Int} (h : ZSX w base z be bt vT vL vW vs m nE es nS ss) (hv : w.ownsRow 0 3 1 v l.length (l.map (Value.int .i64))) (hg : (w.alloc tmp).grownBy W vW.ownBlock) (hr : W.ownsRow base 52 1 vW' (m.waits.length + 1) (vs.reverse ++ [v])) :
    ZSX (W.setCell ⟨z, 3, none⟩ vW') base z be bt vT vL vW' (v :: vs) { m with waits := l :: m.waits } nE es nS ss := by
  obtain ⟨a1, a2, a3, a4, a5, a6, a7, a8, a9, c1, c2⟩ := h
  have hg' := gGrown (World.grownBy_alloc w tmp _) hg (fun j e => .inl e)
  have hz := a5.grown hg' (fun e => own_blk_ne a8 a5 (by decide) e.symm)
  have hrow : ∀ {n xs v}, w.ownsRow 0 3 1 v n xs → (W.setCell ⟨z, 3, none⟩ vW').ownsRow 0 3 1 v n xs := fun hv =>
    (hv.kept hg' (own_own_ne hv a8 (by decide))).kept (row := some z) (gSet (World.grownBy.refl _ _) _ _ (.inl rfl)) (.inr (own_blk_ne (hv.kept hg' (own_own_ne hv a8 (by decide))) hz (by decide)))
  refine ⟨a1, a2, a3, a4, ?_, ?_, hrow a7, ?_, (a9.kept (fun v n xs hv => hrow hv)).cons (hrow hv), ?_, ?_⟩
  · have := hz.set_ 3 vW'
    simpa using this
  · have h6 := a6.kept hg' (own_own_ne a6 a8 (by decide))
    exact h6.kept (row := some z) (gSet (World.grownBy.refl _ _) _ _ (.inl rfl)) (.inr (own_blk_ne h6 hz (by decide)))
  · simp only [List.length_cons, List.reverse_cons]
    exact hr.kept (row := some z) (gSet (World.grownBy.refl _ _) _ _ (.inl rfl)) (.inr (own_blk_ne hr hz (by decide)))
  · have h9 := c1.kept hg' (fun e => c1.ne_own a8 e.symm)
    exact h9.kept (row := some z) (gSet (World.grownBy.refl _ _) _ _ (.inl rfl)) (fun e => c1.ne_blk a5 (by simpa using e))
  · have h9 := c2.kept hg' (fun e => c2.ne_own a8 e.symm)
    exact h9.kept (row := some z) (gSet (World.grownBy.refl _ _) _ _ (.inl rfl)) (fun e => c2.ne_blk a5 (by simpa using e))
theorem ZSX.blk_ne (h : ZSX w base z be bt vT vL vW vs m nE es nS ss) {g : Nat} {t : TypeId} {cs : Array Value} (hg : Blk w g t cs) : g ≠ be ∧ g ≠ bt := ⟨fun e => h.E.ne_blk hg e.symm, fun e => h.S.ne_blk hg e.symm⟩
theorem ZSX.lt (h : ZSX w base z be bt vT vL vW vs m nE es nS ss) : z < w.heap.size ∧ be < w.heap.size ∧ bt < w.heap.size := ⟨h.blk.lt, h.E.lt, h.S.lt⟩
/-- A block that is made new is nothing of what is zipped. -/
theorem ZSX.new (h : ZSX w base z be bt vT vL vW vs m nE es nS ss) {t : TypeId} {cs : Array Value} (ht : t ≠ 3) (hg : (w.alloc (.cells cs t)).grownBy w' (some w.heap.size)) : ZSX w' base z be bt vT vL vW vs m nE es nS ss := by
  have hl := h.lt
  have hT := h.T.lt
  have hW := h.W.lt
  refine (h.alloc _).kept hg (fun r e => ?_)
  cases e
  exact ⟨by omega, by omega, by omega, fun e => by have := hT _ e; omega, fun e => by have := hW _ e; omega, fun v n xs hv => own_blk_ne hv (Blk.new _ _ _) (Ne.symm ht)⟩
end
theorem ZS.below {w w' : World} {base z be bt : Nat} {vT vL vW : Value} {vs : List Value} {m : ZM} (h : ZS w base z be bt vT vL vW vs m) (hb : Below w.heap.size w w') : ZS w' base z be bt vT vL vW vs m := by
  obtain ⟨nE, nS, h1, h2, h⟩ := h
  exact ⟨nE, nS, h1, h2, h.below hb⟩
end Go.Proofs.Ytgjcigokjfhfkaa
