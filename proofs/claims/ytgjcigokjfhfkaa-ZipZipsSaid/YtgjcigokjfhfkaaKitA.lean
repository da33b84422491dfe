/-
  Small words for memory: a block that is known whole (Blk), frames (grownBy chains backward), and what they give to a walk.
-/
import Derived.Test.YtgjcigokjfhfkaaRows
import Derived.WalkKit
import Derived.WalkSpells
import Derived.WalkLawsBesides
import Derived.RangeFuncBox
import Derived.Maps.AppendAt
namespace Go.Proofs.Ytgjcigokjfhfkaa
open Go.RowKit

/-- Block g is just the cells cs of element type t, none frozen. -/
def Blk (w : World) (g : Nat) (t : TypeId) (cs : Array Value) : Prop := w.heap[g]? = some (.cells cs t (0, 0))

section
variable {w w' : World} {g : Nat} {t : TypeId} {cs : Array Value}
theorem Blk.lt (h : Blk w g t cs) : g < w.heap.size := by
  rcases Nat.lt_or_ge g w.heap.size with hlt | hge
  · exact hlt
  · unfold Blk at h; rw [Array.getElem?_eq_none hge] at h; cases h
theorem Blk.cell (h : Blk w g t cs) (i : Nat) : w.cell? ⟨g, i, none⟩ = cs[i]? := cell_of_row w g i cs t (0, 0) h
theorem Blk.frozen (h : Blk w g t cs) (i : Nat) : w.frozen? ⟨g, i, none⟩ = false := by
  unfold Blk at h
  simp [World.frozen?, h]
theorem Blk.new (w : World) (t : TypeId) (cs : Array Value) : Blk (w.alloc (.cells cs t)) w.heap.size t cs := heap_alloc_new w _
theorem Blk.drew (h : Blk w g t cs) : Blk w.drew g t cs := h
theorem Blk.drewN (h : Blk w g t cs) (n : Nat) : Blk (w.drewN n) g t cs := h
theorem Blk.alloc (h : Blk w g t cs) (o : Obj) : Blk (w.alloc o) g t cs := (Below.heap_alloc w o g h.lt).trans h
theorem Blk.set_ (h : Blk w g t cs) (i : Nat) (u : Value) : Blk (w.setCell ⟨g, i, none⟩ u) g t (cs.setIfInBounds i u) := by
  unfold Blk at h ⊢
  simp [World.setCell, Array.getElem?_modify, h]
theorem Blk.set1 {v : Value} (h : Blk w g t #[v]) (u : Value) : Blk (w.setCell ⟨g, 0, none⟩ u) g t #[u] := by
  have := h.set_ 0 u
  simpa using this
theorem Blk.far (h : Blk w g t cs) {p : Addr} (hp : g ≠ p.block) (u : Value) : Blk (w.setCell p u) g t cs := (Below.heap_setCell w p u g hp).trans h
theorem Blk.below {B : Nat} (h : Blk w g t cs) (hb : Below B w w') (hg : g < B) : Blk w' g t cs := (hb.block g hg).trans h
theorem Blk.grown {row : Option Nat} (h : Blk w g t cs) (hb : w.grownBy w' row) (hg : some g ≠ row) : Blk w' g t cs := (hb.block g h.lt hg).trans h
theorem Blk.ne_ {g' : Nat} {t' : TypeId} {cs' : Array Value} (h : Blk w g t cs) (h' : Blk w g' t' cs') (hne : t ≠ t') : g ≠ g' := by
  rintro rfl
  unfold Blk at h h'
  rw [h] at h'
  injection h' with h'
  injection h' with _ ht
  exact hne ht
theorem Blk.one {a : Value} (h : Blk w g t #[a]) : g < w.heap.size ∧ w.cell? ⟨g, 0, none⟩ = some a ∧ w.frozen? ⟨g, 0, none⟩ = false := ⟨h.lt, h.cell 0, h.frozen 0⟩
theorem Blk.two {a b : Value} (h : Blk w g t #[a, b]) : g < w.heap.size ∧ w.cell? ⟨g, 0, none⟩ = some a ∧ w.frozen? ⟨g, 0, none⟩ = false ∧ w.cell? ⟨g, 1, none⟩ = some b ∧ w.frozen? ⟨g, 1, none⟩ = false :=
  ⟨h.lt, h.cell 0, h.frozen 0, h.cell 1, h.frozen 1⟩
theorem Blk.three {a b c : Value} (h : Blk w g t #[a, b, c]) : g < w.heap.size ∧ w.cell? ⟨g, 0, none⟩ = some a ∧ w.frozen? ⟨g, 0, none⟩ = false ∧ w.cell? ⟨g, 1, none⟩ = some b ∧ w.frozen? ⟨g, 1, none⟩ = false ∧ w.cell? ⟨g, 2, none⟩ = some c ∧ w.frozen? ⟨g, 2, none⟩ = false :=
  ⟨h.lt, h.cell 0, h.frozen 0, h.cell 1, h.frozen 1, h.cell 2, h.frozen 2⟩
theorem own_blk_ne {base : Nat} {e : TypeId} {size n : Nat} {v : Value} {xs : List Value} (h : w.ownsRow base e size v n xs) (hg : Blk w g t cs) (hne : e ≠ t) : v.ownBlock ≠ some g := by
  rcases h.2 with ⟨rfl, _⟩ | ⟨g', cap, cur, rfl, _, hh, _⟩
  · simp [Value.ownBlock]
  · intro he
    have : g' = g := by simpa [Value.ownBlock] using he
    subst this
    exact Blk.ne_ (t := e) hh hg hne rfl
end

/-! Frames, read backward from the walk's last world. -/
section
variable {w a b : World} {row : Option Nat}
theorem gAlloc (h : w.grownBy a row) (o : Obj) : w.grownBy (a.alloc o) row := h.trans (World.grownBy_alloc a o row)
theorem gDrew (h : w.grownBy a row) : w.grownBy a.drew row := ⟨h.os, h.tape, h.output, h.size, h.block⟩
theorem gDrewN (h : w.grownBy a row) (n : Nat) : w.grownBy (a.drewN n) row := ⟨h.os, h.tape, h.output, h.size, h.block⟩
theorem gSet (h : w.grownBy a row) (p : Addr) (u : Value) (hp : row = some p.block ∨ w.heap.size ≤ p.block) : w.grownBy (a.setCell p u) row :=
  ⟨h.os, h.tape, h.output, by simpa [World.setCell] using h.size, fun k hk hne => by
    rw [Below.heap_setCell _ _ _ _ (by rintro rfl; rcases hp with e | e; exact hne e.symm; omega)]
    exact h.block k hk hne⟩
theorem gSt {g i : Nat} {u : Value} (h : w.grownBy a row) (hp : row = some g ∨ w.heap.size ≤ g) : w.grownBy (a.setCell ⟨g, i, none⟩ u) row := gSet h _ _ hp
theorem gStN {g i : Nat} {u : Value} (h : w.grownBy a row) (hp : w.heap.size ≤ g) : w.grownBy (a.setCell ⟨g, i, none⟩ u) row := gSet h _ _ (.inr hp)
theorem gStR {g i : Nat} {u : Value} (h : w.grownBy a (some g)) : w.grownBy (a.setCell ⟨g, i, none⟩ u) (some g) := gSet h _ _ (.inl rfl)
theorem gBelow (h : w.grownBy a row) (hb : Below a.heap.size a b) : w.grownBy b row :=
  ⟨hb.os.trans h.os, hb.tape.trans h.tape, hb.output.trans h.output, Nat.le_trans h.size hb.size, fun k hk hne => (hb.block k (Nat.lt_of_lt_of_le hk h.size)).trans (h.block k hk hne)⟩
theorem gGrown {r : Option Nat} (h : w.grownBy a row) (hb : a.grownBy b r) (hr : ∀ j, r = some j → row = some j ∨ w.heap.size ≤ j) : w.grownBy b row :=
  ⟨hb.os.trans h.os, hb.tape.trans h.tape, hb.output.trans h.output, Nat.le_trans h.size hb.size, fun k hk hne =>
    (hb.block k (Nat.lt_of_lt_of_le hk h.size) (fun e => by rcases hr k e.symm with e' | e'; exact hne e'.symm; omega)).trans (h.block k hk hne)⟩
theorem below_of_grown {B : Nat} (h : w.grownBy a row) (hB : B ≤ w.heap.size) (hr : ∀ j, row = some j → B ≤ j) : Below B w a :=
  ⟨h.os, h.tape, h.output, h.size, fun k hk => h.block k (by omega) (fun e => by have := hr k e.symm; omega)⟩
theorem grown_of_below (h : Below w.heap.size w a) (row : Option Nat) : w.grownBy a row := ⟨h.os, h.tape, h.output, h.size, fun k hk _ => h.block k hk⟩
end

/-! What a range over a function does to blocks that are no cells leaves cells alone. -/
section
variable {w w' : World} {g : Nat} {t : TypeId} {cs : Array Value} {row : Option Nat}
theorem Blk.calm (h : Blk w g t cs) (hg : w.grownBy w' row) (hr : ∀ r, row = some r → ∃ o : Obj, w.heap[r]? = some o ∧ o.isCells = false) : Blk w' g t cs :=
  h.grown hg (fun e => by obtain ⟨o, ho, hc⟩ := hr g e.symm; rw [show w.heap[g]? = _ from h] at ho; cases ho; cases hc)
theorem own_calm {base : Nat} {e : TypeId} {size n : Nat} {v : Value} {xs : List Value} (h : w.ownsRow base e size v n xs) (hg : w.grownBy w' row) (hr : ∀ r, row = some r → ∃ o : Obj, w.heap[r]? = some o ∧ o.isCells = false) : w'.ownsRow base e size v n xs := by
  refine h.kept hg ?_
  rcases h.2 with ⟨rfl, _⟩ | ⟨g', cap, cur, rfl, _, hh, _⟩
  · exact .inl rfl
  · refine .inr (fun e' => ?_)
    obtain ⟨o, ho, hc⟩ := hr g' (by simpa [Value.ownBlock] using e'.symm)
    rw [hh] at ho; cases ho; cases hc
theorem own_own_ne {base base' : Nat} {e e' : TypeId} {size size' n n' : Nat} {v v' : Value} {xs xs' : List Value} (h : w.ownsRow base e size v n xs) (h' : w.ownsRow base' e' size' v' n' xs') (hne : e ≠ e') : v.ownBlock = none ∨ v.ownBlock ≠ v'.ownBlock := by
  rcases h.2 with ⟨rfl, _⟩ | ⟨g, cap, cur, rfl, _, hh, _⟩
  · exact .inl rfl
  · refine .inr (fun e0 => ?_)
    rcases h'.2 with ⟨rfl, _⟩ | ⟨g', cap', cur', rfl, _, hh', _⟩
    · simp [Value.ownBlock] at e0
    · have : g = g' := by simpa [Value.ownBlock] using e0
      subst this
      rw [hh] at hh'
      injection hh' with hh'
      injection hh' with _ ht
      exact hne ht
theorem own_alloc_st {base : Nat} {e : TypeId} {size n b i : Nat} {v u : Value} {xs : List Value} (h : w.ownsRow base e size v n xs) (hb : Blk w b t cs) (hne : e ≠ t) : (w.setCell ⟨b, i, none⟩ u).ownsRow base e size v n xs :=
  h.kept (row := some b) (gSet (World.grownBy.refl _ _) _ _ (.inl rfl)) (.inr (own_blk_ne h hb hne))
end

theorem cells_new (w : World) (xs : List Value) (t : TypeId) : ∀ j u, xs[j]? = some u → (w.alloc (.cells xs.toArray t)).cell? ((⟨w.heap.size, 0, none⟩ : Addr).add j) = some u := by
  intro j u hj
  rw [Addr.add_lit, World.cell?_alloc_new]
  simpa using hj

/-! Behind 'x = append(x, ..)', x a variable in the block B: what else lay lies. -/
section
variable {W w1 : World} {n₀ B g : Nat} {t e : TypeId} {size : Nat} {v u : Value} {k : Nat} {xs : List Value} {tmp : Obj} {cs : Array Value}
theorem app_blk1 (h : Blk W g t cs) (hrow : W.ownsRow n₀ e size v k xs) (hne : e ≠ t) (hgrow : (W.alloc tmp).grownBy w1 v.ownBlock) : Blk w1 g t cs :=
  (h.alloc tmp).grown hgrow (fun e0 => own_blk_ne hrow h hne e0.symm)
theorem app_blk (h : Blk W g t cs) (hrow : W.ownsRow n₀ e size v k xs) (hne : e ≠ t) (hgrow : (W.alloc tmp).grownBy w1 v.ownBlock) (hgB : g ≠ B) : Blk (w1.setCell ⟨B, 0, none⟩ u) g t cs :=
  (app_blk1 h hrow hne hgrow).far hgB _
theorem app_blkH1 {H : Nat} (h : Blk W g t cs) (hH : ∀ j, v.ownBlock = some j → j < H) (hg : H ≤ g) (hgrow : (W.alloc tmp).grownBy w1 v.ownBlock) : Blk w1 g t cs :=
  (h.alloc tmp).grown hgrow (fun e0 => by have := hH g e0.symm; omega)
theorem app_blkH {H : Nat} (h : Blk W g t cs) (hH : ∀ j, v.ownBlock = some j → j < H) (hg : H ≤ g) (hgrow : (W.alloc tmp).grownBy w1 v.ownBlock) (hgB : g ≠ B) : Blk (w1.setCell ⟨B, 0, none⟩ u) g t cs :=
  (app_blkH1 h hH hg hgrow).far hgB _
theorem app_own {base : Nat} {e' tb : TypeId} {size' n' : Nat} {v' : Value} {xs' : List Value} (h : W.ownsRow base e' size' v' n' xs') (hrow : W.ownsRow n₀ e size v k xs) (hne : e' ≠ e) (hb : Blk W B tb cs) (hnb : e' ≠ tb) (hgrow : (W.alloc tmp).grownBy w1 v.ownBlock) :
    (w1.setCell ⟨B, 0, none⟩ u).ownsRow base e' size' v' n' xs' := by
  refine ((h.alloc tmp).kept hgrow ?_).kept (row := some B) (gSet (World.grownBy.refl _ _) _ _ (.inl rfl)) (.inr (own_blk_ne h hb hnb))
  exact own_own_ne h hrow hne
end
/-- Block g holds cells of element type t, whatever they are. -/
def CellsT (w : World) (g : Nat) (t : TypeId) (o : Obj) : Prop := w.heap[g]? = some o ∧ ∃ C fr, o = .cells C t fr
theorem Blk.cellsT {w : World} {g : Nat} {t : TypeId} {cs : Array Value} (h : Blk w g t cs) : CellsT w g t (.cells cs t (0, 0)) := ⟨h, _, _, rfl⟩
section
variable {w w' W w1 : World} {n₀ B g : Nat} {t e : TypeId} {size : Nat} {v u : Value} {k : Nat} {xs : List Value} {tmp o : Obj} {row : Option Nat}
theorem CellsT.lt (h : CellsT w g t o) : g < w.heap.size := (Array.getElem?_eq_some_iff.1 h.1).1
theorem CellsT.grown (h : CellsT w g t o) (hg : w.grownBy w' row) (hne : some g ≠ row) : CellsT w' g t o := ⟨(hg.block g h.lt hne).trans h.1, h.2⟩
theorem CellsT.alloc (h : CellsT w g t o) (o' : Obj) : CellsT (w.alloc o') g t o := ⟨(Below.heap_alloc w o' g h.lt).trans h.1, h.2⟩
theorem CellsT.far (h : CellsT w g t o) {p : Addr} (hp : g ≠ p.block) (u : Value) : CellsT (w.setCell p u) g t o := ⟨(Below.heap_setCell w p u g hp).trans h.1, h.2⟩
theorem CellsT.calm (h : CellsT w g t o) (hg : w.grownBy w' row) (hr : ∀ r, row = some r → ∃ o : Obj, w.heap[r]? = some o ∧ o.isCells = false) : CellsT w' g t o :=
  h.grown hg (fun e => by obtain ⟨o', ho, hc⟩ := hr g e.symm; rw [h.1] at ho; cases ho; obtain ⟨C, fr, rfl⟩ := h.2; cases hc)
theorem own_cellsT_ne (h : w.ownsRow n₀ e size v k xs) (hg : CellsT w g t o) (hne : e ≠ t) : v.ownBlock ≠ some g := by
  obtain ⟨hg, C, fr, rfl⟩ := hg
  rcases h.2 with ⟨rfl, _⟩ | ⟨g', cap, cur, rfl, _, hh, _⟩
  · simp [Value.ownBlock]
  · intro he
    have : g' = g := by simpa [Value.ownBlock] using he
    subst this
    rw [hh] at hg
    injection hg with hg
    injection hg with _ ht
    exact hne ht
theorem app_cellsT (h : CellsT W g t o) (hrow : W.ownsRow n₀ e size v k xs) (hne : e ≠ t) (hgrow : (W.alloc tmp).grownBy w1 v.ownBlock) (hgB : g ≠ B) : CellsT (w1.setCell ⟨B, 0, none⟩ u) g t o :=
  ((h.alloc tmp).grown hgrow (fun e0 => own_cellsT_ne hrow h hne e0.symm)).far hgB _
end
theorem isCells_of_blk {w : World} {g : Nat} {t : TypeId} {cs : Array Value} (h : Blk w g t cs) : ∀ (j : Nat) (o : Obj), some g = some j → w.heap[j]? = some o → o.isCells = true := by
  intro j o e ho
  cases e
  rw [show w.heap[g]? = _ from h] at ho
  cases ho
  rfl

/-- append onto a row of the call's own, as one step of a region that draws its order. -/
theorem step_append_own {P : Program} (w : World) {ops : Array Oper} {o : Oper} {a : Act} {K : Act → World → Prop} {Q : Exit → Act → World → Prop} {E : Prop} (hgd : o.guard = none) (s x : Operand) (t : TypeId)
    (ho : o.op = .call { callee := .builtin .append, args := #[s, x], argTypes := #[t, t] })
    (base : Nat) (e : TypeId) (i : TypeInfo) (z : Value) (size bytes : Nat) (ht : P.underlying t = some (.slice e)) (hi : P.info? e = some i) (hz : i.zero = some z)
    (hsize : i.size = size) (hby : i.bytes = bytes) (hzs : z.cells.size = size) (hsz : 0 < size)
    (v : Value) (n : Nat) (xs : List Value) (hs : a.eval s = v) (hown : w.ownsRow base e size v n xs)
    (ad : Addr) (m c : Nat) (news : List Value) (hx : a.eval x = .slice (some ad) m c) (hl : news.length = m * size) (hnews : ∀ j u, news[j]? = some u → w.cell? (ad.add j) = some u) (h1 : ∀ u ∈ news, u.oneCell' = true)
    (h63 : n + m ≤ maxLen) (hbytes : (n + m) * bytes ≤ 140737488355328) (hbase : base ≤ w.heap.size)
    (h : ∀ v' w', w'.ownsRow base e size v' (n + m) (xs ++ news) → w.grownBy w' v.ownBlock → (v' = .slice none 0 0 ↔ v = .slice none 0 0 ∧ m = 0) → K (a.put o.dst v') w') :
    if Region.wanted o (yielded ops a.tmps) = true then Oper.wp P o a w K Q else E := by
  rw [if_pos (by simp [Region.wanted, hgd])]
  exact wp_append_own w s x t ho base e i z size bytes ht hi hz hsize hby hzs hsz v n xs hs hown ad m c news hx hl hnews h1 h63 hbytes hbase h

/-! Sizes -/
theorem size_alloc' (w : World) (o : Obj) : (w.alloc o).heap.size = w.heap.size + 1 := by simp
end Go.Proofs.Ytgjcigokjfhfkaa
