/-
  Texts joined by program, what the law uses alone: KitA ShelfUse ZpSort3 Maps ZpZipM ZpWordM ZpWordA ZpWordB ZpBack ZpLen ZpAdd ZpCount ZpRefR ZpConcat ZpStep ZpSecM.
-/
import Derived.WalkKit
import Derived.WalkSpells
import Derived.WalkLawsBesides
import Derived.RangeFuncBox
import Derived.Maps.AppendAt
import Derived.Sort.OwnSortedInts
import Derived.Maps.OwnOps
import Derived.Maps.OwnSet
import Derived.WideKeyPair
import Derived.BigRegion
import Derived.RegionTactic
import Derived.ChangeAlike
import Derived.BigQuiet
import Derived.Outline
import Derived.Lib.Hide
import Derived.RangeFuncNested
import Derived.RangeFuncBound
import Derived.RangeFuncCalls
import Derived.RangeFuncLeaves
import Derived.Shelf.Abstract
import Derived.Shelf.RegionOpen
import Derived.OwnWalkIn
import Derived.TacticsInMore
import Derived.LoopNIn
import Derived.LoopIn
import Derived.Lib.ConvBytes
import Derived.Deep.RegionLaw
import Derived.Deep.AppendLies
import Derived.Deep.QuietTactic
import Derived.Lib.AppendZerosOnto
import Derived.Lib.SmallJoins
import Derived.Test.YtpnkhgjjlionnaaRows
import Derived.Test.YtpnkhgjjlionnaaShelf
namespace Go.Proofs.Ytpnkhgjjlionnaa
open Go.RowKit

/-- Block g is just the cells cs of element type t, none frozen. -/
def Blk (w : World) (g : Nat) (t : TypeId) (cs : Array Value) : Prop := w.heap[g]? = some (.cells cs t (0, 0))

section
variable {w w' : World} {g : Nat} {t : TypeId} {cs : Array Value}
theorem Blk.lt (h : Blk w g t cs) : g < w.heap.size := by
  rcases Nat.lt_or_ge g w.heap.size with hlt | hge
  · exact hlt
  · unfold Blk at h; rw [Array.getElem?_eq_none hge] at h; cases h
theorem Blk.cell (h : Blk w g t cs) (i : Nat) : w.cell? ⟨g, i, none⟩ = cs[i]? := cell_of_row w g i cs t (0, 0) h
theorem Blk.frozen (h : Blk w g t cs) (i : Nat) : w.frozen? ⟨g, i, none⟩ = false := by
  unfold Blk at h
  simp [World.frozen?, h]
theorem Blk.new (w : World) (t : TypeId) (cs : Array Value) : Blk (w.alloc (.cells cs t)) w.heap.size t cs := heap_alloc_new w _
theorem Blk.drew (h : Blk w g t cs) : Blk w.drew g t cs := h
theorem Blk.alloc (h : Blk w g t cs) (o : Obj) : Blk (w.alloc o) g t cs := (Below.heap_alloc w o g h.lt).trans h
theorem Blk.set_ (h : Blk w g t cs) (i : Nat) (u : Value) : Blk (w.setCell ⟨g, i, none⟩ u) g t (cs.setIfInBounds i u) := by
  unfold Blk at h ⊢
  simp [World.setCell, Array.getElem?_modify, h]
theorem Blk.set1 {v : Value} (h : Blk w g t #[v]) (u : Value) : Blk (w.setCell ⟨g, 0, none⟩ u) g t #[u] := by
  have := h.set_ 0 u
  simpa using this
theorem Blk.far (h : Blk w g t cs) {p : Addr} (hp : g ≠ p.block) (u : Value) : Blk (w.setCell p u) g t cs := (Below.heap_setCell w p u g hp).trans h
theorem Blk.below {B : Nat} (h : Blk w g t cs) (hb : Below B w w') (hg : g < B) : Blk w' g t cs := (hb.block g hg).trans h
theorem Blk.grown {row : Option Nat} (h : Blk w g t cs) (hb : w.grownBy w' row) (hg : some g ≠ row) : Blk w' g t cs := (hb.block g h.lt hg).trans h
theorem Blk.ne_ {g' : Nat} {t' : TypeId} {cs' : Array Value} (h : Blk w g t cs) (h' : Blk w g' t' cs') (hne : t ≠ t') : g ≠ g' := by
  rintro rfl
  unfold Blk at h h'
  rw [h] at h'
  injection h' with h'
  injection h' with _ ht
  exact hne ht
theorem Blk.one {a : Value} (h : Blk w g t #[a]) : g < w.heap.size ∧ w.cell? ⟨g, 0, none⟩ = some a ∧ w.frozen? ⟨g, 0, none⟩ = false := ⟨h.lt, h.cell 0, h.frozen 0⟩
theorem Blk.two {a b : Value} (h : Blk w g t #[a, b]) : g < w.heap.size ∧ w.cell? ⟨g, 0, none⟩ = some a ∧ w.frozen? ⟨g, 0, none⟩ = false ∧ w.cell? ⟨g, 1, none⟩ = some b ∧ w.frozen? ⟨g, 1, none⟩ = false :=
  ⟨h.lt, h.cell 0, h.frozen 0, h.cell 1, h.frozen 1⟩
theorem Blk.three {a b c : Value} (h : Blk w g t #[a, b, c]) : g < w.heap.size ∧ w.cell? ⟨g, 0, none⟩ = some a ∧ w.frozen? ⟨g, 0, none⟩ = false ∧ w.cell? ⟨g, 1, none⟩ = some b ∧ w.frozen? ⟨g, 1, none⟩ = false ∧ w.cell? ⟨g, 2, none⟩ = some c ∧ w.frozen? ⟨g, 2, none⟩ = false :=
  ⟨h.lt, h.cell 0, h.frozen 0, h.cell 1, h.frozen 1, h.cell 2, h.frozen 2⟩
theorem own_blk_ne {base : Nat} {e : TypeId} {size n : Nat} {v : Value} {xs : List Value} (h : w.ownsRow base e size v n xs) (hg : Blk w g t cs) (hne : e ≠ t) : v.ownBlock ≠ some g := by
  rcases h.2 with ⟨rfl, _⟩ | ⟨g', cap, cur, rfl, _, hh, _⟩
  · simp [Value.ownBlock]
  · intro he
    have : g' = g := by simpa [Value.ownBlock] using he
    subst this
    exact Blk.ne_ (t := e) hh hg hne rfl
end

/-! Frames, read backward from the walk's last world. -/
section
variable {w a b : World} {row : Option Nat}
theorem gAlloc (h : w.grownBy a row) (o : Obj) : w.grownBy (a.alloc o) row := h.trans (World.grownBy_alloc a o row)
theorem gDrew (h : w.grownBy a row) : w.grownBy a.drew row := ⟨h.os, h.tape, h.output, h.size, h.block⟩
theorem gSet (h : w.grownBy a row) (p : Addr) (u : Value) (hp : row = some p.block ∨ w.heap.size ≤ p.block) : w.grownBy (a.setCell p u) row :=
  ⟨h.os, h.tape, h.output, by simpa [World.setCell] using h.size, fun k hk hne => by
    rw [Below.heap_setCell _ _ _ _ (by rintro rfl; rcases hp with e | e; exact hne e.symm; omega)]
    exact h.block k hk hne⟩
theorem gStN {g i : Nat} {u : Value} (h : w.grownBy a row) (hp : w.heap.size ≤ g) : w.grownBy (a.setCell ⟨g, i, none⟩ u) row := gSet h _ _ (.inr hp)
theorem gStR {g i : Nat} {u : Value} (h : w.grownBy a (some g)) : w.grownBy (a.setCell ⟨g, i, none⟩ u) (some g) := gSet h _ _ (.inl rfl)
theorem gGrown {r : Option Nat} (h : w.grownBy a row) (hb : a.grownBy b r) (hr : ∀ j, r = some j → row = some j ∨ w.heap.size ≤ j) : w.grownBy b row :=
  ⟨hb.os.trans h.os, hb.tape.trans h.tape, hb.output.trans h.output, Nat.le_trans h.size hb.size, fun k hk hne =>
    (hb.block k (Nat.lt_of_lt_of_le hk h.size) (fun e => by rcases hr k e.symm with e' | e'; exact hne e'.symm; omega)).trans (h.block k hk hne)⟩
theorem below_of_grown {B : Nat} (h : w.grownBy a row) (hB : B ≤ w.heap.size) (hr : ∀ j, row = some j → B ≤ j) : Below B w a :=
  ⟨h.os, h.tape, h.output, h.size, fun k hk => h.block k (by omega) (fun e => by have := hr k e.symm; omega)⟩
theorem grown_of_below (h : Below w.heap.size w a) (row : Option Nat) : w.grownBy a row := ⟨h.os, h.tape, h.output, h.size, fun k hk _ => h.block k hk⟩
end

/-! What a range over a function does to blocks that are no cells leaves cells alone. -/
section
variable {w w' : World} {g : Nat} {t : TypeId} {cs : Array Value} {row : Option Nat}
theorem Blk.calm (h : Blk w g t cs) (hg : w.grownBy w' row) (hr : ∀ r, row = some r → ∃ o : Obj, w.heap[r]? = some o ∧ o.isCells = false) : Blk w' g t cs :=
  h.grown hg (fun e => by obtain ⟨o, ho, hc⟩ := hr g e.symm; rw [show w.heap[g]? = _ from h] at ho; cases ho; cases hc)
theorem own_calm {base : Nat} {e : TypeId} {size n : Nat} {v : Value} {xs : List Value} (h : w.ownsRow base e size v n xs) (hg : w.grownBy w' row) (hr : ∀ r, row = some r → ∃ o : Obj, w.heap[r]? = some o ∧ o.isCells = false) : w'.ownsRow base e size v n xs := by
  refine h.kept hg ?_
  rcases h.2 with ⟨rfl, _⟩ | ⟨g', cap, cur, rfl, _, hh, _⟩
  · exact .inl rfl
  · refine .inr (fun e' => ?_)
    obtain ⟨o, ho, hc⟩ := hr g' (by simpa [Value.ownBlock] using e'.symm)
    rw [hh] at ho; cases ho; cases hc
theorem own_own_ne {base base' : Nat} {e e' : TypeId} {size size' n n' : Nat} {v v' : Value} {xs xs' : List Value} (h : w.ownsRow base e size v n xs) (h' : w.ownsRow base' e' size' v' n' xs') (hne : e ≠ e') : v.ownBlock = none ∨ v.ownBlock ≠ v'.ownBlock := by
  rcases h.2 with ⟨rfl, _⟩ | ⟨g, cap, cur, rfl, _, hh, _⟩
  · exact .inl rfl
  · refine .inr (fun e0 => ?_)
    rcases h'.2 with ⟨rfl, _⟩ | ⟨g', cap', cur', rfl, _, hh', _⟩
    · simp [Value.ownBlock] at e0
    · have : g = g' := by simpa [Value.ownBlock] using e0
      subst this
      rw [hh] at hh'
      injection hh' with hh'
      injection hh' with _ ht
      exact hne ht
theorem own_alloc_st {base : Nat} {e : TypeId} {size n b i : Nat} {v u : Value} {xs : List Value} (h : w.ownsRow base e size v n xs) (hb : Blk w b t cs) (hne : e ≠ t) : (w.setCell ⟨b, i, none⟩ u).ownsRow base e size v n xs :=
  h.kept (row := some b) (gSet (World.grownBy.refl _ _) _ _ (.inl rfl)) (.inr (own_blk_ne h hb hne))
end

theorem cells_new (w : World) (xs : List Value) (t : TypeId) : ∀ j u, xs[j]? = some u → (w.alloc (.cells xs.toArray t)).cell? ((⟨w.heap.size, 0, none⟩ : Addr).add j) = some u := by
  intro j u hj
  rw [Addr.add_lit, World.cell?_alloc_new]
  simpa using hj

/-! Behind 'x = append(x, ..)', x a variable in the block B: what else lay lies. -/
section
variable {W w1 : World} {n₀ B g : Nat} {t e : TypeId} {size : Nat} {v u : Value} {k : Nat} {xs : List Value} {tmp : Obj} {cs : Array Value}
theorem app_blk1 (h : Blk W g t cs) (hrow : W.ownsRow n₀ e size v k xs) (hne : e ≠ t) (hgrow : (W.alloc tmp).grownBy w1 v.ownBlock) : Blk w1 g t cs :=
  (h.alloc tmp).grown hgrow (fun e0 => own_blk_ne hrow h hne e0.symm)
theorem app_blk (h : Blk W g t cs) (hrow : W.ownsRow n₀ e size v k xs) (hne : e ≠ t) (hgrow : (W.alloc tmp).grownBy w1 v.ownBlock) (hgB : g ≠ B) : Blk (w1.setCell ⟨B, 0, none⟩ u) g t cs :=
  (app_blk1 h hrow hne hgrow).far hgB _
theorem app_blkH1 {H : Nat} (h : Blk W g t cs) (hH : ∀ j, v.ownBlock = some j → j < H) (hg : H ≤ g) (hgrow : (W.alloc tmp).grownBy w1 v.ownBlock) : Blk w1 g t cs :=
  (h.alloc tmp).grown hgrow (fun e0 => by have := hH g e0.symm; omega)
theorem app_own {base : Nat} {e' tb : TypeId} {size' n' : Nat} {v' : Value} {xs' : List Value} (h : W.ownsRow base e' size' v' n' xs') (hrow : W.ownsRow n₀ e size v k xs) (hne : e' ≠ e) (hb : Blk W B tb cs) (hnb : e' ≠ tb) (hgrow : (W.alloc tmp).grownBy w1 v.ownBlock) :
    (w1.setCell ⟨B, 0, none⟩ u).ownsRow base e' size' v' n' xs' := by
  refine ((h.alloc tmp).kept hgrow ?_).kept (row := some B) (gSet (World.grownBy.refl _ _) _ _ (.inl rfl)) (.inr (own_blk_ne h hb hnb))
  exact own_own_ne h hrow hne
end
/-- Block g holds cells of element type t, whatever they are. -/
def CellsT (w : World) (g : Nat) (t : TypeId) (o : Obj) : Prop := w.heap[g]? = some o ∧ ∃ C fr, o = .cells C t fr
theorem Blk.cellsT {w : World} {g : Nat} {t : TypeId} {cs : Array Value} (h : Blk w g t cs) : CellsT w g t (.cells cs t (0, 0)) := ⟨h, _, _, rfl⟩
section
variable {w w' W w1 : World} {n₀ B g : Nat} {t e : TypeId} {size : Nat} {v u : Value} {k : Nat} {xs : List Value} {tmp o : Obj} {row : Option Nat}
theorem CellsT.lt (h : CellsT w g t o) : g < w.heap.size := (Array.getElem?_eq_some_iff.1 h.1).1
theorem CellsT.grown (h : CellsT w g t o) (hg : w.grownBy w' row) (hne : some g ≠ row) : CellsT w' g t o := ⟨(hg.block g h.lt hne).trans h.1, h.2⟩
theorem CellsT.alloc (h : CellsT w g t o) (o' : Obj) : CellsT (w.alloc o') g t o := ⟨(Below.heap_alloc w o' g h.lt).trans h.1, h.2⟩
theorem CellsT.far (h : CellsT w g t o) {p : Addr} (hp : g ≠ p.block) (u : Value) : CellsT (w.setCell p u) g t o := ⟨(Below.heap_setCell w p u g hp).trans h.1, h.2⟩
theorem CellsT.calm (h : CellsT w g t o) (hg : w.grownBy w' row) (hr : ∀ r, row = some r → ∃ o : Obj, w.heap[r]? = some o ∧ o.isCells = false) : CellsT w' g t o :=
  h.grown hg (fun e => by obtain ⟨o', ho, hc⟩ := hr g e.symm; rw [h.1] at ho; cases ho; obtain ⟨C, fr, rfl⟩ := h.2; cases hc)
theorem own_cellsT_ne (h : w.ownsRow n₀ e size v k xs) (hg : CellsT w g t o) (hne : e ≠ t) : v.ownBlock ≠ some g := by
  obtain ⟨hg, C, fr, rfl⟩ := hg
  rcases h.2 with ⟨rfl, _⟩ | ⟨g', cap, cur, rfl, _, hh, _⟩
  · simp [Value.ownBlock]
  · intro he
    have : g' = g := by simpa [Value.ownBlock] using he
    subst this
    rw [hh] at hg
    injection hg with hg
    injection hg with _ ht
    exact hne ht
theorem app_cellsT (h : CellsT W g t o) (hrow : W.ownsRow n₀ e size v k xs) (hne : e ≠ t) (hgrow : (W.alloc tmp).grownBy w1 v.ownBlock) (hgB : g ≠ B) : CellsT (w1.setCell ⟨B, 0, none⟩ u) g t o :=
  ((h.alloc tmp).grown hgrow (fun e0 => own_cellsT_ne hrow h hne e0.symm)).far hgB _
end
theorem isCells_of_blk {w : World} {g : Nat} {t : TypeId} {cs : Array Value} (h : Blk w g t cs) : ∀ (j : Nat) (o : Obj), some g = some j → w.heap[j]? = some o → o.isCells = true := by
  intro j o e ho
  cases e
  rw [show w.heap[g]? = _ from h] at ho
  cases ho
  rfl

/-! Sizes -/
theorem size_alloc' (w : World) (o : Obj) : (w.alloc o).heap.size = w.heap.size + 1 := by simp
end Go.Proofs.Ytpnkhgjjlionnaa
namespace Go.Proofs.Ytpnkhgjjlionnaa
open Go.RowKit Go.Sort

theorem grow_none (w : World) : grow w #[] = w := by simp [grow]

theorem reverse_own (base : Nat) (v : Value) (xs : List Int) (w : World) (h : w.ownsRow base 3 1 v xs.length (xs.map (Value.int .i64))) (hl : xs.length ≤ 1000000000) :
    Calls Try.prog 77 #[v] w fun e w' => e = .returned (.tuple #[]) ∧ w'.ownsRow base 3 1 v xs.length (xs.reverse.map (Value.int .i64)) ∧ w.grownBy w' v.ownBlock := by
  rcases h.2 with ⟨rfl, h0⟩ | ⟨g, cap, cur, rfl, hb, hg, hn, hm, hc, ht⟩
  · have hx : xs = [] := List.eq_nil_of_length_eq_zero h0
    subst hx
    refine (Try.slices_Reverse_int_empty none 0 w).mono ?_
    rintro e w' ⟨rfl, rfl⟩
    exact ⟨rfl, h, World.grownBy.refl _ _⟩
  · have hH := holds_of_blockI hg (by simpa using ht)
    refine (Try.slices_Reverse_int g 0 cap xs w hH (by omega)).mono ?_
    rintro e w' ⟨rfl, n, rfl⟩
    have h1 := ownsRow_sortedI (w := w) (n := n) (os := #[]) (ts := xs.reverse) (by simp) hb hg hn hm hc
    have h2 := grownBy_sortedI (w := w) (g := g) (n := n) (os := #[]) xs.reverse.toArray
    rw [grow_none] at h1 h2
    exact ⟨rfl, h1, h2⟩

theorem min_own (base : Nat) (v : Value) (xs : List Int) (w : World) (h : w.ownsRow base 3 1 v xs.length (xs.map (Value.int .i64))) (h0 : 0 < xs.length) (hl : xs.length ≤ 1000000000) :
    Calls Try.prog 70 #[v] w fun e w' => e = .returned (.int .i64 (Lib.minOf xs)) ∧ w = w' := by
  rcases h.2 with ⟨rfl, h1⟩ | ⟨g, cap, cur, rfl, hb, hg, hn, hm, hc, ht⟩
  · omega
  · have hH := h.cells (g := g) rfl
    refine (Try.slices_Min_int g 0 xs.length cap xs w h0 (Nat.le_refl _) (by omega) (fun j hj => ?_)).mono ?_
    · have := hH j (.int .i64 (xs.getD j 0)) (by simp [List.getD, List.getElem?_eq_getElem hj])
      simpa [Addr.add_lit] using this
    · rintro e w' ⟨rfl, rfl⟩
      exact ⟨by rw [List.take_length], rfl⟩
end Go.Proofs.Ytpnkhgjjlionnaa
namespace Go.Proofs.Ytpnkhgjjlionnaa.Zp
open Go.RowKit

def sortL (l : List Int) : List Int := l.mergeSort fun x y => decide (x ≤ y)
theorem sortL_length (l : List Int) : (sortL l).length = l.length := by simp [sortL]
/-- Three numbers in their order. -/
def sort3 (a b c : Int) : Int × Int × Int := match sortL [a, b, c] with | [x, y, z] => (x, y, z) | _ => (0, 0, 0)
theorem sort3_eq (a b c : Int) : sortL [a, b, c] = [(sort3 a b c).1, (sort3 a b c).2.1, (sort3 a b c).2.2] := by
  have h := sortL_length [a, b, c]
  unfold sort3
  match hs : sortL [a, b, c], h with
  | [x, y, z], _ => rfl
theorem sort3_any (a b c : Int) (g : Nat) (t : TypeId) (w : World) (hb : Blk w g t #[.int .i64 a, .int .i64 b, .int .i64 c]) :
    Calls Try.prog 56 #[.slice (some ⟨g, 0, none⟩) 3 3] w fun e w' => e = .returned (.tuple #[]) ∧ Blk w' g t #[.int .i64 (sort3 a b c).1, .int .i64 (sort3 a b c).2.1, .int .i64 (sort3 a b c).2.2] ∧ w.grownBy w' (some g) := by
  have hH : Go.Sort.Holds (Value.int .i64) w g 0 [a, b, c].toArray := holds_of_blockI (ss := [a, b, c]) hb (by simp)
  refine (Try.slices_Sort_int g 0 3 [a, b, c] w hH hb.lt (by simp)).mono ?_
  rintro e w' ⟨rfl, n, os, rfl⟩
  have h3 := sort3_eq a b c
  unfold sortL at h3
  rw [h3]
  refine ⟨rfl, ?_, grownBy_sortedI _⟩
  have h4 := heap_sortedI (n := n) (os := os) [(sort3 a b c).1, (sort3 a b c).2.1, (sort3 a b c).2.2].toArray hb
  have h5 : Go.Sort.putCells (Value.int .i64) 0 [(sort3 a b c).1, (sort3 a b c).2.1, (sort3 a b c).2.2].toArray #[.int .i64 a, .int .i64 b, .int .i64 c] = #[.int .i64 (sort3 a b c).1, .int .i64 (sort3 a b c).2.1, .int .i64 (sort3 a b c).2.2] := by
    generalize sort3 a b c = p
    rfl
  rw [h5] at h4
  exact h4
end Go.Proofs.Ytpnkhgjjlionnaa.Zp
namespace Go.Proofs.Ytpnkhgjjlionnaa
open Go.RowKit Go.Maps

/-- Block b is a map from numbers to numbers: at a it holds f a. -/
def MapI (P : Program) (k e : TypeId) (qk q : IntKind) (w : World) (b n : Nat) (f : Int → Int) : Prop :=
  ∃ D : DataW Unit, w.ownsMap P k (plainElem P e) b n D ∧ IsMap D ∧ ∀ a, D.atKey (.int qk a) (.lit (.int q 0)) = .lit (.int q (f a))
section
variable {P : Program} {k e : TypeId} {qk q : IntKind} {w : World} {b n : Nat} {f : Int → Int}
theorem MapI.made (w : World) (P : Program) (k e : TypeId) (qk q : IntKind) : MapI P k e qk q (w.alloc (.map #[] 0)) w.heap.size 0 (fun _ => 0) :=
  ⟨_, World.ownsMap_made _ _ _ _, isMap_empty, fun _ => rfl⟩
theorem MapI.lt (h : MapI P k e qk q w b n f) : b < w.heap.size := by obtain ⟨D, h, _⟩ := h; exact h.lt
theorem MapI.kept {w' : World} {row : Option Nat} (h : MapI P k e qk q w b n f) (hg : w.grownBy w' row) (hne : some b ≠ row) : MapI P k e qk q w' b n f := by
  obtain ⟨D, h1, h2⟩ := h
  exact ⟨D, h1.kept hg hne, h2⟩
theorem MapI.below {w' : World} {B : Nat} (h : MapI P k e qk q w b n f) (hb : Below B w w') (hB : b < B) : MapI P k e qk q w' b n f := by
  obtain ⟨D, ⟨es, clock, hh, hr⟩, h2⟩ := h
  exact ⟨D, ⟨es, clock, (hb.block b hB).trans hh, hr⟩, h2⟩
theorem MapI.mono {m : Nat} (h : MapI P k e qk q w b n f) (hm : n ≤ m) : MapI P k e qk q w b m f := by
  obtain ⟨D, h1, h2⟩ := h
  exact ⟨D, h1.mono hm, h2⟩
theorem MapI.look {t : TypeId} (h : MapI P k e qk q w b n f) (hk : P.underlying k = some (.int qk)) (ht : P.underlying t = some (.map k e)) (he : P.underlying e = some (.int q)) (hz : (zeroValue e).run P w = .ok (.int q 0) w) {z : Int} (hwf : (Lit.int qk z).wf = true) :
    (Instr.lookup t (.map (some b)) (.int qk z) false).run P w = .ok (.int q (f z)) w := by
  obtain ⟨D, h1, _, h3⟩ := h
  obtain ⟨c, hrun, hat, _⟩ := h1.lookup_int (int_keyed hk) ht he hz (keyOf_int_mk hk hwf)
  rw [h3 z] at hat
  cases hat
  exact hrun
theorem MapI.store {t : TypeId} (h : MapI P k e qk q w b n f) (hk : P.underlying k = some (.int qk)) (ht : P.underlying t = some (.map k e)) (he : P.underlying e = some (.int q)) (hn : n < maxLen) {z c : Int} (hwf : (Lit.int qk z).wf = true) (hwc : (Lit.int q c).wf = true) :
    ∃ w', (Instr.mapUpdate t (.map (some b)) (.int qk z) (.int q c)).run P w = .ok () w' ∧ MapI P k e qk q w' b (n + 1) (fun y => if y = z then c else f y) ∧ w.grownBy w' (some b) := by
  obtain ⟨D, h1, h2, h3⟩ := h
  obtain ⟨w', hrun, hown, hg⟩ := h1.update (int_keyed hk) ht hn (keyOf_int_mk hk hwf) (plainElem_int he hwc)
  refine ⟨w', hrun, ⟨_, hown, h2.put _ _, fun a => ?_⟩, hg⟩
  by_cases ha : a = z
  · subst ha
    rw [atKey_put_same h2 (by trivial)]
    simp
  · rw [atKey_put_other (by intro e; cases e; exact ha rfl), h3]
    simp [ha]
theorem wpList_lookupI {ops : Array Oper} {rest : List Oper} {o : Oper} {a : Act} {Q : Exit → Act → World → Prop} (h : MapI P k e qk q w b n f)
    (hg : o.guard = none) (m x : Operand) (t : TypeId) (hop : o.op = Op.lookup t m x false) (hk : P.underlying k = some (.int qk)) (ht : P.underlying t = some (.map k e)) (he : P.underlying e = some (.int q)) (hz : (zeroValue e).run P w = .ok (.int q 0) w)
    (hm : a.eval m = .map (some b)) (z : Int) (hx : a.eval x = .int qk z) (hwf : (Lit.int qk z).wf = true)
    (hK : wpList P ops Q rest (a.put o.dst (.int q (f z))) w) : wpList P ops Q (o :: rest) a w := by
  refine wpList_plain hg fun K' hK' => ?_
  have hrun := h.look hk ht he hz hwf
  unfold Oper.wp
  simp [execOp, hop, hm, hx, hrun, Result.andThen]
  exact hK' _ _ hK
theorem wpList_storeI {ops : Array Oper} {rest : List Oper} {o : Oper} {a : Act} {Q : Exit → Act → World → Prop} (h : MapI P k e qk q w b n f)
    (hg : o.guard = none) (m x v : Operand) (t : TypeId) (hop : o.op = Op.mapUpdate t m x v) (hk : P.underlying k = some (.int qk)) (ht : P.underlying t = some (.map k e)) (he : P.underlying e = some (.int q)) (hn : n < maxLen)
    (hm : a.eval m = .map (some b)) (z c : Int) (hx : a.eval x = .int qk z) (hv : a.eval v = .int q c) (hwf : (Lit.int qk z).wf = true) (hwc : (Lit.int q c).wf = true)
    (hK : ∀ w', MapI P k e qk q w' b (n + 1) (fun y => if y = z then c else f y) → w.grownBy w' (some b) → wpList P ops Q rest (a.put o.dst undef) w') : wpList P ops Q (o :: rest) a w := by
  refine wpList_plain hg fun K' hK' => ?_
  obtain ⟨w', hrun, r1, r2⟩ := h.store hk ht he hn hwf hwc
  unfold Oper.wp
  simp [execOp, hop, hm, hx, hv, hrun, Result.andThen]
  exact hK' _ _ (hK w' r1 r2)
end

/-- Block b is a map of bools: true at the keys of the list. -/
def MapB (P : Program) (k e : TypeId) (w : World) (b n : Nat) (seen : List Value) : Prop :=
  ∃ D : DataW Unit, w.ownsMap P k (plainElem P e) b n D ∧ IsMap D ∧ ∀ key kl, keyOf P k key = some kl → ∃ x, D.atKey kl (.lit (.bool false)) = .lit (.bool x) ∧ (x = true ↔ key ∈ seen)
theorem plainElem_bool_inv {P : Program} {e : TypeId} (he : P.underlying e = some .bool) {v : Value} {z : DataW Unit × List MemPlace} (h : plainElem P e v = some z) : ∃ x, v = .bool x ∧ z = (.lit (.bool x), []) := by
  unfold plainElem at h
  rw [he] at h
  cases v <;> simp at h
  exact ⟨_, rfl, h.symm⟩
section
variable {P : Program} {k e : TypeId} {w : World} {b n : Nat} {seen : List Value}
theorem MapB.made (w : World) (P : Program) (k e : TypeId) : MapB P k e (w.alloc (.map #[] 0)) w.heap.size 0 [] :=
  ⟨_, World.ownsMap_made _ _ _ _, isMap_empty, fun _ _ _ => ⟨false, rfl, by simp⟩⟩
theorem MapB.lt (h : MapB P k e w b n seen) : b < w.heap.size := by obtain ⟨D, h, _⟩ := h; exact h.lt
theorem MapB.kept {w' : World} {row : Option Nat} (h : MapB P k e w b n seen) (hg : w.grownBy w' row) (hne : some b ≠ row) : MapB P k e w' b n seen := by
  obtain ⟨D, h1, h2⟩ := h
  exact ⟨D, h1.kept hg hne, h2⟩
theorem MapB.look {t : TypeId} (h : MapB P k e w b n seen) (K : Keyed P k) (ht : P.underlying t = some (.map k e)) (he : P.underlying e = some .bool) (hz : (zeroValue e).run P w = .ok (.bool false) w) {key : Value} {kl : Lit} (hkey : keyOf P k key = some kl) :
    ∃ x, (Instr.lookup t (.map (some b)) key false).run P w = .ok (.bool x) w ∧ (x = true ↔ key ∈ seen) := by
  obtain ⟨D, h1, _, h3⟩ := h
  obtain ⟨v, ps, hrun, hv⟩ := h1.lookup K ht hz (plainElem_bool he false) hkey
  obtain ⟨x, rfl, hx⟩ := plainElem_bool_inv he hv
  obtain ⟨x', hx', hi⟩ := h3 key kl hkey
  rw [hx'] at hx
  cases hx
  exact ⟨_, hrun, hi⟩
theorem MapB.store {t : TypeId} (h : MapB P k e w b n seen) (K : Keyed P k) (ht : P.underlying t = some (.map k e)) (he : P.underlying e = some .bool) (hn : n < maxLen) {key : Value} {kl : Lit} (hkey : keyOf P k key = some kl) :
    ∃ w', (Instr.mapUpdate t (.map (some b)) key (.bool true)).run P w = .ok () w' ∧ MapB P k e w' b (n + 1) (key :: seen) ∧ w.grownBy w' (some b) := by
  obtain ⟨D, h1, h2, h3⟩ := h
  obtain ⟨w', hrun, hown, hg⟩ := h1.update K ht hn hkey (plainElem_bool he true)
  refine ⟨w', hrun, ⟨_, hown, h2.put _ _, fun key' kl' hk' => ?_⟩, hg⟩
  by_cases ha : kl' = kl
  · subst ha
    obtain rfl := K.inj hk' hkey
    exact ⟨true, atKey_put_same h2 (K.key hkey) _ _, by simp⟩
  · obtain ⟨x, hx, hi⟩ := h3 key' kl' hk'
    refine ⟨x, by rw [atKey_put_other ha, hx], ?_⟩
    rw [hi, List.mem_cons]
    constructor
    · exact .inr
    · rintro (rfl | h)
      · rw [hk'] at hkey
        cases hkey
        exact absurd rfl ha
      · exact h
end

theorem keyOf_three {P : Program} {k e : TypeId} {q : IntKind} (A : WideMaps.ArrKey P k e 3) (he : P.underlying e = some (.int q)) (hsz : ∃ m, P.types.size = m + 1) {a b c : Int} (wa : (Lit.int q a).wf = true) (wb : (Lit.int q b).wf = true) (wc : (Lit.int q c).wf = true) :
    keyOf P k (.agg #[.int q a, .int q b, .int q c]) = some (.string (keyBytes [.int q a, .int q b, .int q c])) := by
  have hkt := A.keyType hsz
  obtain ⟨m, hm⟩ := hsz
  unfold keyOf
  simp only [A.hu]
  rw [if_pos (by simp [hkt, Value.formed, A.hu, A.size]), hm]
  unfold Program.keyLits
  simp only [A.hu, Value.cells]
  rw [if_pos (by rw [A.size]; rfl), show List.range 3 = [0, 1, 2] from rfl, List.mapM_cons, List.mapM_cons, List.mapM_cons, List.mapM_nil]
  simp [A.one, Program.keyLits, he, wa, wb, wc]
end Go.Proofs.Ytpnkhgjjlionnaa
namespace Go.Proofs.Ytpnkhgjjlionnaa.Zp
open Go.RowKit Go.Maps

abbrev Tr := Int × Int × Int
/-- What is zipped so far; of the loops that wait the next one stands first. -/
structure ZM where
  n : Nat
  T : List Tr
  loop : List Int
  waits : List (List Int)
def edgesOf (T : List Tr) : List (Int × Int) := T.flatMap fun t => [(t.1, t.2.1), (t.2.1, t.2.2), (t.2.2, t.1)]
def edgeV (e : Int × Int) : Value := .agg #[.int .i64 e.1, .int .i64 e.2]
def triV (t : Tr) : Value := .agg #[.int .i64 t.1, .int .i64 t.2.1, .int .i64 t.2.2]
def triCells (T : List Tr) : List Value := T.flatMap fun t => [.int .i64 t.1, .int .i64 t.2.1, .int .i64 t.2.2]
def sortedT (t : Tr) : Tr := sort3 t.1 t.2.1 t.2.2
/-- A triangle may lie beside others: no corners, no edge of theirs. -/
def fitsM (T : List Tr) (t : Tr) : Bool :=
  decide (sortedT t ∉ T.map sortedT) && decide ((t.1, t.2.1) ∉ edgesOf T) && decide ((t.2.1, t.2.2) ∉ (t.1, t.2.1) :: edgesOf T) && decide ((t.2.2, t.1) ∉ (t.2.1, t.2.2) :: (t.1, t.2.1) :: edgesOf T)
theorem edgeV_inj {e e' : Int × Int} (h : edgeV e = edgeV e') : e = e' := by
  obtain ⟨a, b⟩ := e
  obtain ⟨c, d⟩ := e'
  simp [edgeV] at h
  simp [h]
theorem triV_inj {e e' : Tr} (h : triV e = triV e') : e = e' := by
  obtain ⟨a, b, c⟩ := e
  obtain ⟨a', b', c'⟩ := e'
  simp [triV] at h
  simp [h]
theorem mem_edgeV (e : Int × Int) (l : List (Int × Int)) : edgeV e ∈ l.map edgeV ↔ e ∈ l := by
  rw [List.mem_map]
  exact ⟨fun ⟨x, h, he⟩ => edgeV_inj he ▸ h, fun h => ⟨e, h, rfl⟩⟩
theorem mem_triV (e : Tr) (l : List Tr) : triV e ∈ l.map triV ↔ e ∈ l := by
  rw [List.mem_map]
  exact ⟨fun ⟨x, h, he⟩ => triV_inj he ▸ h, fun h => ⟨e, h, rfl⟩⟩
theorem triCells_snoc (T : List Tr) (t : Tr) : triCells (T ++ [t]) = triCells T ++ [.int .i64 t.1, .int .i64 t.2.1, .int .i64 t.2.2] := by simp [triCells]
theorem edgesOf_snoc (T : List Tr) (t : Tr) : edgesOf (T ++ [t]) = edgesOf T ++ [(t.1, t.2.1), (t.2.1, t.2.2), (t.2.2, t.1)] := by simp [edgesOf]

section
variable {P : Program} {k e : TypeId} {w w' : World} {b n : Nat} {seen : List Value}
theorem _root_.Go.Proofs.Ytpnkhgjjlionnaa.MapB.congr {seen' : List Value} (h : MapB P k e w b n seen) (hs : ∀ v, v ∈ seen ↔ v ∈ seen') : MapB P k e w b n seen' := by
  obtain ⟨D, h1, h2, h3⟩ := h
  refine ⟨D, h1, h2, fun key kl hk => ?_⟩
  obtain ⟨x, hx, hi⟩ := h3 key kl hk
  exact ⟨x, hx, hi.trans (hs key)⟩
theorem _root_.Go.Proofs.Ytpnkhgjjlionnaa.MapB.objZ (h : MapB P k e w b n seen) : ∃ o : Obj, w.heap[b]? = some o ∧ o.isCells = false := by
  obtain ⟨D, ⟨es, clock, hh, _⟩, _⟩ := h
  exact ⟨_, hh, rfl⟩
theorem _root_.Go.Proofs.Ytpnkhgjjlionnaa.MapB.ne_blk {g : Nat} {t : TypeId} {cs : Array Value} (h : MapB P k e w b n seen) (hg : Blk w g t cs) : b ≠ g := by
  rintro rfl
  obtain ⟨o, ho, hc⟩ := h.objZ
  rw [show w.heap[b]? = _ from hg] at ho
  cases ho
  cases hc
theorem _root_.Go.Proofs.Ytpnkhgjjlionnaa.MapB.ne_own {base : Nat} {e' : TypeId} {size m : Nat} {v : Value} {xs : List Value} (h : MapB P k e w b n seen) (hg : w.ownsRow base e' size v m xs) : v.ownBlock ≠ some b := by
  obtain ⟨o, ho, hc⟩ := h.objZ
  rcases hg.2 with ⟨rfl, _⟩ | ⟨g', cap, cur, rfl, _, hh, _⟩
  · simp [Value.ownBlock]
  · intro he
    have : g' = b := by simpa [Value.ownBlock] using he
    subst this
    rw [hh] at ho
    cases ho
    cases hc
end

/-- Loops lie at vs, one by one. -/
def RowsAt (w : World) (vs : List Value) (ls : List (List Int)) : Prop := vs.length = ls.length ∧ ∀ (j : Nat) (v : Value) (l : List Int), vs[j]? = some v → ls[j]? = some l → w.ownsRow 0 3 1 v l.length (l.map (Value.int .i64))
theorem RowsAt.kept {w w' : World} {vs : List Value} {ls : List (List Int)} (h : RowsAt w vs ls) (hk : ∀ v n xs, w.ownsRow 0 3 1 v n xs → w'.ownsRow 0 3 1 v n xs) : RowsAt w' vs ls :=
  ⟨h.1, fun j v l h1 h2 => hk _ _ _ (h.2 j v l h1 h2)⟩
theorem RowsAt.cons {w : World} {vs : List Value} {ls : List (List Int)} {v : Value} {l : List Int} (h : RowsAt w vs ls) (hv : w.ownsRow 0 3 1 v l.length (l.map (Value.int .i64))) : RowsAt w (v :: vs) (l :: ls) := by
  refine ⟨by simp [h.1], fun j u m h1 h2 => ?_⟩
  cases j with
  | zero => simp at h1 h2; subst h1 h2; exact hv
  | succ j => exact h.2 j u m (by simpa using h1) (by simpa using h2)
theorem RowsAt.tail {w : World} {vs : List Value} {ls : List (List Int)} {v : Value} {l : List Int} (h : RowsAt w (v :: vs) (l :: ls)) : RowsAt w vs ls ∧ w.ownsRow 0 3 1 v l.length (l.map (Value.int .i64)) :=
  ⟨⟨by simpa using h.1, fun j u m h1 h2 => h.2 (j + 1) u m (by simpa using h1) (by simpa using h2)⟩, h.2 0 v l rfl rfl⟩
/-- Where what is zipped lies: the zipper at z, its maps at be and bt; everything from base on. -/
structure ZSX (w : World) (base z be bt : Nat) (vT vL vW : Value) (vs : List Value) (m : ZM) (nE : Nat) (es : List (Int × Int)) (nS : Nat) (ss : List Tr) : Prop where
  hz : base ≤ z
  he : base ≤ be
  ht : base ≤ bt
  ne : be ≠ bt
  blk : Blk w z 80 #[.int .i64 (m.n : Int), vT, vL, vW, .map (some be), .map (some bt)]
  T : w.ownsRow base 61 3 vT m.T.length (triCells m.T)
  L : w.ownsRow 0 3 1 vL m.loop.length (m.loop.map (Value.int .i64))
  W : w.ownsRow base 35 1 vW m.waits.length vs.reverse
  R : RowsAt w vs m.waits
  E : MapB Try.prog 88 4 w be nE (es.map edgeV)
  S : MapB Try.prog 60 4 w bt nS (ss.map triV)
def ZS (w : World) (base z be bt : Nat) (vT vL vW : Value) (vs : List Value) (m : ZM) : Prop :=
  ∃ nE nS, nE ≤ 3 * m.T.length ∧ nS ≤ m.T.length ∧ ZSX w base z be bt vT vL vW vs m nE (edgesOf m.T) nS (m.T.map sortedT)
section
variable {w w' : World} {base z be bt : Nat} {vT vL vW : Value} {vs : List Value} {m : ZM} {nE nS : Nat} {es : List (Int × Int)} {ss : List Tr}
/-- A change that leaves all that is zipped. -/
theorem ZSX.kept (h : ZSX w base z be bt vT vL vW vs m nE es nS ss) {row : Option Nat} (hg : w.grownBy w' row)
    (hr : ∀ r, row = some r → r ≠ z ∧ r ≠ be ∧ r ≠ bt ∧ vT.ownBlock ≠ some r ∧ vW.ownBlock ≠ some r ∧ ∀ v n xs, w.ownsRow 0 3 1 v n xs → v.ownBlock ≠ some r) : ZSX w' base z be bt vT vL vW vs m nE es nS ss := by
  have ne : ∀ (v : Value), (∀ r, row = some r → v.ownBlock ≠ some r) → v.ownBlock = none ∨ v.ownBlock ≠ row := by
    intro v hv
    cases hb : v.ownBlock with
    | none => exact .inl rfl
    | some g => exact .inr (fun e => hv g e.symm hb)
  have nb : ∀ b : Nat, (∀ r, row = some r → r ≠ b) → some b ≠ row := fun b hb e => hb b e.symm rfl
  obtain ⟨a1, a2, a3, a4, a5, a6, a7, a8, a9, c1, c2⟩ := h
  exact ⟨a1, a2, a3, a4, a5.grown hg (nb _ fun r e => (hr r e).1), a6.kept hg (ne _ fun r e => (hr r e).2.2.2.1), a7.kept hg (ne _ fun r e => (hr r e).2.2.2.2.2 _ _ _ a7),
    a8.kept hg (ne _ fun r e => (hr r e).2.2.2.2.1), a9.kept fun v n xs hv => hv.kept hg (ne _ fun r e => (hr r e).2.2.2.2.2 _ _ _ hv),
    c1.kept hg (nb _ fun r e => (hr r e).2.1), c2.kept hg (nb _ fun r e => (hr r e).2.2.1)⟩
theorem ZSX.alloc (h : ZSX w base z be bt vT vL vW vs m nE es nS ss) (o : Obj) : ZSX (w.alloc o) base z be bt vT vL vW vs m nE es nS ss :=
  h.kept (World.grownBy_alloc w o none) (fun r e => by cases e)
theorem ZSX.below (h : ZSX w base z be bt vT vL vW vs m nE es nS ss) (hb : Below w.heap.size w w') : ZSX w' base z be bt vT vL vW vs m nE es nS ss :=
  h.kept (grown_of_below hb none) (fun r e => by cases e)
theorem ZSX.drew (h : ZSX w base z be bt vT vL vW vs m nE es nS ss) : ZSX w.drew base z be bt vT vL vW vs m nE es nS ss :=
  h.kept (gDrew (World.grownBy.refl _ none)) (fun r e => by cases e)
theorem ZSX.edge {n' : Nat} {es' : List (Int × Int)} (h : ZSX w base z be bt vT vL vW vs m nE es nS ss) (hg : w.grownBy w' (some be)) (hm : MapB Try.prog 88 4 w' be n' (es'.map edgeV)) : ZSX w' base z be bt vT vL vW vs m n' es' nS ss := by
  obtain ⟨a1, a2, a3, a4, a5, a6, a7, a8, a9, c1, c2⟩ := h
  exact ⟨a1, a2, a3, a4, a5.grown hg (fun e => c1.ne_blk a5 (by simpa using e.symm)), a6.kept hg (.inr (c1.ne_own a6)), a7.kept hg (.inr (c1.ne_own a7)), a8.kept hg (.inr (c1.ne_own a8)),
    a9.kept (fun v n xs hv => hv.kept hg (.inr (c1.ne_own hv))), hm, c2.kept hg (fun e => a4 (by simpa using e.symm))⟩
theorem ZSX.tri {n' : Nat} {ss' : List Tr} (h : ZSX w base z be bt vT vL vW vs m nE es nS ss) (hg : w.grownBy w' (some bt)) (hm : MapB Try.prog 60 4 w' bt n' (ss'.map triV)) : ZSX w' base z be bt vT vL vW vs m nE es n' ss' := by
  obtain ⟨a1, a2, a3, a4, a5, a6, a7, a8, a9, c1, c2⟩ := h
  exact ⟨a1, a2, a3, a4, a5.grown hg (fun e => c2.ne_blk a5 (by simpa using e.symm)), a6.kept hg (.inr (c2.ne_own a6)), a7.kept hg (.inr (c2.ne_own a7)), a8.kept hg (.inr (c2.ne_own a8)),
    a9.kept (fun v n xs hv => hv.kept hg (.inr (c2.ne_own hv))), c1.kept hg (fun e => a4 (by simpa using e)), hm⟩
/-- One triangle more, in a row that has grown; the zipper learns of it. -/
theorem ZSX.putT {W : World} {tmp : Obj} {vT' : Value} {a b c : Int} (h : ZSX w base z be bt vT vL vW vs m nE es nS ss) (hg : (w.alloc tmp).grownBy W vT.ownBlock) (hr : W.ownsRow base 61 3 vT' (m.T.length + 1) (triCells m.T ++ [.int .i64 a, .int .i64 b, .int .i64 c])) :
    ZSX (W.setCell ⟨z, 1, none⟩ vT') base z be bt vT' vL vW vs { m with T := m.T ++ [(a, b, c)] } nE es nS ss := by
  obtain ⟨a1, a2, a3, a4, a5, a6, a7, a8, a9, c1, c2⟩ := h
  have hg' := gGrown (World.grownBy_alloc w tmp _) hg (fun j e => .inl e)
  have hrow : ∀ {n xs v}, w.ownsRow 0 3 1 v n xs → (W.setCell ⟨z, 1, none⟩ vT').ownsRow 0 3 1 v n xs := fun hv =>
    (hv.kept hg' (own_own_ne hv a6 (by decide))).kept (row := some z) (gSet (World.grownBy.refl _ _) _ _ (.inl rfl)) (.inr (own_blk_ne (hv.kept hg' (own_own_ne hv a6 (by decide))) (a5.grown hg' (fun e => own_blk_ne a6 a5 (by decide) e.symm)) (by decide)))
  have hz := a5.grown hg' (fun e => own_blk_ne a6 a5 (by decide) e.symm)
  refine ⟨a1, a2, a3, a4, ?_, ?_, hrow a7, ?_, a9.kept (fun v n xs hv => hrow hv), ?_, ?_⟩
  · have := hz.set_ 1 vT'
    simpa using this
  · simp only [List.length_append, List.length_cons, List.length_nil, triCells_snoc]
    exact hr.kept (row := some z) (gSet (World.grownBy.refl _ _) _ _ (.inl rfl)) (.inr (own_blk_ne hr hz (by decide)))
  · have h8 := a8.kept hg' (own_own_ne a8 a6 (by decide))
    exact h8.kept (row := some z) (gSet (World.grownBy.refl _ _) _ _ (.inl rfl)) (.inr (own_blk_ne h8 hz (by decide)))
  · have h9 := c1.kept hg' (fun e => c1.ne_own a6 e.symm)
    exact h9.kept (row := some z) (gSet (World.grownBy.refl _ _) _ _ (.inl rfl)) (fun e => c1.ne_blk a5 (by simpa using e))
  · have h9 := c2.kept hg' (fun e => c2.ne_own a6 e.symm)
    exact h9.kept (row := some z) (gSet (World.grownBy.refl _ _) _ _ (.inl rfl)) (fun e => c2.ne_blk a5 (by simpa using e))
/-- A cell of the zipper is set anew. -/
theorem ZSX.put (h : ZSX w base z be bt vT vL vW vs m nE es nS ss) (k : Nat) (u : Value) {vL' vW' : Value} {vs' : List Value} {m' : ZM} (hT : m'.T = m.T)
    (hb : (#[.int .i64 (m.n : Int), vT, vL, vW, .map (some be), .map (some bt)] : Array Value).setIfInBounds k u = #[.int .i64 (m'.n : Int), vT, vL', vW', .map (some be), .map (some bt)])
    (hL : w.ownsRow 0 3 1 vL' m'.loop.length (m'.loop.map (Value.int .i64))) (hW : w.ownsRow base 35 1 vW' m'.waits.length vs'.reverse) (hR : RowsAt w vs' m'.waits) :
    ZSX (w.setCell ⟨z, k, none⟩ u) base z be bt vT vL' vW' vs' m' nE es nS ss := by
  obtain ⟨a1, a2, a3, a4, a5, a6, a7, a8, a9, c1, c2⟩ := h
  have hg : w.grownBy (w.setCell ⟨z, k, none⟩ u) (some z) := gSet (World.grownBy.refl _ _) _ _ (.inl rfl)
  refine ⟨a1, a2, a3, a4, ?_, ?_, hL.kept hg (.inr (own_blk_ne hL a5 (by decide))), hW.kept hg (.inr (own_blk_ne hW a5 (by decide))), hR.kept (fun v n xs hv => hv.kept hg (.inr (own_blk_ne hv a5 (by decide)))),
    c1.kept hg (fun e => c1.ne_blk a5 (by simpa using e)), c2.kept hg (fun e => c2.ne_blk a5 (by simpa using e))⟩
  · rw [← hb]
    exact a5.set_ k u
  · rw [hT]
    exact a6.kept hg (.inr (own_blk_ne a6 a5 (by decide)))
/-- One loop more waits, in a row that has grown; the zipper learns of it. -/
theorem ZSX.putW {W : World} {tmp : Obj} {vW' v : Value} {l : List Int} (h : ZSX w base z be bt vT vL vW vs m nE es nS ss) (hv : w.ownsRow 0 3 1 v l.length (l.map (Value.int .i64))) (hg : (w.alloc tmp).grownBy W vW.ownBlock) (hr : W.ownsRow base 35 1 vW' (m.waits.length + 1) (vs.reverse ++ [v])) :
    ZSX (W.setCell ⟨z, 3, none⟩ vW') base z be bt vT vL vW' (v :: vs) { m with waits := l :: m.waits } nE es nS ss := by
  obtain ⟨a1, a2, a3, a4, a5, a6, a7, a8, a9, c1, c2⟩ := h
  have hg' := gGrown (World.grownBy_alloc w tmp _) hg (fun j e => .inl e)
  have hz := a5.grown hg' (fun e => own_blk_ne a8 a5 (by decide) e.symm)
  have hrow : ∀ {n xs v}, w.ownsRow 0 3 1 v n xs → (W.setCell ⟨z, 3, none⟩ vW').ownsRow 0 3 1 v n xs := fun hv =>
    (hv.kept hg' (own_own_ne hv a8 (by decide))).kept (row := some z) (gSet (World.grownBy.refl _ _) _ _ (.inl rfl)) (.inr (own_blk_ne (hv.kept hg' (own_own_ne hv a8 (by decide))) hz (by decide)))
  refine ⟨a1, a2, a3, a4, ?_, ?_, hrow a7, ?_, (a9.kept (fun v n xs hv => hrow hv)).cons (hrow hv), ?_, ?_⟩
  · have := hz.set_ 3 vW'
    simpa using this
  · have h6 := a6.kept hg' (own_own_ne a6 a8 (by decide))
    exact h6.kept (row := some z) (gSet (World.grownBy.refl _ _) _ _ (.inl rfl)) (.inr (own_blk_ne h6 hz (by decide)))
  · simp only [List.length_cons, List.reverse_cons]
    exact hr.kept (row := some z) (gSet (World.grownBy.refl _ _) _ _ (.inl rfl)) (.inr (own_blk_ne hr hz (by decide)))
  · have h9 := c1.kept hg' (fun e => c1.ne_own a8 e.symm)
    exact h9.kept (row := some z) (gSet (World.grownBy.refl _ _) _ _ (.inl rfl)) (fun e => c1.ne_blk a5 (by simpa using e))
  · have h9 := c2.kept hg' (fun e => c2.ne_own a8 e.symm)
    exact h9.kept (row := some z) (gSet (World.grownBy.refl _ _) _ _ (.inl rfl)) (fun e => c2.ne_blk a5 (by simpa using e))
theorem ZSX.blk_ne (h : ZSX w base z be bt vT vL vW vs m nE es nS ss) {g : Nat} {t : TypeId} {cs : Array Value} (hg : Blk w g t cs) : g ≠ be ∧ g ≠ bt := ⟨fun e => h.E.ne_blk hg e.symm, fun e => h.S.ne_blk hg e.symm⟩
theorem ZSX.lt (h : ZSX w base z be bt vT vL vW vs m nE es nS ss) : z < w.heap.size ∧ be < w.heap.size ∧ bt < w.heap.size := ⟨h.blk.lt, h.E.lt, h.S.lt⟩
/-- A block that is made new is nothing of what is zipped. -/
theorem ZSX.new (h : ZSX w base z be bt vT vL vW vs m nE es nS ss) {t : TypeId} {cs : Array Value} (ht : t ≠ 3) (hg : (w.alloc (.cells cs t)).grownBy w' (some w.heap.size)) : ZSX w' base z be bt vT vL vW vs m nE es nS ss := by
  have hl := h.lt
  have hT := h.T.lt
  have hW := h.W.lt
  refine (h.alloc _).kept hg (fun r e => ?_)
  cases e
  exact ⟨by omega, by omega, by omega, fun e => by have := hT _ e; omega, fun e => by have := hW _ e; omega, fun v n xs hv => own_blk_ne hv (Blk.new _ _ _) (Ne.symm ht)⟩
end
end Go.Proofs.Ytpnkhgjjlionnaa.Zp
namespace Go.Proofs.Ytpnkhgjjlionnaa.Zp

abbrev Span := Int × Bool
def codeV (c : Int) : Int := if c = 67 then 0 else if c = 83 then 4 else if c = 82 then 5 else if c = 76 then 6 else if c = 69 then 7 else 0
def codeN (c : Int) : Int := if c = 67 then 1 else if c = 83 then 3 else if c = 82 then 3 else if c = 76 then 3 else if c = 69 then 3 else 0
def popX (st : List Span) : Span := match st with | [] => (3, true) | x :: _ => x
def popR (st : List Span) : List Span := match st with | [] => [] | _ :: r => r
/-- The span, whether it is a letter, the stack left. -/
def wordM (st : List Span) (c : Int) : Span × Bool × List Span :=
  if codeN c = 0 then ((0, false), false, st)
  else if c = 69 then ((3, false), true, st)
  else if c = 67 then ((if (popX st).2 then max ((popX st).1 - 1) 3 else (popX st).1 - 1, (popX st).2), true, popR st)
  else if c = 83 then (((popX st).1 + (popX (popR st)).1 - 1, (popX st).2 || (popX (popR st)).2), true, popR (popR st))
  else (((popX st).1 + 1, (popX st).2), true, popR st)
def sumAbs : List Span → Int
  | [] => 0
  | x :: r => (x.1.natAbs : Int) + sumAbs r
theorem sumAbs_nonneg : ∀ st, 0 ≤ sumAbs st
  | [] => Int.le_refl _
  | x :: r => by have := sumAbs_nonneg r; simp only [sumAbs]; omega
theorem sumAbs_pop (st : List Span) : ((popX st).1.natAbs : Int) + sumAbs (popR st) ≤ sumAbs st + 3 := by
  cases st <;> simp [popX, popR, sumAbs] <;> omega
theorem sumAbs_word (st : List Span) (c : Int) : ((wordM st c).1.1.natAbs : Int) + sumAbs (wordM st c).2.2 ≤ sumAbs st + 8 := by
  have h1 := sumAbs_pop st
  have h2 := sumAbs_pop (popR st)
  unfold wordM
  split
  · simp only; omega
  · split
    · simp only; omega
    · split
      · simp only; split <;> omega
      · split
        · simp only; omega
        · simp only; omega
theorem len_popR (st : List Span) : (popR st).length ≤ st.length := by cases st <;> simp [popR]
theorem len_word (st : List Span) (c : Int) : (wordM st c).2.2.length ≤ st.length := by
  have h1 := len_popR st
  have h2 := len_popR (popR st)
  unfold wordM
  split
  · exact Nat.le_refl _
  · split
    · exact Nat.le_refl _
    · split
      · exact h1
      · split
        · exact Nat.le_trans h2 h1
        · exact h1

/-- One letter more, from behind: none where it is no letter, or a word is missing. -/
def lenStep (p : List Span × List Int) (c : Int) : Option (List Span × List Int) :=
  if (wordM p.1 c).2.1 = false ∨ (wordM p.1 c).1.2 = true then none else some ((wordM p.1 c).1 :: (wordM p.1 c).2.2, p.2 ++ [(wordM p.1 c).1.1])
def lenRun (cs : List Int) : Option (List Span × List Int) := cs.foldlM lenStep ([], [])
theorem lenRun_snoc (cs : List Int) (c : Int) : lenRun (cs ++ [c]) = (lenRun cs).bind (fun p => lenStep p c) := by
  simp [lenRun, List.foldlM_append]
theorem lenRun_some {cs : List Int} {st : List Span} {out : List Int} (h : lenRun cs = some (st, out)) : out.length = cs.length ∧ sumAbs st ≤ 8 * cs.length ∧ st.length ≤ cs.length := by
  suffices H : ∀ (cs : List Int) (p q : List Span × List Int), cs.foldlM lenStep p = some q → q.2.length = p.2.length + cs.length ∧ sumAbs q.1 ≤ sumAbs p.1 + 8 * cs.length ∧ q.1.length ≤ p.1.length + cs.length by
    have := H cs _ _ h
    simpa [sumAbs] using this
  intro cs
  induction cs with
  | nil => intro p q h; simp at h; subst h; simp
  | cons c r ih =>
    intro p q h
    rw [List.foldlM_cons] at h
    cases hs : lenStep p c with
    | none => rw [hs] at h; cases h
    | some p' =>
      rw [hs] at h
      have h' := ih p' q h
      have h1 := sumAbs_word p.1 c
      have h2 := len_word p.1 c
      unfold lenStep at hs
      split at hs
      · cases hs
      · cases hs
        simp only [sumAbs, List.length_append, List.length_cons, List.length_nil] at h' ⊢
        omega
/-- What word.Lengths answers; none: ErrForm. -/
def lengthsM (zs : List Int) : Option (List Int) :=
  match lenRun zs.reverse with
  | some (st, out) => if st.length = 1 then some out.reverse else none
  | none => none
theorem lengthsM_length {zs l : List Int} (h : lengthsM zs = some l) : l.length = zs.length := by
  unfold lengthsM at h
  cases hr : lenRun zs.reverse with
  | none => rw [hr] at h; cases h
  | some p =>
    obtain ⟨st, out⟩ := p
    rw [hr] at h
    simp only at h
    split at h
    · cases h
      simpa using (lenRun_some hr).1
    · cases h
theorem lengthsM_pos {zs l : List Int} (h : lengthsM zs = some l) : 0 < l.length := by
  have hl := lengthsM_length h
  unfold lengthsM at h
  cases zs with
  | nil => simp [lenRun] at h
  | cons z r => rw [hl]; simp
theorem lengthsM_of_run_none {zs : List Int} (h : ∃ k, lenRun (zs.reverse.take k) = none) : lengthsM zs = none := by
  obtain ⟨k, hk⟩ := h
  have : lenRun zs.reverse = none := by
    rw [← List.take_append_drop k zs.reverse]
    unfold lenRun at hk ⊢
    rw [List.foldlM_append, hk]
    rfl
  unfold lengthsM
  rw [this]
end Go.Proofs.Ytpnkhgjjlionnaa.Zp
namespace Go.Proofs.Ytpnkhgjjlionnaa.Zp
open Go.RowKit

set_option maxHeartbeats 400000 in
theorem code_any (c : Int) (w : World) :
    Calls Try.prog 74 #[.int .u8 c] w fun e w' => e = .returned (.tuple #[.int .u64 (codeV c), .int .i64 (codeN c)]) ∧ w = w' := by
  go_enter Try.func74, Try.ntmps74
  go_wp2
  all_goals
    go_ret2
    simp_all [codeV, codeN]

/-- The cells of spans, in the order of memory. -/
def cellsS (l : List Span) : List Value := l.flatMap fun x => [.int .i64 x.1, .bool x.2]
theorem cellsS_append (a b : List Span) : cellsS (a ++ b) = cellsS a ++ cellsS b := by simp [cellsS]
theorem cellsS_length (a : List Span) : (cellsS a).length = a.length * 2 := by
  induction a with
  | nil => rfl
  | cons x r ih => simp only [cellsS, List.flatMap_cons, List.length_append, List.length_cons, List.length_nil] at ih ⊢; omega

/-- The variable in block b holds the stack st, in a row of the call's own (from block base on, ahead of block H). -/
def StackIn (w : World) (base H b : Nat) (st : List Span) : Prop :=
  ∃ v, Blk w b 124 #[v] ∧ w.ownsRow base 129 2 v st.length (cellsS st.reverse) ∧ ∀ k, v.ownBlock = some k → k < H

theorem StackIn.lt {w : World} {base H b : Nat} {st : List Span} (h : StackIn w base H b st) : b < w.heap.size := by
  obtain ⟨v, hb, _⟩ := h
  exact hb.lt
theorem StackIn.kept {w w' : World} {base H b : Nat} {st : List Span} (h : StackIn w base H b st) (hg : w.grownBy w' none) : StackIn w' base H b st := by
  obtain ⟨v, hb, hr, hH⟩ := h
  exact ⟨v, hb.grown hg (by simp), hr.kept hg (by cases hv : v.ownBlock <;> simp), hH⟩
theorem StackIn.grown {w w' : World} {base H b g : Nat} {st : List Span} (h : StackIn w base H b st) (hg : w.grownBy w' (some g)) (hne : g ≠ b) (hbase : g < base ∨ H ≤ g) : StackIn w' base H b st := by
  obtain ⟨v, hb, hr, hH⟩ := h
  refine ⟨v, hb.grown hg (by simpa using fun e => hne e.symm), hr.kept hg ?_, hH⟩
  rcases hv : v.ownBlock with _ | k
  · exact .inl rfl
  · refine .inr (fun e => ?_)
    have h1 := hr.lt k hv
    have h2 := hH k hv
    simp at e
    omega
theorem StackIn.alloc {w : World} {base H b : Nat} {st : List Span} (h : StackIn w base H b st) (o : Obj) : StackIn (w.alloc o) base H b st := h.kept (World.grownBy_alloc _ _ _)
theorem StackIn.set_ {w : World} {base H b : Nat} {st : List Span} (h : StackIn w base H b st) (p : Addr) (u : Value) (hne : p.block ≠ b) (hH : H ≤ p.block) : StackIn (w.setCell p u) base H b st :=
  h.grown (g := p.block) (gSet (World.grownBy.refl _ _) _ _ (.inl rfl)) hne (.inr hH)
theorem StackIn.st_ {w : World} {base H b g i : Nat} {u : Value} {st : List Span} (h : StackIn w base H b st) (hne : g ≠ b) (hH : H ≤ g) : StackIn (w.setCell ⟨g, i, none⟩ u) base H b st := h.set_ _ _ hne hH
theorem StackIn.calm {w w' : World} {base H b : Nat} {st : List Span} {row : Option Nat} (h : StackIn w base H b st) (hg : w.grownBy w' row) (hr : ∀ r, row = some r → ∃ o : Obj, w.heap[r]? = some o ∧ o.isCells = false) : StackIn w' base H b st := by
  obtain ⟨v, hb, ho, hH⟩ := h
  exact ⟨v, hb.calm hg hr, own_calm ho hg hr, hH⟩
theorem StackIn.new {w : World} {base b : Nat} (H : Nat) (h : Blk w b 124 #[.slice none 0 0]) : StackIn w base H b [] :=
  ⟨_, h, World.ownsRow_nil _ _ _ _, by simp [Value.ownBlock]⟩
theorem StackIn.top {w : World} {base H H' b : Nat} {st : List Span} (h : StackIn w base H b st) (hH : H ≤ H') : StackIn w base H' b st := by
  obtain ⟨v, hb, hr, h2⟩ := h
  exact ⟨v, hb, hr, fun k hk => by have := h2 k hk; omega⟩
theorem cut_own {w : World} {base : Nat} {e : TypeId} {size g k n cap : Nat} {xs ys : List Value} (h : w.ownsRow base e size (.slice (some ⟨g, 0, none⟩) n cap) n (xs ++ ys)) (hx : xs.length = k * size) (hk : k ≤ n) :
    w.ownsRow base e size (.slice (some ⟨g, 0, none⟩) k cap) k xs := by
  obtain ⟨h1, h2⟩ := h
  rcases h2 with ⟨h2, _⟩ | ⟨g', cap', cur, hv, hg, hh, hn, hm, hc, ht⟩
  · cases h2
  · simp only [Value.slice.injEq, Option.some.injEq, Addr.mk.injEq] at hv
    obtain ⟨⟨rfl, _⟩, _, rfl⟩ := hv
    refine ⟨hx, .inr ⟨g, cap, cur, rfl, hg, hh, by omega, hm, hc, ?_⟩⟩
    have hle : k * size ≤ n * size := Nat.mul_le_mul_right _ hk
    rw [← List.take_take_of_le_left ht hle hx]
where
  List.take_take_of_le_left {l xs ys : List Value} {a b : Nat} (ht : l.take b = xs ++ ys) (hab : a ≤ b) (hx : xs.length = a) : xs = l.take a := by
    have : (l.take b).take a = xs := by rw [ht, ← hx]; exact List.take_left
    rw [← this, List.take_take, Nat.min_eq_left hab]

set_option maxHeartbeats 400000 in
theorem pop_empty (b cap : Nat) (ao : Option Addr) (w : World) (hb : b < w.heap.size) (hc : w.cell? ⟨b, 0, none⟩ = some (.slice ao 0 cap)) :
    Calls Try.prog 104 #[.pointer (some ⟨b, 0, none⟩)] w fun e w' => e = .returned (.agg #[.int .i64 3, .bool true]) ∧ w.grownBy w' none := by
  go_enter Try.func104, Try.ntmps104
  go_wp2
  refine bodyPost_ret (v := .agg #[.int .i64 3, .bool true]) (by simp [results, Try.results104, go_sem]) rfl ⟨rfl, ?_⟩
  exact gAlloc (World.grownBy.refl _ _) _

set_option maxHeartbeats 400000 in
theorem pop_some (b g k cap : Nat) (n : Int) (m : Bool) (w : World) (hb : b < w.heap.size) (hg : g < w.heap.size) (hc : w.cell? ⟨b, 0, none⟩ = some (.slice (some ⟨g, 0, none⟩) (k + 1) cap)) (hcap : k + 1 ≤ cap) (hcm : cap ≤ maxLen)
    (hn : w.cell? ⟨g, k * 2, none⟩ = some (.int .i64 n)) (hm : w.cell? ⟨g, k * 2 + 1, none⟩ = some (.bool m)) (hf : w.frozen? ⟨b, 0, none⟩ = false) :
    Calls Try.prog 104 #[.pointer (some ⟨b, 0, none⟩)] w fun e w' => e = .returned (.agg #[.int .i64 n, .bool m]) ∧ ∃ o o',
      w' = (((w.setCell ⟨b, 0, none⟩ (.slice (some ⟨g, 0, none⟩) k cap)).alloc o).alloc o').drew.drew := by
  unfold maxLen at hcm
  go_enter Try.func104, Try.ntmps104
  go_wp2
  go_region
  go_wp2
  go_region
  go_wp2
  refine bodyPost_ret (v := .agg #[.int .i64 n, .bool m]) (by simp [results, Try.results104, go_sem]) rfl ⟨rfl, _, _, rfl⟩

/-- pop, whatever the stack. -/
theorem pop_any (base H b : Nat) (st : List Span) (w : World) (h : StackIn w base H b st) :
    Calls Try.prog 104 #[.pointer (some ⟨b, 0, none⟩)] w fun e w' => e = .returned (.agg #[.int .i64 (popX st).1, .bool (popX st).2]) ∧ StackIn w' base H b (popR st) ∧ w.grownBy w' (some b) := by
  obtain ⟨v, hb, hr, hH⟩ := h
  cases st with
  | nil =>
    obtain ⟨ao, cap, rfl⟩ : ∃ ao cap, v = .slice ao 0 cap := by
      rcases hr.2 with ⟨rfl, _⟩ | ⟨g, cap, cur, rfl, _⟩
      · exact ⟨_, _, rfl⟩
      · exact ⟨_, _, rfl⟩
    refine (pop_empty b cap ao w hb.lt (by rw [hb.cell]; rfl)).mono ?_
    rintro e w' ⟨rfl, hg⟩
    exact ⟨rfl, StackIn.kept ⟨_, hb, hr, hH⟩ hg, ⟨hg.os, hg.tape, hg.output, hg.size, fun k hk _ => hg.block k hk (by simp)⟩⟩
  | cons x r =>
    obtain ⟨g, cap, cur, rfl, hbase, hg, hn, hm, hc, ht⟩ : ∃ g cap cur, v = .slice (some ⟨g, 0, none⟩) (r.length + 1) cap ∧ base ≤ g ∧ w.heap[g]? = some (.cells cur 129 (0, 0)) ∧ r.length + 1 ≤ cap ∧ cap ≤ maxLen ∧ cur.size = cap * 2 ∧
        cur.toList.take ((r.length + 1) * 2) = cellsS (x :: r).reverse := by
      rcases hr.2 with ⟨_, h0⟩ | h
      · simp at h0
      · exact h
    have hcells := hr.cells (g := g) rfl
    have e1 : cellsS (x :: r).reverse = cellsS r.reverse ++ [.int .i64 x.1, .bool x.2] := by rw [List.reverse_cons, cellsS_append]; rfl
    have hl : (cellsS r.reverse).length = r.length * 2 := by rw [cellsS_length, List.length_reverse]
    have c0 : w.cell? ⟨g, r.length * 2, none⟩ = some (.int .i64 x.1) := by
      have := hcells (r.length * 2) (.int .i64 x.1) (by rw [e1, List.getElem?_append_right (by omega), hl]; simp)
      simpa [Addr.add_lit] using this
    have c1 : w.cell? ⟨g, r.length * 2 + 1, none⟩ = some (.bool x.2) := by
      have := hcells (r.length * 2 + 1) (.bool x.2) (by rw [e1, List.getElem?_append_right (by omega), hl]; simp)
      simpa [Addr.add_lit] using this
    have hgl : g < w.heap.size := (Array.getElem?_eq_some_iff.1 hg).1
    have hgb : g ≠ b := Blk.ne_ (t := 129) (t' := 124) hg hb (by decide)
    refine (pop_some b g r.length cap x.1 x.2 w hb.lt hgl (by rw [hb.cell]; rfl) hn hm c0 c1 (hb.frozen 0)).mono ?_
    rintro e w' ⟨rfl, o, o', rfl⟩
    refine ⟨rfl, ⟨_, (((hb.set1 _).alloc _).alloc _).drew, ?_, by simpa [Value.ownBlock] using hH⟩, gDrew (gDrew (gAlloc (gAlloc (gSet (World.grownBy.refl _ _) _ _ (.inl rfl)) _) _))⟩
    have h2 : w.ownsRow base 129 2 (.slice (some ⟨g, 0, none⟩) r.length cap) r.length (cellsS r.reverse) := by
      rw [e1] at hr
      exact cut_own hr hl (by simp)
    refine World.ownsRow.drew (World.ownsRow.drew (World.ownsRow.alloc (World.ownsRow.alloc (h2.kept (row := some b) (gSet (World.grownBy.refl _ _) _ _ (.inl rfl)) (.inr ?_)) _) _))
    simp [Value.ownBlock, hgb]
end Go.Proofs.Ytpnkhgjjlionnaa.Zp
namespace Go.Proofs.Ytpnkhgjjlionnaa.Zp
open Go.RowKit

theorem word_no (base H b : Nat) (st : List Span) (c : Int) (w : World) (h : StackIn w base H b st) (hc : codeN c = 0) :
    Calls Try.prog 76 #[.pointer (some ⟨b, 0, none⟩), .int .u8 c] w fun e w' => e = .returned (.tuple #[.agg #[.int .i64 0, .bool false], .bool false]) ∧ StackIn w' base H b st ∧ w.grownBy w' (some b) := by
  have hc' : codeN c = 0 := hc
  go_enter Try.func76, Try.ntmps76
  go_wp2_with (go_at_call 74; refine (code_any _ _).mono ?_; rintro e w' ⟨rfl, rfl⟩)
  refine bodyPost_ret (v := .tuple #[.agg #[.int .i64 0, .bool false], .bool false]) (by simp [results, Try.results76, go_sem]) rfl ⟨rfl, ?_, ?_⟩
  · exact h.kept (gAlloc (World.grownBy.refl _ _) _)
  · exact gAlloc (World.grownBy.refl _ _) _

theorem word_E (base H b : Nat) (st : List Span) (w : World) (h : StackIn w base H b st) :
    Calls Try.prog 76 #[.pointer (some ⟨b, 0, none⟩), .int .u8 69] w fun e w' => e = .returned (.tuple #[.agg #[.int .i64 3, .bool false], .bool true]) ∧ StackIn w' base H b st ∧ w.grownBy w' (some b) := by
  have hc' : codeN 69 = 3 := rfl
  go_enter Try.func76, Try.ntmps76
  go_wp2_with (go_at_call 74; refine (code_any _ _).mono ?_; rintro e w' ⟨rfl, rfl⟩)
  refine bodyPost_ret (v := .tuple #[.agg #[.int .i64 3, .bool false], .bool true]) (by simp [results, Try.results76, go_sem]) rfl ⟨rfl, ?_, ?_⟩
  · exact h.kept (gAlloc (World.grownBy.refl _ _) _)
  · exact gAlloc (World.grownBy.refl _ _) _

set_option maxHeartbeats 400000 in
theorem word_C (base H b : Nat) (st : List Span) (w : World) (h : StackIn w base H b st) (hH : H ≤ w.heap.size) (hs : sumAbs st ≤ 1000000000000) :
    Calls Try.prog 76 #[.pointer (some ⟨b, 0, none⟩), .int .u8 67] w fun e w' => e = .returned (.tuple #[.agg #[.int .i64 (wordM st 67).1.1, .bool (wordM st 67).1.2], .bool true]) ∧ StackIn w' base H b (popR st) ∧ w.grownBy w' (some b) := by
  have hc' : codeN 67 = 1 := rfl
  have hp := sumAbs_pop st
  have hn := sumAbs_nonneg (popR st)
  have h1 : (popX st).1 ≤ 1000000000003 := by omega
  have h2 : -1000000000003 ≤ (popX st).1 := by omega
  have hbl := h.lt
  go_enter Try.func76, Try.ntmps76
  go_wp2_with (first | (go_at_call 74; refine (code_any _ _).mono ?_; rintro e w' ⟨rfl, rfl⟩) | (go_at_call 104; refine (pop_any base H b st _ (h.kept (gAlloc (World.grownBy.refl _ _) _))).mono ?_; rintro e w1 ⟨rfl, hst, hg⟩; obtain ⟨hlt, k0, f0, k1, f1⟩ := ((Blk.new w 129 #[.int .i64 0, .bool false]).grown hg (by simpa using fun e => Nat.ne_of_lt h.lt e.symm)).two; have hg2 : w.grownBy w1 (some b) := gGrown (gAlloc (World.grownBy.refl _ _) _) hg (fun j e => .inl e)))
  all_goals
    refine bodyPost_ret (v := .tuple #[.agg #[.int .i64 (wordM st 67).1.1, .bool (wordM st 67).1.2], .bool true]) (by simp [results, Try.results76, go_sem, wordM, codeN, *]; try omega) rfl ⟨rfl, ?_, ?_⟩
    · repeat (first | with_reducible exact hst | with_reducible refine StackIn.alloc ?_ _ | ((with_reducible refine StackIn.st_ ?_ ?_ ?_); rotate_left; omega; omega))
    · repeat (first | with_reducible exact hg2 | with_reducible refine gAlloc ?_ _ | ((with_reducible refine gStN ?_ ?_); rotate_left; omega))

set_option maxHeartbeats 400000 in
theorem word_LR (base H b : Nat) (st : List Span) (c : Int) (w : World) (h : StackIn w base H b st) (hH : H ≤ w.heap.size) (hs : sumAbs st ≤ 1000000000000) (hc : c = 76 ∨ c = 82) :
    Calls Try.prog 76 #[.pointer (some ⟨b, 0, none⟩), .int .u8 c] w fun e w' => e = .returned (.tuple #[.agg #[.int .i64 (wordM st c).1.1, .bool (wordM st c).1.2], .bool true]) ∧ StackIn w' base H b (popR st) ∧ w.grownBy w' (some b) := by
  have hc' : codeN c = 3 := by rcases hc with rfl | rfl <;> rfl
  have hc1 : (c == 67) = false := by rcases hc with rfl | rfl <;> rfl
  have hc2 : (c == 69) = false := by rcases hc with rfl | rfl <;> rfl
  have hc3 : (c == 83) = false := by rcases hc with rfl | rfl <;> rfl
  have hm : wordM st c = (((popX st).1 + 1, (popX st).2), true, popR st) := by rcases hc with rfl | rfl <;> simp [wordM, codeN]
  have Hm := Lib.hid hm
  clear hm hc
  have hp := sumAbs_pop st
  have hn := sumAbs_nonneg (popR st)
  have h1 : (popX st).1 ≤ 1000000000003 := by omega
  have h2 : -1000000000003 ≤ (popX st).1 := by omega
  have hbl := h.lt
  go_enter Try.func76, Try.ntmps76
  go_wp2_with (first | (go_at_call 74; refine (code_any _ _).mono ?_; rintro e w' ⟨rfl, rfl⟩) | (go_at_call 104; refine (pop_any base H b st _ (h.kept (gAlloc (World.grownBy.refl _ _) _))).mono ?_; rintro e w1 ⟨rfl, hst, hg⟩; obtain ⟨hlt, k0, f0, k1, f1⟩ := ((Blk.new w 129 #[.int .i64 0, .bool false]).grown hg (by simpa using fun e => Nat.ne_of_lt h.lt e.symm)).two; have hg2 : w.grownBy w1 (some b) := gGrown (gAlloc (World.grownBy.refl _ _) _) hg (fun j e => .inl e)))
  rw [Hm.out]
  refine bodyPost_ret (v := .tuple #[.agg #[.int .i64 ((popX st).1 + 1), .bool (popX st).2], .bool true]) (by simp [results, Try.results76, go_sem, k0, k1, hlt]) rfl ⟨rfl, ?_, ?_⟩
  · repeat (first | with_reducible exact hst | with_reducible refine StackIn.alloc ?_ _ | ((with_reducible refine StackIn.st_ ?_ ?_ ?_); rotate_left; omega; omega))
  · repeat (first | with_reducible exact hg2 | with_reducible refine gAlloc ?_ _ | ((with_reducible refine gStN ?_ ?_); rotate_left; omega))

set_option maxHeartbeats 400000 in
theorem word_S (base H b : Nat) (st : List Span) (w : World) (h : StackIn w base H b st) (hH : H ≤ w.heap.size) (hs : sumAbs st ≤ 1000000000000) :
    Calls Try.prog 76 #[.pointer (some ⟨b, 0, none⟩), .int .u8 83] w fun e w' => e = .returned (.tuple #[.agg #[.int .i64 (wordM st 83).1.1, .bool (wordM st 83).1.2], .bool true]) ∧ StackIn w' base H b (popR (popR st)) ∧ w.grownBy w' (some b) := by
  have hc' : codeN 83 = 3 := rfl
  have hp := sumAbs_pop st
  have hp2 := sumAbs_pop (popR st)
  have hn := sumAbs_nonneg (popR st)
  have hn2 := sumAbs_nonneg (popR (popR st))
  have h1 : (popX st).1 ≤ 1000000000003 := by omega
  have h2 : -1000000000003 ≤ (popX st).1 := by omega
  have h3 : (popX (popR st)).1 ≤ 1000000000006 := by omega
  have h4 : -1000000000006 ≤ (popX (popR st)).1 := by omega
  have hbl := h.lt
  go_enter Try.func76, Try.ntmps76
  go_wp2_with (first | (go_at_call 74; refine (code_any _ _).mono ?_; rintro e w' ⟨rfl, rfl⟩) | fail)
  refine (pop_any base H b st _ (h.kept (gAlloc (World.grownBy.refl _ _) _))).mono ?_
  rintro e w1 ⟨rfl, hst, hg⟩
  have hB := ((Blk.new w 129 #[.int .i64 0, .bool false]).grown hg (by simpa using fun e => Nat.ne_of_lt hbl e.symm))
  obtain ⟨hlt, k0, f0, k1, f1⟩ := hB.two
  go_wp2_with fail
  refine (pop_any base H b (popR st) _ (hst.alloc _)).mono ?_
  rintro e w2 ⟨rfl, hst2, hg2⟩
  clear k0 k1 f0 f1
  obtain ⟨hlt, k0, f0, k1, f1⟩ := ((hB.alloc _).grown hg2 (by simpa using fun e => Nat.ne_of_lt hbl e.symm)).two
  obtain ⟨hlt', m0, g0, m1, g1⟩ := ((Blk.new w1 129 #[.int .i64 (popX st).1, .bool (popX st).2]).grown hg2 (by have := hst.lt; simp; omega)).two
  have hg3 : w.grownBy w2 (some b) := gGrown (gAlloc (gGrown (gAlloc (World.grownBy.refl _ _) _) hg (fun j e => .inl e)) _) hg2 (fun j e => .inl e)
  have hw1 : w.heap.size < w1.heap.size := hB.lt
  have hm : wordM st 83 = (((popX st).1 + (popX (popR st)).1 - 1, (popX st).2 || (popX (popR st)).2), true, popR (popR st)) := by simp [wordM, codeN]
  have Hm := Lib.hid hm
  clear hm hp hp2 hn hn2 hs
  cases hx : (popX st).2 <;> rw [hx] at m1
  all_goals go_wp2
  all_goals
    rw [Hm.out, hx]
    refine bodyPost_ret (v := .tuple #[.agg #[.int .i64 ((popX st).1 + (popX (popR st)).1 - 1), .bool _], .bool true]) (by simp [results, Try.results76, go_sem, k0, k1, hlt]) rfl ⟨rfl, ?_, ?_⟩
    · repeat (first | with_reducible exact hst2 | with_reducible refine StackIn.alloc ?_ _ | ((with_reducible refine StackIn.st_ ?_ ?_ ?_); rotate_left; omega; omega))
    · repeat (first | with_reducible exact hg3 | with_reducible refine gAlloc ?_ _ | ((with_reducible refine gStN ?_ ?_); rotate_left; omega))

/-- word, whatever the letter and the stack. -/
theorem word_any (base H b : Nat) (st : List Span) (c : Int) (w : World) (h : StackIn w base H b st) (hH : H ≤ w.heap.size) (hs : sumAbs st ≤ 1000000000000) :
    Calls Try.prog 76 #[.pointer (some ⟨b, 0, none⟩), .int .u8 c] w fun e w' =>
      e = .returned (.tuple #[.agg #[.int .i64 (wordM st c).1.1, .bool (wordM st c).1.2], .bool (wordM st c).2.1]) ∧ StackIn w' base H b (wordM st c).2.2 ∧ w.grownBy w' (some b) := by
  by_cases h0 : codeN c = 0
  · have e : wordM st c = ((0, false), false, st) := by simp [wordM, h0]
    rw [e]
    exact word_no base H b st c w h h0
  by_cases h1 : c = 69
  · subst h1
    have e : wordM st 69 = ((3, false), true, st) := by simp [wordM, codeN]
    rw [e]
    exact word_E base H b st w h
  by_cases h2 : c = 67
  · subst h2
    have e1 : (wordM st 67).2 = (true, popR st) := by simp [wordM, codeN]
    rw [e1]
    exact word_C base H b st w h hH hs
  by_cases h3 : c = 83
  · subst h3
    have e1 : (wordM st 83).2 = (true, popR (popR st)) := by simp [wordM, codeN]
    rw [e1]
    exact word_S base H b st w h hH hs
  have h4 : c = 76 ∨ c = 82 := by
    unfold codeN at h0
    simp [h1, h2, h3] at h0
    omega
  have e1 : (wordM st c).2 = (true, popR st) := by rcases h4 with rfl | rfl <;> simp [wordM, codeN]
  rw [e1]
  exact word_LR base H b st c w h hH hs h4
end Go.Proofs.Ytpnkhgjjlionnaa.Zp
namespace Go.Proofs.Ytpnkhgjjlionnaa.Zp
open Go.RowKit Go.Shelf
attribute [local go_sem] Oper.semAt_some

/-- What has come when k rounds are over. -/
def backs (zs : List Int) (k : Nat) : List (Nat × Int) := (List.range k).map fun j => (zs.length - 1 - j, zs[zs.length - 1 - j]?.getD 0)
theorem backs_succ (zs : List Int) (k : Nat) : backs zs (k + 1) = backs zs k ++ [(zs.length - 1 - k, zs[zs.length - 1 - k]?.getD 0)] := by simp [backs, List.range_succ]
theorem backs_length (zs : List Int) (k : Nat) : (backs zs k).length = k := by simp [backs]

theorem backs_snd (zs : List Int) (k : Nat) (hk : k ≤ zs.length) : (backs zs k).map (·.2) = zs.reverse.take k := by
  apply List.ext_getElem
  · simp [backs]; omega
  · intro i h1 h2
    have hi : i < k := by simpa [backs] using h1
    simp [backs]
    rw [List.getElem?_eq_getElem (by omega)]
    rfl

/-- What a round must keep: the row that is gone over, and the iterator's own box. -/
def KeepTwo (b c : Nat) (W W' : World) : Prop := W'.heap[b]? = W.heap[b]? ∧ W'.heap[c]? = W.heap[c]?
theorem KeepTwo.refl (b c : Nat) (W : World) : KeepTwo b c W W := ⟨rfl, rfl⟩
theorem KeepTwo.trans {b c : Nat} {A B C : World} (h : KeepTwo b c A B) (k : KeepTwo b c B C) : KeepTwo b c A C := ⟨k.1.trans h.1, k.2.trans h.2⟩
theorem KeepTwo.put {b c n : Nat} (hb : b < n) (hc : c < n) (W : World) (l : Nat) (o o' : Obj) (hl : n ≤ l) (_ : W.heap[l]? = some o) (_ : o.isCells = false) (_ : o.isWalk = false) : KeepTwo b c W (W.putObj l o') :=
  ⟨World.putObj_heap_other (by omega), World.putObj_heap_other (by omega)⟩

set_option maxRecDepth 100000 in
set_option maxHeartbeats 2000000 in
theorem back1_in (F : Fence) (n : Nat) (h7 : F.fn 103) (hro : F.round = none) (hn : 1 ≤ n) (l Bs b cap : Nat) (zs : List Int) (hreach : zs.length ≤ 1000000000) (J Jx : List (Nat × Int) → World → Prop)
    (hY : ∀ pre x W, J pre W → pre.length < zs.length → YieldAt F (n - 1) Try.prog l #[.int .i64 (x.1 : Nat), .int .u8 x.2] W fun e W' =>
      (e = .returned (.bool true) ∧ J (pre ++ [x]) W' ∧ KeepTwo b Bs W W') ∨ (e = .returned (.bool false) ∧ Jx (pre ++ [x]) W'))
    (W : World) (hBs : W.cell? ⟨Bs, 0, none⟩ = some (.slice (some ⟨b, 0, none⟩) zs.length cap)) (hc : ∀ j, j < zs.length → W.cell? ⟨b, j, none⟩ = some (.int .u8 (zs[j]?.getD 0))) (h0 : J [] W) :
    CallsIn F n Try.prog 103 #[.func (.yield l) #[] #[], .pointer (some ⟨Bs, 0, none⟩)] W fun e W' => (∃ v, e = .returned v) ∧
      ((∃ ys, ys = backs zs zs.length ∧ J ys W') ∨ (∃ pre, (∃ k, k ≤ zs.length ∧ pre = backs zs k) ∧ Jx pre W')) := by
  refine callsIn_of_wp Try.func103 rfl h7 ?_ hro
  simp only [Try.ntmps103, List.size_toArray, List.length_cons, List.length_nil, Nat.reduceAdd, Nat.reduceSub, Array.replicate_succ, Array.replicate_zero, List.push_toArray, List.append_toArray, List.nil_append, List.cons_append]
  have hl0 : (-1 : Int) ≤ (zs.length : Int) - 1 := by omega
  gi_wp2
  gi_loopw [3] (fun i wr => ∃ k : Nat, k ≤ zs.length ∧ i = .int .i64 ((zs.length : Int) - 1 - k) ∧ J (backs zs k) wr ∧ KeepTwo b Bs W wr)
    (fun i _ => (intOf i + 1).toNat)
  case atStart => exact ⟨0, Nat.zero_le _, by simp, h0, KeepTwo.refl _ _ _⟩
  case round =>
    obtain ⟨k, hk, rfl, hJs, hnx⟩ := hrel
    by_cases hlt : k < zs.length
    · have hcx : wr.cell? ⟨b, zs.length - 1 - k, none⟩ = some (.int .u8 (zs[zs.length - 1 - k]?.getD 0)) := (World.cell?_of_block (a := ⟨b, zs.length - 1 - k, none⟩) hnx.1).trans (hc _ (by omega))
      have hbs : wr.cell? ⟨Bs, 0, none⟩ = some (.slice (some ⟨b, 0, none⟩) zs.length cap) := (World.cell?_of_block (a := ⟨Bs, 0, none⟩) hnx.2).trans hBs
      obtain ⟨fn, tmps, assign, body, hy, hR⟩ := hY _ (zs.length - 1 - k, zs[zs.length - 1 - k]?.getD 0) wr hJs (by rw [backs_length]; exact hlt)
      dsimp only at hy
      have e1 : ((zs.length - 1 - k : Nat) : Int) = (zs.length : Int) - 1 - k := by omega
      rw [e1] at hy
      have HE := Lib.hid e1
      clear e1
      have hnn : (0 : Int) ≤ (zs.length : Int) - 1 - k := by omega
      gi_wp2
      refine hR.mono ?_
      rintro e W3 (⟨rfl, hJ3, hk3⟩ | ⟨rfl, hJx3⟩)
      · -- the round goes on
        gi_wp2
        go_roundw
        case rel => exact ⟨k + 1, by omega, by congr 1; omega, by rw [backs_succ]; exact hJ3, hnx.trans hk3⟩
        case measure => simp [intOf]; omega
      · gi_wp2
        refine bodyPost_ret (results_none rfl _ _ _) rfl ?_
        exact ⟨⟨_, rfl⟩, .inr ⟨_, ⟨k + 1, by omega, (backs_succ _ _).symm⟩, hJx3⟩⟩
    · obtain rfl : k = zs.length := by omega
      gi_wp2
      go_end0
      exact ⟨⟨_, rfl⟩, .inl ⟨_, rfl, hJs⟩⟩

set_option maxHeartbeats 1000000 in
/-- slices.Backward(s): the slice value is boxed; the function value captures the box. -/
theorem back_in (F : Fence) (n : Nat) (h6 : F.fn 75) (hro : F.round = none) (a : Option Addr) (len cap : Nat) (w : World) :
    CallsIn F n Try.prog 75 #[.slice a len cap] w fun e w' => e = .returned (.func (.func 103) #[] #[.pointer (some ⟨w.heap.size, 0, none⟩)]) ∧ w' = w.alloc (.cells #[.slice a len cap] 119) := by
  refine callsIn_of_wp Try.func75 rfl h6 ?_ hro
  simp only [Try.ntmps75, List.size_toArray, List.length_cons, List.length_nil, Nat.reduceAdd, Nat.reduceSub, Array.replicate_succ, Array.replicate_zero, List.push_toArray, List.append_toArray, List.nil_append, List.cons_append]
  gi_wp2
  go_ret
  exact ⟨rfl, rfl⟩

/-- The function value stops as it says, over a row b that holds zs. -/
theorem back_stops (F : Fence) (n : Nat) (h8 : F.fn 103) (hro : F.round = none) (hn : 1 ≤ n) (Bs b cap : Nat) (zs : List Int) (hreach : zs.length ≤ 1000000000) (w : World) (hBs : Bs < w.heap.size) (hb : b < w.heap.size)
    (hc : w.cell? ⟨Bs, 0, none⟩ = some (.slice (some ⟨b, 0, none⟩) zs.length cap)) (hI : ∀ j, j < zs.length → w.cell? ⟨b, j, none⟩ = some (.int .u8 (zs[j]?.getD 0))) :
    SeqStopsK F n Try.prog 103 #[.pointer (some ⟨Bs, 0, none⟩)] (fun x : Nat × Int => #[Value.int .i64 (x.1 : Nat), Value.int .u8 x.2]) (KeepTwo b Bs) (fun ys => ys = backs zs zs.length)
      (fun pre => ∃ k, k ≤ zs.length ∧ pre = backs zs k) zs.length w := fun l J Jx W hW _ _ hY h0 =>
  back1_in F n h8 hro hn l Bs b cap zs hreach J Jx hY W ((hW.cell (p := ⟨Bs, 0, none⟩) hBs).trans hc) (fun j hj => (hW.cell (p := ⟨b, j, none⟩) hb).trans (hI j hj)) h0
end Go.Proofs.Ytpnkhgjjlionnaa.Zp
namespace Go.Proofs.Ytpnkhgjjlionnaa.Zp
open Go.RowKit Go.Shelf
attribute [local go_sem] Oper.semAt_some

/-- A text's letters, as numbers. -/
def lettersOf (s : ByteArray) : List Int := s.data.toList.map fun b => (b.toNat : Int)
theorem lettersOf_length (s : ByteArray) : (lettersOf s).length = s.size := by simp [lettersOf]

theorem bytes_facts (w : World) (e : TypeId) (s : ByteArray) : (Lib.bytesWorld w e s).heap.size = w.heap.size + 1 ∧ w.grownBy (Lib.bytesWorld w e s) none ∧
    (∀ j, j < (lettersOf s).length → (Lib.bytesWorld w e s).cell? ⟨w.heap.size, j, none⟩ = some (.int .u8 ((lettersOf s)[j]?.getD 0))) ∧ ∃ C fr, (Lib.bytesWorld w e s).heap[w.heap.size]? = some (.cells C e fr) := by
  refine ⟨Lib.bytesWorld_size w e s, ⟨rfl, rfl, rfl, by rw [Lib.bytesWorld_size]; omega, fun k hk _ => Lib.bytesWorld_at_old w e s k hk⟩, fun j hj => ?_, _, _, Lib.bytesWorld_at_new w e s⟩
  have hj' : j < s.size := by rwa [lettersOf_length] at hj
  have hj2 : j < s.data.toList.length := by simpa using hj'
  rw [Lib.bytesWorld_cell w e s j hj']
  simp [lettersOf, List.getD, List.getElem?_eq_getElem hj2]

theorem info_span : (Try.prog.info? 129).map (fun i => (i.zero, i.size, i.bytes)) = some (some (.agg #[.int .i64 0, .bool false]), 2, 16) := by kernel_rfl
theorem info_int : (Try.prog.info? 3).map (fun i => (i.zero, i.size, i.bytes)) = some (some (.int .i64 0), 1, 8) := by kernel_rfl

/-- What the loop's rounds keep. -/
structure LenInv (w : World) (pre : List (Nat × Int)) (W : World) : Prop where
  run : ∃ st out vo, lenRun (pre.map (·.2)) = some (st, out) ∧ StackIn W w.heap.size W.heap.size (w.heap.size + 1 + 1) st ∧ Blk W (w.heap.size + 1 + 1 + 1) 35 #[vo] ∧ W.ownsRow w.heap.size 3 1 vo out.length (out.map (Value.int .i64))
  res : Blk W w.heap.size 35 #[.slice none 0 0]
  err : Blk W (w.heap.size + 1) 28 #[.int .i64 0]
  byt : ∃ o, CellsT W (w.heap.size + 1 + 1 + 1 + 1) 5 o
  box : ∃ o, CellsT W (w.heap.size + 1 + 1 + 1 + 1 + 1) 119 o
  below : Below w.heap.size w W
theorem LenInv.calm {w W W' : World} {pre : List (Nat × Int)} {row : Option Nat} (h : LenInv w pre W) (hg : W.grownBy W' row) (hr : ∀ r, row = some r → w.heap.size ≤ r ∧ ∃ o : Obj, W.heap[r]? = some o ∧ o.isCells = false) : LenInv w pre W' := by
  obtain ⟨⟨st, out, vo, h1, h2, h3, h4⟩, h5, h6, ⟨o8, h8⟩, ⟨o9, h9⟩, h7⟩ := h
  have hr' := fun r e => (hr r e).2
  exact ⟨⟨st, out, vo, h1, (h2.calm hg hr').top hg.size, h3.calm hg hr', own_calm h4 hg hr'⟩, h5.calm hg hr', h6.calm hg hr', ⟨_, h8.calm hg hr'⟩, ⟨_, h9.calm hg hr'⟩, h7.grown hg h7.size (fun k e => (hr k e).1)⟩
/-- How a round leaves. -/
structure LenOut (w : World) (c : Code) (pre : List (Nat × Int)) (W : World) : Prop where
  ret : c = .ret
  run : lenRun (pre.map (·.2)) = none
  res : Blk W w.heap.size 35 #[.slice none 0 0]
  err : Blk W (w.heap.size + 1) 28 #[.int .i64 3]
  below : Below w.heap.size w W
theorem LenOut.calm {w W W' : World} {c : Code} {pre : List (Nat × Int)} {row : Option Nat} (h : LenOut w c pre W) (hg : W.grownBy W' row) (hr : ∀ r, row = some r → w.heap.size ≤ r ∧ ∃ o : Obj, W.heap[r]? = some o ∧ o.isCells = false) : LenOut w c pre W' := by
  obtain ⟨h1, h2, h5, h6, h7⟩ := h
  have hr' := fun r e => (hr r e).2
  exact ⟨h1, h2, h5.calm hg hr', h6.calm hg hr', h7.grown hg h7.size (fun k e => (hr k e).1)⟩

/-- What Lengths answers. -/
def LenPost (w : World) (zs : List Int) (e : Ending) (w' : World) : Prop :=
  (match lengthsM zs with
    | none => e = .returned (.tuple #[.slice none 0 0, .int .i64 3])
    | some l => ∃ v, e = .returned (.tuple #[v, .int .i64 0]) ∧ w'.ownsRow w.heap.size 3 1 v l.length (l.map (Value.int .i64))) ∧ Below w.heap.size w w'
theorem LenPost.none_ {w w' : World} {zs : List Int} {e : Ending} (h : lengthsM zs = none) (he : e = .returned (.tuple #[.slice none 0 0, .int .i64 3])) (hb : Below w.heap.size w w') : LenPost w zs e w' := by
  unfold LenPost; rw [h]; exact ⟨he, hb⟩
theorem LenPost.some_ {w w' : World} {zs l : List Int} {e : Ending} {v : Value} (h : lengthsM zs = some l) (he : e = .returned (.tuple #[v, .int .i64 0])) (ho : w'.ownsRow w.heap.size 3 1 v l.length (l.map (Value.int .i64))) (hb : Below w.heap.size w w') : LenPost w zs e w' := by
  unfold LenPost; rw [h]; exact ⟨⟨v, he, ho⟩, hb⟩

theorem put_calm {W : World} {D : Nat} (hK : W.heap[D]? = some (.deferred (some []))) (o : Obj) : W.grownBy (W.putObj D o) (some D) ∧ ∀ r, some D = some r → ∃ o : Obj, W.heap[r]? = some o ∧ o.isCells = false :=
  ⟨grownBy_putObj' W D o, fun r e => by cases e; exact ⟨_, hK, rfl⟩⟩

set_option maxRecDepth 100000 in
set_option maxHeartbeats 1000000 in
theorem lengths_any (s : ByteArray) (hs : s.size ≤ 1000000) (w : World) :
    Calls Try.prog 38 #[.string s] w (LenPost w (lettersOf s)) := by
  have hcv : ∀ W, (convert 9 119 (.string s)).run Try.prog W = .ok (.slice (some ⟨W.heap.size, 0, none⟩) s.size (grownCap W s.size 0 5)) (Lib.bytesWorld W 5 s) :=
    fun W => Lib.run_convert_string_bytes W _ _ _ s Try.underlying9 Try.underlying119 Try.underlying5
  obtain ⟨i0, hi, hz0, hz1, hz2⟩ := info_parts info_span
  obtain ⟨i1, hi', hy0, hy1, hy2⟩ := info_parts info_int
  refine (callsIn_wide (n := 9)).1 ?_
  refine callsIn_of_wp_marks Try.func38 rfl trivial ?_ rfl
  simp only [Try.ntmps38, List.size_toArray, List.length_cons, List.length_nil, Nat.reduceAdd, Nat.reduceSub, Array.replicate_succ, Array.replicate_zero, List.push_toArray, List.append_toArray, List.nil_append, List.cons_append]
  have hf := bytes_facts ((((w.alloc (.cells #[.slice none 0 0] 35)).alloc (.cells #[.int .i64 0] 28)).alloc (.cells #[.slice none 0 0] 124)).alloc (.cells #[.slice none 0 0] 35)) 5 s
  obtain ⟨b0, b1, b2, b3, bB⟩ : ∃ _ : Blk ((((w.alloc (.cells #[.slice none 0 0] 35)).alloc (.cells #[.int .i64 0] 28)).alloc (.cells #[.slice none 0 0] 124)).alloc (.cells #[.slice none 0 0] 35)) w.heap.size 35 #[.slice none 0 0],
      ∃ _ : Blk ((((w.alloc (.cells #[.slice none 0 0] 35)).alloc (.cells #[.int .i64 0] 28)).alloc (.cells #[.slice none 0 0] 124)).alloc (.cells #[.slice none 0 0] 35)) (w.heap.size + 1) 28 #[.int .i64 0],
      ∃ _ : Blk ((((w.alloc (.cells #[.slice none 0 0] 35)).alloc (.cells #[.int .i64 0] 28)).alloc (.cells #[.slice none 0 0] 124)).alloc (.cells #[.slice none 0 0] 35)) (w.heap.size + 1 + 1) 124 #[.slice none 0 0],
      ∃ _ : Blk ((((w.alloc (.cells #[.slice none 0 0] 35)).alloc (.cells #[.int .i64 0] 28)).alloc (.cells #[.slice none 0 0] 124)).alloc (.cells #[.slice none 0 0] 35)) (w.heap.size + 1 + 1 + 1) 35 #[.slice none 0 0],
      Below w.heap.size w ((((w.alloc (.cells #[.slice none 0 0] 35)).alloc (.cells #[.int .i64 0] 28)).alloc (.cells #[.slice none 0 0] 124)).alloc (.cells #[.slice none 0 0] 35)) := by
    refine ⟨(((Blk.new _ _ _).alloc _).alloc _).alloc _, ?_, ?_, ?_, ((((Below.refl _ _).alloc (Nat.le_refl _) _).alloc (by simp) _).alloc (by simp; omega) _).alloc (by simp; omega) _⟩
    · have := ((Blk.new (w.alloc (.cells #[.slice none 0 0] 35)) 28 #[.int .i64 0]).alloc (.cells #[.slice none 0 0] 124)).alloc (.cells #[.slice none 0 0] 35)
      rwa [size_alloc'] at this
    · have := (Blk.new ((w.alloc (.cells #[.slice none 0 0] 35)).alloc (.cells #[.int .i64 0] 28)) 124 #[.slice none 0 0]).alloc (.cells #[.slice none 0 0] 35)
      rwa [size_alloc', size_alloc'] at this
    · have := (Blk.new (((w.alloc (.cells #[.slice none 0 0] 35)).alloc (.cells #[.int .i64 0] 28)).alloc (.cells #[.slice none 0 0] 124)) 35 #[.slice none 0 0])
      rwa [size_alloc', size_alloc', size_alloc'] at this
  gi_wp2_with fail
  rw [size_alloc', size_alloc', size_alloc', size_alloc'] at hf
  generalize grownCap _ _ _ _ = cap
  generalize hW1 : Lib.bytesWorld _ _ _ = W1 at hf ⊢
  obtain ⟨hz, hg, hcell, C, fr, hbyt⟩ := hf
  clear hW1 hcv
  refine ⟨trivial, ?_⟩
  refine (back_in Fence.wide 8 trivial rfl _ _ _ _).mono ?_
  rintro e w' ⟨rfl, rfl⟩
  gi_wp2_with fail
  have hl := lettersOf_length s
  rw [← hl]
  have hBB := bB.trans (below_of_grown hg (by simp; omega) (by simp))
  have bx := Blk.new W1 119 #[.slice (some ⟨w.heap.size + 1 + 1 + 1 + 1, 0, none⟩) (lettersOf s).length cap]
  have hsz : (W1.alloc (.cells #[.slice (some ⟨w.heap.size + 1 + 1 + 1 + 1, 0, none⟩) (lettersOf s).length cap] 119)).heap.size = w.heap.size + 1 + 1 + 1 + 1 + 1 + 1 := by rw [size_alloc', hz]
  have hz' : W1.heap.size = w.heap.size + 1 + 1 + 1 + 1 + 1 := by rw [hz]
  rw [hz'] at bx
  try rw [hz']
  have h0 : LenInv w [] (W1.alloc (.cells #[.slice (some ⟨w.heap.size + 1 + 1 + 1 + 1, 0, none⟩) (lettersOf s).length cap] 119)) :=
    ⟨⟨[], [], _, rfl, StackIn.new _ ((b2.grown hg (by simp)).alloc _), (b3.grown hg (by simp)).alloc _, World.ownsRow_nil _ _ _ _⟩, (b0.grown hg (by simp)).alloc _, (b1.grown hg (by simp)).alloc _, ⟨_, CellsT.alloc ⟨hbyt, _, _, rfl⟩ _⟩, ⟨_, bx.cellsT⟩, hBB.alloc (by omega) _⟩
  have hcb : ∀ j, j < (lettersOf s).length → (W1.alloc (.cells #[.slice (some ⟨w.heap.size + 1 + 1 + 1 + 1, 0, none⟩) (lettersOf s).length cap] 119)).cell? ⟨w.heap.size + 1 + 1 + 1 + 1, j, none⟩ = some (.int .u8 ((lettersOf s)[j]?.getD 0)) := fun j hj => (World.cell?_alloc_lt _ _ _ (by show w.heap.size + 1 + 1 + 1 + 1 < W1.heap.size; omega)).trans (hcell j hj)
  generalize (W1.alloc (.cells #[.slice (some ⟨w.heap.size + 1 + 1 + 1 + 1, 0, none⟩) (lettersOf s).length cap] 119)) = W2 at bx hsz h0 hcb ⊢
  clear hcell hBB hg b0 b1 b2 b3 bB hz hz'
  have hlen : (lettersOf s).length ≤ 1000000 := by omega
  generalize hzs : lettersOf s = zs at *
  have Hl := Lib.hid hl
  have Hzs := Lib.hid hzs
  clear hl hzs
  refine wpIn_rangeFunc_ownG rfl (by omega) (gf := 103) (lb := #[.pointer (some ⟨w.heap.size + 1 + 1 + 1 + 1 + 1, 0, none⟩)]) rfl trivial (enters_of Try.func103 (by kernel_rfl) rfl)
    (back_stops Fence.wide 8 trivial rfl (by omega) (w.heap.size + 1 + 1 + 1 + 1 + 1) (w.heap.size + 1 + 1 + 1 + 1) cap zs (by omega) W2 (by omega) (by omega) (bx.cell 0) hcb) KeepTwo.trans (KeepTwo.put (by omega) (by omega)) (Below.refl _ _) (fun _ => rfl)
    (LenInv w) (LenOut w) (fun _ _ _ _ h hg hr => h.calm hg (fun r e => ⟨by have := (hr r e).1; omega, (hr r e).2⟩)) (fun _ _ _ _ _ h hg hr => h.calm hg (fun r e => ⟨by have := (hr r e).1; omega, (hr r e).2⟩))
    h0
    (fun x => { tmps := #[.string s, undef, .pointer (some ⟨w.heap.size, 0, none⟩), .pointer (some ⟨w.heap.size + 1, 0, none⟩), .pointer (some ⟨w.heap.size + 1 + 1, 0, none⟩), .pointer (some ⟨w.heap.size + 1 + 1 + 1, 0, none⟩), undef, .int .u8 x.2, undef, undef,
        .string s, .slice (some ⟨w.heap.size + 1 + 1 + 1 + 1, 0, none⟩) zs.length cap, .func (.func 103) #[] #[.pointer (some ⟨w.heap.size + 1 + 1 + 1 + 1 + 1, 0, none⟩)], .int .i64 (x.1 : Nat), .int .u8 x.2,
        undef, undef, undef, undef, undef, undef, undef, undef, undef, undef, undef, undef, undef, undef, undef, undef, undef, undef, undef, undef, undef, undef, undef, undef, undef, undef], defers := [] }) ?assign ?body ?done ?stop
  case assign =>
    intro l x W K hK
    gi_wp2
    exact hK
  case body =>
    rintro l pre x W ⟨⟨st, out, vo, hrun, hst, hbo, hro⟩, hb0, hb1, ⟨ob, hby⟩, ⟨ox, hbx⟩, hB⟩ hlt
    obtain ⟨q0, q1, q2⟩ := hb0.one
    obtain ⟨p0, p1, p2⟩ := hb1.one
    have hrs := lenRun_some hrun
    have hsn := lenRun_snoc (pre.map (·.2)) x.2
    rw [hrun] at hsn
    simp only [Option.bind_some] at hsn
    have hmap : (pre ++ [x]).map (·.2) = pre.map (·.2) ++ [x.2] := by simp
    rw [← hmap] at hsn
    have Hsn := Lib.hid hsn
    have Hrun := Lib.hid hrun
    clear hsn hmap hrun
    have hlen1 : pre.length ≤ 1000000 := by omega
    have hrs1 : out.length ≤ 1000000 := by have := hrs.1; simp at this; omega
    have hsum : sumAbs st ≤ 1000000000000 := by have := hrs.2.1; simp at this; omega
    have hstl : st.length ≤ 1000000 := by have := hrs.2.2; simp at this; omega
    have Hrs := Lib.hid hrs
    clear hrs
    gi_wp2_with fail
    refine ⟨trivial, (CallsIn.inRound l (callsIn_wide.2 (word_any _ _ _ st x.2 W hst (Nat.le_refl _) hsum))).mono ?_⟩
    rintro e W3 ⟨rfl, hst3, hg3⟩
    have hB3 := below_of_grown hg3 hB.size (fun j e => by cases e; omega)
    have hb03 := hb0.grown hg3 (by simp; omega)
    have hb13 := hb1.grown hg3 (by simp)
    have hbo3 := hbo.grown hg3 (by simp)
    obtain ⟨v0, hv0, -⟩ := hst
    have hro3 := hro.kept hg3 (.inr (own_blk_ne hro hv0 (by decide)))
    obtain ⟨v3, hv3, hr3, hH3⟩ := hst3
    clear q0 q1 q2 p0 p1 p2
    obtain ⟨q0, q1, q2⟩ := hb03.one
    obtain ⟨p0, p1, p2⟩ := hb13.one
    obtain ⟨s0, s1, s2⟩ := hv3.one
    obtain ⟨o0, o1, o2⟩ := hbo3.one
    have hsz3 := hB3.size
    have hwb : W3.heap.size = (W3.alloc (.cells #[.int .i64 (wordM st x.2).1.1, .bool (wordM st x.2).1.2] 129)).heap.size - 1 := by simp
    clear hwb
    have hk3 : KeepsOthers W W3 := KeepsOthers.of_grownBy hg3 (isCells_of_blk hv0)
    by_cases hbad : (wordM st x.2).2.1 = false ∨ (wordM st x.2).1.2 = true
    · have hnone : lenRun ((pre ++ [x]).map (·.2)) = none := by rw [Hsn.out, lenStep, if_pos hbad]
      have Hnone := Lib.hid hnone
      clear hnone
      have fin : ∀ (o : Obj), KeepsFrom W2.heap.size W (((W3.setCell ⟨w.heap.size, 0, none⟩ (.slice none 0 0)).setCell ⟨w.heap.size + 1, 0, none⟩ (.int .i64 3)).alloc o) ∧ LenOut w .ret (pre ++ [x]) (((W3.setCell ⟨w.heap.size, 0, none⟩ (.slice none 0 0)).setCell ⟨w.heap.size + 1, 0, none⟩ (.int .i64 3)).alloc o) := fun o =>
        ⟨((hk3.trans (KeepsOthers.setCell _ _ _)).trans (KeepsOthers.setCell _ _ _)).trans (KeepsOthers.alloc _ _) |>.from _,
          rfl, Hnone.out, ((hb03.set1 _).far (by simp) _).alloc _, ((hb13.far (by simp) _).set1 _).alloc _, (((hB.trans hB3).setCell (p := ⟨w.heap.size, 0, none⟩) (Nat.le_refl _) _).setCell (p := ⟨w.heap.size + 1, 0, none⟩) (by simp) _).alloc (by simp [World.setCell]; omega) _⟩
      rcases hbad with hbad | hbad
      · gi_wp2
        exact fin _
      · cases h21 : (wordM st x.2).2.1
        · gi_wp2
          exact fin _
        · gi_wp2
          exact fin _
    · have h21 : (wordM st x.2).2.1 = true := by
        cases h : (wordM st x.2).2.1
        · exact absurd (.inl h) hbad
        · rfl
      have h12 : (wordM st x.2).1.2 = false := by
        cases h : (wordM st x.2).1.2
        · rfl
        · exact absurd (.inr h) hbad
      have hsome : lenRun ((pre ++ [x]).map (·.2)) = some ((wordM st x.2).1 :: (wordM st x.2).2.2, out ++ [(wordM st x.2).1.1]) := by rw [Hsn.out, lenStep, if_neg hbad]
      have Hsome := Lib.hid hsome
      clear hsome hbad
      have hlw := len_word st x.2
      have c3 : (wordM st x.2).2.2.length + 1 ≤ maxLen := by unfold maxLen; omega
      have c4 : ((wordM st x.2).2.2.length + 1) * 16 ≤ 140737488355328 := by omega
      have d3 : out.length + 1 ≤ maxLen := by unfold maxLen; omega
      have d4 : (out.length + 1) * 8 ≤ 140737488355328 := by omega
      have hca := cells_new (W3.alloc (.cells #[.int .i64 (wordM st x.2).1.1, .bool false] 129)) [.int .i64 (wordM st x.2).1.1, .bool false] 129
      rw [size_alloc'] at hca
      have Hca := Lib.hid hca
      have bX := Blk.new W3 129 #[.int .i64 (wordM st x.2).1.1, .bool false]
      clear hca
      gi_wp2_with (first
        | (gi_at_builtin; refine wpListIn_append_own _ rfl (.tmp 26) (.tmp 28) 124 rfl w.heap.size 129 i0 _ 2 16 Try.underlying124 hi hz0 hz1 hz2 rfl (by decide) v3 _ _ rfl ((hr3.alloc _).alloc _) ⟨W3.heap.size + 1, 0, none⟩ 1 1 [.int .i64 (wordM st x.2).1.1, .bool false] rfl rfl Hca.out (by simp [Value.oneCell']) c3 c4 (by simp; omega) ?_; intro v4 W4 hr4 hg4 _; obtain ⟨g', cap', rfl⟩ := ownsRow_succ hr4; obtain ⟨m1, m2, m3, m4, m5⟩ := Boxed.appended (Blk.alloc hv3 _) (by decide) (hr3.alloc _) (by simp; omega) (by omega) hr4 hg4; obtain ⟨x0, x1, x2, x3, x4⟩ := (app_blkH1 bX hH3 hsz3 hg4).two; obtain ⟨y0, y1, y2⟩ := Blk.one m1; obtain ⟨z0, z1, z2⟩ := (app_blk1 (hbo3.alloc _) (hr3.alloc _) (by decide) hg4).one)
        | (gi_at_builtin; refine wpListIn_append_own _ rfl (.tmp 30) (.tmp 33) 35 rfl w.heap.size 3 i1 _ 1 8 Try.underlying35 hi' hy0 hy1 hy2 rfl (by decide) vo _ _ rfl ((app_own (hro3.alloc _) (hr3.alloc _) (by decide) (hv3.alloc _) (by decide) hg4).alloc _) ⟨W4.heap.size, 0, none⟩ 1 1 [.int .i64 (wordM st x.2).1.1] rfl rfl (by have := cells_new (W4.setCell ⟨w.heap.size + 1 + 1, 0, none⟩ (.slice (some ⟨g', 0, none⟩) ((wordM st x.2).2.2.length + 1) cap')) [.int .i64 (wordM st x.2).1.1] 3; simpa [World.setCell] using this) (by simp [Value.oneCell']) d3 d4 (by simp [World.setCell]; have := hg4.size; simp at this; omega) ?_; intro v6 W6 hr6 hg6 _; obtain ⟨g2, cap2, rfl⟩ := ownsRow_succ hr6; obtain ⟨n1, n2, n3, n4, n5⟩ := Boxed.appended (app_blk (hbo3.alloc _) (hr3.alloc _) (by decide) hg4 (by simp)) (by decide) (app_own (hro3.alloc _) (hr3.alloc _) (by decide) (hv3.alloc _) (by decide) hg4) (by simp [World.setCell]; have := hg4.size; simp at this; omega) (by omega) hr6 hg6; obtain ⟨r0, r1, r2⟩ := Blk.one n1))
      have hby3 := hby.grown hg3 (by simp; omega)
      have hbx3 := hbx.grown hg3 (by simp; omega)
      have hby7 := app_cellsT (u := .slice (some ⟨g2, 0, none⟩) (out.length + 1) cap2) (app_cellsT (u := .slice (some ⟨g', 0, none⟩) ((wordM st x.2).2.2.length + 1) cap') (B := w.heap.size + 1 + 1) (hby3.alloc _) (hr3.alloc _) (by decide) hg4 (by omega)) (app_own (hro3.alloc _) (hr3.alloc _) (by decide) (hv3.alloc _) (by decide) hg4) (by decide) hg6 (B := w.heap.size + 1 + 1 + 1) (by omega)
      have hbx7 := app_cellsT (u := .slice (some ⟨g2, 0, none⟩) (out.length + 1) cap2) (app_cellsT (u := .slice (some ⟨g', 0, none⟩) ((wordM st x.2).2.2.length + 1) cap') (B := w.heap.size + 1 + 1) (hbx3.alloc _) (hr3.alloc _) (by decide) hg4 (by omega)) (app_own (hro3.alloc _) (hr3.alloc _) (by decide) (hv3.alloc _) (by decide) hg4) (by decide) hg6 (B := w.heap.size + 1 + 1 + 1) (by omega)
      have hb07 := app_blk (u := .slice (some ⟨g2, 0, none⟩) (out.length + 1) cap2) (app_blk (u := .slice (some ⟨g', 0, none⟩) ((wordM st x.2).2.2.length + 1) cap') (B := w.heap.size + 1 + 1) (hb03.alloc _) (hr3.alloc _) (by decide) hg4 (by omega)) (app_own (hro3.alloc _) (hr3.alloc _) (by decide) (hv3.alloc _) (by decide) hg4) (by decide) hg6 (B := w.heap.size + 1 + 1 + 1) (by omega)
      have hb17 := app_blk (u := .slice (some ⟨g2, 0, none⟩) (out.length + 1) cap2) (app_blk (u := .slice (some ⟨g', 0, none⟩) ((wordM st x.2).2.2.length + 1) cap') (B := w.heap.size + 1 + 1) (hb13.alloc _) (hr3.alloc _) (by decide) hg4 (by omega)) (app_own (hro3.alloc _) (hr3.alloc _) (by decide) (hv3.alloc _) (by decide) hg4) (by decide) hg6 (B := w.heap.size + 1 + 1 + 1) (by omega)
      have hv7 := app_blk (u := .slice (some ⟨g2, 0, none⟩) (out.length + 1) cap2) (show Blk _ _ _ _ from m2) (app_own (hro3.alloc _) (hr3.alloc _) (by decide) (hv3.alloc _) (by decide) hg4) (by decide) hg6 (B := w.heap.size + 1 + 1 + 1) (by omega)
      have hr7 := app_own (u := .slice (some ⟨g2, 0, none⟩) (out.length + 1) cap2) m3 (app_own (hro3.alloc _) (hr3.alloc _) (by decide) (hv3.alloc _) (by decide) hg4) (by decide) (app_blk (hbo3.alloc _) (hr3.alloc _) (by decide) hg4 (by simp)) (by decide) hg6
      refine ⟨((hk3.trans (KeepsOthers.alloc _ _)).trans (m4.trans n4)).from _, ⟨hby7.1.trans hby.1.symm, hbx7.1.trans hbx.1.symm⟩, ⟨_, _, _, Hsome.out, ⟨_, hv7, ?_, ?_⟩, n2, ?_⟩, hb07, hb17, ⟨_, hby7⟩, ⟨_, hbx7⟩, ?_⟩
      · rw [List.reverse_cons, cellsS_append, List.length_cons]
        simpa [cellsS, h12] using hr7
      · intro k hk
        have := hr7.lt k hk
        omega
      · simpa using n3
      · exact (((hB.trans hB3).alloc (by omega) _).trans m5).trans n5
  case done =>
    rintro D ys W hD rfl ⟨⟨st, out, vo, hrun, hst, hbo, hro⟩, hb0, hb1, -, -, hB⟩ hK
    rw [backs_snd _ _ (Nat.le_refl _), List.take_of_length_le (by simp)] at hrun
    have hrs := lenRun_some hrun
    have hol : out.length ≤ 1000000 := by have := hrs.1; simp at this; omega
    obtain ⟨v0, hv0, hr0, -⟩ := hst
    obtain ⟨q0, q1, q2⟩ := hb0.one
    obtain ⟨p0, p1, p2⟩ := hb1.one
    obtain ⟨s0, s1, s2⟩ := hv0.one
    obtain ⟨o0, o1, o2⟩ := hbo.one
    obtain ⟨a0, cp0, rfl⟩ : ∃ a c, v0 = .slice a st.length c := by
      rcases hr0.2 with ⟨rfl, h⟩ | ⟨g, cap, cur, rfl, _⟩
      · exact ⟨none, 0, by rw [h]⟩
      · exact ⟨_, _, rfl⟩
    have hDc : ∀ t cs g, Blk W g t cs → g ≠ D := fun t cs g hb e => by subst e; rw [show W.heap[g]? = _ from hb] at hK; cases hK
    have hM : lengthsM zs = if st.length = 1 then some out.reverse else none := by unfold lengthsM; rw [hrun]
    have HM := Lib.hid hM
    clear hM hrun hrs
    by_cases h1 : st.length = 1
    · have h1' : ((st.length : Int) != 1) = false := by simp [h1]
      rw [h1] at h1'
      have Hst := Lib.hid h1
      rw [h1] at s1
      clear h1
      have hM : lengthsM zs = some out.reverse := by rw [HM.out, if_pos Hst.out]
      have HM' := Lib.hid hM
      clear hM
      gi_wp2_with fail
      refine ⟨trivial, (callsIn_wide.2 (reverse_own w.heap.size vo out W hro (by omega))).mono ?_⟩
      rintro e W3 ⟨rfl, hr3, hg3⟩
      have hB3 : Below w.heap.size w W3 := hB.grown hg3 hB.size (fun k e => (hro.lt k e).1)
      have hb03 := hb0.grown hg3 (fun e => own_blk_ne hro hb0 (by decide) e.symm)
      have hb13 := hb1.grown hg3 (fun e => own_blk_ne hro hb1 (by decide) e.symm)
      have hbo3 := hbo.grown hg3 (fun e => own_blk_ne hro hbo (by decide) e.symm)
      have hK3 : W3.heap[D]? = some (.deferred (some [])) := (hg3.block D (Array.getElem?_eq_some_iff.1 hK).1 (fun e => by
        rcases hro.2 with ⟨rfl, _⟩ | ⟨g, cap, cur, rfl, _, hh, _⟩
        · simp [Value.ownBlock] at e
        · have : D = g := by simpa [Value.ownBlock] using e
          subst this
          rw [hh] at hK; cases hK)).trans hK
      clear q0 q1 q2 p0 p1 p2 s0 s1 s2 o0 o1 o2
      obtain ⟨q0, q1, q2⟩ := hb03.one
      obtain ⟨p0, p1, p2⟩ := hb13.one
      obtain ⟨o0, o1, o2⟩ := hbo3.one
      obtain ⟨a1, cp1, rfl⟩ : ∃ a c, vo = .slice a out.length c := by
        rcases hr3.2 with ⟨rfl, h⟩ | ⟨g, cap, cur, rfl, _⟩
        · exact ⟨none, 0, by rw [h]⟩
        · exact ⟨_, _, rfl⟩
      gi_wp2
      have hr5 := own_alloc_st (u := .int .i64 0) (i := 0) (own_alloc_st (u := .slice a1 out.length cp1) (i := 0) hr3 hb03 (by decide)) (hb13.far (p := ⟨w.heap.size, 0, none⟩) (by simp) _) (by decide)
      have hb05 := (hb03.set1 (.slice a1 out.length cp1)).far (p := ⟨w.heap.size + 1, 0, none⟩) (by simp) (.int .i64 0)
      have hb15 := (hb13.far (p := ⟨w.heap.size, 0, none⟩) (by simp) (.slice a1 out.length cp1)).set1 (.int .i64 0)
      have hB5 := (hB3.setCell (p := ⟨w.heap.size, 0, none⟩) (Nat.le_refl _) (.slice a1 out.length cp1)).setCell (p := ⟨w.heap.size + 1, 0, none⟩) (by simp) (.int .i64 0)
      have hK5 := ((KeepsOthers.setCell W3 ⟨w.heap.size, 0, none⟩ (.slice a1 out.length cp1)).trans (KeepsOthers.setCell _ ⟨w.heap.size + 1, 0, none⟩ (.int .i64 0))).same D _ hK3 rfl
      generalize ((W3.setCell ⟨w.heap.size, 0, none⟩ (.slice a1 out.length cp1)).setCell ⟨w.heap.size + 1, 0, none⟩ (.int .i64 0)) = W5 at hr5 hb05 hb15 hB5 hK5 ⊢
      refine ⟨by simp, .inl ⟨_, _, rfl, run_takeDeferred hK5, ?_⟩⟩
      obtain ⟨g1, g2⟩ := put_calm hK5 (.deferred none)
      have k0 := (hb05.calm g1 g2).cell 0
      have k1 := (hb15.calm g1 g2).cell 0
      refine ⟨_, ?_, LenPost.some_ (by first | exact HM'.out | exact Hzs.out ▸ HM'.out) rfl (by rw [List.length_reverse]; exact own_calm hr5 g1 g2) (hB5.grown g1 hB5.size (fun k e => by cases e; omega))⟩
      simp [results, Try.results38, go_sem, k0, k1]
    · have h1' : ((st.length : Int) != 1) = true := by simp; omega
      have hM : lengthsM zs = none := by rw [HM.out, if_neg h1]
      have HM' := Lib.hid hM
      clear hM
      gi_wp2
      have hb05 := (hb0.set1 (.slice none 0 0)).far (p := ⟨w.heap.size + 1, 0, none⟩) (by simp) (.int .i64 3)
      have hb15 := (hb1.far (p := ⟨w.heap.size, 0, none⟩) (by simp) (.slice none 0 0)).set1 (.int .i64 3)
      have hB5 := (hB.setCell (p := ⟨w.heap.size, 0, none⟩) (Nat.le_refl _) (.slice none 0 0)).setCell (p := ⟨w.heap.size + 1, 0, none⟩) (by simp) (.int .i64 3)
      have hK5 := ((KeepsOthers.setCell W ⟨w.heap.size, 0, none⟩ (.slice none 0 0)).trans (KeepsOthers.setCell _ ⟨w.heap.size + 1, 0, none⟩ (.int .i64 3))).same D _ hK rfl
      generalize ((W.setCell ⟨w.heap.size, 0, none⟩ (.slice none 0 0)).setCell ⟨w.heap.size + 1, 0, none⟩ (.int .i64 3)) = W5 at hb05 hb15 hB5 hK5 ⊢
      refine ⟨by simp, .inl ⟨_, _, rfl, run_takeDeferred hK5, ?_⟩⟩
      obtain ⟨g1, g2⟩ := put_calm hK5 (.deferred none)
      have k0 := (hb05.calm g1 g2).cell 0
      have k1 := (hb15.calm g1 g2).cell 0
      refine ⟨_, ?_, LenPost.none_ (by first | exact HM'.out | exact Hzs.out ▸ HM'.out) rfl (hB5.grown g1 hB5.size (fun k e => by cases e; omega))⟩
      simp [results, Try.results38, go_sem, k0, k1]
  case stop =>
    rintro D c pre W hD ⟨k, hk, rfl⟩ ⟨rfl, hrun, hb0, hb1, hB⟩ hK
    rw [backs_snd _ _ hk] at hrun
    have HM' := Lib.hid (lengthsM_of_run_none ⟨k, hrun⟩)
    clear hrun
    gi_wp2
    refine ⟨by simp, .inl ⟨_, _, rfl, run_takeDeferred hK, ?_⟩⟩
    obtain ⟨g1, g2⟩ := put_calm hK (.deferred none)
    have k0 := (hb0.calm g1 g2).cell 0
    have k1 := (hb1.calm g1 g2).cell 0
    refine ⟨_, ?_, LenPost.none_ (by first | exact HM'.out | exact Hzs.out ▸ HM'.out) rfl (hB.grown g1 hB.size (fun k e => by cases e; omega))⟩
    simp [results, Try.results38, go_sem, k0, k1]
end Go.Proofs.Ytpnkhgjjlionnaa.Zp
namespace Go.Proofs.Ytpnkhgjjlionnaa.Zp
open Go.RowKit Go.Maps

theorem arrEdge : WideMaps.ArrKey Try.prog 88 3 2 := ⟨Try.underlying88, by kernel_rfl, by kernel_rfl, by kernel_rfl⟩
theorem arrThree : WideMaps.ArrKey Try.prog 60 3 3 := ⟨Try.underlying60, by kernel_rfl, by kernel_rfl, by kernel_rfl⟩
theorem types_succ : ∃ m, Try.prog.types.size = m + 1 := ⟨Try.prog.types.size - 1, by kernel_rfl⟩
theorem zero_bool (w : World) : (zeroValue 4).run Try.prog w = .ok (.bool false) w := by kernel_rfl

section
variable {w : World} {b n : Nat}
theorem edge_look {es : List (Int × Int)} (h : MapB Try.prog 88 4 w b n (es.map edgeV)) (x y : Int) (wx : (Lit.int .i64 x).wf = true) (wy : (Lit.int .i64 y).wf = true) :
    (Instr.lookup 76 (.map (some b)) (.agg #[.int .i64 x, .int .i64 y]) false).run Try.prog w = .ok (.bool (decide ((x, y) ∈ es))) w := by
  obtain ⟨r, hrun, hi⟩ := h.look (Keyed.of_law arrEdge.law) Try.underlying76 Try.underlying4 (zero_bool w) (WideMaps.keyOf_pair arrEdge Try.underlying3 types_succ wx wy)
  rw [hrun]
  have : r = decide ((x, y) ∈ es) := by
    have h2 := mem_edgeV (x, y) es
    unfold edgeV at h2 hi
    rw [Bool.eq_iff_iff, decide_eq_true_iff]
    exact hi.trans h2
  rw [this]
theorem edge_store {es : List (Int × Int)} (h : MapB Try.prog 88 4 w b n (es.map edgeV)) (x y : Int) (wx : (Lit.int .i64 x).wf = true) (wy : (Lit.int .i64 y).wf = true) (hn : n < maxLen) :
    ∃ w', (Instr.mapUpdate 76 (.map (some b)) (.agg #[.int .i64 x, .int .i64 y]) (.bool true)).run Try.prog w = .ok () w' ∧ MapB Try.prog 88 4 w' b (n + 1) (((x, y) :: es).map edgeV) ∧ w.grownBy w' (some b) :=
  h.store (Keyed.of_law arrEdge.law) Try.underlying76 Try.underlying4 hn (WideMaps.keyOf_pair arrEdge Try.underlying3 types_succ wx wy)
theorem tri_look {ts : List Tr} (h : MapB Try.prog 60 4 w b n (ts.map triV)) (x y z : Int) (wx : (Lit.int .i64 x).wf = true) (wy : (Lit.int .i64 y).wf = true) (wz : (Lit.int .i64 z).wf = true) :
    (Instr.lookup 77 (.map (some b)) (.agg #[.int .i64 x, .int .i64 y, .int .i64 z]) false).run Try.prog w = .ok (.bool (decide ((x, y, z) ∈ ts))) w := by
  obtain ⟨r, hrun, hi⟩ := h.look (Keyed.of_law arrThree.law) Try.underlying77 Try.underlying4 (zero_bool w) (keyOf_three arrThree Try.underlying3 types_succ wx wy wz)
  rw [hrun]
  have : r = decide ((x, y, z) ∈ ts) := by
    have h2 := mem_triV (x, y, z) ts
    unfold triV at h2 hi
    rw [Bool.eq_iff_iff, decide_eq_true_iff]
    exact hi.trans h2
  rw [this]
theorem tri_store {ts : List Tr} (h : MapB Try.prog 60 4 w b n (ts.map triV)) (x y z : Int) (wx : (Lit.int .i64 x).wf = true) (wy : (Lit.int .i64 y).wf = true) (wz : (Lit.int .i64 z).wf = true) (hn : n < maxLen) :
    ∃ w', (Instr.mapUpdate 77 (.map (some b)) (.agg #[.int .i64 x, .int .i64 y, .int .i64 z]) (.bool true)).run Try.prog w = .ok () w' ∧ MapB Try.prog 60 4 w' b (n + 1) (((x, y, z) :: ts).map triV) ∧ w.grownBy w' (some b) :=
  h.store (Keyed.of_law arrThree.law) Try.underlying77 Try.underlying4 hn (keyOf_three arrThree Try.underlying3 types_succ wx wy wz)
end

theorem sort3_in (a b c : Int) : (sort3 a b c).1 ∈ [a, b, c] ∧ (sort3 a b c).2.1 ∈ [a, b, c] ∧ (sort3 a b c).2.2 ∈ [a, b, c] := by
  have h := sort3_eq a b c
  have hp : (sortL [a, b, c]).Perm [a, b, c] := List.mergeSort_perm _ _
  rw [h] at hp
  exact ⟨hp.mem_iff.1 (by simp), hp.mem_iff.1 (by simp), hp.mem_iff.1 (by simp)⟩
theorem sort3_range {a b c : Int} (ha : 0 ≤ a ∧ a ≤ 1000000) (hb : 0 ≤ b ∧ b ≤ 1000000) (hc : 0 ≤ c ∧ c ≤ 1000000) :
    (0 ≤ (sort3 a b c).1 ∧ (sort3 a b c).1 ≤ 1000000) ∧ (0 ≤ (sort3 a b c).2.1 ∧ (sort3 a b c).2.1 ≤ 1000000) ∧ (0 ≤ (sort3 a b c).2.2 ∧ (sort3 a b c).2.2 ≤ 1000000) := by
  obtain ⟨h1, h2, h3⟩ := sort3_in a b c
  have H : ∀ x, x ∈ [a, b, c] → 0 ≤ x ∧ x ≤ 1000000 := by
    intro x hx
    simp at hx
    rcases hx with rfl | rfl | rfl <;> assumption
  exact ⟨H _ h1, H _ h2, H _ h3⟩
theorem _root_.Go.Proofs.Ytpnkhgjjlionnaa.Blk.six' {w : World} {g : Nat} {t : TypeId} {a b c d e f : Value} (h : Blk w g t #[a, b, c, d, e, f]) : g < w.heap.size ∧ w.cell? ⟨g, 0, none⟩ = some a ∧ w.cell? ⟨g, 1, none⟩ = some b ∧ w.cell? ⟨g, 2, none⟩ = some c ∧ w.cell? ⟨g, 3, none⟩ = some d ∧ w.cell? ⟨g, 4, none⟩ = some e ∧ w.cell? ⟨g, 5, none⟩ = some f ∧ (∀ i, w.frozen? ⟨g, i, none⟩ = false) :=
  ⟨h.lt, h.cell 0, h.cell 1, h.cell 2, h.cell 3, h.cell 4, h.cell 5, fun i => h.frozen i⟩

theorem info_sl : (Try.prog.info? 35).map (fun i => (i.zero, i.size, i.bytes)) = some (some (.slice none 0 0), 1, 24) := by kernel_rfl
theorem info_tri : (Try.prog.info? 61).map (fun i => (i.zero, i.size, i.bytes)) = some (some (.agg #[.int .i64 0, .int .i64 0, .int .i64 0]), 3, 24) := by kernel_rfl
/-- The three edges, and which of them are put first. -/
def edAt (a b c : Int) : Nat → Int × Int
  | 0 => (a, b)
  | 1 => (b, c)
  | _ => (c, a)
def esAt (es : List (Int × Int)) (a b c : Int) : Nat → List (Int × Int)
  | 0 => es
  | k + 1 => edAt a b c k :: esAt es a b c k
def okAt (ok : Bool) (es : List (Int × Int)) (a b c : Int) : Nat → Bool
  | 0 => ok
  | k + 1 => okAt ok es a b c k && !decide (edAt a b c k ∈ esAt es a b c k)
theorem edAt_wf {a b c : Int} (ha : 0 ≤ a ∧ a ≤ 1000000) (hb : 0 ≤ b ∧ b ≤ 1000000) (hc : 0 ≤ c ∧ c ≤ 1000000) (k : Nat) : (Lit.int .i64 (edAt a b c k).1).wf = true ∧ (Lit.int .i64 (edAt a b c k).2).wf = true := by
  unfold edAt
  split <;> exact ⟨WalkArith.wf_i64 (by simp only; omega), WalkArith.wf_i64 (by simp only; omega)⟩
set_option maxRecDepth 100000 in
set_option maxHeartbeats 2000000 in
theorem add_any {w : World} {base z be bt : Nat} {vT vL vW : Value} {vs : List Value} {m : ZM} (h : ZS w base z be bt vT vL vW vs m) (a b c : Int) (ha : 0 ≤ a ∧ a ≤ 1000000) (hb : 0 ≤ b ∧ b ≤ 1000000) (hc : 0 ≤ c ∧ c ≤ 1000000) (hT : m.T.length ≤ 1000000) :
    Calls Try.prog 40 #[.pointer (some ⟨z, 0, none⟩), .int .i64 a, .int .i64 b, .int .i64 c] w fun en w' => en = .returned (.bool (fitsM m.T (a, b, c))) ∧ (∃ vT', ZS w' base z be bt vT' vL vW vs { m with T := m.T ++ [(a, b, c)] }) ∧ Below base w w' := by
  obtain ⟨hs1, hs2, hs3⟩ := sort3_range ha hb hc
  obtain ⟨nE, nS, hnE, hnS, h⟩ := h
  have hbase : base ≤ w.heap.size := Nat.le_trans h.hz (Nat.le_of_lt h.blk.lt)
  have hb0 : Blk (w.alloc (.cells #[.int .i64 a, .int .i64 b, .int .i64 c] 60)) w.heap.size 60 #[.int .i64 a, .int .i64 b, .int .i64 c] := Blk.new _ _ _
  have heb := h.he
  have htb := h.ht
  have H := Lib.hid h
  clear h
  go_enter Try.func40, Try.ntmps40
  go_wp2_with fail
  refine (sort3_any a b c _ _ _ hb0).mono ?_
  rintro en w1 ⟨rfl, hs, hg⟩
  have h1 := H.out.new (by decide) hg
  have hB1 : Below base w w1 := below_of_grown (gGrown (World.grownBy_alloc w _ none) hg (fun j e => by cases e; exact .inr (Nat.le_refl _))) hbase (fun j e => by cases e)
  have hsz1 : w.heap.size < w1.heap.size := hs.lt
  clear H hb0 hg
  have mS := h1.S
  obtain ⟨-, c0, c1, c2, c3, c4, c5, fz⟩ := h1.blk.six'
  obtain ⟨-, s0, -, s1, -, s2, -⟩ := hs.three
  generalize hst : sort3 a b c = st at *
  obtain ⟨sx, sy, sz⟩ := st
  simp only at hs hs1 hs2 hs3 s0 s1 s2
  have e1 := tri_look (w := w1.drew) mS sx sy sz (WalkArith.wf_i64 (by omega)) (WalkArith.wf_i64 (by omega)) (WalkArith.wf_i64 (by omega))
  obtain ⟨w2, e2, mS2, hg2⟩ := tri_store (w := w1.drew.drew) mS sx sy sz (WalkArith.wf_i64 (by omega)) (WalkArith.wf_i64 (by omega)) (WalkArith.wf_i64 (by omega)) (by unfold maxLen; omega)
  have h2 := h1.drew.drew.tri hg2 mS2
  have hB2 : Below base w w2 := hB1.drew.drew.grown hg2 (Nat.le_trans hbase hB1.size) (fun j e => by cases e; exact htb)
  have H2 := Lib.hid h2
  have HB2 := Lib.hid hB2
  clear h1
  go_wp2
  go_region
  go_wp2
  go_region
  clear h2 hB2 mS2 mS hg2 e1 e2 c0 c1 c2 c3 c4 c5 fz s0 s1 s2 hs hB1
  have hq0 : decide ((sx, sy, sz) ∈ List.map sortedT m.T) = decide (sortedT (a, b, c) ∈ List.map sortedT m.T) := by simp only [sortedT, hst]
  have Hq := Lib.hid hq0
  clear hq0
  generalize decide ((sx, sy, sz) ∈ List.map sortedT m.T) = q at *
  go_wp2
  have hg0 : Blk (w2.alloc (.cells #[.int .i64 a, .int .i64 b, .int .i64 b, .int .i64 c, .int .i64 c, .int .i64 a] 88)) w2.heap.size 88 #[.int .i64 a, .int .i64 b, .int .i64 b, .int .i64 c, .int .i64 c, .int .i64 a] := Blk.new _ _ _
  have hsz2 : base ≤ w2.heap.size := Nat.le_trans hbase HB2.out.size
  go_loopw [42, 10] (fun i ov wr => ∃ k : Nat, k ≤ 3 ∧ i = .int .i64 k ∧ ov = .bool (okAt (!q) (edgesOf m.T) a b c k) ∧ Blk wr w2.heap.size 88 #[.int .i64 a, .int .i64 b, .int .i64 b, .int .i64 c, .int .i64 c, .int .i64 a] ∧
    ZSX wr base z be bt vT vL vW vs m (nE + k) (esAt (edgesOf m.T) a b c k) (nS + 1) ((sx, sy, sz) :: m.T.map sortedT) ∧ Below base w wr) (fun i _ _ => 3 - (intOf i).toNat)
  case atStart => exact ⟨0, by omega, rfl, rfl, hg0, H2.out.alloc _, HB2.out.alloc hsz2 _⟩
  case round =>
    obtain ⟨k, hk, rfl, rfl, hG, hZ, hB⟩ := hrel
    have hsz3 : base ≤ wr.heap.size := Nat.le_trans hbase hB.size
    have hGn := hZ.blk_ne hG
    have hGl := hG.lt
    obtain ⟨-, g0, g1, g2, g3, g4, g5, -⟩ := hG.six'
    by_cases hlt : k < 3
    · have H3 := Lib.hid hZ
      have HG := Lib.hid hG
      have HB := Lib.hid hB
      obtain ⟨wx, wy⟩ := edAt_wf ha hb hc k
      have hA := hZ.alloc (.cells #[.int .i64 (edAt a b c k).1, .int .i64 (edAt a b c k).2] 88)
      have e1 := edge_look hA.drew.E _ _ wx wy
      obtain ⟨w3, e2, hm3, hg3⟩ := edge_store hA.drew.drew.E _ _ wx wy (by unfold maxLen; omega)
      have h5' : ZSX w3 base z be bt vT vL vW vs m (nE + (k + 1)) (esAt (edgesOf m.T) a b c (k + 1)) (nS + 1) ((sx, sy, sz) :: m.T.map sortedT) := hA.drew.drew.edge hg3 hm3
      have h5 := Lib.hid h5'
      clear h5'
      have hG5 : Blk w3 w2.heap.size 88 #[.int .i64 a, .int .i64 b, .int .i64 b, .int .i64 c, .int .i64 c, .int .i64 a] := (((hG.alloc _).drew).drew).grown hg3 (by simpa using hGn.1)
      have hB5 : Below base w w3 := ((hB.alloc hsz3 _).drew.drew).grown hg3 (by simp; omega) (fun j e => by cases e; exact heb)
      have HG5 := Lib.hid hG5
      have HB5 := Lib.hid hB5
      have nA : Blk (wr.alloc (.cells #[.int .i64 (edAt a b c k).1, .int .i64 (edAt a b c k).2] 88)) wr.heap.size 88 #[.int .i64 (edAt a b c k).1, .int .i64 (edAt a b c k).2] := Blk.new _ _ _
      obtain ⟨-, n0, -, n1, -⟩ := nA.two
      obtain ⟨-, c0, c1, c2, c3, c4, c5, fz⟩ := hA.blk.six'
      have Hok : okAt (!q) (edgesOf m.T) a b c (k + 1) = (okAt (!q) (edgesOf m.T) a b c k && !decide (edAt a b c k ∈ esAt (edgesOf m.T) a b c k)) := rfl
      have HOK := Lib.hid Hok
      clear hA hm3 hg3 hG5 hB5 hB hG hZ nA Hok
      have hkk : k = 0 ∨ k = 1 ∨ k = 2 := by omega
      generalize okAt (!q) (edgesOf m.T) a b c k = ov at *
      generalize esAt (edgesOf m.T) a b c k = ev at *
      rcases hkk with rfl | rfl | rfl
      all_goals
        simp only [edAt] at e1 e2 n0 n1 c0 c1 c2 c3 c4 c5 fz
        cases ov
        all_goals
          go_wp2
          go_region
          go_wp2
          go_region
          go_wp2
          go_roundw
          case measure => simp [intOf]
          case rel => first
            | exact ⟨1, by omega, rfl, by rw [HOK.out]; rfl, HG5.out, h5.out, HB5.out⟩
            | exact ⟨2, by omega, rfl, by rw [HOK.out]; rfl, HG5.out, h5.out, HB5.out⟩
            | exact ⟨3, by omega, rfl, by rw [HOK.out]; rfl, HG5.out, h5.out, HB5.out⟩
    · obtain rfl : k = 3 := by omega
      obtain ⟨i0, hi, hz0, hz1, hz2⟩ := info_parts info_tri
      have hf : okAt (!q) (edgesOf m.T) a b c 3 = fitsM m.T (a, b, c) := by
        by_cases hh : sortedT (a, b, c) ∈ m.T.map sortedT
        · simp only [okAt, fitsM, esAt, edAt, Hq.out, hh, not_true, decide_true, decide_false, Bool.not_true, Bool.false_and]
        · simp [okAt, fitsM, esAt, edAt, Hq.out, hh]
      have HF := Lib.hid hf
      have hes : ∀ x, x ∈ (esAt (edgesOf m.T) a b c 3).map edgeV ↔ x ∈ (edgesOf (m.T ++ [(a, b, c)])).map edgeV := by
        intro x
        rw [edgesOf_snoc]
        simp [esAt, edAt]
        grind
      have hss : ∀ x, x ∈ ((sx, sy, sz) :: m.T.map sortedT).map triV ↔ x ∈ ((m.T ++ [(a, b, c)]).map sortedT).map triV := by
        intro x
        simp [sortedT, hst]
        grind
      have Hes := Lib.hid hes
      have Hss := Lib.hid hss
      have H3 := Lib.hid hZ
      have HB := Lib.hid hB
      have hT0 := hZ.T
      obtain ⟨-, c0, c1, c2, c3, c4, c5, fz⟩ := hZ.blk.six'
      clear hf hes hss hZ hB hG
      have hca := cells_new wr [.int .i64 a, .int .i64 b, .int .i64 c] 61
      have Hca := Lib.hid hca
      clear hca
      have c6 : m.T.length + 1 ≤ maxLen := by unfold maxLen; omega
      have c7 : (m.T.length + 1) * 24 ≤ 140737488355328 := by omega
      have hblk := H3.out.blk
      have hzne := own_blk_ne hT0 hblk (by decide)
      have hzlt := hblk.lt
      have hTlt := hT0.lt
      have Hb := Lib.hid hblk
      clear hblk
      go_wp2_with (at_builtin; refine wpList_append_lies _ rfl (.tmp 67) (.tmp 72) 22 rfl base 61 i0 _ 3 24 Try.underlying22 hi hz0 hz1 hz2 rfl (by decide) _ _ _ rfl (hT0.alloc _) ⟨wr.heap.size, 0, none⟩ 1 1 [.int .i64 a, .int .i64 b, .int .i64 c] rfl rfl Hca.out (by simp [Value.oneCell']) (by decide) c6 c7 (by simp; omega) (wr.heap.size + 1) (by simp) ?_; intro g4 cap4 W4 hr4 hg4 hat4 hlt4; obtain ⟨-, d0, d1, d2, d3, d4, d5, dz⟩ := ((Hb.out.alloc _).grown hg4 (fun e => hzne e.symm)).six')
      go_ret
      refine ⟨by rw [HF.out]; rfl, ⟨.slice (some ⟨g4, 0, none⟩) (m.T.length + 1) cap4, nE + 3, nS + 1, ?_, ?_, ?_⟩, ?_⟩
      · simp only [List.length_append, List.length_cons, List.length_nil]; omega
      · simp only [List.length_append, List.length_cons, List.length_nil]; omega
      · obtain ⟨a1, a2, a3, a4, a5, a6, a7, a8, a9, b1, b2⟩ := H3.out.putT hg4 hr4
        exact ⟨a1, a2, a3, a4, a5, a6, a7, a8, a9, b1.congr Hes.out, b2.congr Hss.out⟩
      · exact (HB.out.grown (gGrown (World.grownBy_alloc wr _ _) hg4 (row := vT.ownBlock) (fun j e => .inl e)) hsz3 (fun j e => (hTlt j e).1)).setCell (p := ⟨z, 1, none⟩) H3.out.hz _
end Go.Proofs.Ytpnkhgjjlionnaa.Zp
namespace Go.Proofs.Ytpnkhgjjlionnaa.Zp
open Go.RowKit

/-- How often a letter stands in a text. -/
def cnt (zs : List Int) (c : Int) : Int := ((zs.filter fun z => z == c).length : Nat)
theorem cnt_le (zs : List Int) (c : Int) : 0 ≤ cnt zs c ∧ cnt zs c ≤ zs.length := by
  unfold cnt
  have := List.length_filter_le (fun z => z == c) zs
  omega
theorem cnt_snoc (zs : List Int) (z c : Int) : cnt (zs ++ [z]) c = if z = c then cnt zs c + 1 else cnt zs c := by
  unfold cnt
  rw [List.filter_append]
  by_cases h : z = c <;> simp [h]
theorem take_snoc_int (zs : List Int) (k : Nat) (h : k < zs.length) : zs.take (k + 1) = zs.take k ++ [zs[k]] := by
  rw [List.take_succ_eq_append_getElem h]
theorem letter_at (s : ByteArray) (k : Nat) (h : k < s.size) : (lettersOf s)[k]'(by rw [lettersOf_length]; exact h) = ((s[k]'h).toNat : Int) := by
  simp [lettersOf]
  rfl

end Go.Proofs.Ytpnkhgjjlionnaa.Zp
namespace Go.Proofs.Ytpnkhgjjlionnaa.Zp
open Go.RowKit

/-- One letter more, from behind: the lengths of the loops that wait, the last one first. -/
def ref24Step (l : List Int) (c : Int) : Option (List Int) :=
  if c = 69 then some (3 :: l)
  else if c = 67 then (match l with | [] => none | x :: r => if x < 4 then none else some ((x - 1) :: r))
  else if c = 76 ∨ c = 82 then (match l with | [] => none | x :: r => some ((x + 1) :: r))
  else if c = 83 then (match l with | x :: y :: r => some ((x + y - 1) :: r) | _ => none)
  else none
def ref24Run (cs : List Int) : Option (List Int) := cs.foldlM ref24Step []
def isThree : List Int → Bool
  | [x] => x == 3
  | _ => false
def ref24M (zs : List Int) : Bool :=
  match ref24Run zs.reverse with
  | some l => isThree l
  | none => false

theorem ref24Run_snoc (cs : List Int) (c : Int) : ref24Run (cs ++ [c]) = (ref24Run cs).bind (fun p => ref24Step p c) := by
  simp [ref24Run, List.foldlM_append]
def sumL : List Int → Int
  | [] => 0
  | x :: r => (x.natAbs : Int) + sumL r
theorem sumL_nonneg : ∀ st, 0 ≤ sumL st
  | [] => Int.le_refl _
  | x :: r => by have := sumL_nonneg r; simp only [sumL]; omega
theorem ref24Step_some {l l' : List Int} {c : Int} (h : ref24Step l c = some l') : sumL l' ≤ sumL l + 4 ∧ l'.length ≤ l.length + 1 := by
  unfold ref24Step at h
  split at h
  · cases h; simp [sumL]; omega
  · split at h
    · cases l with
      | nil => cases h
      | cons x r =>
        simp only at h
        split at h
        · cases h
        · cases h; simp [sumL]; omega
    · split at h
      · cases l with
        | nil => cases h
        | cons x r => cases h; simp [sumL]; omega
      · split at h
        · match l, h with
          | x :: y :: r, h => cases h; simp [sumL]; omega
        · cases h
theorem ref24Run_some {cs l : List Int} (h : ref24Run cs = some l) : sumL l ≤ 4 * cs.length ∧ l.length ≤ cs.length := by
  suffices H : ∀ (cs p q : List Int), cs.foldlM ref24Step p = some q → sumL q ≤ sumL p + 4 * cs.length ∧ q.length ≤ p.length + cs.length by
    have := H cs _ _ h
    simpa [sumL] using this
  intro cs
  induction cs with
  | nil => intro p q h; simp at h; subst h; simp
  | cons c r ih =>
    intro p q h
    rw [List.foldlM_cons] at h
    cases hs : ref24Step p c with
    | none => rw [hs] at h; cases h
    | some p' =>
      rw [hs] at h
      have h' := ih p' q h
      have h1 := ref24Step_some hs
      simp only [List.length_cons]
      omega

end Go.Proofs.Ytpnkhgjjlionnaa.Zp
namespace Go.Proofs.Ytpnkhgjjlionnaa.Zp
open Go.RowKit

theorem wpList_append_run {P : Program} {w w' : World} {ops : Array Oper} {rest : List Oper} {o : Oper} {a : Act} {Q : Exit → Act → World → Prop} (hgd : o.guard = none) (s x : Operand) (t tn : TypeId)
    (ho : o.op = .call { callee := .builtin .append, args := #[s, x], argTypes := #[t, tn] }) (v u r : Value) (hs : a.eval s = v) (hx : a.eval x = u) (hrun : ∀ ty, (Builtin.append_ #[t, tn] ty #[v, u]).run P w = .ok r w')
    (hK : wpList P ops Q rest (a.put o.dst r) w') : wpList P ops Q (o :: rest) a w := by
  refine wpList_plain hgd fun K hk => ?_
  unfold Oper.wp execOp
  simp only [ho, resolve, invoke, builtin, Sem.run_bind, Sem.run_pure, Result.andThen_ok, List.map_toArray, List.map_cons, List.map_nil, hs, hx, hrun]
  exact hk _ _ hK

set_option maxRecDepth 100000 in
theorem grow_nil (n : Nat) (hn : n ≤ 1000000) (w : World) :
    Calls Try.prog 105 #[.slice none 0 0, .int .i64 n] w fun e w' => ∃ v, e = .returned v ∧ w'.ownsRow w.heap.size 3 1 v 0 [] ∧ Below w.heap.size w w' := by
  obtain ⟨i1, hi', hy0, hy1, hy2⟩ := info_parts info_int
  rcases Nat.eq_zero_or_pos n with rfl | hpos
  · go_enter Try.func105, Try.ntmps105
    go_wp2
    go_ret
    exact ⟨_, rfl, World.ownsRow_nil _ _ _ _, Below.refl _ _⟩
  · have hap := fun ty => Lib.run_append_grow_zeros (P := Try.prog) w 35 3 ty 3 i1 (.int .i64 0) .i64 .i64 Try.underlying35 Try.underlying3 hi' hy0 none 0 0 [] (run_firstCells_none _ _ _ _ _) n hpos (by omega) (by omega) (by omega) (by rw [hy2]; omega) (by rw [hy2, Nat.zero_add, nextslicecap_zero hpos]; omega)
    have hw1 : wrap64 (n : Int) = n := by unfold wrap64; omega
    simp only [Nat.zero_add] at hap
    have h1 : (0 : Int) < (n : Int) := by omega
    go_enter Try.func105, Try.ntmps105
    go_wp2_with (at_builtin; refine wpList_append_run rfl (.tmp 20) (.tmp 21) 35 3 rfl _ _ _ rfl rfl hap ?_)
    go_ret
    refine ⟨_, rfl, World.ownsRow_made w.drew _ _ (Nat.le_refl _) (grownCap_le_maxLen _ _ _ _ (by unfold maxLen; omega)) ?_, (Below.refl _ _).drew.alloc (Nat.le_refl _) _⟩
    have hge := grownCap_ge w n 0 3
    simp [size_zeroCells]
    omega

/-- A slice of numbers that is only read: where its cells lie. -/
def IntsAt (w : World) (v : Value) (xs : List Int) : Prop := ∃ ad cap, v = .slice (some ad) xs.length cap ∧ ad.block < w.heap.size ∧ ∀ j u, (xs.map (Value.int .i64))[j]? = some u → w.cell? (ad.add j) = some u
def flatOf (parts : List (Value × List Int)) : List Int := (parts.map (·.2)).flatten
theorem flatOf_take (parts : List (Value × List Int)) (k : Nat) (h : k < parts.length) : flatOf (parts.take (k + 1)) = flatOf (parts.take k) ++ parts[k].2 := by
  unfold flatOf
  rw [List.take_succ_eq_append_getElem h, List.map_append, List.flatten_append]
  simp
theorem flatOf_le (parts : List (Value × List Int)) (k : Nat) : (flatOf (parts.take k)).length ≤ (flatOf parts).length := by
  have : flatOf parts = flatOf (parts.take k) ++ flatOf (parts.drop k) := by
    unfold flatOf
    rw [← List.flatten_append, ← List.map_append, List.take_append_drop]
  rw [this]
  simp

set_option maxRecDepth 100000 in
set_option maxHeartbeats 1000000 in
theorem concat_any (parts : List (Value × List Int)) (h : Nat) (w : World) (hb : ∀ j (hj : j < parts.length), w.cell? ⟨h, j, none⟩ = some parts[j].1) (hh : h < w.heap.size) (hp : ∀ p ∈ parts, IntsAt w p.1 p.2) (hlen : (flatOf parts).length ≤ 1000000) (hm : parts.length ≤ 1000) (hpos : 0 < parts.length) :
    Calls Try.prog 78 #[.slice (some ⟨h, 0, none⟩) parts.length parts.length] w fun e w' => ∃ v, e = .returned v ∧ w'.ownsRow w.heap.size 3 1 v (flatOf parts).length ((flatOf parts).map (Value.int .i64)) ∧ Below w.heap.size w w' := by
  obtain ⟨i1, hi', hy0, hy1, hy2⟩ := info_parts info_int
  have Hb := Lib.hid hb
  have Hp := Lib.hid hp
  clear hb hp
  go_enter Try.func78, Try.ntmps78
  go_wp2
  go_loop [3, 11] (fun n i => ∃ k : Nat, k ≤ parts.length ∧ i = .int .i64 k ∧ n = .int .i64 ((flatOf (parts.take k)).length : Nat)) (fun _ i => parts.length - (intOf i).toNat)
  case atStart => exact ⟨0, Nat.zero_le _, rfl, by simp [flatOf]⟩
  case round =>
    obtain ⟨k, hk, rfl, rfl⟩ := hrel
    by_cases hlt : k < parts.length
    · obtain ⟨ad, cap, hv, hbl, hcells⟩ := Hp.out parts[k] (List.getElem_mem hlt)
      have hc := Hb.out k hlt
      rw [hv] at hc
      have hft := flatOf_take parts k hlt
      have hl1 := flatOf_le parts (k + 1)
      have hl2 := flatOf_le parts k
      have hl3 : (flatOf (parts.take (k + 1))).length = (flatOf (parts.take k)).length + parts[k].2.length := by rw [hft]; simp
      have Hcells := Lib.hid hcells
      have Hl3 := Lib.hid hl3
      clear hcells hft
      go_wp2
      go_round
      case rel => exact ⟨k + 1, by omega, by go_num, by rw [Hl3.out]; go_num⟩
      case measure => simp [intOf]; omega
    · obtain rfl : k = parts.length := by omega
      rw [List.take_length]
      go_wp2_with fail
      refine (grow_nil _ hlen _).mono ?_
      rintro e w1 ⟨v1, rfl, hr1, hB1⟩
      go_wp2
      go_loopw [6, 27] (fun v i wr => ∃ (k : Nat) (v' : Value), v' = v ∧ k ≤ parts.length ∧ i = .int .i64 k ∧ wr.ownsRow w.heap.size 3 1 v' (flatOf (parts.take k)).length ((flatOf (parts.take k)).map (Value.int .i64)) ∧ Below w.heap.size w wr) (fun _ i _ => parts.length - (intOf i).toNat)
      case atStart => exact ⟨0, _, rfl, Nat.zero_le _, rfl, by simpa [flatOf] using hr1, hB1⟩
      case round =>
        obtain ⟨k, v, rfl, hk, rfl, hr, hB⟩ := hrel
        by_cases hlt : k < parts.length
        · obtain ⟨ad, cap, hv, hbl, hcells⟩ := Hp.out parts[k] (List.getElem_mem hlt)
          have hc0 := Hb.out k hlt
          rw [hv] at hc0
          have hc : wr.cell? ⟨h, k, none⟩ = some (.slice (some ad) parts[k].2.length cap) := by rw [hB.cell hh]; exact hc0
          have hcl : ∀ j u, (parts[k].2.map (Value.int .i64))[j]? = some u → wr.cell? (ad.add j) = some u := fun j u hu => by
            have := hcells j u hu
            exact (hB.cell (block_lt_of_cell this)).trans this
          have hft := flatOf_take parts k hlt
          have hl1 := flatOf_le parts (k + 1)
          have hl3 : (flatOf (parts.take (k + 1))).length = (flatOf (parts.take k)).length + parts[k].2.length := by rw [hft]; simp
          have Hcl := Lib.hid hcl
          have Hl3 := Lib.hid hl3
          have Hft := Lib.hid hft
          have c3 : (flatOf (parts.take k)).length + parts[k].2.length ≤ maxLen := by unfold maxLen; omega
          have c4 : ((flatOf (parts.take k)).length + parts[k].2.length) * 8 ≤ 140737488355328 := by omega
          clear hcells hft hcl hc0
          go_wp2_with (at_builtin; refine wpList_append_own _ rfl (.tmp 31) (.tmp 32) 35 rfl w.heap.size 3 i1 _ 1 8 Try.underlying35 hi' hy0 hy1 hy2 rfl (by decide) _ _ _ rfl hr ad parts[k].2.length cap (parts[k].2.map (Value.int .i64)) rfl (by simp) Hcl.out (by simp [Value.oneCell']) c3 c4 hB.size ?_; intro v4 W4 hr4 hg4 _)
          go_roundw
          case measure => simp [intOf]; omega
          case rel =>
            refine ⟨k + 1, _, rfl, by omega, by go_num, ?_, hB.grown hg4 hB.size (fun j e => (hr.lt j e).1)⟩
            rw [Hl3.out, Hft.out, List.map_append]
            exact hr4
        · obtain rfl : k = parts.length := by omega
          rw [List.take_length] at hr
          go_wp2
          go_ret
          exact ⟨_, rfl, hr, hB⟩
end Go.Proofs.Ytpnkhgjjlionnaa.Zp
namespace Go.Proofs.Ytpnkhgjjlionnaa.Zp
open Go.RowKit Go.Maps

/-- What a letter does to the loop and to the loops that wait; which vertex it tells. -/
def stepM (c : Int) (i : Nat) (m : ZM) : Int × ZM :=
  if c = 67 then (m.n, { m with n := m.n + 1, loop := m.loop.take 1 ++ [(m.n : Int)] ++ m.loop.drop 1 })
  else if c = 76 then (m.loop.getD (m.loop.length - 1) 0, { m with loop := m.loop.drop (m.loop.length - 1) ++ (m.loop.take (m.loop.length - 1)).drop 1 })
  else if c = 82 then (m.loop.getD 2 0, { m with loop := m.loop.take 1 ++ m.loop.drop 2 })
  else if c = 83 then (m.loop.getD i 0, { m with loop := m.loop.take 1 ++ m.loop.drop i, waits := ((m.loop.drop i).take 1 ++ (m.loop.take i).drop 1) :: m.waits })
  else match m.waits with
    | [] => (m.loop.getD 2 0, m)
    | l :: r => (m.loop.getD 2 0, { m with loop := l, waits := r })

theorem add_block (ad : Addr) (j : Nat) : (ad.add j).block = ad.block := by
  unfold Addr.add
  split <;> rfl
theorem size_setCell' (w : World) (p : Addr) (u : Value) : (w.setCell p u).heap.size = w.heap.size := by simp [World.setCell]
section
variable {w w' : World}
/-- A part of a loop, as it is read. -/
theorem ints_part {g n cap : Nat} {xs ys : List Int} (h : w.ownsRow 0 3 1 (.slice (some ⟨g, 0, none⟩) n cap) n (xs.map (Value.int .i64))) (a k c : Nat) (hy : ys = (xs.drop a).take k) (hk : a + k ≤ xs.length) (hn : xs.length = n) :
    IntsAt w (.slice (some ⟨g, a, none⟩) k c) ys := by
  subst hy
  have hl : ((xs.drop a).take k).length = k := by simp; omega
  refine ⟨⟨g, a, none⟩, c, by rw [hl], (h.lt g rfl).2, fun j u hj => ?_⟩
  have hj' : j < k := by
    have := (List.getElem?_eq_some_iff.1 hj).1
    simp at this
    omega
  have h1 := h.cellAt (a + j) (by omega)
  rw [Addr.add_lit]
  show w.cell? ⟨g, a + j, none⟩ = some u
  rw [h1, ← hj]
  simp [hj', List.getElem?_drop]
theorem loop_form {base n : Nat} {v : Value} {xs : List Value} (h : w.ownsRow base 3 1 v n xs) (hn : 0 < n) : ∃ g cap, v = .slice (some ⟨g, 0, none⟩) n cap ∧ n ≤ cap ∧ cap ≤ 9223372036854775807 := by
  rcases h.2 with ⟨_, h0⟩ | ⟨g, cap, cur, rfl, _, _, h1, h2, _⟩
  · omega
  · exact ⟨g, cap, rfl, h1, by unfold maxLen at h2; omega⟩
theorem ints_new (w : World) (x : Int) (c : Nat) : IntsAt (w.alloc (.cells #[.int .i64 x] 3)) (.slice (some ⟨w.heap.size, 0, none⟩) 1 c) [x] :=
  ⟨_, c, rfl, by simp, fun j u hj => by
    rw [Addr.add_lit]
    have := (Blk.new w 3 #[.int .i64 x]).cell j
    simpa using this.trans (by simpa using hj)⟩
theorem IntsAt.alloc {v : Value} {xs : List Int} (h : IntsAt w v xs) (o : Obj) : IntsAt (w.alloc o) v xs := by
  obtain ⟨ad, cap, rfl, hl, hc⟩ := h
  exact ⟨ad, cap, rfl, by simp; omega, fun j u hj => (World.cell?_alloc_lt w _ (ad.add j) (by rw [add_block]; exact hl)).trans (hc j u hj)⟩
theorem IntsAt.drew {v : Value} {xs : List Int} (h : IntsAt w v xs) : IntsAt w.drew v xs := h
/-- slices.Concat of two slices, of three. -/
theorem concat_two {h N : Nat} {v1 v2 : Value} {x1 x2 : List Int} (hb : Blk w h 35 #[v1, v2]) (i1 : IntsAt w v1 x1) (i2 : IntsAt w v2 x2) (hN : (x1 ++ x2).length = N) (hl : N ≤ 1000000) (h0 : 0 < N) :
    Calls Try.prog 78 #[.slice (some ⟨h, 0, none⟩) 2 2] w fun e w' => ∃ g cap, e = .returned (.slice (some ⟨g, 0, none⟩) N cap) ∧ w'.ownsRow 0 3 1 (.slice (some ⟨g, 0, none⟩) N cap) N ((x1 ++ x2).map (Value.int .i64)) ∧ Below w.heap.size w w' := by
  have hf : flatOf [(v1, x1), (v2, x2)] = x1 ++ x2 := by simp [flatOf]
  refine (concat_any [(v1, x1), (v2, x2)] h _ ?_ hb.lt ?_ (by rw [hf, hN]; exact hl) (by simp) (by simp)).mono ?_
  · intro j hj
    have hj2 : j = 0 ∨ j = 1 := by simp at hj; omega
    rcases hj2 with rfl | rfl
    · exact hb.cell 0
    · exact hb.cell 1
  · intro p hp
    simp at hp
    rcases hp with rfl | rfl
    · exact i1
    · exact i2
  · rintro e w' ⟨v, rfl, h1, h2⟩
    rw [hf, hN] at h1
    obtain ⟨g, cap, rfl, -, -⟩ := loop_form h1 h0
    exact ⟨g, cap, rfl, Go.Joins.ownsRow_le h1 (Nat.zero_le _), h2⟩
theorem concat_three {h N : Nat} {v1 v2 v3 : Value} {x1 x2 x3 : List Int} (hb : Blk w h 35 #[v1, v2, v3]) (i1 : IntsAt w v1 x1) (i2 : IntsAt w v2 x2) (i3 : IntsAt w v3 x3) (hN : (x1 ++ x2 ++ x3).length = N) (hl : N ≤ 1000000) (h0 : 0 < N) :
    Calls Try.prog 78 #[.slice (some ⟨h, 0, none⟩) 3 3] w fun e w' => ∃ g cap, e = .returned (.slice (some ⟨g, 0, none⟩) N cap) ∧ w'.ownsRow 0 3 1 (.slice (some ⟨g, 0, none⟩) N cap) N ((x1 ++ x2 ++ x3).map (Value.int .i64)) ∧ Below w.heap.size w w' := by
  have hf : flatOf [(v1, x1), (v2, x2), (v3, x3)] = x1 ++ x2 ++ x3 := by simp [flatOf]
  refine (concat_any [(v1, x1), (v2, x2), (v3, x3)] h _ ?_ hb.lt ?_ (by rw [hf, hN]; exact hl) (by simp) (by simp)).mono ?_
  · intro j hj
    have hj2 : j = 0 ∨ j = 1 ∨ j = 2 := by simp at hj; omega
    rcases hj2 with rfl | rfl | rfl
    · exact hb.cell 0
    · exact hb.cell 1
    · exact hb.cell 2
  · intro p hp
    simp at hp
    rcases hp with rfl | rfl | rfl
    · exact i1
    · exact i2
    · exact i3
  · rintro e w' ⟨v, rfl, h1, h2⟩
    rw [hf, hN] at h1
    obtain ⟨g, cap, rfl, -, -⟩ := loop_form h1 h0
    exact ⟨g, cap, rfl, Go.Joins.ownsRow_le h1 (Nat.zero_le _), h2⟩
end

/-- What stands when the new loop has been made and put. -/
theorem step_done {w W w1 : World} {base z be bt : Nat} {vT vL vW : Value} {vs : List Value} {m : ZM} {nE nS g1 cap1 N : Nat} {ys ys' : List Int} (hA : ZSX W base z be bt vT vL vW vs m nE (edgesOf m.T) nS (m.T.map sortedT)) (hnE : nE ≤ 3 * m.T.length) (hnS : nS ≤ m.T.length)
    (hBl : Below base w W) (hb1 : Below W.heap.size W w1) (hr1 : w1.ownsRow 0 3 1 (.slice (some ⟨g1, 0, none⟩) N cap1) N (ys.map (Value.int .i64))) (hN : ys.length = N) (hy : ys = ys') :
    (∃ vL', ZS (w1.setCell ⟨z, 2, none⟩ (.slice (some ⟨g1, 0, none⟩) N cap1)) base z be bt vT vL' vW vs { m with loop := ys' }) ∧ Below base w (w1.setCell ⟨z, 2, none⟩ (.slice (some ⟨g1, 0, none⟩) N cap1)) := by
  subst hy
  subst hN
  have h1 := hA.below hb1
  refine ⟨⟨_, nE, nS, hnE, hnS, h1.put (m' := { m with loop := ys }) 2 _ rfl rfl hr1 h1.W h1.R⟩, ?_⟩
  have hsz : base ≤ W.heap.size := Nat.le_trans hA.hz (Nat.le_of_lt hA.blk.lt)
  have : Below base w w1 := ⟨hb1.os.trans hBl.os, hb1.tape.trans hBl.tape, hb1.output.trans hBl.output, Nat.le_trans hBl.size hb1.size, fun b hb => (hb1.block b (Nat.lt_of_lt_of_le hb hsz)).trans (hBl.block b hb)⟩
  exact this.setCell (p := ⟨z, 2, none⟩) hA.hz _

set_option maxRecDepth 100000 in
set_option maxHeartbeats 2000000 in
theorem stepC_any {w : World} {base z be bt : Nat} {vT vL vW : Value} {vs : List Value} {m : ZM} (h : ZS w base z be bt vT vL vW vs m) (i : Int) (hn : 3 ≤ m.loop.length) (hn' : m.loop.length ≤ 900000) (hN : m.n ≤ 900000) :
    Calls Try.prog 41 #[.pointer (some ⟨z, 0, none⟩), .int .u8 67, .int .i64 i] w fun en w' => en = .returned (.int .i64 (m.n : Int)) ∧ (∃ vL', ZS w' base z be bt vT vL' vW vs { m with n := m.n + 1, loop := m.loop.take 1 ++ [(m.n : Int)] ++ m.loop.drop 1 }) ∧ Below base w w' := by
  obtain ⟨nE, nS, hnE, hnS, h⟩ := h
  have hbase : base ≤ w.heap.size := Nat.le_trans h.hz (Nat.le_of_lt h.blk.lt)
  have H := Lib.hid h
  have hzl := h.blk.lt
  obtain ⟨-, c0, c1, c2, c3, c4, c5, fz⟩ := h.blk.six'
  have hL := h.L
  obtain ⟨g, cap, rfl, hcap, hcap'⟩ := loop_form hL (by omega)
  clear h
  obtain ⟨n, en⟩ : ∃ n, n = m.loop.length := ⟨_, rfl⟩
  rw [← en] at hn hn' hcap H hL c2
  have hA := (((H.out.put (vL' := .slice (some ⟨g, 0, none⟩) n cap) (vW' := vW) (vs' := vs) (m' := { m with n := m.n + 1 }) 0 (.int .i64 ((m.n + 1 : Nat) : Int)) rfl rfl (by rw [← en]; exact hL) H.out.W H.out.R).alloc (.cells #[.int .i64 (m.n : Int)] 3)).alloc (.cells #[.slice (some ⟨g, 0, none⟩) 1 cap, .slice (some ⟨w.heap.size, 0, none⟩) 1 1, .slice (some ⟨g, 1, none⟩) (n - 1) (cap - 1)] 35)).drew.drew
  rw [show ((m.n + 1 : Nat) : Int) = (m.n : Int) + 1 from by omega] at hA
  have hB : Blk ((((w.setCell ⟨z, 0, none⟩ (.int .i64 ((m.n : Int) + 1))).alloc (.cells #[.int .i64 (m.n : Int)] 3)).alloc (.cells #[.slice (some ⟨g, 0, none⟩) 1 cap, .slice (some ⟨w.heap.size, 0, none⟩) 1 1, .slice (some ⟨g, 1, none⟩) (n - 1) (cap - 1)] 35)).drew.drew) (w.heap.size + 1) 35 #[.slice (some ⟨g, 0, none⟩) 1 cap, .slice (some ⟨w.heap.size, 0, none⟩) 1 1, .slice (some ⟨g, 1, none⟩) (n - 1) (cap - 1)] := by
    have := Blk.new ((w.setCell ⟨z, 0, none⟩ (.int .i64 ((m.n : Int) + 1))).alloc (.cells #[.int .i64 (m.n : Int)] 3)) 35 #[.slice (some ⟨g, 0, none⟩) 1 cap, .slice (some ⟨w.heap.size, 0, none⟩) 1 1, .slice (some ⟨g, 1, none⟩) (n - 1) (cap - 1)]
    rw [size_alloc', size_setCell'] at this
    exact this
  have hI := ((ints_new (w.setCell ⟨z, 0, none⟩ (.int .i64 ((m.n : Int) + 1))) (m.n : Int) 1).alloc (.cells #[.slice (some ⟨g, 0, none⟩) 1 cap, .slice (some ⟨w.heap.size, 0, none⟩) 1 1, .slice (some ⟨g, 1, none⟩) (n - 1) (cap - 1)] 35)).drew.drew
  rw [size_setCell'] at hI
  have hBl : Below base w ((((w.setCell ⟨z, 0, none⟩ (.int .i64 ((m.n : Int) + 1))).alloc (.cells #[.int .i64 (m.n : Int)] 3)).alloc (.cells #[.slice (some ⟨g, 0, none⟩) 1 cap, .slice (some ⟨w.heap.size, 0, none⟩) 1 1, .slice (some ⟨g, 1, none⟩) (n - 1) (cap - 1)] 35)).drew.drew) :=
    (((((Below.refl base w).setCell (p := ⟨z, 0, none⟩) H.out.hz _).alloc (by rw [size_setCell']; exact hbase) _).alloc (by rw [size_alloc', size_setCell']; omega) _).drew).drew
  have hA5 := hA.L
  simp only at hA5
  rw [← en] at hA5
  have j1 := ints_part hA5 0 1 cap rfl (by omega) en.symm
  have j3 := ints_part hA5 1 (n - 1) (cap - 1) rfl (by omega) en.symm
  have HA := Lib.hid hA
  have HB := Lib.hid hB
  have HI := Lib.hid hI
  have HBl := Lib.hid hBl
  have J1 := Lib.hid j1
  have J3 := Lib.hid j3
  clear hA hB hI hBl hA5 j1 j3 hL
  have eN : ((m.loop.drop 0).take 1 ++ [(m.n : Int)] ++ (m.loop.drop 1).take (n - 1)).length = n + 1 := by simp; omega
  have EN := Lib.hid eN
  have e2 : (m.loop.drop 0).take 1 ++ [(m.n : Int)] ++ (m.loop.drop 1).take (n - 1) = m.loop.take 1 ++ [(m.n : Int)] ++ m.loop.drop 1 := by
    rw [List.drop_zero, List.take_of_length_le (l := m.loop.drop 1) (by simp; omega)]
  have E2 := Lib.hid e2
  have En := Lib.hid en
  clear eN e2 en
  go_enter Try.func41, Try.ntmps41
  go_wp2
  go_region
  go_wp2
  go_region_with (go_at_call 78; refine (concat_three HB.out J1.out HI.out J3.out EN.out (by omega) (by omega)).mono ?_; rintro e w1 ⟨g1, cap1, rfl, hr1, hb1⟩; obtain ⟨-, d0, d1, d2, d3, d4, d5, dz⟩ := (HA.out.below hb1).blk.six')
  all_goals
    go_wp2
    go_ret
    have := step_done HA.out hnE hnS HBl.out hb1 hr1 EN.out E2.out
    exact ⟨rfl, this.1, this.2⟩
end Go.Proofs.Ytpnkhgjjlionnaa.Zp
namespace Go.Proofs.Ytpnkhgjjlionnaa.Zp
open Go.RowKit

/-- The lengths of the words that wait at place p, the one that begins there first. -/
def stAt (zs : List Int) (p : Nat) : Option (List Int) := ref24Run (zs.drop p).reverse
theorem stAt_end (zs : List Int) : stAt zs zs.length = some [] := by simp [stAt, ref24Run]
theorem stAt_zero (zs : List Int) : stAt zs 0 = ref24Run zs.reverse := by simp [stAt]
theorem stAt_step (zs : List Int) (p : Nat) (h : p < zs.length) : stAt zs p = (stAt zs (p + 1)).bind fun l => ref24Step l zs[p] := by
  unfold stAt
  rw [List.drop_eq_getElem_cons h, List.reverse_cons, ref24Run_snoc]
theorem stAt_some {zs l0 : List Int} (h : ref24Run zs.reverse = some l0) : ∀ p, p ≤ zs.length → ∃ l, stAt zs p = some l := by
  intro p
  induction p with
  | zero => intro _; exact ⟨l0, by rw [stAt_zero, h]⟩
  | succ p ih =>
    intro hp
    obtain ⟨l, hl⟩ := ih (by omega)
    rw [stAt_step zs p (by omega)] at hl
    cases hs : stAt zs (p + 1) with
    | none => rw [hs] at hl; cases hl
    | some q => exact ⟨q, rfl⟩

/-- What the map tells of an S: where its second word begins. -/
def Second (zs : List Int) (k : Nat) (v : Int) : Prop := ∃ (p : Nat) (x y : Int) (r : List Int), v = p ∧ k < p ∧ p < zs.length ∧ stAt zs (k + 1) = some (x :: y :: r) ∧ stAt zs p = some (y :: r)
/-- The ends of the words that begin at ps: each word's end is where the next one begins; the last one's is the text's. -/
def endsOf (n : Nat) : List Nat → List Nat
  | [] => []
  | _ :: r => r ++ [n]
/-- What the rounds keep: the words behind place k begin at ps. -/
structure SecInv (zs : List Int) (k : Nat) (ps : List Nat) (f : Int → Int) : Prop where
  len : ∀ l, stAt zs k = some l → ps.length = l.length
  at_ : ∀ l, stAt zs k = some l → ∀ j (hj : j < ps.length), k ≤ ps[j] ∧ ps[j] < zs.length ∧ stAt zs ps[j] = some (l.drop j)
  head : (ps = [] → k = zs.length) ∧ ∀ h : 0 < ps.length, ps[0] = k
  map : ∀ j (hj : j < zs.length), k ≤ j → zs[j] = 83 → Second zs j (f j)

theorem SecInv.start (zs : List Int) (f : Int → Int) : SecInv zs zs.length [] f :=
  ⟨fun l h => by rw [stAt_end] at h; cases h; rfl, fun l _ j hj => by simp at hj, ⟨fun _ => rfl, fun h => by simp at h⟩, fun j hj h _ => by omega⟩

theorem SecInv.ends_ {zs : List Int} {k : Nat} {ps : List Nat} {f : Int → Int} (h : SecInv zs (k + 1) ps f) : endsOf zs.length (k :: ps) = (k + 1) :: endsOf zs.length ps := by
  cases ps with
  | nil => have := h.head.1 rfl; simp [endsOf, this]
  | cons p r =>
    have := h.head.2 (by simp)
    simp at this
    subst this
    simp [endsOf]
theorem SecInv.stE {zs : List Int} {k : Nat} {ps : List Nat} {f : Int → Int} {l : List Int} (h : SecInv zs (k + 1) ps f) (hk : k < zs.length) (hl : stAt zs (k + 1) = some l) (hc : zs[k] = 69) : SecInv zs k (k :: ps) f := by
  have hs : stAt zs k = some (3 :: l) := by rw [stAt_step zs k hk, hl, hc]; rfl
  refine ⟨fun q hq => ?_, fun q hq j hj => ?_, ⟨fun e => (by cases e), fun _ => rfl⟩, fun j hj hkj hz => ?_⟩
  · rw [hs] at hq; cases hq; simp [h.len l hl]
  · rw [hs] at hq
    cases hq
    cases j with
    | zero => exact ⟨Nat.le_refl _, hk, hs⟩
    | succ j => have := h.at_ l hl j (by simpa using hj); exact ⟨by simp; omega, by simpa using this.2.1, by simpa using this.2.2⟩
  · refine h.map j hj ?_ hz
    rcases Nat.lt_or_ge k j with h1 | h1
    · omega
    · exfalso
      have : j = k := by omega
      subst this
      rw [hc] at hz
      cases hz
/-- C, L, R: the top word begins one letter ahead. -/
theorem SecInv.st1 {zs : List Int} {k p : Nat} {ps : List Nat} {f : Int → Int} {l : List Int} (h : SecInv zs (k + 1) (p :: ps) f) (hk : k < zs.length) (hl : stAt zs k = some l) (hc : zs[k] ≠ 69) (hc2 : zs[k] ≠ 83) : SecInv zs k (k :: ps) f := by
  have hs := stAt_step zs k hk
  rw [hl] at hs
  cases hq : stAt zs (k + 1) with
  | none => rw [hq] at hs; cases hs
  | some l1 =>
    rw [hq] at hs
    simp only [Option.bind_some] at hs
    have hlen := h.len l1 hq
    obtain ⟨x, r, rfl⟩ : ∃ x r, l1 = x :: r := by cases l1 with | nil => simp at hlen | cons x r => exact ⟨x, r, rfl⟩
    obtain ⟨x', rfl⟩ : ∃ x', l = x' :: r := by
      unfold ref24Step at hs
      rw [if_neg hc] at hs
      split at hs
      · simp only at hs
        split at hs
        · cases hs
        · cases hs; exact ⟨_, rfl⟩
      · split at hs
        · cases hs; exact ⟨_, rfl⟩
        · first
            | cases hs
            | (rw [if_neg hc2] at hs; cases hs)
    refine ⟨fun q hq' => ?_, fun q hq' j hj => ?_, ⟨fun e => (by cases e), fun _ => rfl⟩, fun j hj hkj hz => ?_⟩
    · rw [hl] at hq'; cases hq'; simpa using hlen
    · rw [hl] at hq'
      cases hq'
      cases j with
      | zero => exact ⟨Nat.le_refl _, hk, hl⟩
      | succ j => have := h.at_ _ hq (j + 1) (by simpa using hj); exact ⟨by simp at this ⊢; omega, by simpa using this.2.1, by simpa using this.2.2⟩
    · refine h.map j hj ?_ hz
      rcases Nat.lt_or_ge k j with h1 | h1
      · omega
      · exfalso
        have : j = k := by omega
        subst this
        exact hc2 hz
/-- S: the two top words become one; the map learns where the second begins. -/
theorem SecInv.stS {zs : List Int} {k p1 p2 : Nat} {ps : List Nat} {f : Int → Int} {l : List Int} (h : SecInv zs (k + 1) (p1 :: p2 :: ps) f) (hk : k < zs.length) (hl : stAt zs k = some l) (hc : zs[k] = 83) :
    SecInv zs k (k :: ps) (fun y => if y = (k : Int) then (p2 : Int) else f y) := by
  have hs := stAt_step zs k hk
  rw [hl] at hs
  cases hq : stAt zs (k + 1) with
  | none => rw [hq] at hs; cases hs
  | some l1 =>
    rw [hq] at hs
    simp only [Option.bind_some] at hs
    have hlen := h.len l1 hq
    match l1, hlen, hs, hq with
    | x :: y :: r, hlen, hs, hq =>
      rw [hc] at hs
      have hs' : some l = some ((x + y - 1) :: r) := hs
      cases hs'
      have h2 := h.at_ _ hq 1 (by simp)
      simp at h2
      refine ⟨fun q hq' => ?_, fun q hq' j hj => ?_, ⟨fun e => (by cases e), fun _ => rfl⟩, fun j hj hkj hz => ?_⟩
      · rw [hl] at hq'; cases hq'; simpa using hlen
      · rw [hl] at hq'
        cases hq'
        cases j with
        | zero => exact ⟨Nat.le_refl _, hk, hl⟩
        | succ j => have := h.at_ _ hq (j + 2) (by simpa using hj); exact ⟨by simp at this ⊢; omega, by simpa using this.2.1, by simpa using this.2.2⟩
      · by_cases hjk : j = k
        · subst hjk
          simp only [if_true]
          exact ⟨p2, x, y, r, rfl, by omega, h2.2.1, hq, h2.2.2⟩
        · simp only [Int.ofNat_inj, hjk, if_false]
          exact h.map j hj (by omega) hz
    | [x], hlen, hs, hq => simp at hlen
    | [], hlen, hs, hq => simp at hlen
end Go.Proofs.Ytpnkhgjjlionnaa.Zp
