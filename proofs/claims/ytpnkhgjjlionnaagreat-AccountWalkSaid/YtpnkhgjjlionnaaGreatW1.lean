/-
  Texts joined by program, what the law uses alone: KitA ShelfUse Maps ZpZipM ZpWordM ZpWordA ZpWordB ZpBack ZpLen ZpCount ZpRefR ZpSecM ZpRight ZpRightEq ZpCountR ZpCost ZpCounts Cmp Row CertA CertI.
-/
import Derived.WalkKit
import Derived.WalkSpells
import Derived.WalkLawsBesides
import Derived.RangeFuncBox
import Derived.Maps.AppendAt
import Derived.Sort.OwnSortedInts
import Derived.Maps.OwnOps
import Derived.Maps.OwnSet
import Derived.WideKeyPair
import Derived.BigRegion
import Derived.RegionTactic
import Derived.ChangeAlike
import Derived.BigQuiet
import Derived.Outline
import Derived.Lib.Hide
import Derived.RangeFuncNested
import Derived.RangeFuncBound
import Derived.RangeFuncCalls
import Derived.RangeFuncLeaves
import Derived.Shelf.Abstract
import Derived.Shelf.RegionOpen
import Derived.OwnWalkIn
import Derived.TacticsInMore
import Derived.LoopNIn
import Derived.LoopIn
import Derived.Lib.ConvBytes
import Derived.Deep.QuietTactic
import Derived.Deep.RegionLaw
import Derived.Deep.RegionHeld3
import Derived.Deep.AppendLies
import Derived.Test.YtpnkhgjjlionnaaGreatRows
import Derived.Test.YtpnkhgjjlionnaaGreatShelf
namespace Go.Proofs.YtpnkhgjjlionnaaGreat
open Go.RowKit

/-- Block g is just the cells cs of element type t, none frozen. -/
def Blk (w : World) (g : Nat) (t : TypeId) (cs : Array Value) : Prop := w.heap[g]? = some (.cells cs t (0, 0))

section
variable {w w' : World} {g : Nat} {t : TypeId} {cs : Array Value}
theorem Blk.lt (h : Blk w g t cs) : g < w.heap.size := by
  rcases Nat.lt_or_ge g w.heap.size with hlt | hge
  · exact hlt
  · unfold Blk at h; rw [Array.getElem?_eq_none hge] at h; cases h
theorem Blk.cell (h : Blk w g t cs) (i : Nat) : w.cell? ⟨g, i, none⟩ = cs[i]? := cell_of_row w g i cs t (0, 0) h
theorem Blk.frozen (h : Blk w g t cs) (i : Nat) : w.frozen? ⟨g, i, none⟩ = false := by
  unfold Blk at h
  simp [World.frozen?, h]
theorem Blk.new (w : World) (t : TypeId) (cs : Array Value) : Blk (w.alloc (.cells cs t)) w.heap.size t cs := heap_alloc_new w _
theorem Blk.drew (h : Blk w g t cs) : Blk w.drew g t cs := h
theorem Blk.alloc (h : Blk w g t cs) (o : Obj) : Blk (w.alloc o) g t cs := (Below.heap_alloc w o g h.lt).trans h
theorem Blk.set_ (h : Blk w g t cs) (i : Nat) (u : Value) : Blk (w.setCell ⟨g, i, none⟩ u) g t (cs.setIfInBounds i u) := by
  unfold Blk at h ⊢
  simp [World.setCell, Array.getElem?_modify, h]
theorem Blk.set1 {v : Value} (h : Blk w g t #[v]) (u : Value) : Blk (w.setCell ⟨g, 0, none⟩ u) g t #[u] := by
  have := h.set_ 0 u
  simpa using this
theorem Blk.far (h : Blk w g t cs) {p : Addr} (hp : g ≠ p.block) (u : Value) : Blk (w.setCell p u) g t cs := (Below.heap_setCell w p u g hp).trans h
theorem Blk.below {B : Nat} (h : Blk w g t cs) (hb : Below B w w') (hg : g < B) : Blk w' g t cs := (hb.block g hg).trans h
theorem Blk.grown {row : Option Nat} (h : Blk w g t cs) (hb : w.grownBy w' row) (hg : some g ≠ row) : Blk w' g t cs := (hb.block g h.lt hg).trans h
theorem Blk.ne_ {g' : Nat} {t' : TypeId} {cs' : Array Value} (h : Blk w g t cs) (h' : Blk w g' t' cs') (hne : t ≠ t') : g ≠ g' := by
  rintro rfl
  unfold Blk at h h'
  rw [h] at h'
  injection h' with h'
  injection h' with _ ht
  exact hne ht
theorem Blk.one {a : Value} (h : Blk w g t #[a]) : g < w.heap.size ∧ w.cell? ⟨g, 0, none⟩ = some a ∧ w.frozen? ⟨g, 0, none⟩ = false := ⟨h.lt, h.cell 0, h.frozen 0⟩
theorem Blk.two {a b : Value} (h : Blk w g t #[a, b]) : g < w.heap.size ∧ w.cell? ⟨g, 0, none⟩ = some a ∧ w.frozen? ⟨g, 0, none⟩ = false ∧ w.cell? ⟨g, 1, none⟩ = some b ∧ w.frozen? ⟨g, 1, none⟩ = false :=
  ⟨h.lt, h.cell 0, h.frozen 0, h.cell 1, h.frozen 1⟩
theorem Blk.three {a b c : Value} (h : Blk w g t #[a, b, c]) : g < w.heap.size ∧ w.cell? ⟨g, 0, none⟩ = some a ∧ w.frozen? ⟨g, 0, none⟩ = false ∧ w.cell? ⟨g, 1, none⟩ = some b ∧ w.frozen? ⟨g, 1, none⟩ = false ∧ w.cell? ⟨g, 2, none⟩ = some c ∧ w.frozen? ⟨g, 2, none⟩ = false :=
  ⟨h.lt, h.cell 0, h.frozen 0, h.cell 1, h.frozen 1, h.cell 2, h.frozen 2⟩
theorem own_blk_ne {base : Nat} {e : TypeId} {size n : Nat} {v : Value} {xs : List Value} (h : w.ownsRow base e size v n xs) (hg : Blk w g t cs) (hne : e ≠ t) : v.ownBlock ≠ some g := by
  rcases h.2 with ⟨rfl, _⟩ | ⟨g', cap, cur, rfl, _, hh, _⟩
  · simp [Value.ownBlock]
  · intro he
    have : g' = g := by simpa [Value.ownBlock] using he
    subst this
    exact Blk.ne_ (t := e) hh hg hne rfl
end

/-! Frames, read backward from the walk's last world. -/
section
variable {w a b : World} {row : Option Nat}
theorem gAlloc (h : w.grownBy a row) (o : Obj) : w.grownBy (a.alloc o) row := h.trans (World.grownBy_alloc a o row)
theorem gDrew (h : w.grownBy a row) : w.grownBy a.drew row := ⟨h.os, h.tape, h.output, h.size, h.block⟩
theorem gSet (h : w.grownBy a row) (p : Addr) (u : Value) (hp : row = some p.block ∨ w.heap.size ≤ p.block) : w.grownBy (a.setCell p u) row :=
  ⟨h.os, h.tape, h.output, by simpa [World.setCell] using h.size, fun k hk hne => by
    rw [Below.heap_setCell _ _ _ _ (by rintro rfl; rcases hp with e | e; exact hne e.symm; omega)]
    exact h.block k hk hne⟩
theorem gSt {g i : Nat} {u : Value} (h : w.grownBy a row) (hp : row = some g ∨ w.heap.size ≤ g) : w.grownBy (a.setCell ⟨g, i, none⟩ u) row := gSet h _ _ hp
theorem gStN {g i : Nat} {u : Value} (h : w.grownBy a row) (hp : w.heap.size ≤ g) : w.grownBy (a.setCell ⟨g, i, none⟩ u) row := gSet h _ _ (.inr hp)
theorem gStR {g i : Nat} {u : Value} (h : w.grownBy a (some g)) : w.grownBy (a.setCell ⟨g, i, none⟩ u) (some g) := gSet h _ _ (.inl rfl)
theorem gGrown {r : Option Nat} (h : w.grownBy a row) (hb : a.grownBy b r) (hr : ∀ j, r = some j → row = some j ∨ w.heap.size ≤ j) : w.grownBy b row :=
  ⟨hb.os.trans h.os, hb.tape.trans h.tape, hb.output.trans h.output, Nat.le_trans h.size hb.size, fun k hk hne =>
    (hb.block k (Nat.lt_of_lt_of_le hk h.size) (fun e => by rcases hr k e.symm with e' | e'; exact hne e'.symm; omega)).trans (h.block k hk hne)⟩
theorem below_of_grown {B : Nat} (h : w.grownBy a row) (hB : B ≤ w.heap.size) (hr : ∀ j, row = some j → B ≤ j) : Below B w a :=
  ⟨h.os, h.tape, h.output, h.size, fun k hk => h.block k (by omega) (fun e => by have := hr k e.symm; omega)⟩
theorem grown_of_below (h : Below w.heap.size w a) (row : Option Nat) : w.grownBy a row := ⟨h.os, h.tape, h.output, h.size, fun k hk _ => h.block k hk⟩
end

/-! What a range over a function does to blocks that are no cells leaves cells alone. -/
section
variable {w w' : World} {g : Nat} {t : TypeId} {cs : Array Value} {row : Option Nat}
theorem Blk.calm (h : Blk w g t cs) (hg : w.grownBy w' row) (hr : ∀ r, row = some r → ∃ o : Obj, w.heap[r]? = some o ∧ o.isCells = false) : Blk w' g t cs :=
  h.grown hg (fun e => by obtain ⟨o, ho, hc⟩ := hr g e.symm; rw [show w.heap[g]? = _ from h] at ho; cases ho; cases hc)
theorem own_calm {base : Nat} {e : TypeId} {size n : Nat} {v : Value} {xs : List Value} (h : w.ownsRow base e size v n xs) (hg : w.grownBy w' row) (hr : ∀ r, row = some r → ∃ o : Obj, w.heap[r]? = some o ∧ o.isCells = false) : w'.ownsRow base e size v n xs := by
  refine h.kept hg ?_
  rcases h.2 with ⟨rfl, _⟩ | ⟨g', cap, cur, rfl, _, hh, _⟩
  · exact .inl rfl
  · refine .inr (fun e' => ?_)
    obtain ⟨o, ho, hc⟩ := hr g' (by simpa [Value.ownBlock] using e'.symm)
    rw [hh] at ho; cases ho; cases hc
theorem own_own_ne {base base' : Nat} {e e' : TypeId} {size size' n n' : Nat} {v v' : Value} {xs xs' : List Value} (h : w.ownsRow base e size v n xs) (h' : w.ownsRow base' e' size' v' n' xs') (hne : e ≠ e') : v.ownBlock = none ∨ v.ownBlock ≠ v'.ownBlock := by
  rcases h.2 with ⟨rfl, _⟩ | ⟨g, cap, cur, rfl, _, hh, _⟩
  · exact .inl rfl
  · refine .inr (fun e0 => ?_)
    rcases h'.2 with ⟨rfl, _⟩ | ⟨g', cap', cur', rfl, _, hh', _⟩
    · simp [Value.ownBlock] at e0
    · have : g = g' := by simpa [Value.ownBlock] using e0
      subst this
      rw [hh] at hh'
      injection hh' with hh'
      injection hh' with _ ht
      exact hne ht
theorem own_alloc_st {base : Nat} {e : TypeId} {size n b i : Nat} {v u : Value} {xs : List Value} (h : w.ownsRow base e size v n xs) (hb : Blk w b t cs) (hne : e ≠ t) : (w.setCell ⟨b, i, none⟩ u).ownsRow base e size v n xs :=
  h.kept (row := some b) (gSet (World.grownBy.refl _ _) _ _ (.inl rfl)) (.inr (own_blk_ne h hb hne))
end

theorem cells_new (w : World) (xs : List Value) (t : TypeId) : ∀ j u, xs[j]? = some u → (w.alloc (.cells xs.toArray t)).cell? ((⟨w.heap.size, 0, none⟩ : Addr).add j) = some u := by
  intro j u hj
  rw [Addr.add_lit, World.cell?_alloc_new]
  simpa using hj

/-! Behind 'x = append(x, ..)', x a variable in the block B: what else lay lies. -/
section
variable {W w1 : World} {n₀ B g : Nat} {t e : TypeId} {size : Nat} {v u : Value} {k : Nat} {xs : List Value} {tmp : Obj} {cs : Array Value}
theorem app_blk1 (h : Blk W g t cs) (hrow : W.ownsRow n₀ e size v k xs) (hne : e ≠ t) (hgrow : (W.alloc tmp).grownBy w1 v.ownBlock) : Blk w1 g t cs :=
  (h.alloc tmp).grown hgrow (fun e0 => own_blk_ne hrow h hne e0.symm)
theorem app_blk (h : Blk W g t cs) (hrow : W.ownsRow n₀ e size v k xs) (hne : e ≠ t) (hgrow : (W.alloc tmp).grownBy w1 v.ownBlock) (hgB : g ≠ B) : Blk (w1.setCell ⟨B, 0, none⟩ u) g t cs :=
  (app_blk1 h hrow hne hgrow).far hgB _
theorem app_blkH1 {H : Nat} (h : Blk W g t cs) (hH : ∀ j, v.ownBlock = some j → j < H) (hg : H ≤ g) (hgrow : (W.alloc tmp).grownBy w1 v.ownBlock) : Blk w1 g t cs :=
  (h.alloc tmp).grown hgrow (fun e0 => by have := hH g e0.symm; omega)
theorem app_own {base : Nat} {e' tb : TypeId} {size' n' : Nat} {v' : Value} {xs' : List Value} (h : W.ownsRow base e' size' v' n' xs') (hrow : W.ownsRow n₀ e size v k xs) (hne : e' ≠ e) (hb : Blk W B tb cs) (hnb : e' ≠ tb) (hgrow : (W.alloc tmp).grownBy w1 v.ownBlock) :
    (w1.setCell ⟨B, 0, none⟩ u).ownsRow base e' size' v' n' xs' := by
  refine ((h.alloc tmp).kept hgrow ?_).kept (row := some B) (gSet (World.grownBy.refl _ _) _ _ (.inl rfl)) (.inr (own_blk_ne h hb hnb))
  exact own_own_ne h hrow hne
end
/-- Block g holds cells of element type t, whatever they are. -/
def CellsT (w : World) (g : Nat) (t : TypeId) (o : Obj) : Prop := w.heap[g]? = some o ∧ ∃ C fr, o = .cells C t fr
theorem Blk.cellsT {w : World} {g : Nat} {t : TypeId} {cs : Array Value} (h : Blk w g t cs) : CellsT w g t (.cells cs t (0, 0)) := ⟨h, _, _, rfl⟩
section
variable {w w' W w1 : World} {n₀ B g : Nat} {t e : TypeId} {size : Nat} {v u : Value} {k : Nat} {xs : List Value} {tmp o : Obj} {row : Option Nat}
theorem CellsT.lt (h : CellsT w g t o) : g < w.heap.size := (Array.getElem?_eq_some_iff.1 h.1).1
theorem CellsT.grown (h : CellsT w g t o) (hg : w.grownBy w' row) (hne : some g ≠ row) : CellsT w' g t o := ⟨(hg.block g h.lt hne).trans h.1, h.2⟩
theorem CellsT.alloc (h : CellsT w g t o) (o' : Obj) : CellsT (w.alloc o') g t o := ⟨(Below.heap_alloc w o' g h.lt).trans h.1, h.2⟩
theorem CellsT.far (h : CellsT w g t o) {p : Addr} (hp : g ≠ p.block) (u : Value) : CellsT (w.setCell p u) g t o := ⟨(Below.heap_setCell w p u g hp).trans h.1, h.2⟩
theorem CellsT.calm (h : CellsT w g t o) (hg : w.grownBy w' row) (hr : ∀ r, row = some r → ∃ o : Obj, w.heap[r]? = some o ∧ o.isCells = false) : CellsT w' g t o :=
  h.grown hg (fun e => by obtain ⟨o', ho, hc⟩ := hr g e.symm; rw [h.1] at ho; cases ho; obtain ⟨C, fr, rfl⟩ := h.2; cases hc)
theorem own_cellsT_ne (h : w.ownsRow n₀ e size v k xs) (hg : CellsT w g t o) (hne : e ≠ t) : v.ownBlock ≠ some g := by
  obtain ⟨hg, C, fr, rfl⟩ := hg
  rcases h.2 with ⟨rfl, _⟩ | ⟨g', cap, cur, rfl, _, hh, _⟩
  · simp [Value.ownBlock]
  · intro he
    have : g' = g := by simpa [Value.ownBlock] using he
    subst this
    rw [hh] at hg
    injection hg with hg
    injection hg with _ ht
    exact hne ht
theorem app_cellsT (h : CellsT W g t o) (hrow : W.ownsRow n₀ e size v k xs) (hne : e ≠ t) (hgrow : (W.alloc tmp).grownBy w1 v.ownBlock) (hgB : g ≠ B) : CellsT (w1.setCell ⟨B, 0, none⟩ u) g t o :=
  ((h.alloc tmp).grown hgrow (fun e0 => own_cellsT_ne hrow h hne e0.symm)).far hgB _
end
theorem isCells_of_blk {w : World} {g : Nat} {t : TypeId} {cs : Array Value} (h : Blk w g t cs) : ∀ (j : Nat) (o : Obj), some g = some j → w.heap[j]? = some o → o.isCells = true := by
  intro j o e ho
  cases e
  rw [show w.heap[g]? = _ from h] at ho
  cases ho
  rfl

/-! Sizes -/
theorem size_alloc' (w : World) (o : Obj) : (w.alloc o).heap.size = w.heap.size + 1 := by simp
end Go.Proofs.YtpnkhgjjlionnaaGreat
namespace Go.Proofs.YtpnkhgjjlionnaaGreat
open Go.RowKit Go.Sort

theorem grow_none (w : World) : grow w #[] = w := by simp [grow]

theorem reverse_own (base : Nat) (v : Value) (xs : List Int) (w : World) (h : w.ownsRow base 3 1 v xs.length (xs.map (Value.int .i64))) (hl : xs.length ≤ 1000000000) :
    Calls Tryz.prog 78 #[v] w fun e w' => e = .returned (.tuple #[]) ∧ w'.ownsRow base 3 1 v xs.length (xs.reverse.map (Value.int .i64)) ∧ w.grownBy w' v.ownBlock := by
  rcases h.2 with ⟨rfl, h0⟩ | ⟨g, cap, cur, rfl, hb, hg, hn, hm, hc, ht⟩
  · have hx : xs = [] := List.eq_nil_of_length_eq_zero h0
    subst hx
    refine (Tryz.slices_Reverse_int_empty none 0 w).mono ?_
    rintro e w' ⟨rfl, rfl⟩
    exact ⟨rfl, h, World.grownBy.refl _ _⟩
  · have hH := holds_of_blockI hg (by simpa using ht)
    refine (Tryz.slices_Reverse_int g 0 cap xs w hH (by omega)).mono ?_
    rintro e w' ⟨rfl, n, rfl⟩
    have h1 := ownsRow_sortedI (w := w) (n := n) (os := #[]) (ts := xs.reverse) (by simp) hb hg hn hm hc
    have h2 := grownBy_sortedI (w := w) (g := g) (n := n) (os := #[]) xs.reverse.toArray
    rw [grow_none] at h1 h2
    exact ⟨rfl, h1, h2⟩

theorem min_own (base : Nat) (v : Value) (xs : List Int) (w : World) (h : w.ownsRow base 3 1 v xs.length (xs.map (Value.int .i64))) (h0 : 0 < xs.length) (hl : xs.length ≤ 1000000000) :
    Calls Tryz.prog 68 #[v] w fun e w' => e = .returned (.int .i64 (Lib.minOf xs)) ∧ w = w' := by
  rcases h.2 with ⟨rfl, h1⟩ | ⟨g, cap, cur, rfl, hb, hg, hn, hm, hc, ht⟩
  · omega
  · have hH := h.cells (g := g) rfl
    refine (Tryz.slices_Min_int g 0 xs.length cap xs w h0 (Nat.le_refl _) (by omega) (fun j hj => ?_)).mono ?_
    · have := hH j (.int .i64 (xs.getD j 0)) (by simp [List.getD, List.getElem?_eq_getElem hj])
      simpa [Addr.add_lit] using this
    · rintro e w' ⟨rfl, rfl⟩
      exact ⟨by rw [List.take_length], rfl⟩
end Go.Proofs.YtpnkhgjjlionnaaGreat
namespace Go.Proofs.YtpnkhgjjlionnaaGreat
open Go.RowKit Go.Maps



/-- Block b is a map of bools: true at the keys of the list. -/
def MapB (P : Program) (k e : TypeId) (w : World) (b n : Nat) (seen : List Value) : Prop :=
  ∃ D : DataW Unit, w.ownsMap P k (plainElem P e) b n D ∧ IsMap D ∧ ∀ key kl, keyOf P k key = some kl → ∃ x, D.atKey kl (.lit (.bool false)) = .lit (.bool x) ∧ (x = true ↔ key ∈ seen)
theorem plainElem_bool_inv {P : Program} {e : TypeId} (he : P.underlying e = some .bool) {v : Value} {z : DataW Unit × List MemPlace} (h : plainElem P e v = some z) : ∃ x, v = .bool x ∧ z = (.lit (.bool x), []) := by
  unfold plainElem at h
  rw [he] at h
  cases v <;> simp at h
  exact ⟨_, rfl, h.symm⟩
section
variable {P : Program} {k e : TypeId} {w : World} {b n : Nat} {seen : List Value}
theorem MapB.made (w : World) (P : Program) (k e : TypeId) : MapB P k e (w.alloc (.map #[] 0)) w.heap.size 0 [] :=
  ⟨_, World.ownsMap_made _ _ _ _, isMap_empty, fun _ _ _ => ⟨false, rfl, by simp⟩⟩
theorem MapB.kept {w' : World} {row : Option Nat} (h : MapB P k e w b n seen) (hg : w.grownBy w' row) (hne : some b ≠ row) : MapB P k e w' b n seen := by
  obtain ⟨D, h1, h2⟩ := h
  exact ⟨D, h1.kept hg hne, h2⟩
theorem MapB.look {t : TypeId} (h : MapB P k e w b n seen) (K : Keyed P k) (ht : P.underlying t = some (.map k e)) (he : P.underlying e = some .bool) (hz : (zeroValue e).run P w = .ok (.bool false) w) {key : Value} {kl : Lit} (hkey : keyOf P k key = some kl) :
    ∃ x, (Instr.lookup t (.map (some b)) key false).run P w = .ok (.bool x) w ∧ (x = true ↔ key ∈ seen) := by
  obtain ⟨D, h1, _, h3⟩ := h
  obtain ⟨v, ps, hrun, hv⟩ := h1.lookup K ht hz (plainElem_bool he false) hkey
  obtain ⟨x, rfl, hx⟩ := plainElem_bool_inv he hv
  obtain ⟨x', hx', hi⟩ := h3 key kl hkey
  rw [hx'] at hx
  cases hx
  exact ⟨_, hrun, hi⟩
theorem MapB.store {t : TypeId} (h : MapB P k e w b n seen) (K : Keyed P k) (ht : P.underlying t = some (.map k e)) (he : P.underlying e = some .bool) (hn : n < maxLen) {key : Value} {kl : Lit} (hkey : keyOf P k key = some kl) :
    ∃ w', (Instr.mapUpdate t (.map (some b)) key (.bool true)).run P w = .ok () w' ∧ MapB P k e w' b (n + 1) (key :: seen) ∧ w.grownBy w' (some b) := by
  obtain ⟨D, h1, h2, h3⟩ := h
  obtain ⟨w', hrun, hown, hg⟩ := h1.update K ht hn hkey (plainElem_bool he true)
  refine ⟨w', hrun, ⟨_, hown, h2.put _ _, fun key' kl' hk' => ?_⟩, hg⟩
  by_cases ha : kl' = kl
  · subst ha
    obtain rfl := K.inj hk' hkey
    exact ⟨true, atKey_put_same h2 (K.key hkey) _ _, by simp⟩
  · obtain ⟨x, hx, hi⟩ := h3 key' kl' hk'
    refine ⟨x, by rw [atKey_put_other ha, hx], ?_⟩
    rw [hi, List.mem_cons]
    constructor
    · exact .inr
    · rintro (rfl | h)
      · rw [hk'] at hkey
        cases hkey
        exact absurd rfl ha
      · exact h
end

theorem keyOf_three {P : Program} {k e : TypeId} {q : IntKind} (A : WideMaps.ArrKey P k e 3) (he : P.underlying e = some (.int q)) (hsz : ∃ m, P.types.size = m + 1) {a b c : Int} (wa : (Lit.int q a).wf = true) (wb : (Lit.int q b).wf = true) (wc : (Lit.int q c).wf = true) :
    keyOf P k (.agg #[.int q a, .int q b, .int q c]) = some (.string (keyBytes [.int q a, .int q b, .int q c])) := by
  have hkt := A.keyType hsz
  obtain ⟨m, hm⟩ := hsz
  unfold keyOf
  simp only [A.hu]
  rw [if_pos (by simp [hkt, Value.formed, A.hu, A.size]), hm]
  unfold Program.keyLits
  simp only [A.hu, Value.cells]
  rw [if_pos (by rw [A.size]; rfl), show List.range 3 = [0, 1, 2] from rfl, List.mapM_cons, List.mapM_cons, List.mapM_cons, List.mapM_nil]
  simp [A.one, Program.keyLits, he, wa, wb, wc]
end Go.Proofs.YtpnkhgjjlionnaaGreat
namespace Go.Proofs.YtpnkhgjjlionnaaGreat.Zp
open Go.RowKit Go.Maps

abbrev Tr := Int × Int × Int



end Go.Proofs.YtpnkhgjjlionnaaGreat.Zp
namespace Go.Proofs.YtpnkhgjjlionnaaGreat.Zp

abbrev Span := Int × Bool
def codeV (c : Int) : Int := if c = 67 then 0 else if c = 83 then 4 else if c = 82 then 5 else if c = 76 then 6 else if c = 69 then 7 else 0
def codeN (c : Int) : Int := if c = 67 then 1 else if c = 83 then 3 else if c = 82 then 3 else if c = 76 then 3 else if c = 69 then 3 else 0
def popX (st : List Span) : Span := match st with | [] => (3, true) | x :: _ => x
def popR (st : List Span) : List Span := match st with | [] => [] | _ :: r => r
/-- The span, whether it is a letter, the stack left. -/
def wordM (st : List Span) (c : Int) : Span × Bool × List Span :=
  if codeN c = 0 then ((0, false), false, st)
  else if c = 69 then ((3, false), true, st)
  else if c = 67 then ((if (popX st).2 then max ((popX st).1 - 1) 3 else (popX st).1 - 1, (popX st).2), true, popR st)
  else if c = 83 then (((popX st).1 + (popX (popR st)).1 - 1, (popX st).2 || (popX (popR st)).2), true, popR (popR st))
  else (((popX st).1 + 1, (popX st).2), true, popR st)
def sumAbs : List Span → Int
  | [] => 0
  | x :: r => (x.1.natAbs : Int) + sumAbs r
theorem sumAbs_nonneg : ∀ st, 0 ≤ sumAbs st
  | [] => Int.le_refl _
  | x :: r => by have := sumAbs_nonneg r; simp only [sumAbs]; omega
theorem sumAbs_pop (st : List Span) : ((popX st).1.natAbs : Int) + sumAbs (popR st) ≤ sumAbs st + 3 := by
  cases st <;> simp [popX, popR, sumAbs] <;> omega
theorem sumAbs_word (st : List Span) (c : Int) : ((wordM st c).1.1.natAbs : Int) + sumAbs (wordM st c).2.2 ≤ sumAbs st + 8 := by
  have h1 := sumAbs_pop st
  have h2 := sumAbs_pop (popR st)
  unfold wordM
  split
  · simp only; omega
  · split
    · simp only; omega
    · split
      · simp only; split <;> omega
      · split
        · simp only; omega
        · simp only; omega
theorem len_popR (st : List Span) : (popR st).length ≤ st.length := by cases st <;> simp [popR]
theorem len_word (st : List Span) (c : Int) : (wordM st c).2.2.length ≤ st.length := by
  have h1 := len_popR st
  have h2 := len_popR (popR st)
  unfold wordM
  split
  · exact Nat.le_refl _
  · split
    · exact Nat.le_refl _
    · split
      · exact h1
      · split
        · exact Nat.le_trans h2 h1
        · exact h1

/-- One letter more, from behind: none where it is no letter, or a word is missing. -/
def lenStep (p : List Span × List Int) (c : Int) : Option (List Span × List Int) :=
  if (wordM p.1 c).2.1 = false ∨ (wordM p.1 c).1.2 = true then none else some ((wordM p.1 c).1 :: (wordM p.1 c).2.2, p.2 ++ [(wordM p.1 c).1.1])
def lenRun (cs : List Int) : Option (List Span × List Int) := cs.foldlM lenStep ([], [])
theorem lenRun_snoc (cs : List Int) (c : Int) : lenRun (cs ++ [c]) = (lenRun cs).bind (fun p => lenStep p c) := by
  simp [lenRun, List.foldlM_append]
theorem lenRun_some {cs : List Int} {st : List Span} {out : List Int} (h : lenRun cs = some (st, out)) : out.length = cs.length ∧ sumAbs st ≤ 8 * cs.length ∧ st.length ≤ cs.length := by
  suffices H : ∀ (cs : List Int) (p q : List Span × List Int), cs.foldlM lenStep p = some q → q.2.length = p.2.length + cs.length ∧ sumAbs q.1 ≤ sumAbs p.1 + 8 * cs.length ∧ q.1.length ≤ p.1.length + cs.length by
    have := H cs _ _ h
    simpa [sumAbs] using this
  intro cs
  induction cs with
  | nil => intro p q h; simp at h; subst h; simp
  | cons c r ih =>
    intro p q h
    rw [List.foldlM_cons] at h
    cases hs : lenStep p c with
    | none => rw [hs] at h; cases h
    | some p' =>
      rw [hs] at h
      have h' := ih p' q h
      have h1 := sumAbs_word p.1 c
      have h2 := len_word p.1 c
      unfold lenStep at hs
      split at hs
      · cases hs
      · cases hs
        simp only [sumAbs, List.length_append, List.length_cons, List.length_nil] at h' ⊢
        omega
/-- What word.Lengths answers; none: ErrForm. -/
def lengthsM (zs : List Int) : Option (List Int) :=
  match lenRun zs.reverse with
  | some (st, out) => if st.length = 1 then some out.reverse else none
  | none => none
theorem lengthsM_length {zs l : List Int} (h : lengthsM zs = some l) : l.length = zs.length := by
  unfold lengthsM at h
  cases hr : lenRun zs.reverse with
  | none => rw [hr] at h; cases h
  | some p =>
    obtain ⟨st, out⟩ := p
    rw [hr] at h
    simp only at h
    split at h
    · cases h
      simpa using (lenRun_some hr).1
    · cases h
theorem lengthsM_pos {zs l : List Int} (h : lengthsM zs = some l) : 0 < l.length := by
  have hl := lengthsM_length h
  unfold lengthsM at h
  cases zs with
  | nil => simp [lenRun] at h
  | cons z r => rw [hl]; simp
theorem lengthsM_of_run_none {zs : List Int} (h : ∃ k, lenRun (zs.reverse.take k) = none) : lengthsM zs = none := by
  obtain ⟨k, hk⟩ := h
  have : lenRun zs.reverse = none := by
    rw [← List.take_append_drop k zs.reverse]
    unfold lenRun at hk ⊢
    rw [List.foldlM_append, hk]
    rfl
  unfold lengthsM
  rw [this]
end Go.Proofs.YtpnkhgjjlionnaaGreat.Zp
namespace Go.Proofs.YtpnkhgjjlionnaaGreat.Zp
open Go.RowKit

set_option maxHeartbeats 400000 in
theorem code_any (c : Int) (w : World) :
    Calls Tryz.prog 75 #[.int .u8 c] w fun e w' => e = .returned (.tuple #[.int .u64 (codeV c), .int .i64 (codeN c)]) ∧ w = w' := by
  go_enter Tryz.func75, Tryz.ntmps75
  go_wp2
  all_goals
    go_ret2
    simp_all [codeV, codeN]

/-- The cells of spans, in the order of memory. -/
def cellsS (l : List Span) : List Value := l.flatMap fun x => [.int .i64 x.1, .bool x.2]
theorem cellsS_append (a b : List Span) : cellsS (a ++ b) = cellsS a ++ cellsS b := by simp [cellsS]
theorem cellsS_length (a : List Span) : (cellsS a).length = a.length * 2 := by
  induction a with
  | nil => rfl
  | cons x r ih => simp only [cellsS, List.flatMap_cons, List.length_append, List.length_cons, List.length_nil] at ih ⊢; omega

/-- The variable in block b holds the stack st, in a row of the call's own (from block base on, ahead of block H). -/
def StackIn (w : World) (base H b : Nat) (st : List Span) : Prop :=
  ∃ v, Blk w b 134 #[v] ∧ w.ownsRow base 139 2 v st.length (cellsS st.reverse) ∧ ∀ k, v.ownBlock = some k → k < H

theorem StackIn.lt {w : World} {base H b : Nat} {st : List Span} (h : StackIn w base H b st) : b < w.heap.size := by
  obtain ⟨v, hb, _⟩ := h
  exact hb.lt
theorem StackIn.kept {w w' : World} {base H b : Nat} {st : List Span} (h : StackIn w base H b st) (hg : w.grownBy w' none) : StackIn w' base H b st := by
  obtain ⟨v, hb, hr, hH⟩ := h
  exact ⟨v, hb.grown hg (by simp), hr.kept hg (by cases hv : v.ownBlock <;> simp), hH⟩
theorem StackIn.grown {w w' : World} {base H b g : Nat} {st : List Span} (h : StackIn w base H b st) (hg : w.grownBy w' (some g)) (hne : g ≠ b) (hbase : g < base ∨ H ≤ g) : StackIn w' base H b st := by
  obtain ⟨v, hb, hr, hH⟩ := h
  refine ⟨v, hb.grown hg (by simpa using fun e => hne e.symm), hr.kept hg ?_, hH⟩
  rcases hv : v.ownBlock with _ | k
  · exact .inl rfl
  · refine .inr (fun e => ?_)
    have h1 := hr.lt k hv
    have h2 := hH k hv
    simp at e
    omega
theorem StackIn.alloc {w : World} {base H b : Nat} {st : List Span} (h : StackIn w base H b st) (o : Obj) : StackIn (w.alloc o) base H b st := h.kept (World.grownBy_alloc _ _ _)
theorem StackIn.set_ {w : World} {base H b : Nat} {st : List Span} (h : StackIn w base H b st) (p : Addr) (u : Value) (hne : p.block ≠ b) (hH : H ≤ p.block) : StackIn (w.setCell p u) base H b st :=
  h.grown (g := p.block) (gSet (World.grownBy.refl _ _) _ _ (.inl rfl)) hne (.inr hH)
theorem StackIn.st_ {w : World} {base H b g i : Nat} {u : Value} {st : List Span} (h : StackIn w base H b st) (hne : g ≠ b) (hH : H ≤ g) : StackIn (w.setCell ⟨g, i, none⟩ u) base H b st := h.set_ _ _ hne hH
theorem StackIn.calm {w w' : World} {base H b : Nat} {st : List Span} {row : Option Nat} (h : StackIn w base H b st) (hg : w.grownBy w' row) (hr : ∀ r, row = some r → ∃ o : Obj, w.heap[r]? = some o ∧ o.isCells = false) : StackIn w' base H b st := by
  obtain ⟨v, hb, ho, hH⟩ := h
  exact ⟨v, hb.calm hg hr, own_calm ho hg hr, hH⟩
theorem StackIn.new {w : World} {base b : Nat} (H : Nat) (h : Blk w b 134 #[.slice none 0 0]) : StackIn w base H b [] :=
  ⟨_, h, World.ownsRow_nil _ _ _ _, by simp [Value.ownBlock]⟩
theorem StackIn.top {w : World} {base H H' b : Nat} {st : List Span} (h : StackIn w base H b st) (hH : H ≤ H') : StackIn w base H' b st := by
  obtain ⟨v, hb, hr, h2⟩ := h
  exact ⟨v, hb, hr, fun k hk => by have := h2 k hk; omega⟩
theorem cut_own {w : World} {base : Nat} {e : TypeId} {size g k n cap : Nat} {xs ys : List Value} (h : w.ownsRow base e size (.slice (some ⟨g, 0, none⟩) n cap) n (xs ++ ys)) (hx : xs.length = k * size) (hk : k ≤ n) :
    w.ownsRow base e size (.slice (some ⟨g, 0, none⟩) k cap) k xs := by
  obtain ⟨h1, h2⟩ := h
  rcases h2 with ⟨h2, _⟩ | ⟨g', cap', cur, hv, hg, hh, hn, hm, hc, ht⟩
  · cases h2
  · simp only [Value.slice.injEq, Option.some.injEq, Addr.mk.injEq] at hv
    obtain ⟨⟨rfl, _⟩, _, rfl⟩ := hv
    refine ⟨hx, .inr ⟨g, cap, cur, rfl, hg, hh, by omega, hm, hc, ?_⟩⟩
    have hle : k * size ≤ n * size := Nat.mul_le_mul_right _ hk
    rw [← List.take_take_of_le_left ht hle hx]
where
  List.take_take_of_le_left {l xs ys : List Value} {a b : Nat} (ht : l.take b = xs ++ ys) (hab : a ≤ b) (hx : xs.length = a) : xs = l.take a := by
    have : (l.take b).take a = xs := by rw [ht, ← hx]; exact List.take_left
    rw [← this, List.take_take, Nat.min_eq_left hab]

set_option maxHeartbeats 400000 in
theorem pop_empty (b cap : Nat) (ao : Option Addr) (w : World) (hb : b < w.heap.size) (hc : w.cell? ⟨b, 0, none⟩ = some (.slice ao 0 cap)) :
    Calls Tryz.prog 101 #[.pointer (some ⟨b, 0, none⟩)] w fun e w' => e = .returned (.agg #[.int .i64 3, .bool true]) ∧ w.grownBy w' none := by
  go_enter Tryz.func101, Tryz.ntmps101
  go_wp2
  refine bodyPost_ret (v := .agg #[.int .i64 3, .bool true]) (by simp [results, Tryz.results101, go_sem]) rfl ⟨rfl, ?_⟩
  exact gAlloc (World.grownBy.refl _ _) _

set_option maxHeartbeats 400000 in
theorem pop_some (b g k cap : Nat) (n : Int) (m : Bool) (w : World) (hb : b < w.heap.size) (hg : g < w.heap.size) (hc : w.cell? ⟨b, 0, none⟩ = some (.slice (some ⟨g, 0, none⟩) (k + 1) cap)) (hcap : k + 1 ≤ cap) (hcm : cap ≤ maxLen)
    (hn : w.cell? ⟨g, k * 2, none⟩ = some (.int .i64 n)) (hm : w.cell? ⟨g, k * 2 + 1, none⟩ = some (.bool m)) (hf : w.frozen? ⟨b, 0, none⟩ = false) :
    Calls Tryz.prog 101 #[.pointer (some ⟨b, 0, none⟩)] w fun e w' => e = .returned (.agg #[.int .i64 n, .bool m]) ∧ ∃ o o',
      w' = (((w.setCell ⟨b, 0, none⟩ (.slice (some ⟨g, 0, none⟩) k cap)).alloc o).alloc o').drew.drew := by
  unfold maxLen at hcm
  go_enter Tryz.func101, Tryz.ntmps101
  go_wp2
  go_region
  go_wp2
  go_region
  go_wp2
  refine bodyPost_ret (v := .agg #[.int .i64 n, .bool m]) (by simp [results, Tryz.results101, go_sem]) rfl ⟨rfl, _, _, rfl⟩

/-- pop, whatever the stack. -/
theorem pop_any (base H b : Nat) (st : List Span) (w : World) (h : StackIn w base H b st) :
    Calls Tryz.prog 101 #[.pointer (some ⟨b, 0, none⟩)] w fun e w' => e = .returned (.agg #[.int .i64 (popX st).1, .bool (popX st).2]) ∧ StackIn w' base H b (popR st) ∧ w.grownBy w' (some b) := by
  obtain ⟨v, hb, hr, hH⟩ := h
  cases st with
  | nil =>
    obtain ⟨ao, cap, rfl⟩ : ∃ ao cap, v = .slice ao 0 cap := by
      rcases hr.2 with ⟨rfl, _⟩ | ⟨g, cap, cur, rfl, _⟩
      · exact ⟨_, _, rfl⟩
      · exact ⟨_, _, rfl⟩
    refine (pop_empty b cap ao w hb.lt (by rw [hb.cell]; rfl)).mono ?_
    rintro e w' ⟨rfl, hg⟩
    exact ⟨rfl, StackIn.kept ⟨_, hb, hr, hH⟩ hg, ⟨hg.os, hg.tape, hg.output, hg.size, fun k hk _ => hg.block k hk (by simp)⟩⟩
  | cons x r =>
    obtain ⟨g, cap, cur, rfl, hbase, hg, hn, hm, hc, ht⟩ : ∃ g cap cur, v = .slice (some ⟨g, 0, none⟩) (r.length + 1) cap ∧ base ≤ g ∧ w.heap[g]? = some (.cells cur 139 (0, 0)) ∧ r.length + 1 ≤ cap ∧ cap ≤ maxLen ∧ cur.size = cap * 2 ∧
        cur.toList.take ((r.length + 1) * 2) = cellsS (x :: r).reverse := by
      rcases hr.2 with ⟨_, h0⟩ | h
      · simp at h0
      · exact h
    have hcells := hr.cells (g := g) rfl
    have e1 : cellsS (x :: r).reverse = cellsS r.reverse ++ [.int .i64 x.1, .bool x.2] := by rw [List.reverse_cons, cellsS_append]; rfl
    have hl : (cellsS r.reverse).length = r.length * 2 := by rw [cellsS_length, List.length_reverse]
    have c0 : w.cell? ⟨g, r.length * 2, none⟩ = some (.int .i64 x.1) := by
      have := hcells (r.length * 2) (.int .i64 x.1) (by rw [e1, List.getElem?_append_right (by omega), hl]; simp)
      simpa [Addr.add_lit] using this
    have c1 : w.cell? ⟨g, r.length * 2 + 1, none⟩ = some (.bool x.2) := by
      have := hcells (r.length * 2 + 1) (.bool x.2) (by rw [e1, List.getElem?_append_right (by omega), hl]; simp)
      simpa [Addr.add_lit] using this
    have hgl : g < w.heap.size := (Array.getElem?_eq_some_iff.1 hg).1
    have hgb : g ≠ b := Blk.ne_ (t := 139) (t' := 134) hg hb (by decide)
    refine (pop_some b g r.length cap x.1 x.2 w hb.lt hgl (by rw [hb.cell]; rfl) hn hm c0 c1 (hb.frozen 0)).mono ?_
    rintro e w' ⟨rfl, o, o', rfl⟩
    refine ⟨rfl, ⟨_, (((hb.set1 _).alloc _).alloc _).drew, ?_, by simpa [Value.ownBlock] using hH⟩, gDrew (gDrew (gAlloc (gAlloc (gSet (World.grownBy.refl _ _) _ _ (.inl rfl)) _) _))⟩
    have h2 : w.ownsRow base 139 2 (.slice (some ⟨g, 0, none⟩) r.length cap) r.length (cellsS r.reverse) := by
      rw [e1] at hr
      exact cut_own hr hl (by simp)
    refine World.ownsRow.drew (World.ownsRow.drew (World.ownsRow.alloc (World.ownsRow.alloc (h2.kept (row := some b) (gSet (World.grownBy.refl _ _) _ _ (.inl rfl)) (.inr ?_)) _) _))
    simp [Value.ownBlock, hgb]
end Go.Proofs.YtpnkhgjjlionnaaGreat.Zp
namespace Go.Proofs.YtpnkhgjjlionnaaGreat.Zp
open Go.RowKit

theorem word_no (base H b : Nat) (st : List Span) (c : Int) (w : World) (h : StackIn w base H b st) (hc : codeN c = 0) :
    Calls Tryz.prog 77 #[.pointer (some ⟨b, 0, none⟩), .int .u8 c] w fun e w' => e = .returned (.tuple #[.agg #[.int .i64 0, .bool false], .bool false]) ∧ StackIn w' base H b st ∧ w.grownBy w' (some b) := by
  have hc' : codeN c = 0 := hc
  go_enter Tryz.func77, Tryz.ntmps77
  go_wp2_with (go_at_call 75; refine (code_any _ _).mono ?_; rintro e w' ⟨rfl, rfl⟩)
  refine bodyPost_ret (v := .tuple #[.agg #[.int .i64 0, .bool false], .bool false]) (by simp [results, Tryz.results77, go_sem]) rfl ⟨rfl, ?_, ?_⟩
  · exact h.kept (gAlloc (World.grownBy.refl _ _) _)
  · exact gAlloc (World.grownBy.refl _ _) _

theorem word_E (base H b : Nat) (st : List Span) (w : World) (h : StackIn w base H b st) :
    Calls Tryz.prog 77 #[.pointer (some ⟨b, 0, none⟩), .int .u8 69] w fun e w' => e = .returned (.tuple #[.agg #[.int .i64 3, .bool false], .bool true]) ∧ StackIn w' base H b st ∧ w.grownBy w' (some b) := by
  have hc' : codeN 69 = 3 := rfl
  go_enter Tryz.func77, Tryz.ntmps77
  go_wp2_with (go_at_call 75; refine (code_any _ _).mono ?_; rintro e w' ⟨rfl, rfl⟩)
  refine bodyPost_ret (v := .tuple #[.agg #[.int .i64 3, .bool false], .bool true]) (by simp [results, Tryz.results77, go_sem]) rfl ⟨rfl, ?_, ?_⟩
  · exact h.kept (gAlloc (World.grownBy.refl _ _) _)
  · exact gAlloc (World.grownBy.refl _ _) _

set_option maxHeartbeats 400000 in
theorem word_C (base H b : Nat) (st : List Span) (w : World) (h : StackIn w base H b st) (hH : H ≤ w.heap.size) (hs : sumAbs st ≤ 1000000000000) :
    Calls Tryz.prog 77 #[.pointer (some ⟨b, 0, none⟩), .int .u8 67] w fun e w' => e = .returned (.tuple #[.agg #[.int .i64 (wordM st 67).1.1, .bool (wordM st 67).1.2], .bool true]) ∧ StackIn w' base H b (popR st) ∧ w.grownBy w' (some b) := by
  have hc' : codeN 67 = 1 := rfl
  have hp := sumAbs_pop st
  have hn := sumAbs_nonneg (popR st)
  have h1 : (popX st).1 ≤ 1000000000003 := by omega
  have h2 : -1000000000003 ≤ (popX st).1 := by omega
  have hbl := h.lt
  go_enter Tryz.func77, Tryz.ntmps77
  go_wp2_with (first | (go_at_call 75; refine (code_any _ _).mono ?_; rintro e w' ⟨rfl, rfl⟩) | (go_at_call 101; refine (pop_any base H b st _ (h.kept (gAlloc (World.grownBy.refl _ _) _))).mono ?_; rintro e w1 ⟨rfl, hst, hg⟩; obtain ⟨hlt, k0, f0, k1, f1⟩ := ((Blk.new w 139 #[.int .i64 0, .bool false]).grown hg (by simpa using fun e => Nat.ne_of_lt h.lt e.symm)).two; have hg2 : w.grownBy w1 (some b) := gGrown (gAlloc (World.grownBy.refl _ _) _) hg (fun j e => .inl e)))
  all_goals
    refine bodyPost_ret (v := .tuple #[.agg #[.int .i64 (wordM st 67).1.1, .bool (wordM st 67).1.2], .bool true]) (by simp [results, Tryz.results77, go_sem, wordM, codeN, *]; try omega) rfl ⟨rfl, ?_, ?_⟩
    · repeat (first | with_reducible exact hst | with_reducible refine StackIn.alloc ?_ _ | ((with_reducible refine StackIn.st_ ?_ ?_ ?_); rotate_left; omega; omega))
    · repeat (first | with_reducible exact hg2 | with_reducible refine gAlloc ?_ _ | ((with_reducible refine gStN ?_ ?_); rotate_left; omega))

set_option maxHeartbeats 400000 in
theorem word_LR (base H b : Nat) (st : List Span) (c : Int) (w : World) (h : StackIn w base H b st) (hH : H ≤ w.heap.size) (hs : sumAbs st ≤ 1000000000000) (hc : c = 76 ∨ c = 82) :
    Calls Tryz.prog 77 #[.pointer (some ⟨b, 0, none⟩), .int .u8 c] w fun e w' => e = .returned (.tuple #[.agg #[.int .i64 (wordM st c).1.1, .bool (wordM st c).1.2], .bool true]) ∧ StackIn w' base H b (popR st) ∧ w.grownBy w' (some b) := by
  have hc' : codeN c = 3 := by rcases hc with rfl | rfl <;> rfl
  have hc1 : (c == 67) = false := by rcases hc with rfl | rfl <;> rfl
  have hc2 : (c == 69) = false := by rcases hc with rfl | rfl <;> rfl
  have hc3 : (c == 83) = false := by rcases hc with rfl | rfl <;> rfl
  have hm : wordM st c = (((popX st).1 + 1, (popX st).2), true, popR st) := by rcases hc with rfl | rfl <;> simp [wordM, codeN]
  have Hm := Lib.hid hm
  clear hm hc
  have hp := sumAbs_pop st
  have hn := sumAbs_nonneg (popR st)
  have h1 : (popX st).1 ≤ 1000000000003 := by omega
  have h2 : -1000000000003 ≤ (popX st).1 := by omega
  have hbl := h.lt
  go_enter Tryz.func77, Tryz.ntmps77
  go_wp2_with (first | (go_at_call 75; refine (code_any _ _).mono ?_; rintro e w' ⟨rfl, rfl⟩) | (go_at_call 101; refine (pop_any base H b st _ (h.kept (gAlloc (World.grownBy.refl _ _) _))).mono ?_; rintro e w1 ⟨rfl, hst, hg⟩; obtain ⟨hlt, k0, f0, k1, f1⟩ := ((Blk.new w 139 #[.int .i64 0, .bool false]).grown hg (by simpa using fun e => Nat.ne_of_lt h.lt e.symm)).two; have hg2 : w.grownBy w1 (some b) := gGrown (gAlloc (World.grownBy.refl _ _) _) hg (fun j e => .inl e)))
  rw [Hm.out]
  refine bodyPost_ret (v := .tuple #[.agg #[.int .i64 ((popX st).1 + 1), .bool (popX st).2], .bool true]) (by simp [results, Tryz.results77, go_sem, k0, k1, hlt]) rfl ⟨rfl, ?_, ?_⟩
  · repeat (first | with_reducible exact hst | with_reducible refine StackIn.alloc ?_ _ | ((with_reducible refine StackIn.st_ ?_ ?_ ?_); rotate_left; omega; omega))
  · repeat (first | with_reducible exact hg2 | with_reducible refine gAlloc ?_ _ | ((with_reducible refine gStN ?_ ?_); rotate_left; omega))

set_option maxHeartbeats 400000 in
theorem word_S (base H b : Nat) (st : List Span) (w : World) (h : StackIn w base H b st) (hH : H ≤ w.heap.size) (hs : sumAbs st ≤ 1000000000000) :
    Calls Tryz.prog 77 #[.pointer (some ⟨b, 0, none⟩), .int .u8 83] w fun e w' => e = .returned (.tuple #[.agg #[.int .i64 (wordM st 83).1.1, .bool (wordM st 83).1.2], .bool true]) ∧ StackIn w' base H b (popR (popR st)) ∧ w.grownBy w' (some b) := by
  have hc' : codeN 83 = 3 := rfl
  have hp := sumAbs_pop st
  have hp2 := sumAbs_pop (popR st)
  have hn := sumAbs_nonneg (popR st)
  have hn2 := sumAbs_nonneg (popR (popR st))
  have h1 : (popX st).1 ≤ 1000000000003 := by omega
  have h2 : -1000000000003 ≤ (popX st).1 := by omega
  have h3 : (popX (popR st)).1 ≤ 1000000000006 := by omega
  have h4 : -1000000000006 ≤ (popX (popR st)).1 := by omega
  have hbl := h.lt
  go_enter Tryz.func77, Tryz.ntmps77
  go_wp2_with (first | (go_at_call 75; refine (code_any _ _).mono ?_; rintro e w' ⟨rfl, rfl⟩) | fail)
  refine (pop_any base H b st _ (h.kept (gAlloc (World.grownBy.refl _ _) _))).mono ?_
  rintro e w1 ⟨rfl, hst, hg⟩
  have hB := ((Blk.new w 139 #[.int .i64 0, .bool false]).grown hg (by simpa using fun e => Nat.ne_of_lt hbl e.symm))
  obtain ⟨hlt, k0, f0, k1, f1⟩ := hB.two
  go_wp2_with fail
  refine (pop_any base H b (popR st) _ (hst.alloc _)).mono ?_
  rintro e w2 ⟨rfl, hst2, hg2⟩
  clear k0 k1 f0 f1
  obtain ⟨hlt, k0, f0, k1, f1⟩ := ((hB.alloc _).grown hg2 (by simpa using fun e => Nat.ne_of_lt hbl e.symm)).two
  obtain ⟨hlt', m0, g0, m1, g1⟩ := ((Blk.new w1 139 #[.int .i64 (popX st).1, .bool (popX st).2]).grown hg2 (by have := hst.lt; simp; omega)).two
  have hg3 : w.grownBy w2 (some b) := gGrown (gAlloc (gGrown (gAlloc (World.grownBy.refl _ _) _) hg (fun j e => .inl e)) _) hg2 (fun j e => .inl e)
  have hw1 : w.heap.size < w1.heap.size := hB.lt
  have hm : wordM st 83 = (((popX st).1 + (popX (popR st)).1 - 1, (popX st).2 || (popX (popR st)).2), true, popR (popR st)) := by simp [wordM, codeN]
  have Hm := Lib.hid hm
  clear hm hp hp2 hn hn2 hs
  cases hx : (popX st).2 <;> rw [hx] at m1
  all_goals go_wp2
  all_goals
    rw [Hm.out, hx]
    refine bodyPost_ret (v := .tuple #[.agg #[.int .i64 ((popX st).1 + (popX (popR st)).1 - 1), .bool _], .bool true]) (by simp [results, Tryz.results77, go_sem, k0, k1, hlt]) rfl ⟨rfl, ?_, ?_⟩
    · repeat (first | with_reducible exact hst2 | with_reducible refine StackIn.alloc ?_ _ | ((with_reducible refine StackIn.st_ ?_ ?_ ?_); rotate_left; omega; omega))
    · repeat (first | with_reducible exact hg3 | with_reducible refine gAlloc ?_ _ | ((with_reducible refine gStN ?_ ?_); rotate_left; omega))

/-- word, whatever the letter and the stack. -/
theorem word_any (base H b : Nat) (st : List Span) (c : Int) (w : World) (h : StackIn w base H b st) (hH : H ≤ w.heap.size) (hs : sumAbs st ≤ 1000000000000) :
    Calls Tryz.prog 77 #[.pointer (some ⟨b, 0, none⟩), .int .u8 c] w fun e w' =>
      e = .returned (.tuple #[.agg #[.int .i64 (wordM st c).1.1, .bool (wordM st c).1.2], .bool (wordM st c).2.1]) ∧ StackIn w' base H b (wordM st c).2.2 ∧ w.grownBy w' (some b) := by
  by_cases h0 : codeN c = 0
  · have e : wordM st c = ((0, false), false, st) := by simp [wordM, h0]
    rw [e]
    exact word_no base H b st c w h h0
  by_cases h1 : c = 69
  · subst h1
    have e : wordM st 69 = ((3, false), true, st) := by simp [wordM, codeN]
    rw [e]
    exact word_E base H b st w h
  by_cases h2 : c = 67
  · subst h2
    have e1 : (wordM st 67).2 = (true, popR st) := by simp [wordM, codeN]
    rw [e1]
    exact word_C base H b st w h hH hs
  by_cases h3 : c = 83
  · subst h3
    have e1 : (wordM st 83).2 = (true, popR (popR st)) := by simp [wordM, codeN]
    rw [e1]
    exact word_S base H b st w h hH hs
  have h4 : c = 76 ∨ c = 82 := by
    unfold codeN at h0
    simp [h1, h2, h3] at h0
    omega
  have e1 : (wordM st c).2 = (true, popR st) := by rcases h4 with rfl | rfl <;> simp [wordM, codeN]
  rw [e1]
  exact word_LR base H b st c w h hH hs h4
end Go.Proofs.YtpnkhgjjlionnaaGreat.Zp
namespace Go.Proofs.YtpnkhgjjlionnaaGreat.Zp
open Go.RowKit Go.Shelf
attribute [local go_sem] Oper.semAt_some

/-- What has come when k rounds are over. -/
def backs (zs : List Int) (k : Nat) : List (Nat × Int) := (List.range k).map fun j => (zs.length - 1 - j, zs[zs.length - 1 - j]?.getD 0)
theorem backs_succ (zs : List Int) (k : Nat) : backs zs (k + 1) = backs zs k ++ [(zs.length - 1 - k, zs[zs.length - 1 - k]?.getD 0)] := by simp [backs, List.range_succ]
theorem backs_length (zs : List Int) (k : Nat) : (backs zs k).length = k := by simp [backs]

theorem backs_snd (zs : List Int) (k : Nat) (hk : k ≤ zs.length) : (backs zs k).map (·.2) = zs.reverse.take k := by
  apply List.ext_getElem
  · simp [backs]; omega
  · intro i h1 h2
    have hi : i < k := by simpa [backs] using h1
    simp [backs]
    rw [List.getElem?_eq_getElem (by omega)]
    rfl

/-- What a round must keep: the row that is gone over, and the iterator's own box. -/
def KeepTwo (b c : Nat) (W W' : World) : Prop := W'.heap[b]? = W.heap[b]? ∧ W'.heap[c]? = W.heap[c]?
theorem KeepTwo.refl (b c : Nat) (W : World) : KeepTwo b c W W := ⟨rfl, rfl⟩
theorem KeepTwo.trans {b c : Nat} {A B C : World} (h : KeepTwo b c A B) (k : KeepTwo b c B C) : KeepTwo b c A C := ⟨k.1.trans h.1, k.2.trans h.2⟩
theorem KeepTwo.put {b c n : Nat} (hb : b < n) (hc : c < n) (W : World) (l : Nat) (o o' : Obj) (hl : n ≤ l) (_ : W.heap[l]? = some o) (_ : o.isCells = false) (_ : o.isWalk = false) : KeepTwo b c W (W.putObj l o') :=
  ⟨World.putObj_heap_other (by omega), World.putObj_heap_other (by omega)⟩

set_option maxRecDepth 100000 in
set_option maxHeartbeats 2000000 in
theorem back1_in (F : Fence) (n : Nat) (h7 : F.fn 100) (hro : F.round = none) (hn : 1 ≤ n) (l Bs b cap : Nat) (zs : List Int) (hreach : zs.length ≤ 1000000000) (J Jx : List (Nat × Int) → World → Prop)
    (hY : ∀ pre x W, J pre W → pre.length < zs.length → YieldAt F (n - 1) Tryz.prog l #[.int .i64 (x.1 : Nat), .int .u8 x.2] W fun e W' =>
      (e = .returned (.bool true) ∧ J (pre ++ [x]) W' ∧ KeepTwo b Bs W W') ∨ (e = .returned (.bool false) ∧ Jx (pre ++ [x]) W'))
    (W : World) (hBs : W.cell? ⟨Bs, 0, none⟩ = some (.slice (some ⟨b, 0, none⟩) zs.length cap)) (hc : ∀ j, j < zs.length → W.cell? ⟨b, j, none⟩ = some (.int .u8 (zs[j]?.getD 0))) (h0 : J [] W) :
    CallsIn F n Tryz.prog 100 #[.func (.yield l) #[] #[], .pointer (some ⟨Bs, 0, none⟩)] W fun e W' => (∃ v, e = .returned v) ∧
      ((∃ ys, ys = backs zs zs.length ∧ J ys W') ∨ (∃ pre, (∃ k, k ≤ zs.length ∧ pre = backs zs k) ∧ Jx pre W')) := by
  refine callsIn_of_wp Tryz.func100 rfl h7 ?_ hro
  simp only [Tryz.ntmps100, List.size_toArray, List.length_cons, List.length_nil, Nat.reduceAdd, Nat.reduceSub, Array.replicate_succ, Array.replicate_zero, List.push_toArray, List.append_toArray, List.nil_append, List.cons_append]
  have hl0 : (-1 : Int) ≤ (zs.length : Int) - 1 := by omega
  gi_wp2
  gi_loopw [3] (fun i wr => ∃ k : Nat, k ≤ zs.length ∧ i = .int .i64 ((zs.length : Int) - 1 - k) ∧ J (backs zs k) wr ∧ KeepTwo b Bs W wr)
    (fun i _ => (intOf i + 1).toNat)
  case atStart => exact ⟨0, Nat.zero_le _, by simp, h0, KeepTwo.refl _ _ _⟩
  case round =>
    obtain ⟨k, hk, rfl, hJs, hnx⟩ := hrel
    by_cases hlt : k < zs.length
    · have hcx : wr.cell? ⟨b, zs.length - 1 - k, none⟩ = some (.int .u8 (zs[zs.length - 1 - k]?.getD 0)) := (World.cell?_of_block (a := ⟨b, zs.length - 1 - k, none⟩) hnx.1).trans (hc _ (by omega))
      have hbs : wr.cell? ⟨Bs, 0, none⟩ = some (.slice (some ⟨b, 0, none⟩) zs.length cap) := (World.cell?_of_block (a := ⟨Bs, 0, none⟩) hnx.2).trans hBs
      obtain ⟨fn, tmps, assign, body, hy, hR⟩ := hY _ (zs.length - 1 - k, zs[zs.length - 1 - k]?.getD 0) wr hJs (by rw [backs_length]; exact hlt)
      dsimp only at hy
      have e1 : ((zs.length - 1 - k : Nat) : Int) = (zs.length : Int) - 1 - k := by omega
      rw [e1] at hy
      have HE := Lib.hid e1
      clear e1
      have hnn : (0 : Int) ≤ (zs.length : Int) - 1 - k := by omega
      gi_wp2
      refine hR.mono ?_
      rintro e W3 (⟨rfl, hJ3, hk3⟩ | ⟨rfl, hJx3⟩)
      · -- the round goes on
        gi_wp2
        go_roundw
        case rel => exact ⟨k + 1, by omega, by congr 1; omega, by rw [backs_succ]; exact hJ3, hnx.trans hk3⟩
        case measure => simp [intOf]; omega
      · gi_wp2
        refine bodyPost_ret (results_none rfl _ _ _) rfl ?_
        exact ⟨⟨_, rfl⟩, .inr ⟨_, ⟨k + 1, by omega, (backs_succ _ _).symm⟩, hJx3⟩⟩
    · obtain rfl : k = zs.length := by omega
      gi_wp2
      go_end0
      exact ⟨⟨_, rfl⟩, .inl ⟨_, rfl, hJs⟩⟩

set_option maxHeartbeats 1000000 in
/-- slices.Backward(s): the slice value is boxed; the function value captures the box. -/
theorem back_in (F : Fence) (n : Nat) (h6 : F.fn 76) (hro : F.round = none) (a : Option Addr) (len cap : Nat) (w : World) :
    CallsIn F n Tryz.prog 76 #[.slice a len cap] w fun e w' => e = .returned (.func (.func 100) #[] #[.pointer (some ⟨w.heap.size, 0, none⟩)]) ∧ w' = w.alloc (.cells #[.slice a len cap] 25) := by
  refine callsIn_of_wp Tryz.func76 rfl h6 ?_ hro
  simp only [Tryz.ntmps76, List.size_toArray, List.length_cons, List.length_nil, Nat.reduceAdd, Nat.reduceSub, Array.replicate_succ, Array.replicate_zero, List.push_toArray, List.append_toArray, List.nil_append, List.cons_append]
  gi_wp2
  go_ret
  exact ⟨rfl, rfl⟩

/-- The function value stops as it says, over a row b that holds zs. -/
theorem back_stops (F : Fence) (n : Nat) (h8 : F.fn 100) (hro : F.round = none) (hn : 1 ≤ n) (Bs b cap : Nat) (zs : List Int) (hreach : zs.length ≤ 1000000000) (w : World) (hBs : Bs < w.heap.size) (hb : b < w.heap.size)
    (hc : w.cell? ⟨Bs, 0, none⟩ = some (.slice (some ⟨b, 0, none⟩) zs.length cap)) (hI : ∀ j, j < zs.length → w.cell? ⟨b, j, none⟩ = some (.int .u8 (zs[j]?.getD 0))) :
    SeqStopsK F n Tryz.prog 100 #[.pointer (some ⟨Bs, 0, none⟩)] (fun x : Nat × Int => #[Value.int .i64 (x.1 : Nat), Value.int .u8 x.2]) (KeepTwo b Bs) (fun ys => ys = backs zs zs.length)
      (fun pre => ∃ k, k ≤ zs.length ∧ pre = backs zs k) zs.length w := fun l J Jx W hW _ _ hY h0 =>
  back1_in F n h8 hro hn l Bs b cap zs hreach J Jx hY W ((hW.cell (p := ⟨Bs, 0, none⟩) hBs).trans hc) (fun j hj => (hW.cell (p := ⟨b, j, none⟩) hb).trans (hI j hj)) h0
end Go.Proofs.YtpnkhgjjlionnaaGreat.Zp
namespace Go.Proofs.YtpnkhgjjlionnaaGreat.Zp
open Go.RowKit Go.Shelf
attribute [local go_sem] Oper.semAt_some

/-- A text's letters, as numbers. -/
def lettersOf (s : ByteArray) : List Int := s.data.toList.map fun b => (b.toNat : Int)
theorem lettersOf_length (s : ByteArray) : (lettersOf s).length = s.size := by simp [lettersOf]

theorem bytes_facts (w : World) (e : TypeId) (s : ByteArray) : (Lib.bytesWorld w e s).heap.size = w.heap.size + 1 ∧ w.grownBy (Lib.bytesWorld w e s) none ∧
    (∀ j, j < (lettersOf s).length → (Lib.bytesWorld w e s).cell? ⟨w.heap.size, j, none⟩ = some (.int .u8 ((lettersOf s)[j]?.getD 0))) ∧ ∃ C fr, (Lib.bytesWorld w e s).heap[w.heap.size]? = some (.cells C e fr) := by
  refine ⟨Lib.bytesWorld_size w e s, ⟨rfl, rfl, rfl, by rw [Lib.bytesWorld_size]; omega, fun k hk _ => Lib.bytesWorld_at_old w e s k hk⟩, fun j hj => ?_, _, _, Lib.bytesWorld_at_new w e s⟩
  have hj' : j < s.size := by rwa [lettersOf_length] at hj
  have hj2 : j < s.data.toList.length := by simpa using hj'
  rw [Lib.bytesWorld_cell w e s j hj']
  simp [lettersOf, List.getD, List.getElem?_eq_getElem hj2]

theorem info_span : (Tryz.prog.info? 139).map (fun i => (i.zero, i.size, i.bytes)) = some (some (.agg #[.int .i64 0, .bool false]), 2, 16) := by kernel_rfl
theorem info_int : (Tryz.prog.info? 3).map (fun i => (i.zero, i.size, i.bytes)) = some (some (.int .i64 0), 1, 8) := by kernel_rfl

/-- What the loop's rounds keep. -/
structure LenInv (w : World) (pre : List (Nat × Int)) (W : World) : Prop where
  run : ∃ st out vo, lenRun (pre.map (·.2)) = some (st, out) ∧ StackIn W w.heap.size W.heap.size (w.heap.size + 1 + 1) st ∧ Blk W (w.heap.size + 1 + 1 + 1) 30 #[vo] ∧ W.ownsRow w.heap.size 3 1 vo out.length (out.map (Value.int .i64))
  res : Blk W w.heap.size 30 #[.slice none 0 0]
  err : Blk W (w.heap.size + 1) 31 #[.int .i64 0]
  byt : ∃ o, CellsT W (w.heap.size + 1 + 1 + 1 + 1) 5 o
  box : ∃ o, CellsT W (w.heap.size + 1 + 1 + 1 + 1 + 1) 25 o
  below : Below w.heap.size w W
theorem LenInv.calm {w W W' : World} {pre : List (Nat × Int)} {row : Option Nat} (h : LenInv w pre W) (hg : W.grownBy W' row) (hr : ∀ r, row = some r → w.heap.size ≤ r ∧ ∃ o : Obj, W.heap[r]? = some o ∧ o.isCells = false) : LenInv w pre W' := by
  obtain ⟨⟨st, out, vo, h1, h2, h3, h4⟩, h5, h6, ⟨o8, h8⟩, ⟨o9, h9⟩, h7⟩ := h
  have hr' := fun r e => (hr r e).2
  exact ⟨⟨st, out, vo, h1, (h2.calm hg hr').top hg.size, h3.calm hg hr', own_calm h4 hg hr'⟩, h5.calm hg hr', h6.calm hg hr', ⟨_, h8.calm hg hr'⟩, ⟨_, h9.calm hg hr'⟩, h7.grown hg h7.size (fun k e => (hr k e).1)⟩
/-- How a round leaves. -/
structure LenOut (w : World) (c : Code) (pre : List (Nat × Int)) (W : World) : Prop where
  ret : c = .ret
  run : lenRun (pre.map (·.2)) = none
  res : Blk W w.heap.size 30 #[.slice none 0 0]
  err : Blk W (w.heap.size + 1) 31 #[.int .i64 3]
  below : Below w.heap.size w W
theorem LenOut.calm {w W W' : World} {c : Code} {pre : List (Nat × Int)} {row : Option Nat} (h : LenOut w c pre W) (hg : W.grownBy W' row) (hr : ∀ r, row = some r → w.heap.size ≤ r ∧ ∃ o : Obj, W.heap[r]? = some o ∧ o.isCells = false) : LenOut w c pre W' := by
  obtain ⟨h1, h2, h5, h6, h7⟩ := h
  have hr' := fun r e => (hr r e).2
  exact ⟨h1, h2, h5.calm hg hr', h6.calm hg hr', h7.grown hg h7.size (fun k e => (hr k e).1)⟩

/-- What Lengths answers. -/
def LenPost (w : World) (zs : List Int) (e : Ending) (w' : World) : Prop :=
  (match lengthsM zs with
    | none => e = .returned (.tuple #[.slice none 0 0, .int .i64 3])
    | some l => ∃ v, e = .returned (.tuple #[v, .int .i64 0]) ∧ w'.ownsRow w.heap.size 3 1 v l.length (l.map (Value.int .i64))) ∧ Below w.heap.size w w'
theorem LenPost.none_ {w w' : World} {zs : List Int} {e : Ending} (h : lengthsM zs = none) (he : e = .returned (.tuple #[.slice none 0 0, .int .i64 3])) (hb : Below w.heap.size w w') : LenPost w zs e w' := by
  unfold LenPost; rw [h]; exact ⟨he, hb⟩
theorem LenPost.some_ {w w' : World} {zs l : List Int} {e : Ending} {v : Value} (h : lengthsM zs = some l) (he : e = .returned (.tuple #[v, .int .i64 0])) (ho : w'.ownsRow w.heap.size 3 1 v l.length (l.map (Value.int .i64))) (hb : Below w.heap.size w w') : LenPost w zs e w' := by
  unfold LenPost; rw [h]; exact ⟨⟨v, he, ho⟩, hb⟩

theorem put_calm {W : World} {D : Nat} (hK : W.heap[D]? = some (.deferred (some []))) (o : Obj) : W.grownBy (W.putObj D o) (some D) ∧ ∀ r, some D = some r → ∃ o : Obj, W.heap[r]? = some o ∧ o.isCells = false :=
  ⟨grownBy_putObj' W D o, fun r e => by cases e; exact ⟨_, hK, rfl⟩⟩

set_option maxRecDepth 100000 in
set_option maxHeartbeats 1000000 in
theorem lengths_any (s : ByteArray) (hs : s.size ≤ 1000000) (w : World) :
    Calls Tryz.prog 50 #[.string s] w (LenPost w (lettersOf s)) := by
  have hcv : ∀ W, (convert 9 25 (.string s)).run Tryz.prog W = .ok (.slice (some ⟨W.heap.size, 0, none⟩) s.size (grownCap W s.size 0 5)) (Lib.bytesWorld W 5 s) :=
    fun W => Lib.run_convert_string_bytes W _ _ _ s Tryz.underlying9 Tryz.underlying25 Tryz.underlying5
  obtain ⟨i0, hi, hz0, hz1, hz2⟩ := info_parts info_span
  obtain ⟨i1, hi', hy0, hy1, hy2⟩ := info_parts info_int
  refine (callsIn_wide (n := 9)).1 ?_
  refine callsIn_of_wp_marks Tryz.func50 rfl trivial ?_ rfl
  simp only [Tryz.ntmps50, List.size_toArray, List.length_cons, List.length_nil, Nat.reduceAdd, Nat.reduceSub, Array.replicate_succ, Array.replicate_zero, List.push_toArray, List.append_toArray, List.nil_append, List.cons_append]
  have hf := bytes_facts ((((w.alloc (.cells #[.slice none 0 0] 30)).alloc (.cells #[.int .i64 0] 31)).alloc (.cells #[.slice none 0 0] 134)).alloc (.cells #[.slice none 0 0] 30)) 5 s
  obtain ⟨b0, b1, b2, b3, bB⟩ : ∃ _ : Blk ((((w.alloc (.cells #[.slice none 0 0] 30)).alloc (.cells #[.int .i64 0] 31)).alloc (.cells #[.slice none 0 0] 134)).alloc (.cells #[.slice none 0 0] 30)) w.heap.size 30 #[.slice none 0 0],
      ∃ _ : Blk ((((w.alloc (.cells #[.slice none 0 0] 30)).alloc (.cells #[.int .i64 0] 31)).alloc (.cells #[.slice none 0 0] 134)).alloc (.cells #[.slice none 0 0] 30)) (w.heap.size + 1) 31 #[.int .i64 0],
      ∃ _ : Blk ((((w.alloc (.cells #[.slice none 0 0] 30)).alloc (.cells #[.int .i64 0] 31)).alloc (.cells #[.slice none 0 0] 134)).alloc (.cells #[.slice none 0 0] 30)) (w.heap.size + 1 + 1) 134 #[.slice none 0 0],
      ∃ _ : Blk ((((w.alloc (.cells #[.slice none 0 0] 30)).alloc (.cells #[.int .i64 0] 31)).alloc (.cells #[.slice none 0 0] 134)).alloc (.cells #[.slice none 0 0] 30)) (w.heap.size + 1 + 1 + 1) 30 #[.slice none 0 0],
      Below w.heap.size w ((((w.alloc (.cells #[.slice none 0 0] 30)).alloc (.cells #[.int .i64 0] 31)).alloc (.cells #[.slice none 0 0] 134)).alloc (.cells #[.slice none 0 0] 30)) := by
    refine ⟨(((Blk.new _ _ _).alloc _).alloc _).alloc _, ?_, ?_, ?_, ((((Below.refl _ _).alloc (Nat.le_refl _) _).alloc (by simp) _).alloc (by simp; omega) _).alloc (by simp; omega) _⟩
    · have := ((Blk.new (w.alloc (.cells #[.slice none 0 0] 30)) 31 #[.int .i64 0]).alloc (.cells #[.slice none 0 0] 134)).alloc (.cells #[.slice none 0 0] 30)
      rwa [size_alloc'] at this
    · have := (Blk.new ((w.alloc (.cells #[.slice none 0 0] 30)).alloc (.cells #[.int .i64 0] 31)) 134 #[.slice none 0 0]).alloc (.cells #[.slice none 0 0] 30)
      rwa [size_alloc', size_alloc'] at this
    · have := (Blk.new (((w.alloc (.cells #[.slice none 0 0] 30)).alloc (.cells #[.int .i64 0] 31)).alloc (.cells #[.slice none 0 0] 134)) 30 #[.slice none 0 0])
      rwa [size_alloc', size_alloc', size_alloc'] at this
  gi_wp2_with fail
  rw [size_alloc', size_alloc', size_alloc', size_alloc'] at hf
  generalize grownCap _ _ _ _ = cap
  generalize hW1 : Lib.bytesWorld _ _ _ = W1 at hf ⊢
  obtain ⟨hz, hg, hcell, C, fr, hbyt⟩ := hf
  clear hW1 hcv
  refine ⟨trivial, ?_⟩
  refine (back_in Fence.wide 8 trivial rfl _ _ _ _).mono ?_
  rintro e w' ⟨rfl, rfl⟩
  gi_wp2_with fail
  have hl := lettersOf_length s
  rw [← hl]
  have hBB := bB.trans (below_of_grown hg (by simp; omega) (by simp))
  have bx := Blk.new W1 25 #[.slice (some ⟨w.heap.size + 1 + 1 + 1 + 1, 0, none⟩) (lettersOf s).length cap]
  have hsz : (W1.alloc (.cells #[.slice (some ⟨w.heap.size + 1 + 1 + 1 + 1, 0, none⟩) (lettersOf s).length cap] 25)).heap.size = w.heap.size + 1 + 1 + 1 + 1 + 1 + 1 := by rw [size_alloc', hz]
  have hz' : W1.heap.size = w.heap.size + 1 + 1 + 1 + 1 + 1 := by rw [hz]
  rw [hz'] at bx
  try rw [hz']
  have h0 : LenInv w [] (W1.alloc (.cells #[.slice (some ⟨w.heap.size + 1 + 1 + 1 + 1, 0, none⟩) (lettersOf s).length cap] 25)) :=
    ⟨⟨[], [], _, rfl, StackIn.new _ ((b2.grown hg (by simp)).alloc _), (b3.grown hg (by simp)).alloc _, World.ownsRow_nil _ _ _ _⟩, (b0.grown hg (by simp)).alloc _, (b1.grown hg (by simp)).alloc _, ⟨_, CellsT.alloc ⟨hbyt, _, _, rfl⟩ _⟩, ⟨_, bx.cellsT⟩, hBB.alloc (by omega) _⟩
  have hcb : ∀ j, j < (lettersOf s).length → (W1.alloc (.cells #[.slice (some ⟨w.heap.size + 1 + 1 + 1 + 1, 0, none⟩) (lettersOf s).length cap] 25)).cell? ⟨w.heap.size + 1 + 1 + 1 + 1, j, none⟩ = some (.int .u8 ((lettersOf s)[j]?.getD 0)) := fun j hj => (World.cell?_alloc_lt _ _ _ (by show w.heap.size + 1 + 1 + 1 + 1 < W1.heap.size; omega)).trans (hcell j hj)
  generalize (W1.alloc (.cells #[.slice (some ⟨w.heap.size + 1 + 1 + 1 + 1, 0, none⟩) (lettersOf s).length cap] 25)) = W2 at bx hsz h0 hcb ⊢
  clear hcell hBB hg b0 b1 b2 b3 bB hz hz'
  have hlen : (lettersOf s).length ≤ 1000000 := by omega
  generalize hzs : lettersOf s = zs at *
  have Hl := Lib.hid hl
  have Hzs := Lib.hid hzs
  clear hl hzs
  refine wpIn_rangeFunc_ownG rfl (by omega) (gf := 100) (lb := #[.pointer (some ⟨w.heap.size + 1 + 1 + 1 + 1 + 1, 0, none⟩)]) rfl trivial (enters_of Tryz.func100 (by kernel_rfl) rfl)
    (back_stops Fence.wide 8 trivial rfl (by omega) (w.heap.size + 1 + 1 + 1 + 1 + 1) (w.heap.size + 1 + 1 + 1 + 1) cap zs (by omega) W2 (by omega) (by omega) (bx.cell 0) hcb) KeepTwo.trans (KeepTwo.put (by omega) (by omega)) (Below.refl _ _) (fun _ => rfl)
    (LenInv w) (LenOut w) (fun _ _ _ _ h hg hr => h.calm hg (fun r e => ⟨by have := (hr r e).1; omega, (hr r e).2⟩)) (fun _ _ _ _ _ h hg hr => h.calm hg (fun r e => ⟨by have := (hr r e).1; omega, (hr r e).2⟩))
    h0
    (fun x => { tmps := #[.string s, undef, .pointer (some ⟨w.heap.size, 0, none⟩), .pointer (some ⟨w.heap.size + 1, 0, none⟩), .pointer (some ⟨w.heap.size + 1 + 1, 0, none⟩), .pointer (some ⟨w.heap.size + 1 + 1 + 1, 0, none⟩), undef, .int .u8 x.2, undef, undef,
        .string s, .slice (some ⟨w.heap.size + 1 + 1 + 1 + 1, 0, none⟩) zs.length cap, .func (.func 100) #[] #[.pointer (some ⟨w.heap.size + 1 + 1 + 1 + 1 + 1, 0, none⟩)], .int .i64 (x.1 : Nat), .int .u8 x.2,
        undef, undef, undef, undef, undef, undef, undef, undef, undef, undef, undef, undef, undef, undef, undef, undef, undef, undef, undef, undef, undef, undef, undef, undef, undef, undef], defers := [] }) ?assign ?body ?done ?stop
  case assign =>
    intro l x W K hK
    gi_wp2
    exact hK
  case body =>
    rintro l pre x W ⟨⟨st, out, vo, hrun, hst, hbo, hro⟩, hb0, hb1, ⟨ob, hby⟩, ⟨ox, hbx⟩, hB⟩ hlt
    obtain ⟨q0, q1, q2⟩ := hb0.one
    obtain ⟨p0, p1, p2⟩ := hb1.one
    have hrs := lenRun_some hrun
    have hsn := lenRun_snoc (pre.map (·.2)) x.2
    rw [hrun] at hsn
    simp only [Option.bind_some] at hsn
    have hmap : (pre ++ [x]).map (·.2) = pre.map (·.2) ++ [x.2] := by simp
    rw [← hmap] at hsn
    have Hsn := Lib.hid hsn
    have Hrun := Lib.hid hrun
    clear hsn hmap hrun
    have hlen1 : pre.length ≤ 1000000 := by omega
    have hrs1 : out.length ≤ 1000000 := by have := hrs.1; simp at this; omega
    have hsum : sumAbs st ≤ 1000000000000 := by have := hrs.2.1; simp at this; omega
    have hstl : st.length ≤ 1000000 := by have := hrs.2.2; simp at this; omega
    have Hrs := Lib.hid hrs
    clear hrs
    gi_wp2_with fail
    refine ⟨trivial, (CallsIn.inRound l (callsIn_wide.2 (word_any _ _ _ st x.2 W hst (Nat.le_refl _) hsum))).mono ?_⟩
    rintro e W3 ⟨rfl, hst3, hg3⟩
    have hB3 := below_of_grown hg3 hB.size (fun j e => by cases e; omega)
    have hb03 := hb0.grown hg3 (by simp; omega)
    have hb13 := hb1.grown hg3 (by simp)
    have hbo3 := hbo.grown hg3 (by simp)
    obtain ⟨v0, hv0, -⟩ := hst
    have hro3 := hro.kept hg3 (.inr (own_blk_ne hro hv0 (by decide)))
    obtain ⟨v3, hv3, hr3, hH3⟩ := hst3
    clear q0 q1 q2 p0 p1 p2
    obtain ⟨q0, q1, q2⟩ := hb03.one
    obtain ⟨p0, p1, p2⟩ := hb13.one
    obtain ⟨s0, s1, s2⟩ := hv3.one
    obtain ⟨o0, o1, o2⟩ := hbo3.one
    have hsz3 := hB3.size
    have hwb : W3.heap.size = (W3.alloc (.cells #[.int .i64 (wordM st x.2).1.1, .bool (wordM st x.2).1.2] 139)).heap.size - 1 := by simp
    clear hwb
    have hk3 : KeepsOthers W W3 := KeepsOthers.of_grownBy hg3 (isCells_of_blk hv0)
    by_cases hbad : (wordM st x.2).2.1 = false ∨ (wordM st x.2).1.2 = true
    · have hnone : lenRun ((pre ++ [x]).map (·.2)) = none := by rw [Hsn.out, lenStep, if_pos hbad]
      have Hnone := Lib.hid hnone
      clear hnone
      have fin : ∀ (o : Obj), KeepsFrom W2.heap.size W (((W3.setCell ⟨w.heap.size, 0, none⟩ (.slice none 0 0)).setCell ⟨w.heap.size + 1, 0, none⟩ (.int .i64 3)).alloc o) ∧ LenOut w .ret (pre ++ [x]) (((W3.setCell ⟨w.heap.size, 0, none⟩ (.slice none 0 0)).setCell ⟨w.heap.size + 1, 0, none⟩ (.int .i64 3)).alloc o) := fun o =>
        ⟨((hk3.trans (KeepsOthers.setCell _ _ _)).trans (KeepsOthers.setCell _ _ _)).trans (KeepsOthers.alloc _ _) |>.from _,
          rfl, Hnone.out, ((hb03.set1 _).far (by simp) _).alloc _, ((hb13.far (by simp) _).set1 _).alloc _, (((hB.trans hB3).setCell (p := ⟨w.heap.size, 0, none⟩) (Nat.le_refl _) _).setCell (p := ⟨w.heap.size + 1, 0, none⟩) (by simp) _).alloc (by simp [World.setCell]; omega) _⟩
      rcases hbad with hbad | hbad
      · gi_wp2
        exact fin _
      · cases h21 : (wordM st x.2).2.1
        · gi_wp2
          exact fin _
        · gi_wp2
          exact fin _
    · have h21 : (wordM st x.2).2.1 = true := by
        cases h : (wordM st x.2).2.1
        · exact absurd (.inl h) hbad
        · rfl
      have h12 : (wordM st x.2).1.2 = false := by
        cases h : (wordM st x.2).1.2
        · rfl
        · exact absurd (.inr h) hbad
      have hsome : lenRun ((pre ++ [x]).map (·.2)) = some ((wordM st x.2).1 :: (wordM st x.2).2.2, out ++ [(wordM st x.2).1.1]) := by rw [Hsn.out, lenStep, if_neg hbad]
      have Hsome := Lib.hid hsome
      clear hsome hbad
      have hlw := len_word st x.2
      have c3 : (wordM st x.2).2.2.length + 1 ≤ maxLen := by unfold maxLen; omega
      have c4 : ((wordM st x.2).2.2.length + 1) * 16 ≤ 140737488355328 := by omega
      have d3 : out.length + 1 ≤ maxLen := by unfold maxLen; omega
      have d4 : (out.length + 1) * 8 ≤ 140737488355328 := by omega
      have hca := cells_new (W3.alloc (.cells #[.int .i64 (wordM st x.2).1.1, .bool false] 139)) [.int .i64 (wordM st x.2).1.1, .bool false] 139
      rw [size_alloc'] at hca
      have Hca := Lib.hid hca
      have bX := Blk.new W3 139 #[.int .i64 (wordM st x.2).1.1, .bool false]
      clear hca
      gi_wp2_with (first
        | (gi_at_builtin; refine wpListIn_append_own _ rfl (.tmp 26) (.tmp 28) 134 rfl w.heap.size 139 i0 _ 2 16 Tryz.underlying134 hi hz0 hz1 hz2 rfl (by decide) v3 _ _ rfl ((hr3.alloc _).alloc _) ⟨W3.heap.size + 1, 0, none⟩ 1 1 [.int .i64 (wordM st x.2).1.1, .bool false] rfl rfl Hca.out (by simp [Value.oneCell']) c3 c4 (by simp; omega) ?_; intro v4 W4 hr4 hg4 _; obtain ⟨g', cap', rfl⟩ := ownsRow_succ hr4; obtain ⟨m1, m2, m3, m4, m5⟩ := Boxed.appended (Blk.alloc hv3 _) (by decide) (hr3.alloc _) (by simp; omega) (by omega) hr4 hg4; obtain ⟨x0, x1, x2, x3, x4⟩ := (app_blkH1 bX hH3 hsz3 hg4).two; obtain ⟨y0, y1, y2⟩ := Blk.one m1; obtain ⟨z0, z1, z2⟩ := (app_blk1 (hbo3.alloc _) (hr3.alloc _) (by decide) hg4).one)
        | (gi_at_builtin; refine wpListIn_append_own _ rfl (.tmp 30) (.tmp 33) 30 rfl w.heap.size 3 i1 _ 1 8 Tryz.underlying30 hi' hy0 hy1 hy2 rfl (by decide) vo _ _ rfl ((app_own (hro3.alloc _) (hr3.alloc _) (by decide) (hv3.alloc _) (by decide) hg4).alloc _) ⟨W4.heap.size, 0, none⟩ 1 1 [.int .i64 (wordM st x.2).1.1] rfl rfl (by have := cells_new (W4.setCell ⟨w.heap.size + 1 + 1, 0, none⟩ (.slice (some ⟨g', 0, none⟩) ((wordM st x.2).2.2.length + 1) cap')) [.int .i64 (wordM st x.2).1.1] 3; simpa [World.setCell] using this) (by simp [Value.oneCell']) d3 d4 (by simp [World.setCell]; have := hg4.size; simp at this; omega) ?_; intro v6 W6 hr6 hg6 _; obtain ⟨g2, cap2, rfl⟩ := ownsRow_succ hr6; obtain ⟨n1, n2, n3, n4, n5⟩ := Boxed.appended (app_blk (hbo3.alloc _) (hr3.alloc _) (by decide) hg4 (by simp)) (by decide) (app_own (hro3.alloc _) (hr3.alloc _) (by decide) (hv3.alloc _) (by decide) hg4) (by simp [World.setCell]; have := hg4.size; simp at this; omega) (by omega) hr6 hg6; obtain ⟨r0, r1, r2⟩ := Blk.one n1))
      have hby3 := hby.grown hg3 (by simp; omega)
      have hbx3 := hbx.grown hg3 (by simp; omega)
      have hby7 := app_cellsT (u := .slice (some ⟨g2, 0, none⟩) (out.length + 1) cap2) (app_cellsT (u := .slice (some ⟨g', 0, none⟩) ((wordM st x.2).2.2.length + 1) cap') (B := w.heap.size + 1 + 1) (hby3.alloc _) (hr3.alloc _) (by decide) hg4 (by omega)) (app_own (hro3.alloc _) (hr3.alloc _) (by decide) (hv3.alloc _) (by decide) hg4) (by decide) hg6 (B := w.heap.size + 1 + 1 + 1) (by omega)
      have hbx7 := app_cellsT (u := .slice (some ⟨g2, 0, none⟩) (out.length + 1) cap2) (app_cellsT (u := .slice (some ⟨g', 0, none⟩) ((wordM st x.2).2.2.length + 1) cap') (B := w.heap.size + 1 + 1) (hbx3.alloc _) (hr3.alloc _) (by decide) hg4 (by omega)) (app_own (hro3.alloc _) (hr3.alloc _) (by decide) (hv3.alloc _) (by decide) hg4) (by decide) hg6 (B := w.heap.size + 1 + 1 + 1) (by omega)
      have hb07 := app_blk (u := .slice (some ⟨g2, 0, none⟩) (out.length + 1) cap2) (app_blk (u := .slice (some ⟨g', 0, none⟩) ((wordM st x.2).2.2.length + 1) cap') (B := w.heap.size + 1 + 1) (hb03.alloc _) (hr3.alloc _) (by decide) hg4 (by omega)) (app_own (hro3.alloc _) (hr3.alloc _) (by decide) (hv3.alloc _) (by decide) hg4) (by decide) hg6 (B := w.heap.size + 1 + 1 + 1) (by omega)
      have hb17 := app_blk (u := .slice (some ⟨g2, 0, none⟩) (out.length + 1) cap2) (app_blk (u := .slice (some ⟨g', 0, none⟩) ((wordM st x.2).2.2.length + 1) cap') (B := w.heap.size + 1 + 1) (hb13.alloc _) (hr3.alloc _) (by decide) hg4 (by omega)) (app_own (hro3.alloc _) (hr3.alloc _) (by decide) (hv3.alloc _) (by decide) hg4) (by decide) hg6 (B := w.heap.size + 1 + 1 + 1) (by omega)
      have hv7 := app_blk (u := .slice (some ⟨g2, 0, none⟩) (out.length + 1) cap2) (show Blk _ _ _ _ from m2) (app_own (hro3.alloc _) (hr3.alloc _) (by decide) (hv3.alloc _) (by decide) hg4) (by decide) hg6 (B := w.heap.size + 1 + 1 + 1) (by omega)
      have hr7 := app_own (u := .slice (some ⟨g2, 0, none⟩) (out.length + 1) cap2) m3 (app_own (hro3.alloc _) (hr3.alloc _) (by decide) (hv3.alloc _) (by decide) hg4) (by decide) (app_blk (hbo3.alloc _) (hr3.alloc _) (by decide) hg4 (by simp)) (by decide) hg6
      refine ⟨((hk3.trans (KeepsOthers.alloc _ _)).trans (m4.trans n4)).from _, ⟨hby7.1.trans hby.1.symm, hbx7.1.trans hbx.1.symm⟩, ⟨_, _, _, Hsome.out, ⟨_, hv7, ?_, ?_⟩, n2, ?_⟩, hb07, hb17, ⟨_, hby7⟩, ⟨_, hbx7⟩, ?_⟩
      · rw [List.reverse_cons, cellsS_append, List.length_cons]
        simpa [cellsS, h12] using hr7
      · intro k hk
        have := hr7.lt k hk
        omega
      · simpa using n3
      · exact (((hB.trans hB3).alloc (by omega) _).trans m5).trans n5
  case done =>
    rintro D ys W hD rfl ⟨⟨st, out, vo, hrun, hst, hbo, hro⟩, hb0, hb1, -, -, hB⟩ hK
    rw [backs_snd _ _ (Nat.le_refl _), List.take_of_length_le (by simp)] at hrun
    have hrs := lenRun_some hrun
    have hol : out.length ≤ 1000000 := by have := hrs.1; simp at this; omega
    obtain ⟨v0, hv0, hr0, -⟩ := hst
    obtain ⟨q0, q1, q2⟩ := hb0.one
    obtain ⟨p0, p1, p2⟩ := hb1.one
    obtain ⟨s0, s1, s2⟩ := hv0.one
    obtain ⟨o0, o1, o2⟩ := hbo.one
    obtain ⟨a0, cp0, rfl⟩ : ∃ a c, v0 = .slice a st.length c := by
      rcases hr0.2 with ⟨rfl, h⟩ | ⟨g, cap, cur, rfl, _⟩
      · exact ⟨none, 0, by rw [h]⟩
      · exact ⟨_, _, rfl⟩
    have hDc : ∀ t cs g, Blk W g t cs → g ≠ D := fun t cs g hb e => by subst e; rw [show W.heap[g]? = _ from hb] at hK; cases hK
    have hM : lengthsM zs = if st.length = 1 then some out.reverse else none := by unfold lengthsM; rw [hrun]
    have HM := Lib.hid hM
    clear hM hrun hrs
    by_cases h1 : st.length = 1
    · have h1' : ((st.length : Int) != 1) = false := by simp [h1]
      rw [h1] at h1'
      have Hst := Lib.hid h1
      rw [h1] at s1
      clear h1
      have hM : lengthsM zs = some out.reverse := by rw [HM.out, if_pos Hst.out]
      have HM' := Lib.hid hM
      clear hM
      gi_wp2_with fail
      refine ⟨trivial, (callsIn_wide.2 (reverse_own w.heap.size vo out W hro (by omega))).mono ?_⟩
      rintro e W3 ⟨rfl, hr3, hg3⟩
      have hB3 : Below w.heap.size w W3 := hB.grown hg3 hB.size (fun k e => (hro.lt k e).1)
      have hb03 := hb0.grown hg3 (fun e => own_blk_ne hro hb0 (by decide) e.symm)
      have hb13 := hb1.grown hg3 (fun e => own_blk_ne hro hb1 (by decide) e.symm)
      have hbo3 := hbo.grown hg3 (fun e => own_blk_ne hro hbo (by decide) e.symm)
      have hK3 : W3.heap[D]? = some (.deferred (some [])) := (hg3.block D (Array.getElem?_eq_some_iff.1 hK).1 (fun e => by
        rcases hro.2 with ⟨rfl, _⟩ | ⟨g, cap, cur, rfl, _, hh, _⟩
        · simp [Value.ownBlock] at e
        · have : D = g := by simpa [Value.ownBlock] using e
          subst this
          rw [hh] at hK; cases hK)).trans hK
      clear q0 q1 q2 p0 p1 p2 s0 s1 s2 o0 o1 o2
      obtain ⟨q0, q1, q2⟩ := hb03.one
      obtain ⟨p0, p1, p2⟩ := hb13.one
      obtain ⟨o0, o1, o2⟩ := hbo3.one
      obtain ⟨a1, cp1, rfl⟩ : ∃ a c, vo = .slice a out.length c := by
        rcases hr3.2 with ⟨rfl, h⟩ | ⟨g, cap, cur, rfl, _⟩
        · exact ⟨none, 0, by rw [h]⟩
        · exact ⟨_, _, rfl⟩
      gi_wp2
      have hr5 := own_alloc_st (u := .int .i64 0) (i := 0) (own_alloc_st (u := .slice a1 out.length cp1) (i := 0) hr3 hb03 (by decide)) (hb13.far (p := ⟨w.heap.size, 0, none⟩) (by simp) _) (by decide)
      have hb05 := (hb03.set1 (.slice a1 out.length cp1)).far (p := ⟨w.heap.size + 1, 0, none⟩) (by simp) (.int .i64 0)
      have hb15 := (hb13.far (p := ⟨w.heap.size, 0, none⟩) (by simp) (.slice a1 out.length cp1)).set1 (.int .i64 0)
      have hB5 := (hB3.setCell (p := ⟨w.heap.size, 0, none⟩) (Nat.le_refl _) (.slice a1 out.length cp1)).setCell (p := ⟨w.heap.size + 1, 0, none⟩) (by simp) (.int .i64 0)
      have hK5 := ((KeepsOthers.setCell W3 ⟨w.heap.size, 0, none⟩ (.slice a1 out.length cp1)).trans (KeepsOthers.setCell _ ⟨w.heap.size + 1, 0, none⟩ (.int .i64 0))).same D _ hK3 rfl
      generalize ((W3.setCell ⟨w.heap.size, 0, none⟩ (.slice a1 out.length cp1)).setCell ⟨w.heap.size + 1, 0, none⟩ (.int .i64 0)) = W5 at hr5 hb05 hb15 hB5 hK5 ⊢
      refine ⟨by simp, .inl ⟨_, _, rfl, run_takeDeferred hK5, ?_⟩⟩
      obtain ⟨g1, g2⟩ := put_calm hK5 (.deferred none)
      have k0 := (hb05.calm g1 g2).cell 0
      have k1 := (hb15.calm g1 g2).cell 0
      refine ⟨_, ?_, LenPost.some_ (by first | exact HM'.out | exact Hzs.out ▸ HM'.out) rfl (by rw [List.length_reverse]; exact own_calm hr5 g1 g2) (hB5.grown g1 hB5.size (fun k e => by cases e; omega))⟩
      simp [results, Tryz.results50, go_sem, k0, k1]
    · have h1' : ((st.length : Int) != 1) = true := by simp; omega
      have hM : lengthsM zs = none := by rw [HM.out, if_neg h1]
      have HM' := Lib.hid hM
      clear hM
      gi_wp2
      have hb05 := (hb0.set1 (.slice none 0 0)).far (p := ⟨w.heap.size + 1, 0, none⟩) (by simp) (.int .i64 3)
      have hb15 := (hb1.far (p := ⟨w.heap.size, 0, none⟩) (by simp) (.slice none 0 0)).set1 (.int .i64 3)
      have hB5 := (hB.setCell (p := ⟨w.heap.size, 0, none⟩) (Nat.le_refl _) (.slice none 0 0)).setCell (p := ⟨w.heap.size + 1, 0, none⟩) (by simp) (.int .i64 3)
      have hK5 := ((KeepsOthers.setCell W ⟨w.heap.size, 0, none⟩ (.slice none 0 0)).trans (KeepsOthers.setCell _ ⟨w.heap.size + 1, 0, none⟩ (.int .i64 3))).same D _ hK rfl
      generalize ((W.setCell ⟨w.heap.size, 0, none⟩ (.slice none 0 0)).setCell ⟨w.heap.size + 1, 0, none⟩ (.int .i64 3)) = W5 at hb05 hb15 hB5 hK5 ⊢
      refine ⟨by simp, .inl ⟨_, _, rfl, run_takeDeferred hK5, ?_⟩⟩
      obtain ⟨g1, g2⟩ := put_calm hK5 (.deferred none)
      have k0 := (hb05.calm g1 g2).cell 0
      have k1 := (hb15.calm g1 g2).cell 0
      refine ⟨_, ?_, LenPost.none_ (by first | exact HM'.out | exact Hzs.out ▸ HM'.out) rfl (hB5.grown g1 hB5.size (fun k e => by cases e; omega))⟩
      simp [results, Tryz.results50, go_sem, k0, k1]
  case stop =>
    rintro D c pre W hD ⟨k, hk, rfl⟩ ⟨rfl, hrun, hb0, hb1, hB⟩ hK
    rw [backs_snd _ _ hk] at hrun
    have HM' := Lib.hid (lengthsM_of_run_none ⟨k, hrun⟩)
    clear hrun
    gi_wp2
    refine ⟨by simp, .inl ⟨_, _, rfl, run_takeDeferred hK, ?_⟩⟩
    obtain ⟨g1, g2⟩ := put_calm hK (.deferred none)
    have k0 := (hb0.calm g1 g2).cell 0
    have k1 := (hb1.calm g1 g2).cell 0
    refine ⟨_, ?_, LenPost.none_ (by first | exact HM'.out | exact Hzs.out ▸ HM'.out) rfl (hB.grown g1 hB.size (fun k e => by cases e; omega))⟩
    simp [results, Tryz.results50, go_sem, k0, k1]
end Go.Proofs.YtpnkhgjjlionnaaGreat.Zp
namespace Go.Proofs.YtpnkhgjjlionnaaGreat.Zp
open Go.RowKit

/-- How often a letter stands in a text. -/
def cnt (zs : List Int) (c : Int) : Int := ((zs.filter fun z => z == c).length : Nat)
theorem cnt_le (zs : List Int) (c : Int) : 0 ≤ cnt zs c ∧ cnt zs c ≤ zs.length := by
  unfold cnt
  have := List.length_filter_le (fun z => z == c) zs
  omega
theorem cnt_snoc (zs : List Int) (z c : Int) : cnt (zs ++ [z]) c = if z = c then cnt zs c + 1 else cnt zs c := by
  unfold cnt
  rw [List.filter_append]
  by_cases h : z = c <;> simp [h]
theorem take_snoc_int (zs : List Int) (k : Nat) (h : k < zs.length) : zs.take (k + 1) = zs.take k ++ [zs[k]] := by
  rw [List.take_succ_eq_append_getElem h]
/-- The five numbers, as cells: C, L, R, E, S. -/
def fiveOf (zs : List Int) : Array Value := #[.int .i64 (cnt zs 67), .int .i64 (cnt zs 76), .int .i64 (cnt zs 82), .int .i64 (cnt zs 69), .int .i64 (cnt zs 83)]

theorem letter_at (s : ByteArray) (k : Nat) (h : k < s.size) : (lettersOf s)[k]'(by rw [lettersOf_length]; exact h) = ((s[k]'h).toNat : Int) := by
  simp [lettersOf]
  rfl

theorem _root_.Go.Proofs.YtpnkhgjjlionnaaGreat.Blk.five {w : World} {g : Nat} {t : TypeId} {a b c d e : Value} (h : Blk w g t #[a, b, c, d, e]) : g < w.heap.size ∧ w.cell? ⟨g, 0, none⟩ = some a ∧ w.cell? ⟨g, 1, none⟩ = some b ∧ w.cell? ⟨g, 2, none⟩ = some c ∧ w.cell? ⟨g, 3, none⟩ = some d ∧ w.cell? ⟨g, 4, none⟩ = some e ∧
    w.frozen? ⟨g, 0, none⟩ = false ∧ w.frozen? ⟨g, 1, none⟩ = false ∧ w.frozen? ⟨g, 2, none⟩ = false ∧ w.frozen? ⟨g, 3, none⟩ = false ∧ w.frozen? ⟨g, 4, none⟩ = false :=
  ⟨h.lt, h.cell 0, h.cell 1, h.cell 2, h.cell 3, h.cell 4, h.frozen 0, h.frozen 1, h.frozen 2, h.frozen 3, h.frozen 4⟩

/-- What one more letter does to the five numbers. -/
theorem five_step (zs : List Int) (z : Int) : fiveOf (zs ++ [z]) = if z = 67 then (fiveOf zs).setIfInBounds 0 (.int .i64 (cnt zs 67 + 1)) else if z = 76 then (fiveOf zs).setIfInBounds 1 (.int .i64 (cnt zs 76 + 1))
    else if z = 82 then (fiveOf zs).setIfInBounds 2 (.int .i64 (cnt zs 82 + 1)) else if z = 69 then (fiveOf zs).setIfInBounds 3 (.int .i64 (cnt zs 69 + 1)) else if z = 83 then (fiveOf zs).setIfInBounds 4 (.int .i64 (cnt zs 83 + 1)) else fiveOf zs := by
  unfold fiveOf
  simp only [cnt_snoc]
  by_cases h1 : z = 67
  · subst h1; simp
  by_cases h2 : z = 76
  · subst h2; simp
  by_cases h3 : z = 82
  · subst h3; simp
  by_cases h4 : z = 69
  · subst h4; simp
  by_cases h5 : z = 83
  · subst h5; simp
  simp [h1, h2, h3, h4, h5]

set_option maxHeartbeats 1000000 in
theorem count_any (s : ByteArray) (hs : s.size ≤ 1000000) (w : World) :
    Calls Tryz.prog 19 #[.string s] w fun e w' => e = .returned (.agg (fiveOf (lettersOf s))) ∧ Below w.heap.size w w' := by
  have Hl := Lib.hid (lettersOf_length s)
  go_enter Tryz.func19, Tryz.ntmps19
  go_wp2
  go_loopw [7] (fun i wr => ∃ k : Nat, k ≤ s.size ∧ i = .int .i64 k ∧ Blk wr (w.heap.size + 1) 51 (fiveOf ((lettersOf s).take k)) ∧ Blk wr w.heap.size 51 #[.int .i64 0, .int .i64 0, .int .i64 0, .int .i64 0, .int .i64 0] ∧ Below w.heap.size w wr) (fun i _ => s.size - (intOf i).toNat)
  case atStart =>
    refine ⟨0, Nat.zero_le _, rfl, ?_, (Blk.new _ _ _).alloc _, ((Below.refl _ _).alloc (Nat.le_refl _) _).alloc (by simp) _⟩
    have := Blk.new (w.alloc (.cells #[.int .i64 0, .int .i64 0, .int .i64 0, .int .i64 0, .int .i64 0] 51)) 51 #[.int .i64 0, .int .i64 0, .int .i64 0, .int .i64 0, .int .i64 0]
    rw [size_alloc'] at this
    simpa [fiveOf, cnt] using this
  case round =>
    obtain ⟨k, hk, rfl, hb1, hb0, hB⟩ := hrel
    by_cases hlt : k < s.size
    · have hst := five_step ((lettersOf s).take k) (s[k].toNat : Int)
      have hts := take_snoc_int (lettersOf s) k (by rw [Hl.out]; exact hlt)
      rw [letter_at s k hlt] at hts
      rw [← hts] at hst
      have hle : ((lettersOf s).take k).length ≤ 1000000 := by rw [List.length_take]; omega
      have n1 := cnt_le ((lettersOf s).take k) 67
      have n2 := cnt_le ((lettersOf s).take k) 76
      have n3 := cnt_le ((lettersOf s).take k) 82
      have n4 := cnt_le ((lettersOf s).take k) 69
      have n5 := cnt_le ((lettersOf s).take k) 83
      have Hst := Lib.hid hst
      clear hst hts
      have hb1' : Blk wr (w.heap.size + 1) 51 #[.int .i64 (cnt ((lettersOf s).take k) 67), .int .i64 (cnt ((lettersOf s).take k) 76), .int .i64 (cnt ((lettersOf s).take k) 82), .int .i64 (cnt ((lettersOf s).take k) 69), .int .i64 (cnt ((lettersOf s).take k) 83)] := hb1
      obtain ⟨a0, a1, a2, a3, a4, a5, a6, a7, a8, a9, a10⟩ := hb1'.five
      clear hb1'
      have fin : ∀ (j : Nat) (u : Value), fiveOf ((lettersOf s).take (k + 1)) = (fiveOf ((lettersOf s).take k)).setIfInBounds j u → Blk (wr.setCell ⟨w.heap.size + 1, j, none⟩ u) (w.heap.size + 1) 51 (fiveOf ((lettersOf s).take (k + 1))) ∧ Blk (wr.setCell ⟨w.heap.size + 1, j, none⟩ u) w.heap.size 51 #[.int .i64 0, .int .i64 0, .int .i64 0, .int .i64 0, .int .i64 0] ∧ Below w.heap.size w (wr.setCell ⟨w.heap.size + 1, j, none⟩ u) :=
        fun j u h => ⟨by rw [h]; exact hb1.set_ j u, hb0.far (by simp) _, hB.setCell (p := ⟨w.heap.size + 1, j, none⟩) (by simp) _⟩
      have Fin := Lib.hid fin
      clear fin
      go_wp2
      all_goals
        go_roundw
        case measure => simp [intOf]; omega
        case rel =>
          clear a0 a1 a2 a3 a4 a5 a6 a7 a8 a9 a10
          refine ⟨k + 1, by omega, by go_num, ?_⟩
          first
            | exact Fin.out _ _ (by rw [Hst.out]; simp_all)
            | (have e : fiveOf ((lettersOf s).take (k + 1)) = fiveOf ((lettersOf s).take k) := by rw [Hst.out]; simp_all
               rw [e]; exact ⟨hb1, hb0, hB⟩)
    · obtain rfl : k = s.size := by omega
      have e : (lettersOf s).take s.size = lettersOf s := by rw [← Hl.out]; exact List.take_length
      rw [e] at hb1
      have hb1' : Blk wr (w.heap.size + 1) 51 #[.int .i64 (cnt (lettersOf s) 67), .int .i64 (cnt (lettersOf s) 76), .int .i64 (cnt (lettersOf s) 82), .int .i64 (cnt (lettersOf s) 69), .int .i64 (cnt (lettersOf s) 83)] := hb1
      clear e
      obtain ⟨a0, a1, a2, a3, a4, a5, a6, a7, a8, a9, a10⟩ := hb1'.five
      obtain ⟨b0, b1, b2, b3, b4, b5, b6, b7, b8, b9, b10⟩ := hb0.five
      go_wp2
      have hbf : Blk (((((wr.setCell ⟨w.heap.size, 0, none⟩ (.int .i64 (cnt (lettersOf s) 67))).setCell ⟨w.heap.size, 1, none⟩ (.int .i64 (cnt (lettersOf s) 76))).setCell ⟨w.heap.size, 2, none⟩ (.int .i64 (cnt (lettersOf s) 82))).setCell ⟨w.heap.size, 3, none⟩ (.int .i64 (cnt (lettersOf s) 69))).setCell ⟨w.heap.size, 4, none⟩ (.int .i64 (cnt (lettersOf s) 83))) w.heap.size 51 (fiveOf (lettersOf s)) := by
        have := ((((hb0.set_ 0 (.int .i64 (cnt (lettersOf s) 67))).set_ 1 (.int .i64 (cnt (lettersOf s) 76))).set_ 2 (.int .i64 (cnt (lettersOf s) 82))).set_ 3 (.int .i64 (cnt (lettersOf s) 69))).set_ 4 (.int .i64 (cnt (lettersOf s) 83))
        simpa [fiveOf] using this
      have hBf : Below w.heap.size w (((((wr.setCell ⟨w.heap.size, 0, none⟩ (.int .i64 (cnt (lettersOf s) 67))).setCell ⟨w.heap.size, 1, none⟩ (.int .i64 (cnt (lettersOf s) 76))).setCell ⟨w.heap.size, 2, none⟩ (.int .i64 (cnt (lettersOf s) 82))).setCell ⟨w.heap.size, 3, none⟩ (.int .i64 (cnt (lettersOf s) 69))).setCell ⟨w.heap.size, 4, none⟩ (.int .i64 (cnt (lettersOf s) 83))) :=
        ((((hB.setCell (p := ⟨w.heap.size, 0, none⟩) (Nat.le_refl _) _).setCell (p := ⟨w.heap.size, 1, none⟩) (Nat.le_refl _) _).setCell (p := ⟨w.heap.size, 2, none⟩) (Nat.le_refl _) _).setCell (p := ⟨w.heap.size, 3, none⟩) (Nat.le_refl _) _).setCell (p := ⟨w.heap.size, 4, none⟩) (Nat.le_refl _) _
      generalize (((((wr.setCell ⟨w.heap.size, 0, none⟩ (.int .i64 (cnt (lettersOf s) 67))).setCell ⟨w.heap.size, 1, none⟩ (.int .i64 (cnt (lettersOf s) 76))).setCell ⟨w.heap.size, 2, none⟩ (.int .i64 (cnt (lettersOf s) 82))).setCell ⟨w.heap.size, 3, none⟩ (.int .i64 (cnt (lettersOf s) 69))).setCell ⟨w.heap.size, 4, none⟩ (.int .i64 (cnt (lettersOf s) 83))) = W5 at hbf hBf ⊢
      obtain ⟨-, c1, c2, c3, c4, c5, -⟩ := hbf.five
      exact bodyPost_ret (v := .agg (fiveOf (lettersOf s))) (by simp [results, Tryz.results19, go_sem, c1, c2, c3, c4, c5, fiveOf]) rfl ⟨rfl, hBf⟩
end Go.Proofs.YtpnkhgjjlionnaaGreat.Zp
namespace Go.Proofs.YtpnkhgjjlionnaaGreat.Zp
open Go.RowKit

/-- One letter more, from behind: the lengths of the loops that wait, the last one first. -/
def ref24Step (l : List Int) (c : Int) : Option (List Int) :=
  if c = 69 then some (3 :: l)
  else if c = 67 then (match l with | [] => none | x :: r => if x < 4 then none else some ((x - 1) :: r))
  else if c = 76 ∨ c = 82 then (match l with | [] => none | x :: r => some ((x + 1) :: r))
  else if c = 83 then (match l with | x :: y :: r => some ((x + y - 1) :: r) | _ => none)
  else none
def ref24Run (cs : List Int) : Option (List Int) := cs.foldlM ref24Step []
def isThree : List Int → Bool
  | [x] => x == 3
  | _ => false
def ref24M (zs : List Int) : Bool :=
  match ref24Run zs.reverse with
  | some l => isThree l
  | none => false

theorem ref24Run_snoc (cs : List Int) (c : Int) : ref24Run (cs ++ [c]) = (ref24Run cs).bind (fun p => ref24Step p c) := by
  simp [ref24Run, List.foldlM_append]
end Go.Proofs.YtpnkhgjjlionnaaGreat.Zp
namespace Go.Proofs.YtpnkhgjjlionnaaGreat.Zp
open Go.RowKit

/-- The lengths of the words that wait at place p, the one that begins there first. -/
def stAt (zs : List Int) (p : Nat) : Option (List Int) := ref24Run (zs.drop p).reverse
theorem stAt_end (zs : List Int) : stAt zs zs.length = some [] := by simp [stAt, ref24Run]
theorem stAt_zero (zs : List Int) : stAt zs 0 = ref24Run zs.reverse := by simp [stAt]
theorem stAt_step (zs : List Int) (p : Nat) (h : p < zs.length) : stAt zs p = (stAt zs (p + 1)).bind fun l => ref24Step l zs[p] := by
  unfold stAt
  rw [List.drop_eq_getElem_cons h, List.reverse_cons, ref24Run_snoc]
end Go.Proofs.YtpnkhgjjlionnaaGreat.Zp
namespace Go.Proofs.YtpnkhgjjlionnaaGreat.Zp
open Go.RowKit Go.Shelf

/-- What word.Right answers. -/
def rightM (zs : List Int) : Bool :=
  match lengthsM zs with
  | none => false
  | some l => (l.headD 0 == 3) && decide (3 ≤ Lib.minOf l)

theorem lengths_some (s : ByteArray) (hs : s.size ≤ 1000000) (l : List Int) (h : lengthsM (lettersOf s) = some l) (w : World) :
    Calls Tryz.prog 50 #[.string s] w fun e w' => ∃ g c, e = .returned (.tuple #[.slice (some ⟨g, 0, none⟩) l.length c, .int .i64 0]) ∧ w'.ownsRow w.heap.size 3 1 (.slice (some ⟨g, 0, none⟩) l.length c) l.length (l.map (Value.int .i64)) ∧ Below w.heap.size w w' := by
  refine (lengths_any s hs w).mono ?_
  intro e w' hp
  unfold LenPost at hp
  rw [h] at hp
  obtain ⟨⟨v, rfl, ho⟩, hb⟩ := hp
  have hl := lengthsM_pos h
  obtain ⟨n, hn⟩ : ∃ n, l.length = n + 1 := ⟨l.length - 1, by omega⟩
  rw [hn] at ho
  obtain ⟨g, c, rfl⟩ := ownsRow_succ ho
  rw [hn]
  exact ⟨g, c, rfl, ho, hb⟩
theorem lengths_none (s : ByteArray) (hs : s.size ≤ 1000000) (h : lengthsM (lettersOf s) = none) (w : World) :
    Calls Tryz.prog 50 #[.string s] w fun e w' => e = .returned (.tuple #[.slice none 0 0, .int .i64 3]) ∧ Below w.heap.size w w' := by
  refine (lengths_any s hs w).mono ?_
  intro e w' hp
  unfold LenPost at hp
  rw [h] at hp
  exact hp

set_option maxHeartbeats 400000 in
theorem right_any (s : ByteArray) (hs : s.size ≤ 1000000) (w : World) :
    Calls Tryz.prog 38 #[.string s] w fun e w' => e = .returned (.bool (rightM (lettersOf s))) ∧ Below w.heap.size w w' := by
  cases hM : lengthsM (lettersOf s) with
  | none =>
    have hr : rightM (lettersOf s) = false := by unfold rightM; rw [hM]
    have Hr := Lib.hid hr
    have HM := Lib.hid hM
    clear hr hM
    go_enter Tryz.func38, Tryz.ntmps38
    go_wp2_with (go_at_call 50; refine (lengths_none s hs HM.out _).mono ?_; rintro e w' ⟨rfl, hb⟩)
    go_ret
    rw [Hr.out]
    exact ⟨rfl, hb⟩
  | some l =>
    have hl := lengthsM_pos hM
    have hlen := lengthsM_length hM
    obtain ⟨z, r, rfl⟩ : ∃ z r, l = z :: r := by
      cases l with
      | nil => simp at hl
      | cons z r => exact ⟨z, r, rfl⟩
    have hr : rightM (lettersOf s) = ((z == 3) && decide (3 ≤ Lib.minOf (z :: r))) := by unfold rightM; rw [hM]; rfl
    rw [lettersOf_length] at hlen
    have hl2 : r.length + 1 ≤ 1000000 := by simp at hlen; omega
    have Hr := Lib.hid hr
    have HM := Lib.hid hM
    have Hl := Lib.hid hl
    clear hr hM hlen hl
    cases h0 : (z == 3)
    · go_enter Tryz.func38, Tryz.ntmps38
      go_wp2_with (go_at_call 50; refine (lengths_some s hs _ HM.out _).mono ?_; rintro e w' ⟨g, c, rfl, ho, hb⟩; have hc0 := ho.cellAt 0 (by simp); have hi0 : (0 : Int) < (r.length : Int) + 1 := by omega)
      go_ret
      rw [Hr.out, h0]
      exact ⟨rfl, hb⟩
    · go_enter Tryz.func38, Tryz.ntmps38
      go_wp2_with (go_at_call 50; refine (lengths_some s hs _ HM.out _).mono ?_; rintro e w' ⟨g, c, rfl, ho, hb⟩; have hc0 := ho.cellAt 0 (by simp); have hi0 : (0 : Int) < (r.length : Int) + 1 := by omega)
      refine (min_own w.heap.size _ (z :: r) _ (by simpa using ho) Hl.out (by simp; omega)).mono ?_
      rintro e w2 ⟨rfl, rfl⟩
      go_wp2
      go_ret
      rw [Hr.out, h0]
      exact ⟨by simp, hb⟩
end Go.Proofs.YtpnkhgjjlionnaaGreat.Zp
namespace Go.Proofs.YtpnkhgjjlionnaaGreat.Zp

theorem foldl_min_le (l : List Int) (a k : Int) : k ≤ l.foldl min a ↔ k ≤ a ∧ ∀ o ∈ l, k ≤ o := by
  induction l generalizing a with
  | nil => simp
  | cons x r ih =>
    rw [List.foldl_cons, ih]
    constructor
    · rintro ⟨h1, h2⟩
      refine ⟨by omega, fun o ho => ?_⟩
      rcases List.mem_cons.1 ho with rfl | ho
      · omega
      · exact h2 o ho
    · rintro ⟨h1, h2⟩
      exact ⟨by have := h2 x (by simp); omega, fun o ho => h2 o (by simp [ho])⟩
theorem minOf_le {l : List Int} (h : l ≠ []) (k : Int) : k ≤ Lib.minOf l ↔ ∀ o ∈ l, k ≤ o := by
  cases l with
  | nil => exact absurd rfl h
  | cons x r =>
    unfold Lib.minOf
    rw [foldl_min_le]
    constructor
    · exact fun h => h.2
    · exact fun h => ⟨h x (by simp), h⟩

theorem mem_popR {st : List Span} {y : Span} (h : y ∈ popR st) : y ∈ st := by
  cases st with
  | nil => exact h
  | cons x r => exact List.mem_cons_of_mem _ h
theorem mem_word {st : List Span} {c : Int} {y : Span} (h : y ∈ (wordM st c).2.2) : y ∈ st := by
  unfold wordM at h
  split at h
  · exact h
  · split at h
    · exact h
    · split at h
      · exact mem_popR h
      · split at h
        · exact mem_popR (mem_popR h)
        · exact mem_popR h

/-- How the two runs stand to each other. -/
structure RunRel (st : List Span) (out : List Int) (r : Option (List Int)) : Prop where
  plain : ∀ x ∈ st, x.2 = false
  good : (∀ o ∈ out, 3 ≤ o) → r = some (st.map (·.1)) ∧ ∀ x ∈ st, 3 ≤ x.1
  bad : ¬ (∀ o ∈ out, 3 ≤ o) → r = none
  top : ∀ x r', st = x :: r' → out.getLast? = some x.1

theorem run_rel (xs : List Int) : (∀ st out, lenRun xs.reverse = some (st, out) → RunRel st out (ref24Run xs.reverse)) ∧ (lenRun xs.reverse = none → ref24Run xs.reverse = none) := by
  induction xs with
  | nil =>
    refine ⟨fun st out h => ?_, fun h => by cases h⟩
    cases h
    exact ⟨by simp, fun _ => ⟨rfl, by simp⟩, fun h => absurd (by simp) h, by simp⟩
  | cons c xs ih =>
    rw [List.reverse_cons, lenRun_snoc, ref24Run_snoc]
    cases hr : lenRun xs.reverse with
    | none =>
      refine ⟨fun st out h => by simp at h, fun _ => ?_⟩
      rw [ih.2 hr]
      rfl
    | some p =>
      obtain ⟨st, out⟩ := p
      obtain ⟨hp, hg, hb, ht⟩ := ih.1 st out hr
      simp only [Option.bind_some]
      have fin : ∀ x r', RunRel (x :: r') (out ++ [x.1]) ((ref24Run xs.reverse).bind fun p => ref24Step p c) ↔
          (∀ y ∈ x :: r', y.2 = false) ∧ ((∀ o ∈ out ++ [x.1], 3 ≤ o) → ((ref24Run xs.reverse).bind fun p => ref24Step p c) = some ((x :: r').map (·.1)) ∧ ∀ y ∈ x :: r', 3 ≤ y.1) ∧ (¬ (∀ o ∈ out ++ [x.1], 3 ≤ o) → ((ref24Run xs.reverse).bind fun p => ref24Step p c) = none) := by
        intro x r'
        constructor
        · rintro ⟨h1, h2, h3, -⟩; exact ⟨h1, h2, h3⟩
        · rintro ⟨h1, h2, h3⟩; exact ⟨h1, h2, h3, fun y r2 e => by cases e; simp⟩
      -- where what came before was bad, all is bad
      by_cases hall : ∀ o ∈ out, 3 ≤ o
      · obtain ⟨hrs, hge⟩ := hg hall
        rw [hrs] at fin ⊢
        simp only [Option.bind_some] at fin ⊢
        have allsnoc : ∀ x : Int, (∀ o ∈ out ++ [x], 3 ≤ o) ↔ 3 ≤ x := fun x => by
          constructor
          · exact fun h => h x (by simp)
          · intro h o ho
            rcases List.mem_append.1 ho with ho | ho
            · exact hall o ho
            · simp at ho; omega
        constructor
        · intro st' out' h
          unfold lenStep at h
          split at h
          · cases h
          · rename_i hno
            simp only [Option.some.injEq, Prod.mk.injEq] at h
            obtain ⟨rfl, rfl⟩ := h
            rw [fin]
            simp only [allsnoc]
            revert hno
            unfold wordM ref24Step
            by_cases h0 : codeN c = 0
            · simp [h0]
            · simp only [h0, if_false]
              by_cases h1 : c = 69
              · subst h1
                simp only [if_true]
                intro _
                refine ⟨?_, fun _ => ⟨rfl, ?_⟩, fun h => absurd (by simp) h⟩
                · intro y hy; rcases List.mem_cons.1 hy with rfl | hy
                  · rfl
                  · exact hp y hy
                · intro y hy; rcases List.mem_cons.1 hy with rfl | hy
                  · simp
                  · exact hge y hy
              · simp only [h1, if_false]
                cases st with
                | nil =>
                  intro hno
                  exfalso
                  apply hno
                  right
                  by_cases h2 : c = 67 <;> by_cases h3 : c = 83 <;> simp [h2, h3, popX]
                | cons x r =>
                  have hx2 : x.2 = false := hp x (by simp)
                  have hx3 : 3 ≤ x.1 := hge x (by simp)
                  have hpr : ∀ y ∈ r, y.2 = false := fun y hy => hp y (by simp [hy])
                  have hgr : ∀ y ∈ r, 3 ≤ y.1 := fun y hy => hge y (by simp [hy])
                  simp only [popX, popR]
                  by_cases h2 : c = 67
                  · subst h2
                    simp only [if_true, hx2, Bool.false_eq_true, if_false, List.map_cons]
                    intro _
                    refine ⟨?_, fun h => ?_, fun h => ?_⟩
                    · intro y hy; rcases List.mem_cons.1 hy with rfl | hy
                      · rfl
                      · exact hpr y hy
                    · rw [if_neg (by omega)]
                      refine ⟨rfl, fun y hy => ?_⟩
                      rcases List.mem_cons.1 hy with rfl | hy
                      · exact h
                      · exact hgr y hy
                    · rw [if_pos (by omega)]
                  · simp only [h2, if_false]
                    by_cases h3 : c = 83
                    · subst h3
                      cases r with
                      | nil =>
                        intro hno
                        exfalso
                        apply hno
                        right
                        simp
                      | cons y r =>
                        have hy2 : y.2 = false := hpr y (by simp)
                        have hy3 : 3 ≤ y.1 := hgr y (by simp)
                        simp only [if_true, List.map_cons]
                        intro _
                        refine ⟨?_, fun h => ⟨by simp, ?_⟩, fun h => absurd (by omega) h⟩
                        · intro z hz; rcases List.mem_cons.1 hz with rfl | hz
                          · simp [hx2, hy2]
                          · exact hpr z (by simp [hz])
                        · intro z hz; rcases List.mem_cons.1 hz with rfl | hz
                          · exact h
                          · exact hgr z (by simp [hz])
                    · simp only [h3, if_false]
                      intro _
                      have h4 : c = 76 ∨ c = 82 := by
                        unfold codeN at h0
                        simp [h1, h2, h3] at h0
                        omega
                      rw [if_pos h4]
                      refine ⟨?_, fun h => ⟨rfl, ?_⟩, fun h => absurd (by first | omega | (simp only; omega)) h⟩
                      · intro z hz; rcases List.mem_cons.1 hz with rfl | hz
                        · exact hx2
                        · exact hpr z hz
                      · intro z hz; rcases List.mem_cons.1 hz with rfl | hz
                        · exact h
                        · exact hgr z hz
        · intro h
          unfold lenStep at h
          split at h
          · rename_i hno
            revert hno
            unfold wordM ref24Step
            by_cases h0 : codeN c = 0
            · intro _
              unfold codeN at h0
              by_cases h1 : c = 69
              · simp [h1] at h0
              · by_cases h2 : c = 67
                · simp [h2] at h0
                · by_cases h3 : c = 83
                  · simp [h3] at h0
                  · by_cases h4 : c = 76 ∨ c = 82
                    · rcases h4 with rfl | rfl <;> simp at h0
                    · simp [h1, h2, h3, h4]
            · simp only [h0, if_false]
              by_cases h1 : c = 69
              · subst h1; simp
              · simp only [h1, if_false]
                cases st with
                | nil =>
                  intro _
                  by_cases h2 : c = 67
                  · simp [h2]
                  · by_cases h4 : c = 76 ∨ c = 82
                    · rcases h4 with rfl | rfl <;> simp
                    · by_cases h3 : c = 83
                      · subst h3; simp
                      · simp [h2, h3, h4]
                | cons x r =>
                  have hx2 : x.2 = false := hp x (by simp)
                  have hpr : ∀ y ∈ r, y.2 = false := fun y hy => hp y (by simp [hy])
                  simp only [popX, popR]
                  by_cases h2 : c = 67
                  · subst h2; simp [hx2]
                  · simp only [h2, if_false]
                    by_cases h3 : c = 83
                    · subst h3
                      cases r with
                      | nil => intro _; simp
                      | cons y r => simp [hx2, hpr y (by simp)]
                    · simp only [h3, if_false]
                      simp [hx2]
          · cases h
      · have hn := hb hall
        rw [hn] at fin ⊢
        refine ⟨fun st' out' h => ?_, fun _ => rfl⟩
        unfold lenStep at h
        split at h
        · cases h
        · rename_i hno
          simp only [Option.some.injEq, Prod.mk.injEq] at h
          obtain ⟨rfl, rfl⟩ := h
          rw [fin]
          refine ⟨?_, fun h => absurd (fun o ho => h o (by simp [ho])) hall, fun _ => rfl⟩
          intro y hy
          rcases List.mem_cons.1 hy with rfl | hy
          · cases h : (wordM st c).1.2
            · rfl
            · exact absurd (.inr h) hno
          · exact hp y (mem_word hy)

theorem right_eq (zs : List Int) : rightM zs = ref24M zs := by
  obtain ⟨h1, h2⟩ := run_rel zs
  unfold rightM ref24M lengthsM
  cases hr : lenRun zs.reverse with
  | none => rw [h2 hr]
  | some p =>
    obtain ⟨st, out⟩ := p
    obtain ⟨-, hg, hb, ht⟩ := h1 st out hr
    have hl := (lenRun_some hr).1
    simp only
    by_cases hall : ∀ o ∈ out, 3 ≤ o
    · rw [(hg hall).1]
      match st, ht with
      | [], _ => simp [isThree]
      | [x], ht =>
        have ht' := ht x [] rfl
        have hne : out.reverse ≠ [] := by
          intro e
          have : out = [] := by simpa using e
          rw [this] at ht'
          cases ht'
        have hm : 3 ≤ Lib.minOf out.reverse := (minOf_le hne 3).2 (fun o ho => hall o (by simpa using ho))
        have hh : out.reverse.headD 0 = x.1 := by
          rw [List.headD_eq_head?_getD, List.head?_reverse, ht']; rfl
        simp only [List.length_cons, List.length_nil, if_true, isThree, List.map_cons, List.map_nil]
        rw [hh]
        simp [hm]
      | x :: y :: r, _ => simp [isThree]
    · rw [hb hall]
      by_cases h1 : st.length = 1
      · rw [if_pos h1]
        have hne : out.reverse ≠ [] := by
          intro e
          have : out = [] := by simpa using e
          exact hall (by rw [this]; simp)
        have hm : ¬ 3 ≤ Lib.minOf out.reverse := fun h => hall (fun o ho => (minOf_le hne 3).1 h o (by simpa using ho))
        simp [hm]
      · rw [if_neg h1]
end Go.Proofs.YtpnkhgjjlionnaaGreat.Zp
namespace Go.Proofs.YtpnkhgjjlionnaaGreat.Zp
open Go.RowKit

/-- The bits of a text's letters, by the document. -/
def bitsM (zs : List Int) : Int := cnt zs 67 + 3 * (cnt zs 76 + cnt zs 82 + cnt zs 69 + cnt zs 83)

end Go.Proofs.YtpnkhgjjlionnaaGreat.Zp
namespace Go.Proofs.YtpnkhgjjlionnaaGreat.Zp
open Go.RowKit

def costSum (zs : List Int) : Int := zs.foldl (fun n c => n + codeN c) 0
/-- What word.Cost answers. -/
def costM (zs : List Int) : Int := if zs.all (fun c => !(codeN c == 0)) then costSum zs else -1
theorem costSum_snoc (zs : List Int) (c : Int) : costSum (zs ++ [c]) = costSum zs + codeN c := by simp [costSum]
end Go.Proofs.YtpnkhgjjlionnaaGreat.Zp
namespace Go.Proofs.YtpnkhgjjlionnaaGreat.Zp

theorem cnt_reverse (zs : List Int) (c : Int) : cnt zs.reverse c = cnt zs c := by
  unfold cnt; rw [List.filter_reverse, List.length_reverse]
def sumI : List Int → Int
  | [] => 0
  | x :: r => x + sumI r

/-- What the letters that were gone over come to. -/
structure CountRel (cs l : List Int) : Prop where
  len : (l.length : Int) = cnt cs 69 - cnt cs 83
  sum : sumI l = 3 * cnt cs 69 - cnt cs 67 + cnt cs 76 + cnt cs 82 - cnt cs 83
  all : (cs.length : Int) = cnt cs 67 + cnt cs 76 + cnt cs 82 + cnt cs 69 + cnt cs 83
  cost : costM cs = cnt cs 67 + 3 * (cnt cs 76 + cnt cs 82 + cnt cs 69 + cnt cs 83)
  letters : cs.all (fun c => !(codeN c == 0)) = true

theorem count_rel (xs : List Int) : ∀ l, ref24Run xs.reverse = some l → CountRel xs.reverse l := by
  induction xs with
  | nil =>
    intro l h
    cases h
    exact ⟨by simp [cnt], by simp [cnt, sumI], by simp [cnt], by simp [cnt, costM, costSum], by simp⟩
  | cons c xs ih =>
    intro l' h
    rw [List.reverse_cons] at h ⊢
    rw [ref24Run_snoc] at h
    cases hr : ref24Run xs.reverse with
    | none => rw [hr] at h; cases h
    | some l =>
      rw [hr] at h
      simp only [Option.bind_some] at h
      obtain ⟨h1, h2, h3, h4, h5⟩ := ih l hr
      have hc : costM xs.reverse = costSum xs.reverse := by unfold costM; rw [if_pos h5]
      rw [hc] at h4
      have fin : codeN c ≠ 0 → costM (xs.reverse ++ [c]) = costSum xs.reverse + codeN c ∧ (xs.reverse ++ [c]).all (fun c => !(codeN c == 0)) = true := by
        intro h0
        have : (xs.reverse ++ [c]).all (fun c => !(codeN c == 0)) = true := by
          rw [List.all_append, h5]; simp [h0]
        exact ⟨by unfold costM; rw [if_pos this, costSum_snoc], this⟩
      have hlen : ((xs.reverse ++ [c]).length : Int) = (xs.length : Int) + 1 := by simp
      rw [List.length_reverse] at h3
      unfold ref24Step at h
      split at h
      · rename_i e; subst e
        cases h
        obtain ⟨f1, f2⟩ := fin (by decide)
        refine ⟨?_, ?_, ?_, ?_, f2⟩
        · simp only [cnt_snoc, List.length_cons]; simp; omega
        · simp only [cnt_snoc, sumI]; simp; omega
        · rw [hlen, h3]; simp only [cnt_snoc]; simp; omega
        · rw [f1, h4]; simp only [cnt_snoc, codeN]; simp; omega
      · split at h
        · rename_i e; subst e
          cases l with
          | nil => cases h
          | cons x r =>
            simp only at h
            split at h
            · cases h
            · cases h
              obtain ⟨f1, f2⟩ := fin (by decide)
              simp only [sumI, List.length_cons] at h1 h2
              refine ⟨?_, ?_, ?_, ?_, f2⟩
              · simp only [cnt_snoc, List.length_cons]; simp; omega
              · simp only [cnt_snoc, sumI]; simp; omega
              · rw [hlen, h3]; simp only [cnt_snoc]; simp; omega
              · rw [f1, h4]; simp only [cnt_snoc, codeN]; simp; omega
        · split at h
          · rename_i e
            cases l with
            | nil => cases h
            | cons x r =>
              cases h
              simp only [sumI, List.length_cons] at h1 h2
              rcases e with rfl | rfl
              · obtain ⟨f1, f2⟩ := fin (by decide)
                refine ⟨?_, ?_, ?_, ?_, f2⟩
                · simp only [cnt_snoc, List.length_cons]; simp; omega
                · simp only [cnt_snoc, sumI]; simp; omega
                · rw [hlen, h3]; simp only [cnt_snoc]; simp; omega
                · rw [f1, h4]; simp only [cnt_snoc, codeN]; simp; omega
              · obtain ⟨f1, f2⟩ := fin (by decide)
                refine ⟨?_, ?_, ?_, ?_, f2⟩
                · simp only [cnt_snoc, List.length_cons]; simp; omega
                · simp only [cnt_snoc, sumI]; simp; omega
                · rw [hlen, h3]; simp only [cnt_snoc]; simp; omega
                · rw [f1, h4]; simp only [cnt_snoc, codeN]; simp; omega
          · split at h
            · rename_i e; subst e
              match l, h, h1, h2 with
              | x :: y :: r, h, h1, h2 =>
                cases h
                obtain ⟨f1, f2⟩ := fin (by decide)
                simp only [sumI, List.length_cons] at h1 h2
                refine ⟨?_, ?_, ?_, ?_, f2⟩
                · simp only [cnt_snoc, List.length_cons]; simp; omega
                · simp only [cnt_snoc, sumI]; simp; omega
                · rw [hlen, h3]; simp only [cnt_snoc]; simp; omega
                · rw [f1, h4]; simp only [cnt_snoc, codeN]; simp; omega
            · cases h

theorem costSum_reverse (zs : List Int) : costSum zs.reverse = costSum zs := by
  induction zs with
  | nil => rfl
  | cons c r ih =>
    rw [List.reverse_cons, costSum_snoc, ih]
    have : ∀ (r : List Int) (a : Int), r.foldl (fun n c => n + codeN c) a = a + r.foldl (fun n c => n + codeN c) 0 := by
      intro r
      induction r with
      | nil => intro a; simp
      | cons x r ih => intro a; simp only [List.foldl_cons]; rw [ih (a + codeN x), ih (0 + codeN x)]; omega
    unfold costSum
    rw [List.foldl_cons, this r (0 + codeN c)]
    omega

/-- A right word's counts. -/
structure RightCounts (zs : List Int) : Prop where
  ends : cnt zs 69 = cnt zs 83 + 1
  cees : cnt zs 67 = cnt zs 76 + cnt zs 82 + 2 * cnt zs 83
  all : (zs.length : Int) = cnt zs 67 + cnt zs 76 + cnt zs 82 + cnt zs 69 + cnt zs 83
  bits : bitsM zs = 2 * (zs.length : Int) + 1
  cost : costM zs = bitsM zs
theorem right_counts {zs : List Int} (h : ref24M zs = true) : RightCounts zs := by
  unfold ref24M at h
  cases hr : ref24Run zs.reverse with
  | none => rw [hr] at h; cases h
  | some l =>
    rw [hr] at h
    match l, h, hr with
    | [x], h, hr =>
      simp [isThree] at h
      subst h
      obtain ⟨h1, h2, h3, h4, h5⟩ := count_rel zs [3] hr
      simp only [cnt_reverse, sumI, List.length_cons, List.length_nil, List.length_reverse] at h1 h2 h3 h4
      have hc : costM zs = costM zs.reverse := by
        unfold costM
        rw [List.all_reverse, costSum_reverse]
      refine ⟨by omega, by omega, h3, ?_, ?_⟩
      · unfold bitsM; omega
      · rw [hc, h4]; rfl
end Go.Proofs.YtpnkhgjjlionnaaGreat.Zp
namespace Go.Proofs.YtpnkhgjjlionnaaGreat
open Go.RowKit

def cmpI (x y : Int) : Int := if x < y then -1 else if y < x then 1 else 0
set_option maxRecDepth 100000 in
theorem compareI_any (x y : Int) (w : World) : Calls Tryz.prog 94 #[.int .i64 x, .int .i64 y] w fun e w' => e = .returned (.int .i64 (cmpI x y)) ∧ w' = w := by
  by_cases h1 : x < y
  · have hd : cmpI x y = -1 := by simp [cmpI, h1]
    have b1 : decide (x < y) = true := by simpa using h1
    have HD := Lib.hid hd
    clear h1 hd
    go_enter Tryz.func94, Tryz.ntmps94
    go_wp2
    go_ret
    exact ⟨by rw [HD.out]; rfl, rfl⟩
  · by_cases h2 : y < x
    · have hd : cmpI x y = 1 := by simp [cmpI, h1, h2]
      have b1 : decide (x < y) = false := by simpa using h1
      have b2 : decide (y < x) = true := by simpa using h2
      have HD := Lib.hid hd
      clear h1 h2 hd
      go_enter Tryz.func94, Tryz.ntmps94
      go_wp2
      go_ret
      exact ⟨by rw [HD.out]; rfl, rfl⟩
    · have hd : cmpI x y = 0 := by simp [cmpI, h1, h2]
      have b1 : decide (x < y) = false := by simpa using h1
      have b2 : decide (y < x) = false := by simpa using h2
      have HD := Lib.hid hd
      clear h1 h2 hd
      go_enter Tryz.func94, Tryz.ntmps94
      go_wp2
      go_ret
      exact ⟨by rw [HD.out]; rfl, rfl⟩
/-- A slice of numbers, as it is read. -/
def IntsRd (w : World) (v : Value) (xs : List Int) : Prop := ∃ a c, v = .slice a xs.length c ∧ xs.length ≤ 9223372036854775807 ∧ ∀ k x, xs[k]? = some x → ∃ b o, a = some ⟨b, o, none⟩ ∧ b < w.heap.size ∧ w.cell? ⟨b, o + k, none⟩ = some (.int .i64 x)
theorem IntsRd.of_row {w : World} {base n : Nat} {v : Value} {xs : List Int} (h : w.ownsRow base 3 1 v n (xs.map (Value.int .i64))) (hn : xs.length = n) : IntsRd w v xs := by
  rcases h.2 with ⟨rfl, h0⟩ | ⟨g, cap, cur, rfl, _, _, h1, h2, _⟩
  · have : xs = [] := List.eq_nil_of_length_eq_zero (by omega)
    subst this
    exact ⟨none, 0, rfl, by simp, fun k x hx => by simp at hx⟩
  · subst hn
    refine ⟨some ⟨g, 0, none⟩, cap, rfl, by unfold maxLen at h2; omega, fun k x hx => ⟨g, 0, rfl, (h.lt g rfl).2, ?_⟩⟩
    have hk := (List.getElem?_eq_some_iff.1 hx).1
    rw [Nat.zero_add, h.cellAt k (by omega), List.getElem?_map, hx]
    rfl

end Go.Proofs.YtpnkhgjjlionnaaGreat
namespace Go.Proofs.YtpnkhgjjlionnaaGreat
open Go.RowKit

abbrev Tr := Int × Int × Int
def flatT (T : List Tr) : List Int := T.flatMap fun t => [t.1, t.2.1, t.2.2]
theorem flatT_length (T : List Tr) : (flatT T).length = 3 * T.length := by
  induction T with
  | nil => rfl
  | cons t r ih => simp only [flatT, List.flatMap_cons] at ih ⊢; simp only [List.length_append, ih, List.length_cons, List.length_nil]; omega
/-- Triangles, as they are read. -/
def TrisRd (w : World) (v : Value) (T : List Tr) : Prop := ∃ a c, v = .slice a T.length c ∧ T.length ≤ c ∧ c ≤ 9223372036854775807 ∧ ∀ (k : Nat) (x y z : Int), T[k]? = some (x, y, z) → ∃ b o, a = some ⟨b, o, none⟩ ∧ b < w.heap.size ∧ w.cell? ⟨b, o + k * 3, none⟩ = some (.int .i64 x) ∧ w.cell? ⟨b, o + k * 3 + 1, none⟩ = some (.int .i64 y) ∧ w.cell? ⟨b, o + k * 3 + 2, none⟩ = some (.int .i64 z)
theorem TrisRd.below {w w' : World} {v : Value} {T : List Tr} (h : TrisRd w v T) (hb : Below w.heap.size w w') : TrisRd w' v T := by
  obtain ⟨a, c, rfl, h1, h2, h3⟩ := h
  refine ⟨a, c, rfl, h1, h2, fun k x y z hk => ?_⟩
  obtain ⟨b, o, rfl, hl, s0, s1, s2⟩ := h3 k x y z hk
  exact ⟨b, o, rfl, Nat.lt_of_lt_of_le hl hb.size, (hb.cell (p := ⟨b, _, none⟩) hl).trans s0, (hb.cell (p := ⟨b, _, none⟩) hl).trans s1, (hb.cell (p := ⟨b, _, none⟩) hl).trans s2⟩
theorem TrisRd.alloc {w : World} {v : Value} {T : List Tr} (h : TrisRd w v T) (o : Obj) : TrisRd (w.alloc o) v T := h.below ((Below.refl _ _).alloc (Nat.le_refl _) _)
end Go.Proofs.YtpnkhgjjlionnaaGreat
namespace Go.Proofs.YtpnkhgjjlionnaaGreat
open Go.RowKit

/-- The cells of a row of triples. -/
def ws3 (ws : List Tr) : List Value := (flatT ws).map (Value.int .i64)
theorem ws3_snoc (ws : List Tr) (a b c : Int) : ws3 (ws ++ [(a, b, c)]) = ws3 ws ++ [.int .i64 a, .int .i64 b, .int .i64 c] := by simp [ws3, flatT]
theorem index_t0 (a b c : Value) (w : World) : (Instr.index 60 (.agg #[a, b, c]) (.int .i64 0)).run Tryz.prog w = .ok a w := by
  simp [Instr.index, run_underlying Tryz.underlying60, part, go_sem]
theorem index_t1 (a b c : Value) (w : World) : (Instr.index 60 (.agg #[a, b, c]) (.int .i64 1)).run Tryz.prog w = .ok b w := by
  simp [Instr.index, run_underlying Tryz.underlying60, part, go_sem]
theorem index_t2 (a b c : Value) (w : World) : (Instr.index 60 (.agg #[a, b, c]) (.int .i64 2)).run Tryz.prog w = .ok c w := by
  simp [Instr.index, run_underlying Tryz.underlying60, part, go_sem]
theorem heap_alloc_new2 (w : World) (o o' : Obj) : ((w.alloc o).alloc o').heap[w.heap.size + 1]? = some o' := by
  have h := heap_alloc_new (w.alloc o) o'
  rw [size_alloc'] at h
  exact h
theorem snoc_kind {ws : List Tr} {k : Int} {t : Tr} (h : ∀ x ∈ ws, x.1 = k) (ht : t.1 = k) : ∀ x ∈ ws ++ [t], x.1 = k := by
  intro x hx
  rcases List.mem_append.1 hx with hx | hx
  · exact h x hx
  · simp only [List.mem_singleton] at hx
    rw [hx, ht]
/-- What a list of witnesses says: of one kind, none just if nothing is wrong. -/
def WitsIs (w : World) (base : Nat) (v : Value) (kind : Int) (P : Prop) : Prop := ∃ ws : List Tr, w.ownsRow base 35 3 v ws.length (ws3 ws) ∧ (ws = [] ↔ P) ∧ (∀ x ∈ ws, x.1 = kind) ∧ ws.length ≤ 1000000000000
theorem infoWit : (Tryz.prog.info? 35).map (fun i => (i.zero, i.size, i.bytes)) = some (some (.agg #[.int .i64 0, .int .i64 0, .int .i64 0]), 3, 24) := by kernel_rfl
def simple3 (t : Tr) : Prop := t.1 ≠ t.2.1 ∧ t.2.1 ≠ t.2.2 ∧ t.2.2 ≠ t.1
theorem take_succ_all {α : Type} {p : α → Prop} {T : List α} {k : Nat} {t : α} (h : T[k]? = some t) : (∀ x ∈ T.take (k + 1), p x) ↔ (∀ x ∈ T.take k, p x) ∧ p t := by
  obtain ⟨hk, he⟩ := List.getElem?_eq_some_iff.1 h
  rw [List.take_succ_eq_append_getElem hk, he]
  constructor
  · exact fun hh => ⟨fun x hx => hh x (by simp [hx]), hh t (by simp)⟩
  · rintro ⟨h1, h2⟩ x hx
    rcases List.mem_append.1 hx with hx | hx
    · exact h1 x hx
    · simp only [List.mem_singleton] at hx
      subst hx
      exact h2

theorem simple3_parts (x y z : Int) : ((x == y) = false ∧ (y == z) = false ∧ (z == x) = false ∧ simple3 (x, y, z)) ∨ (((x == y) = true ∨ ((x == y) = false ∧ (y == z) = true) ∨ ((x == y) = false ∧ (y == z) = false ∧ (z == x) = true)) ∧ ¬ simple3 (x, y, z)) := by
  unfold simple3
  cases h1 : (x == y) <;> cases h2 : (y == z) <;> cases h3 : (z == x) <;> simp_all
set_option maxRecDepth 100000 in
set_option maxHeartbeats 1000000 in
theorem loop_any (N : Int) (v : Value) (T : List Tr) (w : World) (h : TrisRd w v T) (hl : T.length ≤ 100000) : Calls Tryz.prog 86 #[.agg #[.int .i64 N, v]] w fun e w' => ∃ v', e = .returned v' ∧ WitsIs w' w.heap.size v' 2 (∀ t ∈ T, simple3 t) ∧ Below w.heap.size w w' := by
  obtain ⟨i1, hi', hy0, hy1, hy2⟩ := info_parts infoWit
  obtain ⟨a, c, rfl, hc1, hc2, hr⟩ := h
  have HR := Lib.hid hr
  have b1 := Blk.new w 24 #[.int .i64 N, .slice a T.length c]
  obtain ⟨l0, x0, -, x1, -⟩ := b1.two
  have hB0 : Below w.heap.size w (w.alloc (.cells #[.int .i64 N, .slice a T.length c] 24)) := (Below.refl _ _).alloc (Nat.le_refl _) _
  obtain ⟨n, hn⟩ : ∃ n, T.length = n := ⟨_, rfl⟩
  rw [hn] at hl hc1 x1 hB0 b1 l0 ⊢
  have HN := Lib.hid hn
  clear hr hn
  go_enter Tryz.func86, Tryz.ntmps86
  go_wp2
  go_loopw [3, 9] (fun v3 i wr => ∃ (k : Nat) (v' : Value) (ws : List Tr), v' = v3 ∧ k ≤ n ∧ i = .int .i64 k ∧ wr.ownsRow w.heap.size 35 3 v' ws.length (ws3 ws) ∧ ws.length ≤ k ∧ (ws = [] ↔ ∀ t ∈ T.take k, simple3 t) ∧ (∀ x ∈ ws, x.1 = 2) ∧ Below w.heap.size w wr) (fun _ i _ => n - (intOf i).toNat)
  case atStart => exact ⟨0, _, [], rfl, Nat.zero_le _, rfl, World.ownsRow_nil _ _ _ _, Nat.le_refl _, by simp, by simp, hB0⟩
  case round =>
    obtain ⟨k, v', ws, rfl, hk, rfl, hrow, hwl, hws, hkd, hB⟩ := hrel
    by_cases hlt : k < n
    · obtain ⟨t, ht⟩ : ∃ t, T[k]? = some t := ⟨T[k]'(by have := HN.out; omega), List.getElem?_eq_getElem _⟩
      obtain ⟨x, y, z⟩ := t
      obtain ⟨b, o, rfl, hbl, s0, s1, s2⟩ := HR.out k x y z ht
      have s0' := (hB.cell (p := ⟨b, _, none⟩) hbl).trans s0
      have s1' := (hB.cell (p := ⟨b, _, none⟩) hbl).trans s1
      have s2' := (hB.cell (p := ⟨b, _, none⟩) hbl).trans s2
      have Hts := Lib.hid (take_succ_all (p := simple3) ht)
      have Hws := Lib.hid hws
      have hsz := hB.size
      have hk3 : (k : Int) < (n : Int) := by omega
      have hk0 : (0 : Int) ≤ (k : Int) := by omega
      have c3 : ws.length + 1 ≤ maxLen := by unfold maxLen; omega
      have c4 : (ws.length + 1) * 24 ≤ 140737488355328 := by omega
      clear ht s0 s1 s2 hws
      rcases simple3_parts x y z with ⟨q1, q2, q3, e1⟩ | ⟨q, e1⟩
      · have He := Lib.hid e1
        clear e1
        go_wp2
        go_roundw
        case measure => simp [intOf]; omega
        case rel =>
          refine ⟨k + 1, _, ws, rfl, by omega, by go_num, hrow.alloc _, by omega, ?_, hkd, hB.alloc hB.size _⟩
          rw [Hts.out, Hws.out]
          exact ⟨fun h => ⟨h, He.out⟩, fun h => h.1⟩
      · have He := Lib.hid e1
        clear e1
        rcases q with q1 | ⟨q1, q2⟩ | ⟨q1, q2, q3⟩
        all_goals go_wp2_with (at_builtin; refine wpList_append_lies _ rfl (.tmp 33) (.tmp 36) 113 rfl w.heap.size 35 i1 _ 3 24 Tryz.underlying113 hi' hy0 hy1 hy2 rfl (by decide) _ _ _ rfl ((hrow.alloc _).alloc _) ⟨wr.heap.size + 1, 0, none⟩ 1 1 [.int .i64 2, .int .i64 k, .int .i64 0] rfl rfl (World.news_of_block (heap_alloc_new2 _ _ _)) (by simp [Value.oneCell']) (by decide) c3 c4 (by rw [size_alloc', size_alloc']; omega) (wr.heap.size + 2) (by simp) ?_; intro g4 cap4 W4 hr4 hg4 _ _)
        all_goals go_roundw
        case measure | measure | measure => simp [intOf]; omega
        case rel | rel | rel =>
          refine ⟨k + 1, _, ws ++ [(2, (k : Int), 0)], rfl, by omega, by go_num, ?_, by simp; omega, ?_, ?_, (hB.alloc hB.size _).grown (gGrown (World.grownBy_alloc _ _ _) hg4 (row := v'.ownBlock) (fun _ e => .inl e)) (by rw [size_alloc']; omega) (fun j e => (hrow.lt j e).1)⟩
          · rw [ws3_snoc]
            simpa using hr4
          · rw [Hts.out]
            simp [He.out]
          · intro x hx
            rcases List.mem_append.1 hx with hx | hx
            · exact hkd x hx
            · simp only [List.mem_singleton] at hx
              rw [hx]
    · obtain rfl : k = n := by omega
      have hnn := HN.out
      rw [List.take_of_length_le (by omega)] at hws
      have Hrow := Lib.hid hrow
      have HB := Lib.hid hB
      have Hws := Lib.hid hws
      clear hrow hB hnn hws
      go_wp2
      go_ret
      exact ⟨_, rfl, ⟨ws, Hrow.out, Hws.out, hkd, by omega⟩, HB.out⟩
end Go.Proofs.YtpnkhgjjlionnaaGreat
namespace Go.Proofs.YtpnkhgjjlionnaaGreat
open Go.RowKit

def inR (N v : Int) : Prop := 0 ≤ v ∧ v < N
def in3 (N : Int) (t : Tr) : Prop := inR N t.1 ∧ inR N t.2.1 ∧ inR N t.2.2

set_option maxRecDepth 100000 in
set_option maxHeartbeats 2000000 in
theorem index_any (N : Int) (v : Value) (T : List Tr) (w : World) (h : TrisRd w v T) (hN : 0 ≤ N ∧ N ≤ 4096) (hl : T.length ≤ 8192) : Calls Tryz.prog 85 #[.agg #[.int .i64 N, v]] w fun e w' => ∃ v', e = .returned v' ∧ WitsIs w' w.heap.size v' 1 (∀ t ∈ T, in3 N t) ∧ Below w.heap.size w w' := by
  obtain ⟨i1, hi', hy0, hy1, hy2⟩ := info_parts infoWit
  obtain ⟨a, c, rfl, hc1, hc2, hr⟩ := h
  have HR := Lib.hid hr
  have b1 := Blk.new w 24 #[.int .i64 N, .slice a T.length c]
  obtain ⟨l0, x0, -, x1, -⟩ := b1.two
  have hB0 : Below w.heap.size w (w.alloc (.cells #[.int .i64 N, .slice a T.length c] 24)) := (Below.refl _ _).alloc (Nat.le_refl _) _
  obtain ⟨n, hn⟩ : ∃ n, T.length = n := ⟨_, rfl⟩
  rw [hn] at hl hc1 x0 x1 hB0 b1 l0 ⊢
  have HN := Lib.hid hn
  obtain ⟨hN0, hN1⟩ := hN
  have g1 : ¬ N < 0 := by omega
  have g2 : ¬ 4096 < N := by omega
  have g3 : ¬ 8192 < (n : Int) := by omega
  have ix0 := @index_t0
  have ix1 := @index_t1
  have ix2 := @index_t2
  clear hr hn
  go_enter Tryz.func85, Tryz.ntmps85
  go_wp2
  go_loopw [3, 27] (fun v3 i wr => ∃ (k : Nat) (v' : Value) (ws : List Tr), v' = v3 ∧ k ≤ n ∧ i = .int .i64 k ∧ wr.ownsRow w.heap.size 35 3 v' ws.length (ws3 ws) ∧ ws.length ≤ k ∧ (ws = [] ↔ ∀ t ∈ T.take k, in3 N t) ∧ (∀ x ∈ ws, x.1 = 1) ∧ Blk wr w.heap.size 24 #[.int .i64 N, .slice a n c] ∧ Below w.heap.size w wr) (fun _ i _ => n - (intOf i).toNat)
  case atStart => exact ⟨0, _, [], rfl, Nat.zero_le _, rfl, World.ownsRow_nil _ _ _ _, Nat.le_refl _, by simp, by simp, b1, hB0⟩
  case round =>
    obtain ⟨k, v', ws, rfl, hk, rfl, hrow, hwl, hws, hkd, hB', hB⟩ := hrel
    obtain ⟨ly, y0, -, y1, -⟩ := hB'.two
    clear x0 x1 l0 b1
    by_cases hlt : k < n
    · obtain ⟨t, ht⟩ : ∃ t, T[k]? = some t := ⟨T[k]'(by have := HN.out; omega), List.getElem?_eq_getElem _⟩
      obtain ⟨x, y, z⟩ := t
      obtain ⟨b, o, rfl, hbl, s0, s1, s2⟩ := HR.out k x y z ht
      have s0' := (hB.cell (p := ⟨b, _, none⟩) hbl).trans s0
      have s1' := (hB.cell (p := ⟨b, _, none⟩) hbl).trans s1
      have s2' := (hB.cell (p := ⟨b, _, none⟩) hbl).trans s2
      have Hts := Lib.hid (take_succ_all (p := in3 N) ht)
      have Hws := Lib.hid hws
      have hsz := hB.size
      have hk3 : (k : Int) < (n : Int) := by omega
      have hk0 : (0 : Int) ≤ (k : Int) := by omega
      have c3 : ws.length + 1 ≤ maxLen := by unfold maxLen; omega
      have c4 : (ws.length + 1) * 24 ≤ 140737488355328 := by omega
      have hB'' := hB'.alloc (.cells #[.int .i64 x, .int .i64 y, .int .i64 z] 60)
      obtain ⟨lz, z0, -, z1, -⟩ := hB''.two
      have HNE := Lib.hid (fun e => own_blk_ne hrow hB' (by decide) e.symm : some w.heap.size ≠ v'.ownBlock)
      clear ht s0 s1 s2 hws
      go_wp2
      rename World => wA
      go_loopw [3, 33] (fun v3 i wq => ∃ j : Nat, v' = v3 ∧ j ≤ 3 ∧ i = .int .i64 j ∧ wq = wA.alloc (.cells #[.int .i64 x, .int .i64 y, .int .i64 z] 60) ∧ (1 ≤ j → inR N x) ∧ (2 ≤ j → inR N y) ∧ (3 ≤ j → inR N z)) (fun _ i _ => 3 - (intOf i).toNat)
      case atStart => exact ⟨0, rfl, by omega, rfl, rfl, by omega, by omega, by omega⟩
      case round =>
        obtain ⟨j, rfl, hj, rfl, rfl, f1, f2, f3⟩ := hrel
        have F1 := Lib.hid f1
        have F2 := Lib.hid f2
        have F3 := Lib.hid f3
        clear f1 f2 f3
        have hj' : j = 0 ∨ j = 1 ∨ j = 2 ∨ j = 3 := by omega
        rcases hj' with rfl | rfl | rfl | rfl
        · by_cases u1 : x < 0
          · have He : ¬ in3 N (x, y, z) := fun h => by have := h.1.1; simp only at this; omega
            have He := Lib.hid He
            go_wp2_with (at_builtin; refine wpList_append_lies _ rfl (.tmp 44) (.tmp 47) 113 rfl w.heap.size 35 i1 _ 3 24 Tryz.underlying113 hi' hy0 hy1 hy2 rfl (by decide) _ _ _ rfl ((hrow.alloc _).alloc _) ⟨wA.heap.size + 1, 0, none⟩ 1 1 [.int .i64 1, .int .i64 k, .int .i64 0] rfl rfl (World.news_of_block (heap_alloc_new2 _ _ _)) (by simp [Value.oneCell']) (by decide) c3 c4 (by rw [size_alloc', size_alloc']; omega) (wA.heap.size + 2) (by simp) ?_; intro g4 cap4 W4 hr4 hg4 _ _)
            go_roundw
            case measure => simp [intOf]; omega
            case rel => exact ⟨k + 1, _, ws ++ [(1, (k : Int), 0)], rfl, by omega, by go_num, by rw [ws3_snoc]; simpa using hr4, by simp; omega, by rw [Hts.out]; simp [He.out], snoc_kind hkd rfl, (hB'.alloc _).grown (gGrown (World.grownBy_alloc _ _ _) hg4 (row := v'.ownBlock) (fun _ e => .inl e)) HNE.out, (hB.alloc hB.size _).grown (gGrown (World.grownBy_alloc _ _ _) hg4 (row := v'.ownBlock) (fun _ e => .inl e)) (by rw [size_alloc']; omega) (fun j e => (hrow.lt j e).1)⟩
          · by_cases u2 : N ≤ x
            · have He : ¬ in3 N (x, y, z) := fun h => by have := h.1.2; simp only at this; omega
              have He := Lib.hid He
              go_wp2_with (at_builtin; refine wpList_append_lies _ rfl (.tmp 44) (.tmp 47) 113 rfl w.heap.size 35 i1 _ 3 24 Tryz.underlying113 hi' hy0 hy1 hy2 rfl (by decide) _ _ _ rfl ((hrow.alloc _).alloc _) ⟨wA.heap.size + 1, 0, none⟩ 1 1 [.int .i64 1, .int .i64 k, .int .i64 0] rfl rfl (World.news_of_block (heap_alloc_new2 _ _ _)) (by simp [Value.oneCell']) (by decide) c3 c4 (by rw [size_alloc', size_alloc']; omega) (wA.heap.size + 2) (by simp) ?_; intro g4 cap4 W4 hr4 hg4 _ _)
              go_roundw
              case measure => simp [intOf]; omega
              case rel => exact ⟨k + 1, _, ws ++ [(1, (k : Int), 0)], rfl, by omega, by go_num, by rw [ws3_snoc]; simpa using hr4, by simp; omega, by rw [Hts.out]; simp [He.out], snoc_kind hkd rfl, (hB'.alloc _).grown (gGrown (World.grownBy_alloc _ _ _) hg4 (row := v'.ownBlock) (fun _ e => .inl e)) HNE.out, (hB.alloc hB.size _).grown (gGrown (World.grownBy_alloc _ _ _) hg4 (row := v'.ownBlock) (fun _ e => .inl e)) (by rw [size_alloc']; omega) (fun j e => (hrow.lt j e).1)⟩
            · have u3 : inR N x := ⟨by omega, by omega⟩
              have U3 := Lib.hid u3
              clear u3
              go_wp2
              go_roundw
              case measure => simp [intOf]
              case rel => exact ⟨1, rfl, by omega, by simp, by simp, fun _ => U3.out, by omega, by omega⟩
        · by_cases u1 : y < 0
          · have He : ¬ in3 N (x, y, z) := fun h => by have := h.2.1.1; simp only at this; omega
            have He := Lib.hid He
            go_wp2_with (at_builtin; refine wpList_append_lies _ rfl (.tmp 44) (.tmp 47) 113 rfl w.heap.size 35 i1 _ 3 24 Tryz.underlying113 hi' hy0 hy1 hy2 rfl (by decide) _ _ _ rfl ((hrow.alloc _).alloc _) ⟨wA.heap.size + 1, 0, none⟩ 1 1 [.int .i64 1, .int .i64 k, .int .i64 0] rfl rfl (World.news_of_block (heap_alloc_new2 _ _ _)) (by simp [Value.oneCell']) (by decide) c3 c4 (by rw [size_alloc', size_alloc']; omega) (wA.heap.size + 2) (by simp) ?_; intro g4 cap4 W4 hr4 hg4 _ _)
            go_roundw
            case measure => simp [intOf]; omega
            case rel => exact ⟨k + 1, _, ws ++ [(1, (k : Int), 0)], rfl, by omega, by go_num, by rw [ws3_snoc]; simpa using hr4, by simp; omega, by rw [Hts.out]; simp [He.out], snoc_kind hkd rfl, (hB'.alloc _).grown (gGrown (World.grownBy_alloc _ _ _) hg4 (row := v'.ownBlock) (fun _ e => .inl e)) HNE.out, (hB.alloc hB.size _).grown (gGrown (World.grownBy_alloc _ _ _) hg4 (row := v'.ownBlock) (fun _ e => .inl e)) (by rw [size_alloc']; omega) (fun j e => (hrow.lt j e).1)⟩
          · by_cases u2 : N ≤ y
            · have He : ¬ in3 N (x, y, z) := fun h => by have := h.2.1.2; simp only at this; omega
              have He := Lib.hid He
              go_wp2_with (at_builtin; refine wpList_append_lies _ rfl (.tmp 44) (.tmp 47) 113 rfl w.heap.size 35 i1 _ 3 24 Tryz.underlying113 hi' hy0 hy1 hy2 rfl (by decide) _ _ _ rfl ((hrow.alloc _).alloc _) ⟨wA.heap.size + 1, 0, none⟩ 1 1 [.int .i64 1, .int .i64 k, .int .i64 0] rfl rfl (World.news_of_block (heap_alloc_new2 _ _ _)) (by simp [Value.oneCell']) (by decide) c3 c4 (by rw [size_alloc', size_alloc']; omega) (wA.heap.size + 2) (by simp) ?_; intro g4 cap4 W4 hr4 hg4 _ _)
              go_roundw
              case measure => simp [intOf]; omega
              case rel => exact ⟨k + 1, _, ws ++ [(1, (k : Int), 0)], rfl, by omega, by go_num, by rw [ws3_snoc]; simpa using hr4, by simp; omega, by rw [Hts.out]; simp [He.out], snoc_kind hkd rfl, (hB'.alloc _).grown (gGrown (World.grownBy_alloc _ _ _) hg4 (row := v'.ownBlock) (fun _ e => .inl e)) HNE.out, (hB.alloc hB.size _).grown (gGrown (World.grownBy_alloc _ _ _) hg4 (row := v'.ownBlock) (fun _ e => .inl e)) (by rw [size_alloc']; omega) (fun j e => (hrow.lt j e).1)⟩
            · have u3 : inR N y := ⟨by omega, by omega⟩
              have U3 := Lib.hid u3
              clear u3
              go_wp2
              go_roundw
              case measure => simp [intOf]
              case rel => exact ⟨2, rfl, by omega, by simp, by simp, fun _ => F1.out (by omega), fun _ => U3.out, by omega⟩
        · by_cases u1 : z < 0
          · have He : ¬ in3 N (x, y, z) := fun h => by have := h.2.2.1; simp only at this; omega
            have He := Lib.hid He
            go_wp2_with (at_builtin; refine wpList_append_lies _ rfl (.tmp 44) (.tmp 47) 113 rfl w.heap.size 35 i1 _ 3 24 Tryz.underlying113 hi' hy0 hy1 hy2 rfl (by decide) _ _ _ rfl ((hrow.alloc _).alloc _) ⟨wA.heap.size + 1, 0, none⟩ 1 1 [.int .i64 1, .int .i64 k, .int .i64 0] rfl rfl (World.news_of_block (heap_alloc_new2 _ _ _)) (by simp [Value.oneCell']) (by decide) c3 c4 (by rw [size_alloc', size_alloc']; omega) (wA.heap.size + 2) (by simp) ?_; intro g4 cap4 W4 hr4 hg4 _ _)
            go_roundw
            case measure => simp [intOf]; omega
            case rel => exact ⟨k + 1, _, ws ++ [(1, (k : Int), 0)], rfl, by omega, by go_num, by rw [ws3_snoc]; simpa using hr4, by simp; omega, by rw [Hts.out]; simp [He.out], snoc_kind hkd rfl, (hB'.alloc _).grown (gGrown (World.grownBy_alloc _ _ _) hg4 (row := v'.ownBlock) (fun _ e => .inl e)) HNE.out, (hB.alloc hB.size _).grown (gGrown (World.grownBy_alloc _ _ _) hg4 (row := v'.ownBlock) (fun _ e => .inl e)) (by rw [size_alloc']; omega) (fun j e => (hrow.lt j e).1)⟩
          · by_cases u2 : N ≤ z
            · have He : ¬ in3 N (x, y, z) := fun h => by have := h.2.2.2; simp only at this; omega
              have He := Lib.hid He
              go_wp2_with (at_builtin; refine wpList_append_lies _ rfl (.tmp 44) (.tmp 47) 113 rfl w.heap.size 35 i1 _ 3 24 Tryz.underlying113 hi' hy0 hy1 hy2 rfl (by decide) _ _ _ rfl ((hrow.alloc _).alloc _) ⟨wA.heap.size + 1, 0, none⟩ 1 1 [.int .i64 1, .int .i64 k, .int .i64 0] rfl rfl (World.news_of_block (heap_alloc_new2 _ _ _)) (by simp [Value.oneCell']) (by decide) c3 c4 (by rw [size_alloc', size_alloc']; omega) (wA.heap.size + 2) (by simp) ?_; intro g4 cap4 W4 hr4 hg4 _ _)
              go_roundw
              case measure => simp [intOf]; omega
              case rel => exact ⟨k + 1, _, ws ++ [(1, (k : Int), 0)], rfl, by omega, by go_num, by rw [ws3_snoc]; simpa using hr4, by simp; omega, by rw [Hts.out]; simp [He.out], snoc_kind hkd rfl, (hB'.alloc _).grown (gGrown (World.grownBy_alloc _ _ _) hg4 (row := v'.ownBlock) (fun _ e => .inl e)) HNE.out, (hB.alloc hB.size _).grown (gGrown (World.grownBy_alloc _ _ _) hg4 (row := v'.ownBlock) (fun _ e => .inl e)) (by rw [size_alloc']; omega) (fun j e => (hrow.lt j e).1)⟩
            · have u3 : inR N z := ⟨by omega, by omega⟩
              have U3 := Lib.hid u3
              clear u3
              go_wp2
              go_roundw
              case measure => simp [intOf]
              case rel => exact ⟨3, rfl, by omega, by simp, by simp, fun _ => F1.out (by omega), fun _ => F2.out (by omega), fun _ => U3.out⟩
        · have He : in3 N (x, y, z) := ⟨F1.out (by omega), F2.out (by omega), F3.out (by omega)⟩
          have He := Lib.hid He
          go_wp2
          go_roundw
          case measure => simp [intOf]; omega
          case rel =>
            refine ⟨k + 1, _, ws, rfl, by omega, by go_num, hrow.alloc _, by omega, ?_, hkd, hB'.alloc _, hB.alloc hB.size _⟩
            rw [Hts.out, Hws.out]
            exact ⟨fun h => ⟨h, He.out⟩, fun h => h.1⟩
    · obtain rfl : k = n := by omega
      have hnn := HN.out
      rw [List.take_of_length_le (by omega)] at hws
      have Hrow := Lib.hid hrow
      have HB := Lib.hid hB
      have Hws := Lib.hid hws
      clear hrow hB hnn hws
      go_wp2
      go_ret
      exact ⟨_, rfl, ⟨ws, Hrow.out, Hws.out, hkd, by omega⟩, HB.out⟩
end Go.Proofs.YtpnkhgjjlionnaaGreat
