/-
  Texts joined by program, what the law uses alone: KitA Maps Grp MapP Cmp Row CertA CertI CertL PairM Jor Tab SetQ.
-/
import Derived.WalkKit
import Derived.WalkSpells
import Derived.WalkLawsBesides
import Derived.RangeFuncBox
import Derived.Maps.AppendAt
import Derived.Maps.OwnOps
import Derived.Maps.OwnSet
import Derived.WideKeyPair
import Derived.WideKeyEntry
import Derived.Lib.Hide
import Derived.Deep.RegionHeld3
import Derived.Deep.AppendLies
import Derived.Laws.OwnMore
import Derived.Deep.QuietTactic
import Derived.BigQuiet
import Derived.Deep.AppendSrc
import Derived.Laws.IdiomCopy
import Derived.Test.YtpnkhgjjlionnaaRows
namespace Go.Proofs.Ytpnkhgjjlionnaa
open Go.RowKit

/-- Block g is just the cells cs of element type t, none frozen. -/
def Blk (w : World) (g : Nat) (t : TypeId) (cs : Array Value) : Prop := w.heap[g]? = some (.cells cs t (0, 0))

section
variable {w w' : World} {g : Nat} {t : TypeId} {cs : Array Value}
theorem Blk.lt (h : Blk w g t cs) : g < w.heap.size := by
  rcases Nat.lt_or_ge g w.heap.size with hlt | hge
  · exact hlt
  · unfold Blk at h; rw [Array.getElem?_eq_none hge] at h; cases h
theorem Blk.cell (h : Blk w g t cs) (i : Nat) : w.cell? ⟨g, i, none⟩ = cs[i]? := cell_of_row w g i cs t (0, 0) h
theorem Blk.frozen (h : Blk w g t cs) (i : Nat) : w.frozen? ⟨g, i, none⟩ = false := by
  unfold Blk at h
  simp [World.frozen?, h]
theorem Blk.new (w : World) (t : TypeId) (cs : Array Value) : Blk (w.alloc (.cells cs t)) w.heap.size t cs := heap_alloc_new w _
theorem Blk.drew (h : Blk w g t cs) : Blk w.drew g t cs := h
theorem Blk.drewN (h : Blk w g t cs) (n : Nat) : Blk (w.drewN n) g t cs := h
theorem Blk.alloc (h : Blk w g t cs) (o : Obj) : Blk (w.alloc o) g t cs := (Below.heap_alloc w o g h.lt).trans h
theorem Blk.set_ (h : Blk w g t cs) (i : Nat) (u : Value) : Blk (w.setCell ⟨g, i, none⟩ u) g t (cs.setIfInBounds i u) := by
  unfold Blk at h ⊢
  simp [World.setCell, Array.getElem?_modify, h]
theorem Blk.set1 {v : Value} (h : Blk w g t #[v]) (u : Value) : Blk (w.setCell ⟨g, 0, none⟩ u) g t #[u] := by
  have := h.set_ 0 u
  simpa using this
theorem Blk.far (h : Blk w g t cs) {p : Addr} (hp : g ≠ p.block) (u : Value) : Blk (w.setCell p u) g t cs := (Below.heap_setCell w p u g hp).trans h
theorem Blk.below {B : Nat} (h : Blk w g t cs) (hb : Below B w w') (hg : g < B) : Blk w' g t cs := (hb.block g hg).trans h
theorem Blk.grown {row : Option Nat} (h : Blk w g t cs) (hb : w.grownBy w' row) (hg : some g ≠ row) : Blk w' g t cs := (hb.block g h.lt hg).trans h
theorem Blk.ne_ {g' : Nat} {t' : TypeId} {cs' : Array Value} (h : Blk w g t cs) (h' : Blk w g' t' cs') (hne : t ≠ t') : g ≠ g' := by
  rintro rfl
  unfold Blk at h h'
  rw [h] at h'
  injection h' with h'
  injection h' with _ ht
  exact hne ht
theorem Blk.one {a : Value} (h : Blk w g t #[a]) : g < w.heap.size ∧ w.cell? ⟨g, 0, none⟩ = some a ∧ w.frozen? ⟨g, 0, none⟩ = false := ⟨h.lt, h.cell 0, h.frozen 0⟩
theorem Blk.two {a b : Value} (h : Blk w g t #[a, b]) : g < w.heap.size ∧ w.cell? ⟨g, 0, none⟩ = some a ∧ w.frozen? ⟨g, 0, none⟩ = false ∧ w.cell? ⟨g, 1, none⟩ = some b ∧ w.frozen? ⟨g, 1, none⟩ = false :=
  ⟨h.lt, h.cell 0, h.frozen 0, h.cell 1, h.frozen 1⟩
theorem Blk.three {a b c : Value} (h : Blk w g t #[a, b, c]) : g < w.heap.size ∧ w.cell? ⟨g, 0, none⟩ = some a ∧ w.frozen? ⟨g, 0, none⟩ = false ∧ w.cell? ⟨g, 1, none⟩ = some b ∧ w.frozen? ⟨g, 1, none⟩ = false ∧ w.cell? ⟨g, 2, none⟩ = some c ∧ w.frozen? ⟨g, 2, none⟩ = false :=
  ⟨h.lt, h.cell 0, h.frozen 0, h.cell 1, h.frozen 1, h.cell 2, h.frozen 2⟩
theorem own_blk_ne {base : Nat} {e : TypeId} {size n : Nat} {v : Value} {xs : List Value} (h : w.ownsRow base e size v n xs) (hg : Blk w g t cs) (hne : e ≠ t) : v.ownBlock ≠ some g := by
  rcases h.2 with ⟨rfl, _⟩ | ⟨g', cap, cur, rfl, _, hh, _⟩
  · simp [Value.ownBlock]
  · intro he
    have : g' = g := by simpa [Value.ownBlock] using he
    subst this
    exact Blk.ne_ (t := e) hh hg hne rfl
end

/-! Frames, read backward from the walk's last world. -/
section
variable {w a b : World} {row : Option Nat}
theorem gDrew (h : w.grownBy a row) : w.grownBy a.drew row := ⟨h.os, h.tape, h.output, h.size, h.block⟩
theorem gSet (h : w.grownBy a row) (p : Addr) (u : Value) (hp : row = some p.block ∨ w.heap.size ≤ p.block) : w.grownBy (a.setCell p u) row :=
  ⟨h.os, h.tape, h.output, by simpa [World.setCell] using h.size, fun k hk hne => by
    rw [Below.heap_setCell _ _ _ _ (by rintro rfl; rcases hp with e | e; exact hne e.symm; omega)]
    exact h.block k hk hne⟩
theorem gStR {g i : Nat} {u : Value} (h : w.grownBy a (some g)) : w.grownBy (a.setCell ⟨g, i, none⟩ u) (some g) := gSet h _ _ (.inl rfl)
theorem gGrown {r : Option Nat} (h : w.grownBy a row) (hb : a.grownBy b r) (hr : ∀ j, r = some j → row = some j ∨ w.heap.size ≤ j) : w.grownBy b row :=
  ⟨hb.os.trans h.os, hb.tape.trans h.tape, hb.output.trans h.output, Nat.le_trans h.size hb.size, fun k hk hne =>
    (hb.block k (Nat.lt_of_lt_of_le hk h.size) (fun e => by rcases hr k e.symm with e' | e'; exact hne e'.symm; omega)).trans (h.block k hk hne)⟩
theorem grown_of_below (h : Below w.heap.size w a) (row : Option Nat) : w.grownBy a row := ⟨h.os, h.tape, h.output, h.size, fun k hk _ => h.block k hk⟩
end

/-! What a range over a function does to blocks that are no cells leaves cells alone. -/
section
variable {w w' : World} {g : Nat} {t : TypeId} {cs : Array Value} {row : Option Nat}
theorem own_own_ne {base base' : Nat} {e e' : TypeId} {size size' n n' : Nat} {v v' : Value} {xs xs' : List Value} (h : w.ownsRow base e size v n xs) (h' : w.ownsRow base' e' size' v' n' xs') (hne : e ≠ e') : v.ownBlock = none ∨ v.ownBlock ≠ v'.ownBlock := by
  rcases h.2 with ⟨rfl, _⟩ | ⟨g, cap, cur, rfl, _, hh, _⟩
  · exact .inl rfl
  · refine .inr (fun e0 => ?_)
    rcases h'.2 with ⟨rfl, _⟩ | ⟨g', cap', cur', rfl, _, hh', _⟩
    · simp [Value.ownBlock] at e0
    · have : g = g' := by simpa [Value.ownBlock] using e0
      subst this
      rw [hh] at hh'
      injection hh' with hh'
      injection hh' with _ ht
      exact hne ht
theorem own_alloc_st {base : Nat} {e : TypeId} {size n b i : Nat} {v u : Value} {xs : List Value} (h : w.ownsRow base e size v n xs) (hb : Blk w b t cs) (hne : e ≠ t) : (w.setCell ⟨b, i, none⟩ u).ownsRow base e size v n xs :=
  h.kept (row := some b) (gSet (World.grownBy.refl _ _) _ _ (.inl rfl)) (.inr (own_blk_ne h hb hne))
end

/-! Behind 'x = append(x, ..)', x a variable in the block B: what else lay lies. -/


/-! Sizes -/
theorem size_alloc' (w : World) (o : Obj) : (w.alloc o).heap.size = w.heap.size + 1 := by simp
end Go.Proofs.Ytpnkhgjjlionnaa
namespace Go.Proofs.Ytpnkhgjjlionnaa
open Go.RowKit Go.Maps



/-- Block b is a map of bools: true at the keys of the list. -/
def MapB (P : Program) (k e : TypeId) (w : World) (b n : Nat) (seen : List Value) : Prop :=
  ∃ D : DataW Unit, w.ownsMap P k (plainElem P e) b n D ∧ IsMap D ∧ ∀ key kl, keyOf P k key = some kl → ∃ x, D.atKey kl (.lit (.bool false)) = .lit (.bool x) ∧ (x = true ↔ key ∈ seen)
theorem plainElem_bool_inv {P : Program} {e : TypeId} (he : P.underlying e = some .bool) {v : Value} {z : DataW Unit × List MemPlace} (h : plainElem P e v = some z) : ∃ x, v = .bool x ∧ z = (.lit (.bool x), []) := by
  unfold plainElem at h
  rw [he] at h
  cases v <;> simp at h
  exact ⟨_, rfl, h.symm⟩
section
variable {P : Program} {k e : TypeId} {w : World} {b n : Nat} {seen : List Value}
theorem MapB.made (w : World) (P : Program) (k e : TypeId) : MapB P k e (w.alloc (.map #[] 0)) w.heap.size 0 [] :=
  ⟨_, World.ownsMap_made _ _ _ _, isMap_empty, fun _ _ _ => ⟨false, rfl, by simp⟩⟩
theorem MapB.kept {w' : World} {row : Option Nat} (h : MapB P k e w b n seen) (hg : w.grownBy w' row) (hne : some b ≠ row) : MapB P k e w' b n seen := by
  obtain ⟨D, h1, h2⟩ := h
  exact ⟨D, h1.kept hg hne, h2⟩
theorem MapB.look {t : TypeId} (h : MapB P k e w b n seen) (K : Keyed P k) (ht : P.underlying t = some (.map k e)) (he : P.underlying e = some .bool) (hz : (zeroValue e).run P w = .ok (.bool false) w) {key : Value} {kl : Lit} (hkey : keyOf P k key = some kl) :
    ∃ x, (Instr.lookup t (.map (some b)) key false).run P w = .ok (.bool x) w ∧ (x = true ↔ key ∈ seen) := by
  obtain ⟨D, h1, _, h3⟩ := h
  obtain ⟨v, ps, hrun, hv⟩ := h1.lookup K ht hz (plainElem_bool he false) hkey
  obtain ⟨x, rfl, hx⟩ := plainElem_bool_inv he hv
  obtain ⟨x', hx', hi⟩ := h3 key kl hkey
  rw [hx'] at hx
  cases hx
  exact ⟨_, hrun, hi⟩
theorem MapB.store {t : TypeId} (h : MapB P k e w b n seen) (K : Keyed P k) (ht : P.underlying t = some (.map k e)) (he : P.underlying e = some .bool) (hn : n < maxLen) {key : Value} {kl : Lit} (hkey : keyOf P k key = some kl) :
    ∃ w', (Instr.mapUpdate t (.map (some b)) key (.bool true)).run P w = .ok () w' ∧ MapB P k e w' b (n + 1) (key :: seen) ∧ w.grownBy w' (some b) := by
  obtain ⟨D, h1, h2, h3⟩ := h
  obtain ⟨w', hrun, hown, hg⟩ := h1.update K ht hn hkey (plainElem_bool he true)
  refine ⟨w', hrun, ⟨_, hown, h2.put _ _, fun key' kl' hk' => ?_⟩, hg⟩
  by_cases ha : kl' = kl
  · subst ha
    obtain rfl := K.inj hk' hkey
    exact ⟨true, atKey_put_same h2 (K.key hkey) _ _, by simp⟩
  · obtain ⟨x, hx, hi⟩ := h3 key' kl' hk'
    refine ⟨x, by rw [atKey_put_other ha, hx], ?_⟩
    rw [hi, List.mem_cons]
    constructor
    · exact .inr
    · rintro (rfl | h)
      · rw [hk'] at hkey
        cases hkey
        exact absurd rfl ha
      · exact h
end

theorem keyOf_three {P : Program} {k e : TypeId} {q : IntKind} (A : WideMaps.ArrKey P k e 3) (he : P.underlying e = some (.int q)) (hsz : ∃ m, P.types.size = m + 1) {a b c : Int} (wa : (Lit.int q a).wf = true) (wb : (Lit.int q b).wf = true) (wc : (Lit.int q c).wf = true) :
    keyOf P k (.agg #[.int q a, .int q b, .int q c]) = some (.string (keyBytes [.int q a, .int q b, .int q c])) := by
  have hkt := A.keyType hsz
  obtain ⟨m, hm⟩ := hsz
  unfold keyOf
  simp only [A.hu]
  rw [if_pos (by simp [hkt, Value.formed, A.hu, A.size]), hm]
  unfold Program.keyLits
  simp only [A.hu, Value.cells]
  rw [if_pos (by rw [A.size]; rfl), show List.range 3 = [0, 1, 2] from rfl, List.mapM_cons, List.mapM_cons, List.mapM_cons, List.mapM_nil]
  simp [A.one, Program.keyLits, he, wa, wb, wc]
end Go.Proofs.Ytpnkhgjjlionnaa
namespace Go.Proofs.Ytpnkhgjjlionnaa
open Go.RowKit Go.Maps
open Go.MapKept (Stamped)

def intsV (zs : List Int) : List Value := zs.map (Value.int .i64)
open Classical in
noncomputable def upd (f : Value → List Int) (key : Value) (zs : List Int) : Value → List Int := fun y => if y = key then zs else f y
theorem upd_same (f : Value → List Int) (key : Value) (zs : List Int) : upd f key zs key = zs := by simp [upd]
theorem upd_other {f : Value → List Int} {key y : Value} {zs : List Int} (h : y ≠ key) : upd f key zs y = f y := by simp [upd, h]
/-- Block b is a map from keys of type k to rows (of one-cell elements e, from block 'base' on, apart from each other): at a key the numbers f says. -/
def Grp (P : Program) (k : TypeId) (base : Nat) (e : TypeId) (w : World) (b : Nat) (f : Value → List Int) : Prop :=
  ∃ es clock, w.heap[b]? = some (.map es clock) ∧ Stamped es clock ∧ (∀ x ∈ es.toList, ∃ l, keyOf P k x.key = some l) ∧
    (∀ x ∈ es.toList, w.ownsRow base e 1 x.val (f x.key).length (intsV (f x.key))) ∧
    (∀ x ∈ es.toList, ∀ y ∈ es.toList, x.key ≠ y.key → x.val.ownBlock = none ∨ x.val.ownBlock ≠ y.val.ownBlock) ∧
    (∀ key, (∀ x ∈ es.toList, x.key ≠ key) → f key = []) ∧ b < base
section
variable {P : Program} {k e : TypeId} {base b : Nat} {w : World} {f : Value → List Int}
theorem Grp.made (w : World) (P : Program) (k e : TypeId) {base : Nat} (h : w.heap.size < base) : Grp P k base e (w.alloc (.map #[] 0)) w.heap.size (fun _ => []) :=
  ⟨#[], 0, heap_alloc_new w _, MapKept.stamped_empty 0, by simp, by simp, by simp, fun _ _ => rfl, h⟩
theorem Grp.lt (h : Grp P k base e w b f) : b < w.heap.size := by
  obtain ⟨es, clock, hb, _⟩ := h
  exact (Array.getElem?_eq_some_iff.1 hb).1
theorem Grp.notRow (h : Grp P k base e w b f) {base' : Nat} {e' : TypeId} {s n : Nat} {v : Value} {xs : List Value} (hr : w.ownsRow base' e' s v n xs) : v.ownBlock ≠ some b := by
  obtain ⟨es, clock, hb, _⟩ := h
  intro e0
  rcases hr.2 with ⟨rfl, _⟩ | ⟨g, cap, cur, rfl, _, hh, _⟩
  · cases e0
  · have : g = b := by simpa [Value.ownBlock] using e0
    subst this
    rw [hh] at hb
    cases hb
theorem Grp.kept {w' : World} {row : Option Nat} (h : Grp P k base e w b f) (hg : w.grownBy w' row) (hne : some b ≠ row) (hr : ∀ v n xs, w.ownsRow base e 1 v n xs → v.ownBlock = none ∨ v.ownBlock ≠ row) : Grp P k base e w' b f := by
  have hlt := h.lt
  obtain ⟨es, clock, hb, h1, h2, h3, h4, h5, h6⟩ := h
  exact ⟨es, clock, (hg.block b hlt hne).trans hb, h1, h2, fun x hx => (h3 x hx).kept hg (hr _ _ _ (h3 x hx)), h4, h5, h6⟩
theorem Grp.alloc (h : Grp P k base e w b f) (o : Obj) : Grp P k base e (w.alloc o) b f := h.kept (World.grownBy_alloc w o none) (by simp) (fun v _ _ hv => by
  cases hb : v.ownBlock
  · exact .inl rfl
  · exact .inr (by simp))
theorem Grp.grown {w' : World} (h : Grp P k base e w b f) (hg : w.grownBy w' none) : Grp P k base e w' b f := h.kept hg (by simp) (fun v _ _ hv => by
  cases hb : v.ownBlock
  · exact .inl rfl
  · exact .inr (by simp))
/-- A row of elements of another type is written. -/
theorem Grp.row {w' : World} {base' : Nat} {e' : TypeId} {s n : Nat} {v : Value} {xs : List Value} (h : Grp P k base e w b f) (hr : w.ownsRow base' e' s v n xs) (hne : e ≠ e') (hg : w.grownBy w' v.ownBlock) : Grp P k base e w' b f :=
  h.kept hg (fun e0 => h.notRow hr e0.symm) (fun _ _ _ hv => own_own_ne hv hr hne)
/-- Another map is written. -/
theorem Grp.map {w' : World} {b' : Nat} {es : Array MapEntry} {clock : Nat} (h : Grp P k base e w b f) (hm : w.heap[b']? = some (.map es clock)) (hne : b ≠ b') (hg : w.grownBy w' (some b')) : Grp P k base e w' b f :=
  h.kept hg (by simpa using hne) (fun v _ _ hv => by
    rcases hv.2 with ⟨rfl, _⟩ | ⟨g, cap, cur, rfl, _, hh, _⟩
    · exact .inl rfl
    · refine .inr (fun e0 => ?_)
      have : g = b' := by simpa [Value.ownBlock] using e0
      subst this
      rw [hh] at hm
      cases hm)
theorem Grp.look {t E : TypeId} (h : Grp P k base e w b f) (K : Keyed P k) (ht : P.underlying t = some (.map k E)) (hz : (zeroValue E).run P w = .ok (.slice none 0 0) w) {key : Value} {kl : Lit} (hkey : keyOf P k key = some kl) :
    ∃ v, (Instr.lookup t (.map (some b)) key false).run P w = .ok v w ∧ w.ownsRow base e 1 v (f key).length (intsV (f key)) := by
  obtain ⟨es, clock, hb, h1, h2, h3, h4, h5, h6⟩ := h
  rcases K.find w hkey es.toList h2 with ⟨g1, g2⟩ | ⟨j, e0, g1, g2, g3⟩
  · refine ⟨.slice none 0 0, by simp [Instr.lookup, run_underlying ht, MapKept.run_getObj_map hb, K.check w _ hkey, g1, hz, Result.andThen], ?_⟩
    rw [h5 key g2]
    exact World.ownsRow_nil _ _ _ _
  · refine ⟨e0.val, by simp [Instr.lookup, run_underlying ht, MapKept.run_getObj_map hb, K.check w _ hkey, g1, Result.andThen], ?_⟩
    have := h3 e0 (List.mem_of_getElem? g2)
    rw [g3] at this
    exact this
theorem setBlock_grown {w : World} {es : Array MapEntry} {clock : Nat} (hb : w.heap[b]? = some (.map es clock)) (o : Obj) : w.grownBy (ChangeMaps.setBlock w b o) (some b) :=
  ⟨rfl, rfl, rfl, by simp [ChangeMaps.setBlock], fun i _ hi => ChangeMaps.heap_setBlock_other hb _ (fun e1 => hi (by rw [e1]))⟩
theorem mem_set_apart {l : List MapEntry} (hd : l.Pairwise (fun x y => x.key ≠ y.key)) {j : Nat} {e0 a : MapEntry} (h : l[j]? = some e0) {x : MapEntry} (hx : x ∈ l.set j a) : x = a ∨ (x ∈ l ∧ x.key ≠ e0.key) := by
  obtain ⟨i, hi⟩ := List.mem_iff_getElem?.1 hx
  rw [List.getElem?_set] at hi
  by_cases hij : j = i
  · subst hij
    have hlt := (List.getElem?_eq_some_iff.1 h).1
    rw [if_pos rfl, if_pos hlt] at hi
    exact .inl (Option.some.inj hi).symm
  · rw [if_neg hij] at hi
    refine .inr ⟨List.mem_of_getElem? hi, ?_⟩
    obtain ⟨h1, e1⟩ := List.getElem?_eq_some_iff.1 hi
    obtain ⟨h2, e2⟩ := List.getElem?_eq_some_iff.1 h
    have hp := List.pairwise_iff_getElem.1 hd
    rcases Nat.lt_or_gt_of_ne hij with hlt | hlt
    · have := hp j i h2 h1 hlt
      rw [e1, e2] at this
      exact fun e3 => this e3.symm
    · have := hp i j h1 h2 hlt
      rw [e1, e2] at this
      exact this
/-- Entered at a key: what is there, and the way back: what is stored at the stamp. -/
theorem Grp.entry {t E : TypeId} (h : Grp P k base e w b f) (K : Keyed P k) (ht : P.underlying t = some (.map k E)) (hz : ∀ u : World, (zeroValue E).run P u = .ok (.slice none 0 0) u) {key : Value} {kl : Lit} (hkey : keyOf P k key = some kl) :
    ∃ v st W1, (Instr.mapEntry t (.map (some b)) key).run P w = .ok (.tuple #[v, .int .i64 st]) W1 ∧ w.grownBy W1 (some b) ∧ W1.heap.size = w.heap.size ∧ Grp P k base e W1 b f ∧ W1.ownsRow base e 1 v (f key).length (intsV (f key)) ∧
      ∀ (W2 : World) (v' : Value) (zs' : List Int), W1.grownBy W2 v.ownBlock → W2.ownsRow base e 1 v' zs'.length (intsV zs') → (v'.ownBlock = v.ownBlock ∨ ∃ g, v'.ownBlock = some g ∧ W1.heap.size ≤ g) →
        ∃ W3, (Instr.entryStore t (.map (some b)) (.int .i64 st) v').run P W2 = .ok () W3 ∧ Grp P k base e W3 b (upd f key zs') ∧ W2.grownBy W3 (some b) := by
  have hblt := h.lt
  obtain ⟨es, clock, hb, h1, h2, h3, h4, h5, h6⟩ := h
  -- what is behind the entry: the key stands somewhere
  have claim : ∃ (es1 : Array MapEntry) (clock1 j : Nat) (e1 : MapEntry), (Instr.mapEntry t (.map (some b)) key).run P w = .ok (.tuple #[e1.val, goInt e1.born]) (ChangeMaps.setBlock w b (.map es1 clock1)) ∧ Stamped es1 clock1 ∧
      es1.toList[j]? = some e1 ∧ e1.key = key ∧ (∀ x ∈ es1.toList, ∃ l, keyOf P k x.key = some l) ∧ (∀ x ∈ es1.toList, w.ownsRow base e 1 x.val (f x.key).length (intsV (f x.key))) ∧
      (∀ x ∈ es1.toList, ∀ y ∈ es1.toList, x.key ≠ y.key → x.val.ownBlock = none ∨ x.val.ownBlock ≠ y.val.ownBlock) ∧ (∀ key, (∀ x ∈ es1.toList, x.key ≠ key) → f key = []) := by
    rcases K.find w hkey es.toList h2 with ⟨g1, g2⟩ | ⟨j, e0, g1, g2, g3⟩
    · refine ⟨es.push ⟨key, .slice none 0 0, clock⟩, clock + 1, es.size, ⟨key, .slice none 0 0, clock⟩, ?_, MapKept.stamped_push h1 g2, by simp, rfl, ?_, ?_, ?_, ?_⟩
      · simp [Instr.mapEntry, run_underlying ht, MapKept.run_getObj_map hb, K.check w false hkey, g1, hz, MapKept.run_setObj_map _ hb, Result.andThen, ChangeMaps.setBlock]
      · intro x hx
        simp only [Array.toList_push, List.mem_append, List.mem_singleton] at hx
        rcases hx with hx | rfl
        · exact h2 x hx
        · exact ⟨_, hkey⟩
      · intro x hx
        simp only [Array.toList_push, List.mem_append, List.mem_singleton] at hx
        rcases hx with hx | rfl
        · exact h3 x hx
        · rw [h5 key g2]
          exact World.ownsRow_nil _ _ _ _
      · intro x hx y hy hne
        simp only [Array.toList_push, List.mem_append, List.mem_singleton] at hx hy
        rcases hx with hx | rfl
        · rcases hy with hy | rfl
          · exact h4 x hx y hy hne
          · cases hv : x.val.ownBlock
            · exact .inl rfl
            · exact .inr (by simp [Value.ownBlock])
        · exact .inl rfl
      · intro u hu
        exact h5 u (fun x hx => hu x (by simp [hx]))
    · have hj : es[j]? = some e0 := by simpa using g2
      have hsame : es.modify j (fun e => { e with key := key }) = es := by
        apply Array.ext'
        rw [Array.toList_modify, ChangeMaps.modify_eq_set _ _ _ _ g2]
        have : ({ e0 with key := key } : MapEntry) = e0 := by rw [← g3]
        rw [this]
        exact WideElems.set_self _ _ _ g2
      refine ⟨es, clock, j, e0, ?_, h1, g2, g3, h2, h3, h4, h5⟩
      simp [Instr.mapEntry, run_underlying ht, MapKept.run_getObj_map hb, K.check w false hkey, g1, hj, g3, K.stays w hkey, hsame, MapKept.run_setObj_map _ hb, Result.andThen, ChangeMaps.setBlock]
  obtain ⟨es1, clock1, j, e1, c0, c1, c2, c3, c4, c5, c6, c7⟩ := claim
  have hgw := setBlock_grown hb (.map es1 clock1)
  have hne_b : ∀ {u : World} {v : Value} {n : Nat} {xs : List Value}, u.ownsRow base e 1 v n xs → v.ownBlock = none ∨ v.ownBlock ≠ some b := fun {u v n xs} hv => by
    cases hb' : v.ownBlock
    · exact .inl rfl
    · refine .inr (fun e2 => ?_)
      have := (hv.lt _ hb').1
      cases e2
      omega
  have hrows : ∀ x ∈ es1.toList, (ChangeMaps.setBlock w b (.map es1 clock1)).ownsRow base e 1 x.val (f x.key).length (intsV (f x.key)) := fun x hx => (c5 x hx).kept hgw (hne_b (c5 x hx))
  have hm1 : (ChangeMaps.setBlock w b (.map es1 clock1)).heap[b]? = some (.map es1 clock1) := ChangeMaps.heap_setBlock_same hb _
  have m1 := List.mem_of_getElem? c2
  refine ⟨e1.val, e1.born, _, c0, hgw, by simp [ChangeMaps.setBlock], ⟨es1, clock1, hm1, c1, c4, hrows, c6, c7, h6⟩, by have := hrows e1 m1; rw [c3] at this; exact this, ?_⟩
  intro W2 v' zs' hg hown hloc
  have hbW : (ChangeMaps.setBlock w b (.map es1 clock1)).heap.size = w.heap.size := by simp [ChangeMaps.setBlock]
  have hvb : some b ≠ e1.val.ownBlock := fun e2 => by
    rcases hne_b (hrows e1 m1) with h | h
    · rw [h] at e2; cases e2
    · exact h e2.symm
  have hm2 : W2.heap[b]? = some (.map es1 clock1) := (hg.block b (by rw [hbW]; exact hblt) hvb).trans hm1
  obtain ⟨s1, s2, s3⟩ := (MapKept.stamped_iff es1 clock1).1 c1
  have hidx : es1.findIdx? (fun e => ((e.born : Nat) : Int) == ((e1.born : Nat) : Int)) = some j := by
    rw [WideElems.findIdx_arr]
    exact WideElems.findIdx_born s2 c2
  have hset : (es1.modify j (fun e => { e with val := v' })).toList = es1.toList.set j { e1 with val := v' } := by
    rw [Array.toList_modify, ChangeMaps.modify_eq_set _ _ _ _ c2]
  have hgw2 := setBlock_grown hm2 (.map (es1.modify j (fun e => { e with val := v' })) clock1)
  have hmem : ∀ x ∈ (es1.modify j (fun e => { e with val := v' })).toList, x = { e1 with val := v' } ∨ (x ∈ es1.toList ∧ x.key ≠ key) := by
    intro x hx
    rw [hset] at hx
    rcases mem_set_apart s3 c2 hx with h | ⟨h, h'⟩
    · exact .inl h
    · exact .inr ⟨h, by rw [← c3]; exact h'⟩
  have old : ∀ x ∈ es1.toList, x.key ≠ key → x.val.ownBlock = none ∨ x.val.ownBlock ≠ e1.val.ownBlock := fun x hx hne => c6 x hx e1 m1 (by rw [c3]; exact hne)
  have old_new : ∀ x ∈ es1.toList, x.key ≠ key → x.val.ownBlock = none ∨ x.val.ownBlock ≠ v'.ownBlock := by
    intro x hx hne
    rcases hloc with g1 | ⟨g, g1, g2⟩
    · rw [g1]
      exact old x hx hne
    · cases hx' : x.val.ownBlock
      · exact .inl rfl
      · refine .inr (fun e2 => ?_)
        have := ((hrows x hx).lt _ hx').2
        rw [g1] at e2
        cases e2
        omega
  refine ⟨ChangeMaps.setBlock W2 b (.map (es1.modify j (fun e => { e with val := v' })) clock1), ?_, ⟨_, clock1, ChangeMaps.heap_setBlock_same hm2 _, ?_, ?_, ?_, ?_, ?_, h6⟩, hgw2⟩
  · have hidx' : es1.findIdx? (fun e => ((e.born : Nat) : Int) == ((e1.born : Nat) : Int)) = some j := hidx
    simp [Instr.entryStore, MapKept.run_getObj_map hm2, asInt, asIntOf, hidx', MapKept.run_setObj_map _ hm2, Result.andThen, ChangeMaps.setBlock]
  · exact MapKept.stamped_modify c1 j _ (fun _ _ => rfl) (fun _ _ _ => rfl)
  · intro x hx
    rcases hmem x hx with rfl | ⟨hx, _⟩
    · exact c4 e1 m1
    · exact c4 x hx
  · intro x hx
    rcases hmem x hx with rfl | ⟨hx, hne⟩
    · simp only [c3, upd_same]
      exact hown.kept hgw2 (hne_b hown)
    · simp only [upd_other hne]
      have r2 := (hrows x hx).kept hg (old x hx hne)
      exact r2.kept hgw2 (hne_b r2)
  · intro x hx y hy hne
    rcases hmem x hx with rfl | ⟨hx, hxk⟩ <;> rcases hmem y hy with rfl | ⟨hy, hyk⟩
    · exact absurd rfl hne
    · show v'.ownBlock = none ∨ v'.ownBlock ≠ y.val.ownBlock
      cases hv : v'.ownBlock
      · exact .inl rfl
      · refine .inr (fun e2 => ?_)
        rcases old_new y hy hyk with h | h
        · rw [h] at e2; cases e2
        · exact h (by rw [hv, e2])
    · exact old_new x hx hxk
    · exact c6 x hx y hy hne
  · intro u hu
    have huk : u ≠ key := fun e2 => hu { e1 with val := v' } (by rw [hset]; exact List.mem_iff_getElem?.2 ⟨j, by rw [List.getElem?_set, if_pos rfl, if_pos (List.getElem?_eq_some_iff.1 c2).1]⟩) (by rw [e2]; exact c3)
    rw [upd_other huk]
    refine c7 u (fun x hx e2 => ?_)
    obtain ⟨i, hi⟩ := List.mem_iff_getElem?.1 hx
    have hij : j ≠ i := fun e3 => by
      subst e3
      rw [c2] at hi
      cases hi
      exact huk (e2.symm.trans c3)
    exact hu x (by rw [hset]; exact List.mem_iff_getElem?.2 ⟨i, by rw [List.getElem?_set, if_neg hij]; exact hi⟩) e2
theorem wpList_lookupG {ops : Array Oper} {rest : List Oper} {o : Oper} {a : Act} {Q : Exit → Act → World → Prop} (h : Grp P k base e w b f)
    (hg : o.guard = none) (m x : Operand) (t E : TypeId) (hop : o.op = Op.lookup t m x false) (K : Keyed P k) (ht : P.underlying t = some (.map k E)) (hz : (zeroValue E).run P w = .ok (.slice none 0 0) w)
    (hm : a.eval m = .map (some b)) (key : Value) (hx : a.eval x = key) {kl : Lit} (hkey : keyOf P k key = some kl)
    (hK : ∀ v, w.ownsRow base e 1 v (f key).length (intsV (f key)) → wpList P ops Q rest (a.put o.dst v) w) : wpList P ops Q (o :: rest) a w := by
  refine wpList_plain hg fun K' hK' => ?_
  obtain ⟨v, hrun, r1⟩ := h.look K ht hz hkey
  unfold Oper.wp
  simp [execOp, hop, hm, hx, hrun, Result.andThen]
  exact hK' _ _ (hK v r1)
theorem wpList_entryG {ops : Array Oper} {rest : List Oper} {o : Oper} {a : Act} {Q : Exit → Act → World → Prop} (h : Grp P k base e w b f)
    (hg : o.guard = none) (m x : Operand) (t E : TypeId) (hop : o.op = Op.mapEntry t m x) (K : Keyed P k) (ht : P.underlying t = some (.map k E)) (hz : ∀ u : World, (zeroValue E).run P u = .ok (.slice none 0 0) u)
    (hm : a.eval m = .map (some b)) (key : Value) (hx : a.eval x = key) {kl : Lit} (hkey : keyOf P k key = some kl)
    (hK : ∀ v st W1, w.grownBy W1 (some b) → W1.heap.size = w.heap.size → Grp P k base e W1 b f → W1.ownsRow base e 1 v (f key).length (intsV (f key)) →
      (∀ (W2 : World) (v' : Value) (zs' : List Int), W1.grownBy W2 v.ownBlock → W2.ownsRow base e 1 v' zs'.length (intsV zs') → (v'.ownBlock = v.ownBlock ∨ ∃ g, v'.ownBlock = some g ∧ W1.heap.size ≤ g) →
        ∃ W3, (Instr.entryStore t (.map (some b)) (.int .i64 st) v').run P W2 = .ok () W3 ∧ Grp P k base e W3 b (upd f key zs') ∧ W2.grownBy W3 (some b)) →
      wpList P ops Q rest (a.put o.dst (.tuple #[v, .int .i64 st])) W1) : wpList P ops Q (o :: rest) a w := by
  refine wpList_plain hg fun K' hK' => ?_
  obtain ⟨v, st, W1, hrun, r1, r2, r3, r4, r5⟩ := h.entry K ht hz hkey
  unfold Oper.wp
  simp [execOp, hop, hm, hx, hrun, Result.andThen]
  exact hK' _ _ (hK v st W1 r1 r2 r3 r4 r5)
end
end Go.Proofs.Ytpnkhgjjlionnaa
namespace Go.Proofs.Ytpnkhgjjlionnaa
open Go.RowKit Go.Maps
open Go.MapKept (Stamped)

open Classical in
noncomputable def updP (f : Value → Option Value) (key v : Value) : Value → Option Value := fun y => if y = key then some v else f y
theorem updP_same (f : Value → Option Value) (key v : Value) : updP f key v key = some v := by simp [updP]
theorem updP_other {f : Value → Option Value} {key y v : Value} (h : y ≠ key) : updP f key v y = f y := by simp [updP, h]
/-- Block b is a map from keys of type k: it holds what f says. -/
def MapP (P : Program) (k : TypeId) (w : World) (b : Nat) (f : Value → Option Value) : Prop :=
  ∃ es clock, w.heap[b]? = some (.map es clock) ∧ Stamped es clock ∧ (∀ x ∈ es.toList, ∃ l, keyOf P k x.key = some l) ∧ (∀ x ∈ es.toList, f x.key = some x.val) ∧ ∀ key, (∀ x ∈ es.toList, x.key ≠ key) → f key = none
section
variable {P : Program} {k : TypeId} {b : Nat} {w : World} {f : Value → Option Value}
theorem MapP.made (w : World) (P : Program) (k : TypeId) : MapP P k (w.alloc (.map #[] 0)) w.heap.size (fun _ => none) := ⟨#[], 0, heap_alloc_new w _, MapKept.stamped_empty 0, by simp, by simp, fun _ _ => rfl⟩
theorem MapP.obj (h : MapP P k w b f) : ∃ es clock, w.heap[b]? = some (.map es clock) := by
  obtain ⟨es, clock, hb, _⟩ := h
  exact ⟨es, clock, hb⟩
theorem MapP.lt (h : MapP P k w b f) : b < w.heap.size := by
  obtain ⟨es, clock, hb, _⟩ := h
  exact (Array.getElem?_eq_some_iff.1 hb).1
theorem MapP.kept {w' : World} {row : Option Nat} (h : MapP P k w b f) (hg : w.grownBy w' row) (hne : some b ≠ row) : MapP P k w' b f := by
  have hlt := h.lt
  obtain ⟨es, clock, hb, h1⟩ := h
  exact ⟨es, clock, (hg.block b hlt hne).trans hb, h1⟩
theorem MapP.below {w' : World} {B : Nat} (h : MapP P k w b f) (hb : Below B w w') (hB : b < B) : MapP P k w' b f := by
  obtain ⟨es, clock, hb', h1⟩ := h
  exact ⟨es, clock, (hb.block b hB).trans hb', h1⟩
theorem MapP.alloc (h : MapP P k w b f) (o : Obj) : MapP P k (w.alloc o) b f := h.kept (World.grownBy_alloc w o none) (by simp)
theorem MapP.drew (h : MapP P k w b f) : MapP P k w.drew b f := h
theorem MapP.congr {f' : Value → Option Value} (h : MapP P k w b f) (he : ∀ y, f y = f' y) : MapP P k w b f' := by
  have : f = f' := funext he
  rw [← this]
  exact h
theorem MapP.look {t E : TypeId} {z : Value} (h : MapP P k w b f) (K : Keyed P k) (ht : P.underlying t = some (.map k E)) (hz : (zeroValue E).run P w = .ok z w) {key : Value} {kl : Lit} (hkey : keyOf P k key = some kl) :
    (Instr.lookup t (.map (some b)) key false).run P w = .ok ((f key).getD z) w := by
  obtain ⟨es, clock, hb, h1, h2, h3, h4⟩ := h
  rcases K.find w hkey es.toList h2 with ⟨g1, g2⟩ | ⟨j, e0, g1, g2, g3⟩
  · rw [h4 key g2]
    simp [Instr.lookup, run_underlying ht, MapKept.run_getObj_map hb, K.check w _ hkey, g1, hz, Result.andThen]
  · have := h3 e0 (List.mem_of_getElem? g2)
    rw [g3] at this
    rw [this]
    simp [Instr.lookup, run_underlying ht, MapKept.run_getObj_map hb, K.check w _ hkey, g1, Result.andThen]
theorem MapP.lookOk {t E : TypeId} {z : Value} (h : MapP P k w b f) (K : Keyed P k) (ht : P.underlying t = some (.map k E)) (hz : (zeroValue E).run P w = .ok z w) {key : Value} {kl : Lit} (hkey : keyOf P k key = some kl) :
    (Instr.lookup t (.map (some b)) key true).run P w = .ok (.tuple #[(f key).getD z, .bool (f key).isSome]) w := by
  obtain ⟨es, clock, hb, h1, h2, h3, h4⟩ := h
  rcases K.find w hkey es.toList h2 with ⟨g1, g2⟩ | ⟨j, e0, g1, g2, g3⟩
  · rw [h4 key g2]
    simp [Instr.lookup, run_underlying ht, MapKept.run_getObj_map hb, K.check w _ hkey, g1, hz, Result.andThen]
  · have := h3 e0 (List.mem_of_getElem? g2)
    rw [g3] at this
    rw [this]
    simp [Instr.lookup, run_underlying ht, MapKept.run_getObj_map hb, K.check w _ hkey, g1, Result.andThen]
theorem MapP.store {t E : TypeId} (h : MapP P k w b f) (K : Keyed P k) (ht : P.underlying t = some (.map k E)) {key : Value} {kl : Lit} (hkey : keyOf P k key = some kl) (v : Value) :
    ∃ w', (Instr.mapUpdate t (.map (some b)) key v).run P w = .ok () w' ∧ MapP P k w' b (updP f key v) ∧ w.grownBy w' (some b) ∧ w'.heap.size = w.heap.size := by
  obtain ⟨es, clock, hb, h1, h2, h3, h4⟩ := h
  obtain ⟨s1, s2, s3⟩ := (MapKept.stamped_iff es clock).1 h1
  rcases K.find w hkey es.toList h2 with ⟨g1, g2⟩ | ⟨j, e0, g1, g2, g3⟩
  · refine ⟨ChangeMaps.setBlock w b (.map (es.push ⟨key, v, clock⟩) (clock + 1)), by simp [Instr.mapUpdate, run_underlying ht, MapKept.run_getObj_map hb, K.check w _ hkey, g1, MapKept.run_setObj_map _ hb, Result.andThen, ChangeMaps.setBlock],
      ⟨_, _, ChangeMaps.heap_setBlock_same hb _, MapKept.stamped_push h1 g2, ?_, ?_, ?_⟩, setBlock_grown hb _, by simp [ChangeMaps.setBlock]⟩
    · intro x hx
      simp only [Array.toList_push, List.mem_append, List.mem_singleton] at hx
      rcases hx with hx | rfl
      · exact h2 x hx
      · exact ⟨_, hkey⟩
    · intro x hx
      simp only [Array.toList_push, List.mem_append, List.mem_singleton] at hx
      rcases hx with hx | rfl
      · rw [updP_other (g2 x hx)]
        exact h3 x hx
      · exact updP_same _ _ _
    · intro u hu
      have huk : u ≠ key := fun e2 => hu ⟨key, v, clock⟩ (by simp) e2.symm
      rw [updP_other huk]
      exact h4 u (fun x hx => hu x (by simp [hx]))
  · have hset' : (es.modify j (fun e => { e with val := v })).toList = es.toList.set j { e0 with val := v } := by
      rw [Array.toList_modify, ChangeMaps.modify_eq_set _ _ _ _ g2]
    have hsame : es.modify j (fun e => { e with key := key, val := v }) = es.modify j (fun e => { e with val := v }) := by
      apply Array.ext'
      rw [hset', Array.toList_modify, ChangeMaps.modify_eq_set _ _ _ _ g2, ← g3]
    have hj : es[j]? = some e0 := by simpa using g2
    have hmem : ∀ x ∈ (es.modify j (fun e => { e with val := v })).toList, x = { e0 with val := v } ∨ (x ∈ es.toList ∧ x.key ≠ key) := by
      intro x hx
      rw [hset'] at hx
      rcases mem_set_apart s3 g2 hx with h | ⟨h, h'⟩
      · exact .inl h
      · exact .inr ⟨h, by rw [← g3]; exact h'⟩
    have m0 := List.mem_of_getElem? g2
    refine ⟨ChangeMaps.setBlock w b (.map (es.modify j (fun e => { e with val := v })) clock), ?_,
      ⟨_, _, ChangeMaps.heap_setBlock_same hb _, MapKept.stamped_modify h1 j _ (fun _ _ => rfl) (fun _ _ _ => rfl), ?_, ?_, ?_⟩, setBlock_grown hb _, by simp [ChangeMaps.setBlock]⟩
    · simp [Instr.mapUpdate, run_underlying ht, MapKept.run_getObj_map hb, K.check w _ hkey, g1, hj, g3, K.stays w hkey, hsame, MapKept.run_setObj_map _ hb, Result.andThen, ChangeMaps.setBlock]
    · intro x hx
      rcases hmem x hx with rfl | ⟨hx, _⟩
      · exact h2 e0 m0
      · exact h2 x hx
    · intro x hx
      rcases hmem x hx with rfl | ⟨hx, hne⟩
      · simp only [g3]
        exact updP_same _ _ _
      · rw [updP_other hne]
        exact h3 x hx
    · intro u hu
      have huk : u ≠ key := fun e2 => hu { e0 with val := v } (by rw [hset']; exact List.mem_iff_getElem?.2 ⟨j, by rw [List.getElem?_set, if_pos rfl, if_pos (List.getElem?_eq_some_iff.1 g2).1]⟩) (by rw [e2]; exact g3)
      rw [updP_other huk]
      refine h4 u (fun x hx e2 => ?_)
      obtain ⟨i, hi⟩ := List.mem_iff_getElem?.1 hx
      have hij : j ≠ i := fun e3 => by
        subst e3
        rw [g2] at hi
        cases hi
        exact huk (e2.symm.trans g3)
      exact hu x (by rw [hset']; exact List.mem_iff_getElem?.2 ⟨i, by rw [List.getElem?_set, if_neg hij]; exact hi⟩) e2
theorem wpList_storeP {ops : Array Oper} {rest : List Oper} {o : Oper} {a : Act} {Q : Exit → Act → World → Prop} (h : MapP P k w b f)
    (hg : o.guard = none) (m x v : Operand) (t E : TypeId) (hop : o.op = Op.mapUpdate t m x v ∨ o.op = Op.insert t m x v) (K : Keyed P k) (ht : P.underlying t = some (.map k E))
    (hm : a.eval m = .map (some b)) (key vv : Value) (hx : a.eval x = key) (hv : a.eval v = vv) {kl : Lit} (hkey : keyOf P k key = some kl)
    (hK : ∀ w', MapP P k w' b (updP f key vv) → w.grownBy w' (some b) → w.heap.size ≤ w'.heap.size → wpList P ops Q rest (a.put o.dst undef) w') : wpList P ops Q (o :: rest) a w := by
  refine wpList_plain hg fun K' hK' => ?_
  obtain ⟨w', hrun, r1, r2, r3⟩ := h.store K ht hkey vv
  unfold Oper.wp
  rcases hop with hop | hop <;> simp [execOp, hop, hm, hx, hv, hrun, Result.andThen] <;> exact hK' _ _ (hK w' r1 r2 (by omega))
end
end Go.Proofs.Ytpnkhgjjlionnaa
namespace Go.Proofs.Ytpnkhgjjlionnaa
open Go.RowKit

/-- How two rows of numbers stand. -/
def cmpL : List Int → List Int → Int
  | [], [] => 0
  | [], _ :: _ => -1
  | _ :: _, [] => 1
  | x :: xs, y :: ys => if x < y then -1 else if y < x then 1 else cmpL xs ys
def cmpI (x y : Int) : Int := if x < y then -1 else if y < x then 1 else 0
theorem cmpL_drop {xs ys : List Int} {k : Nat} (h1 : k < xs.length) (h2 : k < ys.length) : cmpL (xs.drop k) (ys.drop k) = if cmpI xs[k] ys[k] = 0 then cmpL (xs.drop (k + 1)) (ys.drop (k + 1)) else cmpI xs[k] ys[k] := by
  rw [List.drop_eq_getElem_cons h1, List.drop_eq_getElem_cons h2]
  unfold cmpI
  simp only [cmpL]
  by_cases ha : xs[k] < ys[k]
  · simp [ha]
  · by_cases hb : ys[k] < xs[k]
    · simp [ha, hb]
    · simp [ha, hb]
set_option maxRecDepth 100000 in
theorem compareI_any (x y : Int) (w : World) : Calls Try.prog 91 #[.int .i64 x, .int .i64 y] w fun e w' => e = .returned (.int .i64 (cmpI x y)) ∧ w' = w := by
  by_cases h1 : x < y
  · have hd : cmpI x y = -1 := by simp [cmpI, h1]
    have b1 : decide (x < y) = true := by simpa using h1
    have HD := Lib.hid hd
    clear h1 hd
    go_enter Try.func91, Try.ntmps91
    go_wp2
    go_ret
    exact ⟨by rw [HD.out]; rfl, rfl⟩
  · by_cases h2 : y < x
    · have hd : cmpI x y = 1 := by simp [cmpI, h1, h2]
      have b1 : decide (x < y) = false := by simpa using h1
      have b2 : decide (y < x) = true := by simpa using h2
      have HD := Lib.hid hd
      clear h1 h2 hd
      go_enter Try.func91, Try.ntmps91
      go_wp2
      go_ret
      exact ⟨by rw [HD.out]; rfl, rfl⟩
    · have hd : cmpI x y = 0 := by simp [cmpI, h1, h2]
      have b1 : decide (x < y) = false := by simpa using h1
      have b2 : decide (y < x) = false := by simpa using h2
      have HD := Lib.hid hd
      clear h1 h2 hd
      go_enter Try.func91, Try.ntmps91
      go_wp2
      go_ret
      exact ⟨by rw [HD.out]; rfl, rfl⟩
/-- A slice of numbers, as it is read. -/
def IntsRd (w : World) (v : Value) (xs : List Int) : Prop := ∃ a c, v = .slice a xs.length c ∧ xs.length ≤ 9223372036854775807 ∧ ∀ k x, xs[k]? = some x → ∃ b o, a = some ⟨b, o, none⟩ ∧ b < w.heap.size ∧ w.cell? ⟨b, o + k, none⟩ = some (.int .i64 x)
theorem IntsRd.of_row {w : World} {base n : Nat} {v : Value} {xs : List Int} (h : w.ownsRow base 3 1 v n (xs.map (Value.int .i64))) (hn : xs.length = n) : IntsRd w v xs := by
  rcases h.2 with ⟨rfl, h0⟩ | ⟨g, cap, cur, rfl, _, _, h1, h2, _⟩
  · have : xs = [] := List.eq_nil_of_length_eq_zero (by omega)
    subst this
    exact ⟨none, 0, rfl, by simp, fun k x hx => by simp at hx⟩
  · subst hn
    refine ⟨some ⟨g, 0, none⟩, cap, rfl, by unfold maxLen at h2; omega, fun k x hx => ⟨g, 0, rfl, (h.lt g rfl).2, ?_⟩⟩
    have hk := (List.getElem?_eq_some_iff.1 hx).1
    rw [Nat.zero_add, h.cellAt k (by omega), List.getElem?_map, hx]
    rfl

set_option maxRecDepth 100000 in
set_option maxHeartbeats 1000000 in
theorem compareL_any (v1 v2 : Value) (xs ys : List Int) (w : World) (h1 : IntsRd w v1 xs) (h2 : IntsRd w v2 ys) : Calls Try.prog 60 #[v1, v2] w fun e w' => e = .returned (.int .i64 (cmpL xs ys)) ∧ w' = w := by
  obtain ⟨a1, c1, rfl, l1, r1⟩ := h1
  obtain ⟨a2, c2, rfl, l2, r2⟩ := h2
  have R1 := Lib.hid r1
  have R2 := Lib.hid r2
  clear r1 r2
  go_enter Try.func60, Try.ntmps60
  go_wp2
  go_loop [11] (fun i => ∃ k : Nat, k ≤ xs.length ∧ k ≤ ys.length ∧ i = .int .i64 k ∧ cmpL xs ys = cmpL (xs.drop k) (ys.drop k)) (fun i => xs.length - (intOf i).toNat)
  case atStart => exact ⟨0, Nat.zero_le _, Nat.zero_le _, rfl, rfl⟩
  case round =>
    obtain ⟨k, hk1, hk2, rfl, hc⟩ := hrel
    by_cases hlt : k < xs.length
    · obtain ⟨b1, o1, rfl, hb1, s1⟩ := R1.out k _ (List.getElem?_eq_getElem hlt)
      by_cases hlt2 : k < ys.length
      · obtain ⟨b2, o2, rfl, hb2, s2⟩ := R2.out k _ (List.getElem?_eq_getElem hlt2)
        rw [cmpL_drop hlt hlt2] at hc
        generalize xs[k] = x at *
        generalize ys[k] = y at *
        have hge : decide ((ys.length : Int) ≤ (k : Int)) = false := by simp; omega
        by_cases h0 : cmpI x y = 0
        · rw [if_pos h0] at hc
          have HC := Lib.hid hc
          have H0 := Lib.hid h0
          clear hc h0
          go_wp2_with (go_at_call 91; refine (compareI_any _ _ _).mono ?_; rintro e w' ⟨rfl, rfl⟩; rw [H0.out])
          go_round
          case measure => simp [intOf]; omega
          case rel => exact ⟨k + 1, by omega, by omega, by go_num, HC.out⟩
        · rw [if_neg h0] at hc
          have hne : (cmpI x y != 0) = true := by simpa using h0
          have HC := Lib.hid hc
          clear hc h0
          go_wp2_with (go_at_call 91; refine (compareI_any _ _ _).mono ?_; rintro e w' ⟨rfl, rfl⟩)
          go_ret
          exact ⟨by rw [HC.out]; rfl, rfl⟩
      · obtain rfl : k = ys.length := by omega
        rw [List.drop_length, List.drop_eq_getElem_cons hlt] at hc
        have HC := Lib.hid hc
        clear hc
        go_wp2
        go_ret
        exact ⟨by rw [HC.out]; rfl, rfl⟩
    · obtain rfl : k = xs.length := by omega
      rw [List.drop_length] at hc
      by_cases hl : xs.length < ys.length
      · rw [List.drop_eq_getElem_cons hl] at hc
        have HC := Lib.hid hc
        clear hc
        go_wp2
        go_ret
        exact ⟨by rw [HC.out]; rfl, rfl⟩
      · rw [List.drop_eq_nil_of_le (by omega)] at hc
        have HC := Lib.hid hc
        clear hc
        go_wp2
        go_ret
        exact ⟨by rw [HC.out]; rfl, rfl⟩
end Go.Proofs.Ytpnkhgjjlionnaa
namespace Go.Proofs.Ytpnkhgjjlionnaa
open Go.RowKit

abbrev Tr := Int × Int × Int
def flatT (T : List Tr) : List Int := T.flatMap fun t => [t.1, t.2.1, t.2.2]
theorem flatT_length (T : List Tr) : (flatT T).length = 3 * T.length := by
  induction T with
  | nil => rfl
  | cons t r ih => simp only [flatT, List.flatMap_cons] at ih ⊢; simp only [List.length_append, ih, List.length_cons, List.length_nil]; omega
/-- Triangles, as they are read. -/
def TrisRd (w : World) (v : Value) (T : List Tr) : Prop := ∃ a c, v = .slice a T.length c ∧ T.length ≤ c ∧ c ≤ 9223372036854775807 ∧ ∀ (k : Nat) (x y z : Int), T[k]? = some (x, y, z) → ∃ b o, a = some ⟨b, o, none⟩ ∧ b < w.heap.size ∧ w.cell? ⟨b, o + k * 3, none⟩ = some (.int .i64 x) ∧ w.cell? ⟨b, o + k * 3 + 1, none⟩ = some (.int .i64 y) ∧ w.cell? ⟨b, o + k * 3 + 2, none⟩ = some (.int .i64 z)
theorem TrisRd.below {w w' : World} {v : Value} {T : List Tr} (h : TrisRd w v T) (hb : Below w.heap.size w w') : TrisRd w' v T := by
  obtain ⟨a, c, rfl, h1, h2, h3⟩ := h
  refine ⟨a, c, rfl, h1, h2, fun k x y z hk => ?_⟩
  obtain ⟨b, o, rfl, hl, s0, s1, s2⟩ := h3 k x y z hk
  exact ⟨b, o, rfl, Nat.lt_of_lt_of_le hl hb.size, (hb.cell (p := ⟨b, _, none⟩) hl).trans s0, (hb.cell (p := ⟨b, _, none⟩) hl).trans s1, (hb.cell (p := ⟨b, _, none⟩) hl).trans s2⟩
theorem TrisRd.alloc {w : World} {v : Value} {T : List Tr} (h : TrisRd w v T) (o : Obj) : TrisRd (w.alloc o) v T := h.below ((Below.refl _ _).alloc (Nat.le_refl _) _)
theorem TrisRd.drew {w : World} {v : Value} {T : List Tr} (h : TrisRd w v T) : TrisRd w.drew v T := h
/-- The numbers of a soup, in order. -/
def rowM (N : Int) (T : List Tr) : List Int := N :: (T.length : Int) :: flatT T
theorem infoI : (Try.prog.info? 3).map (fun i => (i.zero, i.size, i.bytes)) = some (some (.int .i64 0), 1, 8) := by kernel_rfl

set_option maxRecDepth 100000 in
set_option maxHeartbeats 1000000 in
theorem row_any (N : Int) (v : Value) (T : List Tr) (w : World) (h : TrisRd w v T) (hl : T.length ≤ 100000) : Calls Try.prog 61 #[.agg #[.int .i64 N, v]] w fun e w' => ∃ v', e = .returned v' ∧ w'.ownsRow w.heap.size 3 1 v' (2 + 3 * T.length) ((rowM N T).map (Value.int .i64)) ∧ Below w.heap.size w w' := by
  obtain ⟨i1, hi', hy0, hy1, hy2⟩ := info_parts infoI
  obtain ⟨a, c, rfl, hc1, hc2, hr⟩ := h
  have HR := Lib.hid hr
  have b1 := Blk.new w 24 #[.int .i64 N, .slice a T.length c]
  obtain ⟨l0, x0, -, x1, -⟩ := b1.two
  have hB0 : Below w.heap.size w (w.alloc (.cells #[.int .i64 N, .slice a T.length c] 24)) := (Below.refl _ _).alloc (Nat.le_refl _) _
  have r0 : ((w.alloc (.cells #[.int .i64 N, .slice a T.length c] 24)).alloc (.cells #[.int .i64 N, .int .i64 (T.length : Int)] 3)).ownsRow w.heap.size 3 1 (.slice (some ⟨w.heap.size + 1, 0, none⟩) 2 2) 2 [.int .i64 N, .int .i64 (T.length : Int)] := by
    have := World.ownsRow_lit (w.alloc (.cells #[.int .i64 N, .slice a T.length c] 24)) (base := w.heap.size) (e := 3) (size := 1) #[.int .i64 N, .int .i64 (T.length : Int)] 2 (by simp) (by decide) rfl
    rw [size_alloc'] at this
    exact this
  have hB1 := hB0.alloc hB0.size (.cells #[.int .i64 N, .int .i64 (T.length : Int)] 3)
  obtain ⟨n, hn⟩ : ∃ n, T.length = n := ⟨_, rfl⟩
  unfold rowM
  rw [hn] at hl hc1 x1 r0 hB0 hB1 b1 l0 ⊢
  have HN := Lib.hid hn
  clear hr hn
  go_enter Try.func61, Try.ntmps61
  go_wp2
  go_loopw [3, 15] (fun v3 i wr => ∃ (k : Nat) (v' : Value), v' = v3 ∧ k ≤ n ∧ i = .int .i64 k ∧ wr.ownsRow w.heap.size 3 1 v' (2 + 3 * k) ((N :: (n : Int) :: flatT (T.take k)).map (Value.int .i64)) ∧ Below w.heap.size w wr) (fun _ i _ => n - (intOf i).toNat)
  case atStart => exact ⟨0, _, rfl, Nat.zero_le _, rfl, r0, hB1⟩
  case round =>
    obtain ⟨k, v', rfl, hk, rfl, hrow, hB⟩ := hrel
    by_cases hlt : k < n
    · obtain ⟨t, ht⟩ : ∃ t, T[k]? = some t := ⟨T[k]'(by have := HN.out; omega), List.getElem?_eq_getElem _⟩
      obtain ⟨x, y, z⟩ := t
      obtain ⟨b, o, rfl, hbl, s0, s1, s2⟩ := HR.out k x y z ht
      have s0' := (hB.cell (p := ⟨b, _, none⟩) hbl).trans s0
      have s1' := (hB.cell (p := ⟨b, _, none⟩) hbl).trans s1
      have s2' := (hB.cell (p := ⟨b, _, none⟩) hbl).trans s2
      have hts : flatT (T.take (k + 1)) = flatT (T.take k) ++ [x, y, z] := by
        obtain ⟨hk', he⟩ := List.getElem?_eq_some_iff.1 ht
        rw [List.take_succ_eq_append_getElem hk', he]
        simp [flatT]
      have Hts := Lib.hid hts
      have hsz := hB.size
      have hk3 : (k : Int) < (n : Int) := by omega
      have hk0 : (0 : Int) ≤ (k : Int) := by omega
      have c3 : 2 + 3 * k + 3 ≤ maxLen := by unfold maxLen; omega
      have c4 : (2 + 3 * k + 3) * 8 ≤ 140737488355328 := by omega
      clear hts ht s0 s1 s2
      go_wp2_with (at_builtin; refine wpList_append_lies _ rfl (.tmp 19) (.tmp 20) 35 rfl w.heap.size 3 i1 _ 1 8 Try.underlying35 hi' hy0 hy1 hy2 rfl (by decide) _ _ _ rfl (hrow.alloc _) ⟨wr.heap.size, 0, none⟩ 3 3 [.int .i64 x, .int .i64 y, .int .i64 z] rfl rfl (World.news_of_block (heap_alloc_new _ _)) (by simp [Value.oneCell']) (by decide) c3 c4 (by rw [size_alloc']; omega) (wr.heap.size + 1) (by simp) ?_; intro g4 cap4 W4 hr4 hg4 _ _)
      go_roundw
      case measure => simp [intOf]; omega
      case rel =>
        refine ⟨k + 1, _, rfl, by omega, by go_num, ?_, hB.grown (gGrown (World.grownBy_alloc wr _ _) hg4 (row := v'.ownBlock) (fun _ e => .inl e)) hB.size (fun j e => (hrow.lt j e).1)⟩
        rw [Hts.out]
        have e1 : 2 + 3 * (k + 1) = 2 + 3 * k + 3 := by omega
        rw [e1]
        simpa using hr4
    · obtain rfl : k = n := by omega
      have hnn := HN.out
      rw [List.take_of_length_le (by omega)] at hrow
      have Hrow := Lib.hid hrow
      have HB := Lib.hid hB
      clear hrow hB hnn
      go_wp2
      go_ret
      exact ⟨_, rfl, Hrow.out, HB.out⟩
end Go.Proofs.Ytpnkhgjjlionnaa
namespace Go.Proofs.Ytpnkhgjjlionnaa
open Go.RowKit

/-- The cells of a row of triples. -/
def ws3 (ws : List Tr) : List Value := (flatT ws).map (Value.int .i64)
theorem ws3_snoc (ws : List Tr) (a b c : Int) : ws3 (ws ++ [(a, b, c)]) = ws3 ws ++ [.int .i64 a, .int .i64 b, .int .i64 c] := by simp [ws3, flatT]
theorem index_t0 (a b c : Value) (w : World) : (Instr.index 61 (.agg #[a, b, c]) (.int .i64 0)).run Try.prog w = .ok a w := by
  simp [Instr.index, run_underlying Try.underlying61, part, go_sem]
theorem index_t1 (a b c : Value) (w : World) : (Instr.index 61 (.agg #[a, b, c]) (.int .i64 1)).run Try.prog w = .ok b w := by
  simp [Instr.index, run_underlying Try.underlying61, part, go_sem]
theorem index_t2 (a b c : Value) (w : World) : (Instr.index 61 (.agg #[a, b, c]) (.int .i64 2)).run Try.prog w = .ok c w := by
  simp [Instr.index, run_underlying Try.underlying61, part, go_sem]
theorem heap_alloc_new2 (w : World) (o o' : Obj) : ((w.alloc o).alloc o').heap[w.heap.size + 1]? = some o' := by
  have h := heap_alloc_new (w.alloc o) o'
  rw [size_alloc'] at h
  exact h
theorem snoc_kind {ws : List Tr} {k : Int} {t : Tr} (h : ∀ x ∈ ws, x.1 = k) (ht : t.1 = k) : ∀ x ∈ ws ++ [t], x.1 = k := by
  intro x hx
  rcases List.mem_append.1 hx with hx | hx
  · exact h x hx
  · simp only [List.mem_singleton] at hx
    rw [hx, ht]
/-- What a list of witnesses says: of one kind, none just if nothing is wrong. -/
def WitsIs (w : World) (base : Nat) (v : Value) (kind : Int) (P : Prop) : Prop := ∃ ws : List Tr, w.ownsRow base 44 3 v ws.length (ws3 ws) ∧ (ws = [] ↔ P) ∧ (∀ x ∈ ws, x.1 = kind) ∧ ws.length ≤ 1000000000000
theorem infoWit : (Try.prog.info? 44).map (fun i => (i.zero, i.size, i.bytes)) = some (some (.agg #[.int .i64 0, .int .i64 0, .int .i64 0]), 3, 24) := by kernel_rfl
def simple3 (t : Tr) : Prop := t.1 ≠ t.2.1 ∧ t.2.1 ≠ t.2.2 ∧ t.2.2 ≠ t.1
theorem take_succ_all {α : Type} {p : α → Prop} {T : List α} {k : Nat} {t : α} (h : T[k]? = some t) : (∀ x ∈ T.take (k + 1), p x) ↔ (∀ x ∈ T.take k, p x) ∧ p t := by
  obtain ⟨hk, he⟩ := List.getElem?_eq_some_iff.1 h
  rw [List.take_succ_eq_append_getElem hk, he]
  constructor
  · exact fun hh => ⟨fun x hx => hh x (by simp [hx]), hh t (by simp)⟩
  · rintro ⟨h1, h2⟩ x hx
    rcases List.mem_append.1 hx with hx | hx
    · exact h1 x hx
    · simp only [List.mem_singleton] at hx
      subst hx
      exact h2

theorem simple3_parts (x y z : Int) : ((x == y) = false ∧ (y == z) = false ∧ (z == x) = false ∧ simple3 (x, y, z)) ∨ (((x == y) = true ∨ ((x == y) = false ∧ (y == z) = true) ∨ ((x == y) = false ∧ (y == z) = false ∧ (z == x) = true)) ∧ ¬ simple3 (x, y, z)) := by
  unfold simple3
  cases h1 : (x == y) <;> cases h2 : (y == z) <;> cases h3 : (z == x) <;> simp_all
set_option maxRecDepth 100000 in
set_option maxHeartbeats 1000000 in
theorem loop_any (N : Int) (v : Value) (T : List Tr) (w : World) (h : TrisRd w v T) (hl : T.length ≤ 100000) : Calls Try.prog 95 #[.agg #[.int .i64 N, v]] w fun e w' => ∃ v', e = .returned v' ∧ WitsIs w' w.heap.size v' 2 (∀ t ∈ T, simple3 t) ∧ Below w.heap.size w w' := by
  obtain ⟨i1, hi', hy0, hy1, hy2⟩ := info_parts infoWit
  obtain ⟨a, c, rfl, hc1, hc2, hr⟩ := h
  have HR := Lib.hid hr
  have b1 := Blk.new w 24 #[.int .i64 N, .slice a T.length c]
  obtain ⟨l0, x0, -, x1, -⟩ := b1.two
  have hB0 : Below w.heap.size w (w.alloc (.cells #[.int .i64 N, .slice a T.length c] 24)) := (Below.refl _ _).alloc (Nat.le_refl _) _
  obtain ⟨n, hn⟩ : ∃ n, T.length = n := ⟨_, rfl⟩
  rw [hn] at hl hc1 x1 hB0 b1 l0 ⊢
  have HN := Lib.hid hn
  clear hr hn
  go_enter Try.func95, Try.ntmps95
  go_wp2
  go_loopw [3, 9] (fun v3 i wr => ∃ (k : Nat) (v' : Value) (ws : List Tr), v' = v3 ∧ k ≤ n ∧ i = .int .i64 k ∧ wr.ownsRow w.heap.size 44 3 v' ws.length (ws3 ws) ∧ ws.length ≤ k ∧ (ws = [] ↔ ∀ t ∈ T.take k, simple3 t) ∧ (∀ x ∈ ws, x.1 = 2) ∧ Below w.heap.size w wr) (fun _ i _ => n - (intOf i).toNat)
  case atStart => exact ⟨0, _, [], rfl, Nat.zero_le _, rfl, World.ownsRow_nil _ _ _ _, Nat.le_refl _, by simp, by simp, hB0⟩
  case round =>
    obtain ⟨k, v', ws, rfl, hk, rfl, hrow, hwl, hws, hkd, hB⟩ := hrel
    by_cases hlt : k < n
    · obtain ⟨t, ht⟩ : ∃ t, T[k]? = some t := ⟨T[k]'(by have := HN.out; omega), List.getElem?_eq_getElem _⟩
      obtain ⟨x, y, z⟩ := t
      obtain ⟨b, o, rfl, hbl, s0, s1, s2⟩ := HR.out k x y z ht
      have s0' := (hB.cell (p := ⟨b, _, none⟩) hbl).trans s0
      have s1' := (hB.cell (p := ⟨b, _, none⟩) hbl).trans s1
      have s2' := (hB.cell (p := ⟨b, _, none⟩) hbl).trans s2
      have Hts := Lib.hid (take_succ_all (p := simple3) ht)
      have Hws := Lib.hid hws
      have hsz := hB.size
      have hk3 : (k : Int) < (n : Int) := by omega
      have hk0 : (0 : Int) ≤ (k : Int) := by omega
      have c3 : ws.length + 1 ≤ maxLen := by unfold maxLen; omega
      have c4 : (ws.length + 1) * 24 ≤ 140737488355328 := by omega
      clear ht s0 s1 s2 hws
      rcases simple3_parts x y z with ⟨q1, q2, q3, e1⟩ | ⟨q, e1⟩
      · have He := Lib.hid e1
        clear e1
        go_wp2
        go_roundw
        case measure => simp [intOf]; omega
        case rel =>
          refine ⟨k + 1, _, ws, rfl, by omega, by go_num, hrow.alloc _, by omega, ?_, hkd, hB.alloc hB.size _⟩
          rw [Hts.out, Hws.out]
          exact ⟨fun h => ⟨h, He.out⟩, fun h => h.1⟩
      · have He := Lib.hid e1
        clear e1
        rcases q with q1 | ⟨q1, q2⟩ | ⟨q1, q2, q3⟩
        all_goals go_wp2_with (at_builtin; refine wpList_append_lies _ rfl (.tmp 33) (.tmp 36) 114 rfl w.heap.size 44 i1 _ 3 24 Try.underlying114 hi' hy0 hy1 hy2 rfl (by decide) _ _ _ rfl ((hrow.alloc _).alloc _) ⟨wr.heap.size + 1, 0, none⟩ 1 1 [.int .i64 2, .int .i64 k, .int .i64 0] rfl rfl (World.news_of_block (heap_alloc_new2 _ _ _)) (by simp [Value.oneCell']) (by decide) c3 c4 (by rw [size_alloc', size_alloc']; omega) (wr.heap.size + 2) (by simp) ?_; intro g4 cap4 W4 hr4 hg4 _ _)
        all_goals go_roundw
        case measure | measure | measure => simp [intOf]; omega
        case rel | rel | rel =>
          refine ⟨k + 1, _, ws ++ [(2, (k : Int), 0)], rfl, by omega, by go_num, ?_, by simp; omega, ?_, ?_, (hB.alloc hB.size _).grown (gGrown (World.grownBy_alloc _ _ _) hg4 (row := v'.ownBlock) (fun _ e => .inl e)) (by rw [size_alloc']; omega) (fun j e => (hrow.lt j e).1)⟩
          · rw [ws3_snoc]
            simpa using hr4
          · rw [Hts.out]
            simp [He.out]
          · intro x hx
            rcases List.mem_append.1 hx with hx | hx
            · exact hkd x hx
            · simp only [List.mem_singleton] at hx
              rw [hx]
    · obtain rfl : k = n := by omega
      have hnn := HN.out
      rw [List.take_of_length_le (by omega)] at hws
      have Hrow := Lib.hid hrow
      have HB := Lib.hid hB
      have Hws := Lib.hid hws
      clear hrow hB hnn hws
      go_wp2
      go_ret
      exact ⟨_, rfl, ⟨ws, Hrow.out, Hws.out, hkd, by omega⟩, HB.out⟩
end Go.Proofs.Ytpnkhgjjlionnaa
namespace Go.Proofs.Ytpnkhgjjlionnaa
open Go.RowKit

def inR (N v : Int) : Prop := 0 ≤ v ∧ v < N
def in3 (N : Int) (t : Tr) : Prop := inR N t.1 ∧ inR N t.2.1 ∧ inR N t.2.2

set_option maxRecDepth 100000 in
set_option maxHeartbeats 2000000 in
theorem index_any (N : Int) (v : Value) (T : List Tr) (w : World) (h : TrisRd w v T) (hN : 0 ≤ N ∧ N ≤ 4096) (hl : T.length ≤ 8192) : Calls Try.prog 94 #[.agg #[.int .i64 N, v]] w fun e w' => ∃ v', e = .returned v' ∧ WitsIs w' w.heap.size v' 1 (∀ t ∈ T, in3 N t) ∧ Below w.heap.size w w' := by
  obtain ⟨i1, hi', hy0, hy1, hy2⟩ := info_parts infoWit
  obtain ⟨a, c, rfl, hc1, hc2, hr⟩ := h
  have HR := Lib.hid hr
  have b1 := Blk.new w 24 #[.int .i64 N, .slice a T.length c]
  obtain ⟨l0, x0, -, x1, -⟩ := b1.two
  have hB0 : Below w.heap.size w (w.alloc (.cells #[.int .i64 N, .slice a T.length c] 24)) := (Below.refl _ _).alloc (Nat.le_refl _) _
  obtain ⟨n, hn⟩ : ∃ n, T.length = n := ⟨_, rfl⟩
  rw [hn] at hl hc1 x0 x1 hB0 b1 l0 ⊢
  have HN := Lib.hid hn
  obtain ⟨hN0, hN1⟩ := hN
  have g1 : ¬ N < 0 := by omega
  have g2 : ¬ 4096 < N := by omega
  have g3 : ¬ 8192 < (n : Int) := by omega
  have ix0 := @index_t0
  have ix1 := @index_t1
  have ix2 := @index_t2
  clear hr hn
  go_enter Try.func94, Try.ntmps94
  go_wp2
  go_loopw [3, 27] (fun v3 i wr => ∃ (k : Nat) (v' : Value) (ws : List Tr), v' = v3 ∧ k ≤ n ∧ i = .int .i64 k ∧ wr.ownsRow w.heap.size 44 3 v' ws.length (ws3 ws) ∧ ws.length ≤ k ∧ (ws = [] ↔ ∀ t ∈ T.take k, in3 N t) ∧ (∀ x ∈ ws, x.1 = 1) ∧ Blk wr w.heap.size 24 #[.int .i64 N, .slice a n c] ∧ Below w.heap.size w wr) (fun _ i _ => n - (intOf i).toNat)
  case atStart => exact ⟨0, _, [], rfl, Nat.zero_le _, rfl, World.ownsRow_nil _ _ _ _, Nat.le_refl _, by simp, by simp, b1, hB0⟩
  case round =>
    obtain ⟨k, v', ws, rfl, hk, rfl, hrow, hwl, hws, hkd, hB', hB⟩ := hrel
    obtain ⟨ly, y0, -, y1, -⟩ := hB'.two
    clear x0 x1 l0 b1
    by_cases hlt : k < n
    · obtain ⟨t, ht⟩ : ∃ t, T[k]? = some t := ⟨T[k]'(by have := HN.out; omega), List.getElem?_eq_getElem _⟩
      obtain ⟨x, y, z⟩ := t
      obtain ⟨b, o, rfl, hbl, s0, s1, s2⟩ := HR.out k x y z ht
      have s0' := (hB.cell (p := ⟨b, _, none⟩) hbl).trans s0
      have s1' := (hB.cell (p := ⟨b, _, none⟩) hbl).trans s1
      have s2' := (hB.cell (p := ⟨b, _, none⟩) hbl).trans s2
      have Hts := Lib.hid (take_succ_all (p := in3 N) ht)
      have Hws := Lib.hid hws
      have hsz := hB.size
      have hk3 : (k : Int) < (n : Int) := by omega
      have hk0 : (0 : Int) ≤ (k : Int) := by omega
      have c3 : ws.length + 1 ≤ maxLen := by unfold maxLen; omega
      have c4 : (ws.length + 1) * 24 ≤ 140737488355328 := by omega
      have hB'' := hB'.alloc (.cells #[.int .i64 x, .int .i64 y, .int .i64 z] 61)
      obtain ⟨lz, z0, -, z1, -⟩ := hB''.two
      have HNE := Lib.hid (fun e => own_blk_ne hrow hB' (by decide) e.symm : some w.heap.size ≠ v'.ownBlock)
      clear ht s0 s1 s2 hws
      go_wp2
      rename World => wA
      go_loopw [3, 33] (fun v3 i wq => ∃ j : Nat, v' = v3 ∧ j ≤ 3 ∧ i = .int .i64 j ∧ wq = wA.alloc (.cells #[.int .i64 x, .int .i64 y, .int .i64 z] 61) ∧ (1 ≤ j → inR N x) ∧ (2 ≤ j → inR N y) ∧ (3 ≤ j → inR N z)) (fun _ i _ => 3 - (intOf i).toNat)
      case atStart => exact ⟨0, rfl, by omega, rfl, rfl, by omega, by omega, by omega⟩
      case round =>
        obtain ⟨j, rfl, hj, rfl, rfl, f1, f2, f3⟩ := hrel
        have F1 := Lib.hid f1
        have F2 := Lib.hid f2
        have F3 := Lib.hid f3
        clear f1 f2 f3
        have hj' : j = 0 ∨ j = 1 ∨ j = 2 ∨ j = 3 := by omega
        rcases hj' with rfl | rfl | rfl | rfl
        · by_cases u1 : x < 0
          · have He : ¬ in3 N (x, y, z) := fun h => by have := h.1.1; simp only at this; omega
            have He := Lib.hid He
            go_wp2_with (at_builtin; refine wpList_append_lies _ rfl (.tmp 44) (.tmp 47) 114 rfl w.heap.size 44 i1 _ 3 24 Try.underlying114 hi' hy0 hy1 hy2 rfl (by decide) _ _ _ rfl ((hrow.alloc _).alloc _) ⟨wA.heap.size + 1, 0, none⟩ 1 1 [.int .i64 1, .int .i64 k, .int .i64 0] rfl rfl (World.news_of_block (heap_alloc_new2 _ _ _)) (by simp [Value.oneCell']) (by decide) c3 c4 (by rw [size_alloc', size_alloc']; omega) (wA.heap.size + 2) (by simp) ?_; intro g4 cap4 W4 hr4 hg4 _ _)
            go_roundw
            case measure => simp [intOf]; omega
            case rel => exact ⟨k + 1, _, ws ++ [(1, (k : Int), 0)], rfl, by omega, by go_num, by rw [ws3_snoc]; simpa using hr4, by simp; omega, by rw [Hts.out]; simp [He.out], snoc_kind hkd rfl, (hB'.alloc _).grown (gGrown (World.grownBy_alloc _ _ _) hg4 (row := v'.ownBlock) (fun _ e => .inl e)) HNE.out, (hB.alloc hB.size _).grown (gGrown (World.grownBy_alloc _ _ _) hg4 (row := v'.ownBlock) (fun _ e => .inl e)) (by rw [size_alloc']; omega) (fun j e => (hrow.lt j e).1)⟩
          · by_cases u2 : N ≤ x
            · have He : ¬ in3 N (x, y, z) := fun h => by have := h.1.2; simp only at this; omega
              have He := Lib.hid He
              go_wp2_with (at_builtin; refine wpList_append_lies _ rfl (.tmp 44) (.tmp 47) 114 rfl w.heap.size 44 i1 _ 3 24 Try.underlying114 hi' hy0 hy1 hy2 rfl (by decide) _ _ _ rfl ((hrow.alloc _).alloc _) ⟨wA.heap.size + 1, 0, none⟩ 1 1 [.int .i64 1, .int .i64 k, .int .i64 0] rfl rfl (World.news_of_block (heap_alloc_new2 _ _ _)) (by simp [Value.oneCell']) (by decide) c3 c4 (by rw [size_alloc', size_alloc']; omega) (wA.heap.size + 2) (by simp) ?_; intro g4 cap4 W4 hr4 hg4 _ _)
              go_roundw
              case measure => simp [intOf]; omega
              case rel => exact ⟨k + 1, _, ws ++ [(1, (k : Int), 0)], rfl, by omega, by go_num, by rw [ws3_snoc]; simpa using hr4, by simp; omega, by rw [Hts.out]; simp [He.out], snoc_kind hkd rfl, (hB'.alloc _).grown (gGrown (World.grownBy_alloc _ _ _) hg4 (row := v'.ownBlock) (fun _ e => .inl e)) HNE.out, (hB.alloc hB.size _).grown (gGrown (World.grownBy_alloc _ _ _) hg4 (row := v'.ownBlock) (fun _ e => .inl e)) (by rw [size_alloc']; omega) (fun j e => (hrow.lt j e).1)⟩
            · have u3 : inR N x := ⟨by omega, by omega⟩
              have U3 := Lib.hid u3
              clear u3
              go_wp2
              go_roundw
              case measure => simp [intOf]
              case rel => exact ⟨1, rfl, by omega, by simp, by simp, fun _ => U3.out, by omega, by omega⟩
        · by_cases u1 : y < 0
          · have He : ¬ in3 N (x, y, z) := fun h => by have := h.2.1.1; simp only at this; omega
            have He := Lib.hid He
            go_wp2_with (at_builtin; refine wpList_append_lies _ rfl (.tmp 44) (.tmp 47) 114 rfl w.heap.size 44 i1 _ 3 24 Try.underlying114 hi' hy0 hy1 hy2 rfl (by decide) _ _ _ rfl ((hrow.alloc _).alloc _) ⟨wA.heap.size + 1, 0, none⟩ 1 1 [.int .i64 1, .int .i64 k, .int .i64 0] rfl rfl (World.news_of_block (heap_alloc_new2 _ _ _)) (by simp [Value.oneCell']) (by decide) c3 c4 (by rw [size_alloc', size_alloc']; omega) (wA.heap.size + 2) (by simp) ?_; intro g4 cap4 W4 hr4 hg4 _ _)
            go_roundw
            case measure => simp [intOf]; omega
            case rel => exact ⟨k + 1, _, ws ++ [(1, (k : Int), 0)], rfl, by omega, by go_num, by rw [ws3_snoc]; simpa using hr4, by simp; omega, by rw [Hts.out]; simp [He.out], snoc_kind hkd rfl, (hB'.alloc _).grown (gGrown (World.grownBy_alloc _ _ _) hg4 (row := v'.ownBlock) (fun _ e => .inl e)) HNE.out, (hB.alloc hB.size _).grown (gGrown (World.grownBy_alloc _ _ _) hg4 (row := v'.ownBlock) (fun _ e => .inl e)) (by rw [size_alloc']; omega) (fun j e => (hrow.lt j e).1)⟩
          · by_cases u2 : N ≤ y
            · have He : ¬ in3 N (x, y, z) := fun h => by have := h.2.1.2; simp only at this; omega
              have He := Lib.hid He
              go_wp2_with (at_builtin; refine wpList_append_lies _ rfl (.tmp 44) (.tmp 47) 114 rfl w.heap.size 44 i1 _ 3 24 Try.underlying114 hi' hy0 hy1 hy2 rfl (by decide) _ _ _ rfl ((hrow.alloc _).alloc _) ⟨wA.heap.size + 1, 0, none⟩ 1 1 [.int .i64 1, .int .i64 k, .int .i64 0] rfl rfl (World.news_of_block (heap_alloc_new2 _ _ _)) (by simp [Value.oneCell']) (by decide) c3 c4 (by rw [size_alloc', size_alloc']; omega) (wA.heap.size + 2) (by simp) ?_; intro g4 cap4 W4 hr4 hg4 _ _)
              go_roundw
              case measure => simp [intOf]; omega
              case rel => exact ⟨k + 1, _, ws ++ [(1, (k : Int), 0)], rfl, by omega, by go_num, by rw [ws3_snoc]; simpa using hr4, by simp; omega, by rw [Hts.out]; simp [He.out], snoc_kind hkd rfl, (hB'.alloc _).grown (gGrown (World.grownBy_alloc _ _ _) hg4 (row := v'.ownBlock) (fun _ e => .inl e)) HNE.out, (hB.alloc hB.size _).grown (gGrown (World.grownBy_alloc _ _ _) hg4 (row := v'.ownBlock) (fun _ e => .inl e)) (by rw [size_alloc']; omega) (fun j e => (hrow.lt j e).1)⟩
            · have u3 : inR N y := ⟨by omega, by omega⟩
              have U3 := Lib.hid u3
              clear u3
              go_wp2
              go_roundw
              case measure => simp [intOf]
              case rel => exact ⟨2, rfl, by omega, by simp, by simp, fun _ => F1.out (by omega), fun _ => U3.out, by omega⟩
        · by_cases u1 : z < 0
          · have He : ¬ in3 N (x, y, z) := fun h => by have := h.2.2.1; simp only at this; omega
            have He := Lib.hid He
            go_wp2_with (at_builtin; refine wpList_append_lies _ rfl (.tmp 44) (.tmp 47) 114 rfl w.heap.size 44 i1 _ 3 24 Try.underlying114 hi' hy0 hy1 hy2 rfl (by decide) _ _ _ rfl ((hrow.alloc _).alloc _) ⟨wA.heap.size + 1, 0, none⟩ 1 1 [.int .i64 1, .int .i64 k, .int .i64 0] rfl rfl (World.news_of_block (heap_alloc_new2 _ _ _)) (by simp [Value.oneCell']) (by decide) c3 c4 (by rw [size_alloc', size_alloc']; omega) (wA.heap.size + 2) (by simp) ?_; intro g4 cap4 W4 hr4 hg4 _ _)
            go_roundw
            case measure => simp [intOf]; omega
            case rel => exact ⟨k + 1, _, ws ++ [(1, (k : Int), 0)], rfl, by omega, by go_num, by rw [ws3_snoc]; simpa using hr4, by simp; omega, by rw [Hts.out]; simp [He.out], snoc_kind hkd rfl, (hB'.alloc _).grown (gGrown (World.grownBy_alloc _ _ _) hg4 (row := v'.ownBlock) (fun _ e => .inl e)) HNE.out, (hB.alloc hB.size _).grown (gGrown (World.grownBy_alloc _ _ _) hg4 (row := v'.ownBlock) (fun _ e => .inl e)) (by rw [size_alloc']; omega) (fun j e => (hrow.lt j e).1)⟩
          · by_cases u2 : N ≤ z
            · have He : ¬ in3 N (x, y, z) := fun h => by have := h.2.2.2; simp only at this; omega
              have He := Lib.hid He
              go_wp2_with (at_builtin; refine wpList_append_lies _ rfl (.tmp 44) (.tmp 47) 114 rfl w.heap.size 44 i1 _ 3 24 Try.underlying114 hi' hy0 hy1 hy2 rfl (by decide) _ _ _ rfl ((hrow.alloc _).alloc _) ⟨wA.heap.size + 1, 0, none⟩ 1 1 [.int .i64 1, .int .i64 k, .int .i64 0] rfl rfl (World.news_of_block (heap_alloc_new2 _ _ _)) (by simp [Value.oneCell']) (by decide) c3 c4 (by rw [size_alloc', size_alloc']; omega) (wA.heap.size + 2) (by simp) ?_; intro g4 cap4 W4 hr4 hg4 _ _)
              go_roundw
              case measure => simp [intOf]; omega
              case rel => exact ⟨k + 1, _, ws ++ [(1, (k : Int), 0)], rfl, by omega, by go_num, by rw [ws3_snoc]; simpa using hr4, by simp; omega, by rw [Hts.out]; simp [He.out], snoc_kind hkd rfl, (hB'.alloc _).grown (gGrown (World.grownBy_alloc _ _ _) hg4 (row := v'.ownBlock) (fun _ e => .inl e)) HNE.out, (hB.alloc hB.size _).grown (gGrown (World.grownBy_alloc _ _ _) hg4 (row := v'.ownBlock) (fun _ e => .inl e)) (by rw [size_alloc']; omega) (fun j e => (hrow.lt j e).1)⟩
            · have u3 : inR N z := ⟨by omega, by omega⟩
              have U3 := Lib.hid u3
              clear u3
              go_wp2
              go_roundw
              case measure => simp [intOf]
              case rel => exact ⟨3, rfl, by omega, by simp, by simp, fun _ => F1.out (by omega), fun _ => F2.out (by omega), fun _ => U3.out⟩
        · have He : in3 N (x, y, z) := ⟨F1.out (by omega), F2.out (by omega), F3.out (by omega)⟩
          have He := Lib.hid He
          go_wp2
          go_roundw
          case measure => simp [intOf]; omega
          case rel =>
            refine ⟨k + 1, _, ws, rfl, by omega, by go_num, hrow.alloc _, by omega, ?_, hkd, hB'.alloc _, hB.alloc hB.size _⟩
            rw [Hts.out, Hws.out]
            exact ⟨fun h => ⟨h, He.out⟩, fun h => h.1⟩
    · obtain rfl : k = n := by omega
      have hnn := HN.out
      rw [List.take_of_length_le (by omega)] at hws
      have Hrow := Lib.hid hrow
      have HB := Lib.hid hB
      have Hws := Lib.hid hws
      clear hrow hB hnn hws
      go_wp2
      go_ret
      exact ⟨_, rfl, ⟨ws, Hrow.out, Hws.out, hkd, by omega⟩, HB.out⟩
end Go.Proofs.Ytpnkhgjjlionnaa
namespace Go.Proofs.Ytpnkhgjjlionnaa
open Go.RowKit

/-- Which numbers are marked. -/
def BitsOf (bs : List Bool) (m : Nat) (S : List Int) : Prop := bs.length = m ∧ ∀ v, v < m → (bs[v]? = some true ↔ (v : Int) ∈ S)
def bools (bs : List Bool) : List Value := bs.map Value.bool
theorem BitsOf.none_ (m : Nat) : BitsOf (List.replicate m false) m [] := ⟨by simp, fun v hv => by simp [hv]⟩
theorem BitsOf.mark {bs : List Bool} {m : Nat} {S : List Int} (h : BitsOf bs m S) {v : Nat} (hv : v < m) : BitsOf (bs.set v true) m (S ++ [(v : Int)]) := by
  obtain ⟨h1, h2⟩ := h
  refine ⟨by simp [h1], fun u hu => ?_⟩
  rw [List.getElem?_set]
  by_cases e : v = u
  · subst e
    simp [h1, hv]
  · rw [if_neg e, h2 u hu]
    simp
    omega
theorem bools_set (bs : List Bool) (v : Nat) (b : Bool) : (bools bs).set v (.bool b) = bools (bs.set v b) := by simp [bools, List.map_set]
theorem infoBool : (Try.prog.info? 4).map (fun i => (i.zero, i.size, i.bytes)) = some (some (.bool false), 1, 1) := by kernel_rfl
theorem made_bools (m : Nat) : (madeCells (Value.bool false).cells (m * 1)).toList = bools (List.replicate m false) := by
  rw [Nat.mul_one]
  show (madeCells #[Value.bool false] m).toList = _
  rw [toList_madeCells_one]
  simp [bools]

set_option maxRecDepth 100000 in
set_option maxHeartbeats 2000000 in
theorem lonely_any (N : Int) (v : Value) (T : List Tr) (w : World) (h : TrisRd w v T) (hN : 0 ≤ N ∧ N ≤ 4096) (hl : T.length ≤ 8192) (hin : ∀ t ∈ T, in3 N t) : Calls Try.prog 98 #[.agg #[.int .i64 N, v]] w fun e w' => ∃ v', e = .returned v' ∧ WitsIs w' w.heap.size v' 5 (∀ u : Int, inR N u → u ∈ flatT T) ∧ Below w.heap.size w w' := by
  obtain ⟨i1, hi', hy0, hy1, hy2⟩ := info_parts infoWit
  obtain ⟨i2, hj', hz0, hz1, hz2⟩ := info_parts infoBool
  obtain ⟨a, c, rfl, hc1, hc2, hr⟩ := h
  have HR := Lib.hid hr
  obtain ⟨hN0, hN1⟩ := hN
  obtain ⟨m, rfl⟩ : ∃ m : Nat, N = m := ⟨N.toNat, by omega⟩
  have b1 := Blk.new w 24 #[.int .i64 m, .slice a T.length c]
  obtain ⟨l0, x0, -, x1, -⟩ := b1.two
  have hB0 : Below w.heap.size w (w.alloc (.cells #[.int .i64 m, .slice a T.length c] 24)) := (Below.refl _ _).alloc (Nat.le_refl _) _
  have HIN := Lib.hid hin
  obtain ⟨n, hn⟩ : ∃ n, T.length = n := ⟨_, rfl⟩
  rw [hn] at hl hc1 x0 x1 hB0 b1 l0 ⊢
  have HN := Lib.hid hn
  have ix0 := @index_t0
  have ix1 := @index_t1
  have ix2 := @index_t2
  clear hr hn hin
  go_enter Try.func98, Try.ntmps98
  go_wp2_with (at_make; refine wpList_make_full _ rfl (.tmp 12) (.tmp 12) 66 rfl w.heap.size 4 i2 _ 1 Try.underlying66 hj' hz0 hz1 .i64 .i64 _ _ m rfl rfl rfl rfl (by rw [hz2]; omega) (by unfold maxLen; omega) (by rw [size_alloc']; omega) ?_; intro w1 hr1 hg1; have k1 := b1.grown hg1 (by simp); obtain ⟨l1, y0, -, y1, -⟩ := k1.two)
  rw [made_bools, size_alloc'] at hr1
  have hB1 : Below w.heap.size w w1 := hB0.grown hg1 (by rw [size_alloc']; omega) (fun j e => by cases e)
  clear b1 x0 x1 l0 hg1 hB0
  go_loopw [17] (fun i wr => ∃ (k : Nat) (bs : List Bool), k ≤ n ∧ i = .int .i64 k ∧ wr.ownsRow w.heap.size 4 1 (.slice (some ⟨w.heap.size + 1, 0, none⟩) m m) m (bools bs) ∧ BitsOf bs m (flatT (T.take k)) ∧ Below w.heap.size w wr) (fun i _ => n - (intOf i).toNat)
  case atStart => exact ⟨0, _, Nat.zero_le _, rfl, hr1, BitsOf.none_ m, hB1⟩
  case round =>
    clear hr1 hB1 k1 l1 y0 y1
    obtain ⟨k, bs, hk, rfl, hrow, hbs, hB⟩ := hrel
    by_cases hlt : k < n
    · obtain ⟨t, ht⟩ : ∃ t, T[k]? = some t := ⟨T[k]'(by have := HN.out; omega), List.getElem?_eq_getElem _⟩
      obtain ⟨x, y, z⟩ := t
      obtain ⟨⟨ix1', ix2'⟩, ⟨iy1, iy2⟩, ⟨iz1, iz2⟩⟩ := HIN.out _ (List.mem_of_getElem? ht)
      simp only at ix1' ix2' iy1 iy2 iz1 iz2
      obtain ⟨x, rfl⟩ : ∃ q : Nat, x = q := ⟨x.toNat, by omega⟩
      obtain ⟨y, rfl⟩ : ∃ q : Nat, y = q := ⟨y.toNat, by omega⟩
      obtain ⟨z, rfl⟩ : ∃ q : Nat, z = q := ⟨z.toNat, by omega⟩
      obtain ⟨b, o, rfl, hbl, s0, s1, s2⟩ := HR.out k x y z ht
      have s0' := (hB.cell (p := ⟨b, _, none⟩) hbl).trans s0
      have s1' := (hB.cell (p := ⟨b, _, none⟩) hbl).trans s1
      have s2' := (hB.cell (p := ⟨b, _, none⟩) hbl).trans s2
      have Hts : Hid (flatT (T.take (k + 1)) = flatT (T.take k) ++ [(x : Int), (y : Int), (z : Int)]) := by
        refine Lib.hid ?_
        obtain ⟨hk', he⟩ := List.getElem?_eq_some_iff.1 ht
        rw [List.take_succ_eq_append_getElem hk', he]
        simp [flatT]
      have hsz := hB.size
      have hk3 : (k : Int) < (n : Int) := by omega
      have hk0 : (0 : Int) ≤ (k : Int) := by omega
      clear ht s0 s1 s2
      go_wp2
      rename World => wA
      go_loopw [22] (fun i wq => ∃ (j : Nat) (bs : List Bool), j ≤ 3 ∧ i = .int .i64 j ∧ wq.ownsRow w.heap.size 4 1 (.slice (some ⟨w.heap.size + 1, 0, none⟩) m m) m (bools bs) ∧ BitsOf bs m (flatT (T.take k) ++ [(x : Int), (y : Int), (z : Int)].take j) ∧ Below w.heap.size w wq) (fun i _ => 3 - (intOf i).toNat)
      case atStart => exact ⟨0, _, by omega, rfl, hrow.alloc _, by simpa using hbs, hB.alloc hB.size _⟩
      case round =>
        clear hrow hbs hB
        rename World => hrelW
        obtain ⟨j, cs, hj, rfl, hrow, hbs, hB⟩ := hrel
        have hj4 : j = 0 ∨ j = 1 ∨ j = 2 ∨ j = 3 := by omega
        have hfr := fun i => hrow.frozenAt i
        have hsz' := hB.size
        rcases hj4 with rfl | rfl | rfl | rfl
        · obtain ⟨cb, hcb⟩ : ∃ cb, cs[x]? = some cb := ⟨cs[x]'(by rw [hbs.1]; omega), List.getElem?_eq_getElem _⟩
          have hc : hrelW.cell? ⟨w.heap.size + 1, x, none⟩ = some (.bool cb) := by rw [hrow.cellAt x (by omega), bools, List.getElem?_map, hcb]; rfl
          have hf := hrow.frozenAt x
          have hv3 : (x : Int) < (m : Int) := by omega
          clear hfr hcb
          go_wp2
          go_roundw
          case measure => simp [intOf]
          case rel => exact ⟨1, cs.set x true, by omega, by simp, by rw [← bools_set]; exact (hrow.stored x _).1, by simpa using hbs.mark (v := x) (by omega), hB.grown (hrow.stored x _).2 hsz' (fun j e => by cases e; omega)⟩
        · obtain ⟨cb, hcb⟩ : ∃ cb, cs[y]? = some cb := ⟨cs[y]'(by rw [hbs.1]; omega), List.getElem?_eq_getElem _⟩
          have hc : hrelW.cell? ⟨w.heap.size + 1, y, none⟩ = some (.bool cb) := by rw [hrow.cellAt y (by omega), bools, List.getElem?_map, hcb]; rfl
          have hf := hrow.frozenAt y
          have hv3 : (y : Int) < (m : Int) := by omega
          clear hfr hcb
          go_wp2
          go_roundw
          case measure => simp [intOf]
          case rel => exact ⟨2, cs.set y true, by omega, by simp, by rw [← bools_set]; exact (hrow.stored y _).1, by simpa using hbs.mark (v := y) (by omega), hB.grown (hrow.stored y _).2 hsz' (fun j e => by cases e; omega)⟩
        · obtain ⟨cb, hcb⟩ : ∃ cb, cs[z]? = some cb := ⟨cs[z]'(by rw [hbs.1]; omega), List.getElem?_eq_getElem _⟩
          have hc : hrelW.cell? ⟨w.heap.size + 1, z, none⟩ = some (.bool cb) := by rw [hrow.cellAt z (by omega), bools, List.getElem?_map, hcb]; rfl
          have hf := hrow.frozenAt z
          have hv3 : (z : Int) < (m : Int) := by omega
          clear hfr hcb
          go_wp2
          go_roundw
          case measure => simp [intOf]
          case rel => exact ⟨3, cs.set z true, by omega, by simp, by rw [← bools_set]; exact (hrow.stored z _).1, by simpa using hbs.mark (v := z) (by omega), hB.grown (hrow.stored z _).2 hsz' (fun j e => by cases e; omega)⟩
        · have hbs' : BitsOf cs m (flatT (T.take (k + 1))) := by rw [Hts.out]; exact hbs
          go_wp2
          go_roundw
          case measure => simp [intOf]; omega
          case rel => exact ⟨k + 1, cs, by omega, by go_num, hrow, hbs', hB⟩
    · obtain rfl : k = n := by omega
      have hnn := HN.out
      rw [List.take_of_length_le (by omega)] at hbs
      have hb1 := Lib.hid hbs
      go_wp2
      clear ix0 ix1 ix2
      rename World => wB
      go_loopw [8, 32] (fun v3 i wr => ∃ (j : Nat) (v' : Value) (ws : List Tr), v' = v3 ∧ j ≤ m ∧ i = .int .i64 j ∧ wr.ownsRow w.heap.size 44 3 v' ws.length (ws3 ws) ∧ ws.length ≤ j ∧ (ws = [] ↔ ∀ u : Nat, u < j → (u : Int) ∈ flatT T) ∧ (∀ x ∈ ws, x.1 = 5) ∧ wr.ownsRow w.heap.size 4 1 (.slice (some ⟨w.heap.size + 1, 0, none⟩) m m) m (bools bs) ∧ Below w.heap.size w wr) (fun _ i _ => m - (intOf i).toNat)
      case atStart => exact ⟨0, _, [], rfl, Nat.zero_le _, rfl, World.ownsRow_nil _ _ _ _, Nat.le_refl _, by simp, by simp, hrow, hB⟩
      case round =>
        clear hrow hB
        obtain ⟨j, v', ws, rfl, hj, rfl, hrw, hwl, hws, hkd, hrow, hB⟩ := hrel
        rename World => wC
        have Hws := Lib.hid hws
        have hsz := hB.size
        clear hws
        by_cases hjm : j < m
        · obtain ⟨cb, hcb⟩ : ∃ cb, bs[j]? = some cb := ⟨bs[j]'(by rw [hb1.out.1]; omega), List.getElem?_eq_getElem _⟩
          have hc : wC.cell? ⟨w.heap.size + 1, j, none⟩ = some (.bool cb) := by rw [hrow.cellAt j (by omega), bools, List.getElem?_map, hcb]; rfl
          have Hcb := Lib.hid (hb1.out.2 j hjm)
          have hv3 : (j : Int) < (m : Int) := by omega
          have hv0 : (0 : Int) ≤ (j : Int) := by omega
          have c3 : ws.length + 1 ≤ maxLen := by unfold maxLen; omega
          have c4 : (ws.length + 1) * 24 ≤ 140737488355328 := by omega
          have HNE := Lib.hid (own_own_ne hrow hrw (by decide))
          cases cb
          · have hn' : Hid (¬ (j : Int) ∈ flatT T) := Lib.hid (fun e => by have := Hcb.out.2 e; rw [hcb] at this; cases this)
            clear hcb
            go_wp2_with (at_builtin; refine wpList_append_lies _ rfl (.tmp 39) (.tmp 42) 114 rfl w.heap.size 44 i1 _ 3 24 Try.underlying114 hi' hy0 hy1 hy2 rfl (by decide) _ _ _ rfl (hrw.alloc _) ⟨wC.heap.size, 0, none⟩ 1 1 [.int .i64 5, .int .i64 j, .int .i64 0] rfl rfl (World.news_of_block (heap_alloc_new _ _)) (by simp [Value.oneCell']) (by decide) c3 c4 (by rw [size_alloc']; omega) (wC.heap.size + 1) (by simp) ?_; intro g4 cap4 W4 hr4 hg4 _ _)
            go_roundw
            case measure => simp [intOf]; omega
            case rel =>
              refine ⟨j + 1, _, ws ++ [(5, (j : Int), 0)], rfl, by omega, by go_num, by rw [ws3_snoc]; simpa using hr4, by simp; omega, ?_, snoc_kind hkd rfl, (hrow.alloc _).kept hg4 HNE.out, hB.grown (gGrown (World.grownBy_alloc _ _ _) hg4 (row := v'.ownBlock) (fun _ e => .inl e)) hsz (fun j e => (hrw.lt j e).1)⟩
              constructor
              · intro h; simp at h
              · intro h; exact absurd (h j (by omega)) hn'.out
          · have hn' : Hid ((j : Int) ∈ flatT T) := Lib.hid (Hcb.out.1 hcb)
            clear hcb
            go_wp2
            go_roundw
            case measure => simp [intOf]; omega
            case rel =>
              refine ⟨j + 1, _, ws, rfl, by omega, by go_num, hrw, by omega, ?_, hkd, hrow, hB⟩
              rw [Hws.out]
              constructor
              · intro h u hu
                by_cases e : u = j
                · rw [e]; exact hn'.out
                · exact h u (by omega)
              · intro h u hu
                exact h u (by omega)
        · obtain rfl : j = m := by omega
          have Hrow := Lib.hid hrw
          have HB := Lib.hid hB
          clear hrow hB hrw
          go_wp2
          go_ret
          refine ⟨_, rfl, ⟨ws, Hrow.out, ?_, hkd, by omega⟩, HB.out⟩
          rw [Hws.out]
          constructor
          · intro h u hu
            obtain ⟨q, rfl⟩ : ∃ q : Nat, u = q := ⟨u.toNat, by have := hu.1; omega⟩
            exact h q (by have := hu.2; omega)
          · intro h u hu
            exact h u ⟨by omega, by omega⟩
end Go.Proofs.Ytpnkhgjjlionnaa
namespace Go.Proofs.Ytpnkhgjjlionnaa
open Go.RowKit Go.Maps

theorem arrPair : WideMaps.ArrKey Try.prog 87 3 2 := ⟨Try.underlying87, by kernel_rfl, by kernel_rfl, by kernel_rfl⟩
theorem arrThree : WideMaps.ArrKey Try.prog 60 3 3 := ⟨Try.underlying60, by kernel_rfl, by kernel_rfl, by kernel_rfl⟩
theorem types_succ : ∃ m, Try.prog.types.size = m + 1 := ⟨Try.prog.types.size - 1, by kernel_rfl⟩
theorem zero_bool (w : World) : (zeroValue 4).run Try.prog w = .ok (.bool false) w := by kernel_rfl
theorem zero_ints (w : World) : (zeroValue 35).run Try.prog w = .ok (.slice none 0 0) w := by kernel_rfl
def triV (t : Tr) : Value := .agg #[.int .i64 t.1, .int .i64 t.2.1, .int .i64 t.2.2]
def pairV (e : Int × Int) : Value := .agg #[.int .i64 e.1, .int .i64 e.2]
theorem triV_inj {a b : Tr} (h : triV a = triV b) : a = b := by
  obtain ⟨a1, a2, a3⟩ := a
  obtain ⟨b1, b2, b3⟩ := b
  simpa [triV] using h

section
variable {P : Program} {k e : TypeId} {w : World} {b n : Nat} {seen : List Value}
theorem MapB.obj (h : MapB P k e w b n seen) : ∃ es clock, w.heap[b]? = some (.map es clock) := by
  obtain ⟨D, ⟨es, clock, hb, _⟩, _⟩ := h
  exact ⟨es, clock, hb⟩
theorem Grp.obj {base : Nat} {f : Value → List Int} (h : Grp P k base e w b f) : ∃ es clock, w.heap[b]? = some (.map es clock) := by
  obtain ⟨es, clock, hb, _⟩ := h
  exact ⟨es, clock, hb⟩
theorem row_map_ne {base' n' s : Nat} {e' : TypeId} {v : Value} {xs : List Value} (hr : w.ownsRow base' e' s v n' xs) (hm : ∃ es clock, w.heap[b]? = some (.map es clock)) : v.ownBlock = none ∨ v.ownBlock ≠ some b := by
  obtain ⟨es, clock, hb⟩ := hm
  rcases hr.2 with ⟨rfl, _⟩ | ⟨g, cap, cur, rfl, _, hh, _⟩
  · exact .inl rfl
  · refine .inr (fun e0 => ?_)
    have : g = b := by simpa [Value.ownBlock] using e0
    subst this
    rw [hh] at hb
    cases hb
theorem map_row_ne {base' n' s : Nat} {e' : TypeId} {v : Value} {xs : List Value} (hr : w.ownsRow base' e' s v n' xs) (hm : ∃ es clock, w.heap[b]? = some (.map es clock)) : some b ≠ v.ownBlock := by
  rcases row_map_ne hr hm with h | h
  · rw [h]; simp
  · exact fun e0 => h e0.symm
theorem wpList_lookupB {ops : Array Oper} {rest : List Oper} {o : Oper} {a : Act} {Q : Exit → Act → World → Prop} (h : MapB P k e w b n seen)
    (hg : o.guard = none) (m x : Operand) (t : TypeId) (hop : o.op = Op.lookup t m x false) (K : Keyed P k) (ht : P.underlying t = some (.map k e)) (he : P.underlying e = some .bool) (hz : (zeroValue e).run P w = .ok (.bool false) w)
    (hm : a.eval m = .map (some b)) (key : Value) (hx : a.eval x = key) {kl : Lit} (hkey : keyOf P k key = some kl)
    (hK : ∀ r : Bool, (r = true ↔ key ∈ seen) → wpList P ops Q rest (a.put o.dst (.bool r)) w) : wpList P ops Q (o :: rest) a w := by
  refine wpList_plain hg fun K' hK' => ?_
  obtain ⟨r, hrun, hi⟩ := h.look K ht he hz hkey
  unfold Oper.wp
  simp [execOp, hop, hm, hx, hrun, Result.andThen]
  exact hK' _ _ (hK r hi)
theorem wpList_storeB {ops : Array Oper} {rest : List Oper} {o : Oper} {a : Act} {Q : Exit → Act → World → Prop} (h : MapB P k e w b n seen)
    (hg : o.guard = none) (m x v : Operand) (t : TypeId) (hop : o.op = Op.mapUpdate t m x v) (K : Keyed P k) (ht : P.underlying t = some (.map k e)) (he : P.underlying e = some .bool) (hn : n < maxLen)
    (hm : a.eval m = .map (some b)) (key : Value) (hx : a.eval x = key) (hv : a.eval v = .bool true) {kl : Lit} (hkey : keyOf P k key = some kl)
    (hK : ∀ w', MapB P k e w' b (n + 1) (key :: seen) → w.grownBy w' (some b) → wpList P ops Q rest (a.put o.dst undef) w') : wpList P ops Q (o :: rest) a w := by
  refine wpList_plain hg fun K' hK' => ?_
  obtain ⟨w', hrun, r1, r2⟩ := h.store K ht he hn hkey
  unfold Oper.wp
  simp [execOp, hop, hm, hx, hv, hrun, Result.andThen]
  exact hK' _ _ (hK w' r1 r2)
theorem wpList_entryStore {ops : Array Oper} {rest : List Oper} {o : Oper} {a : Act} {Q : Exit → Act → World → Prop}
    (hg : o.guard = none) (m s v : Operand) (t : TypeId) (hop : o.op = Op.entryStore t m s v) {vm vs vv : Value} (hm : a.eval m = vm) (hs : a.eval s = vs) (hv : a.eval v = vv) {w' : World}
    (hrun : (Instr.entryStore t vm vs vv).run P w = .ok () w') (hK : wpList P ops Q rest (a.put o.dst undef) w') : wpList P ops Q (o :: rest) a w := by
  refine wpList_plain hg fun K' hK' => ?_
  unfold Oper.wp
  simp [execOp, hop, hm, hs, hv, hrun, Result.andThen]
  exact hK' _ _ hK
end

/-- What is held. H: the world's size at the start; f: the rows at each key; S: the pairs seen. -/
structure PairSt (w W : World) (kind : Int) (f : Value → List Int) (S : List Value) (v : Value) (ws : List Tr) : Prop where
  g : Grp Try.prog 60 (w.heap.size + 3) 3 W (w.heap.size + 1) f
  s : MapB Try.prog 87 4 W (w.heap.size + 2) ws.length S
  r : W.ownsRow w.heap.size 44 3 v ws.length (ws3 ws)
  b : Below w.heap.size w W
  c : ws = [] → S = []
  k : ∀ x ∈ ws, x.1 = kind
section
variable {w W : World} {kind : Int} {f : Value → List Int} {S : List Value} {v : Value} {ws : List Tr}
theorem PairSt.alloc (h : PairSt w W kind f S v ws) (o : Obj) : PairSt w (W.alloc o) kind f S v ws :=
  ⟨h.g.alloc o, h.s.kept (World.grownBy_alloc W o none) (by simp), h.r.alloc o, h.b.alloc h.b.size o, h.c, h.k⟩
theorem PairSt.below {W' : World} (h : PairSt w W kind f S v ws) (hb : Below W.heap.size W W') : PairSt w W' kind f S v ws :=
  ⟨h.g.grown (grown_of_below hb none), h.s.kept (grown_of_below hb none) (by simp), h.r.kept (grown_of_below hb none) (by cases e0 : v.ownBlock <;> simp), h.b.trans (hb.mono h.b.size), h.c, h.k⟩
/-- A pair is marked, and its witness written. -/
theorem PairSt.mark {W1 W2 : World} {o : Obj} {x : Tr} {v' p : Value} (h : PairSt w W kind f S v ws) (hm : MapB Try.prog 87 4 W1 (w.heap.size + 2) (ws.length + 1) (p :: S)) (hg : W.grownBy W1 (some (w.heap.size + 2)))
    (hr : W2.ownsRow w.heap.size 44 3 v' (ws.length + 1) (ws3 (ws ++ [x]))) (hg2 : (W1.alloc o).grownBy W2 v.ownBlock) (hx : x.1 = kind) : PairSt w W2 kind f (p :: S) v' (ws ++ [x]) := by
  have hr1 := h.r.kept hg (row_map_ne h.r h.s.obj)
  obtain ⟨es, clock, hob⟩ := h.s.obj
  have g1 := h.g.map hob (by omega) hg
  have hall := gGrown (World.grownBy_alloc W1 o v.ownBlock) hg2 (row := v.ownBlock) (fun _ e => .inl e)
  exact ⟨g1.row hr1 (by decide) hall, by rw [List.length_append]; exact hm.kept hall (map_row_ne hr1 hm.obj), by rw [List.length_append]; exact hr, (h.b.grown hg h.b.size (fun j e => by cases e; omega)).grown hall (Nat.le_trans h.b.size hg.size) (fun j e => (hr1.lt j e).1), by simp, snoc_kind h.k hx⟩
theorem PairSt.markRow {W1 W2 : World} {o : Obj} {base' s' n' : Nat} {e' : TypeId} {u : Value} {xs : List Value} (h : PairSt w W kind f S v ws) (hg : W.grownBy W1 (some (w.heap.size + 2)))
    (hg2 : (W1.alloc o).grownBy W2 v.ownBlock) (hne : e' ≠ 44) (hu : W.ownsRow base' e' s' u n' xs) : W2.ownsRow base' e' s' u n' xs := by
  have hr1 := h.r.kept hg (row_map_ne h.r h.s.obj)
  have hall := gGrown (World.grownBy_alloc W1 o v.ownBlock) hg2 (row := v.ownBlock) (fun _ e => .inl e)
  have u1 := hu.kept hg (row_map_ne hu h.s.obj)
  exact u1.kept hall (own_own_ne u1 hr1 hne)
theorem PairSt.markBlk {W1 W2 : World} {o : Obj} {g : Nat} {t : TypeId} {cs : Array Value} (h : PairSt w W kind f S v ws) (hg : W.grownBy W1 (some (w.heap.size + 2)))
    (hg2 : (W1.alloc o).grownBy W2 v.ownBlock) (hne : 44 ≠ t) (hb : Blk W g t cs) : Blk W2 g t cs := by
  have hr1 := h.r.kept hg (row_map_ne h.r h.s.obj)
  have hall := gGrown (World.grownBy_alloc W1 o v.ownBlock) hg2 (row := v.ownBlock) (fun _ e => .inl e)
  have b1 := hb.grown hg (fun e0 => by
    obtain ⟨es, clock, ho⟩ := h.s.obj
    cases e0
    rw [show W.heap[w.heap.size + 2]? = _ from hb] at ho
    cases ho)
  exact b1.grown hall (fun e0 => own_blk_ne hr1 b1 hne e0.symm)
/-- A number is put at a key. -/
theorem PairSt.put {W1 W2 W3 : World} {v0 : Value} {f' : Value → List Int} (h : PairSt w W kind f S v ws) (h1 : W.grownBy W1 (some (w.heap.size + 1))) (hg1 : Grp Try.prog 60 (w.heap.size + 3) 3 W1 (w.heap.size + 1) f) {n0 : Nat} {xs0 : List Value} (hr0 : W1.ownsRow (w.heap.size + 3) 3 1 v0 n0 xs0) (h2 : W1.grownBy W2 v0.ownBlock) (h3 : W2.grownBy W3 (some (w.heap.size + 1))) (hg : Grp Try.prog 60 (w.heap.size + 3) 3 W3 (w.heap.size + 1) f') : PairSt w W3 kind f' S v ws := by
  have s1 := h.s.kept h1 (by simp)
  have r1 := h.r.kept h1 (row_map_ne h.r h.g.obj)
  have s2 := s1.kept h2 (map_row_ne hr0 s1.obj)
  have r2 := r1.kept h2 (own_own_ne r1 hr0 (by decide))
  have hm1 : ∃ es clock, W2.heap[w.heap.size + 1]? = some (.map es clock) := by
    obtain ⟨es, clock, ho⟩ := hg1.obj
    exact ⟨es, clock, (h2.block _ hg1.lt (map_row_ne hr0 hg1.obj)).trans ho⟩
  exact ⟨hg, s2.kept h3 (by simp), r2.kept h3 (row_map_ne r2 hm1), ((h.b.grown h1 h.b.size (fun j e => by cases e; omega)).grown h2 (Nat.le_trans h.b.size h1.size) (fun j e => by have := (hr0.lt j e).1; omega)).grown h3 (Nat.le_trans h.b.size (Nat.le_trans h1.size h2.size)) (fun j e => by cases e; omega), h.c, h.k⟩
theorem PairSt.putRow {W1 W2 W3 : World} {v0 u : Value} {base' s' n' : Nat} {e' : TypeId} {xs : List Value} (h : PairSt w W kind f S v ws) (h1 : W.grownBy W1 (some (w.heap.size + 1))) (hg1 : Grp Try.prog 60 (w.heap.size + 3) 3 W1 (w.heap.size + 1) f) {n0 : Nat} {xs0 : List Value} (hr0 : W1.ownsRow (w.heap.size + 3) 3 1 v0 n0 xs0) (h2 : W1.grownBy W2 v0.ownBlock) (h3 : W2.grownBy W3 (some (w.heap.size + 1))) (hne : e' ≠ 3) (hu : W.ownsRow base' e' s' u n' xs) : W3.ownsRow base' e' s' u n' xs := by
  have u1 := hu.kept h1 (row_map_ne hu h.g.obj)
  have u2 := u1.kept h2 (own_own_ne u1 hr0 hne)
  have hm1 : ∃ es clock, W2.heap[w.heap.size + 1]? = some (.map es clock) := by
    obtain ⟨es, clock, ho⟩ := hg1.obj
    exact ⟨es, clock, (h2.block _ hg1.lt (map_row_ne hr0 hg1.obj)).trans ho⟩
  exact u2.kept h3 (row_map_ne u2 hm1)
end
end Go.Proofs.Ytpnkhgjjlionnaa
namespace Go.Proofs.Ytpnkhgjjlionnaa
namespace Jor

/-! The exclusive or of a test over a list. -/


/-! Lists without doubles. -/
theorem nodup_le {l m : List Nat} (hn : l.Nodup) (hs : ∀ x ∈ l, x ∈ m) : l.length ≤ m.length := by
  induction l generalizing m with
  | nil => exact Nat.zero_le _
  | cons a l ih =>
    rw [List.nodup_cons] at hn
    have ha := hs a (List.mem_cons_self ..)
    have h1 := ih (m := m.erase a) hn.2 (fun x hx => (List.mem_erase_of_ne (fun e => hn.1 (by rw [← e]; exact hx))).2 (hs x (List.mem_cons_of_mem _ hx)))
    have h2 := List.length_erase_of_mem ha
    have h3 := List.length_pos_of_mem ha
    simp only [List.length_cons]
    omega
/-! Corners -/
def nx (c : Nat) : Nat := c - c % 3 + (c + 1) % 3
def pv (c : Nat) : Nat := c - c % 3 + (c + 2) % 3
theorem nx_div (c : Nat) : nx c / 3 = c / 3 := by unfold nx; omega
theorem pv_div (c : Nat) : pv c / 3 = c / 3 := by unfold pv; omega
theorem pv_nx (c : Nat) : pv (nx c) = c := by unfold nx pv; omega
theorem nx_pv (c : Nat) : nx (pv c) = c := by unfold nx pv; omega
theorem nx_nx (c : Nat) : nx (nx c) = pv c := by unfold nx pv; omega
theorem pv_pv (c : Nat) : pv (pv c) = nx c := by unfold nx pv; omega
theorem nx_lt {F c : Nat} (h : c < 3 * F) : nx c < 3 * F := by unfold nx; omega
theorem pv_lt {F c : Nat} (h : c < 3 * F) : pv c < 3 * F := by unfold pv; omega

section
variable {F N : Nat} {opp vert : Nat → Nat}

/-! A tree of vertices, along edges U. -/
variable {U : Nat → Prop}
end
end Jor
end Go.Proofs.Ytpnkhgjjlionnaa
namespace Go.Proofs.Ytpnkhgjjlionnaa
open Go.RowKit Go.Maps

/-! What a table tells, in plain words. -/
def triAt (T : List Tr) (c : Nat) : Tr := T[c / 3]?.getD (0, 0, 0)
def vertN (T : List Tr) (c : Nat) : Int := if c % 3 = 0 then (triAt T c).1 else if c % 3 = 1 then (triAt T c).2.1 else (triAt T c).2.2
def hasC (T : List Tr) (c : Int) : Bool := decide (0 ≤ c ∧ c < 3 * T.length)
def vertI (T : List Tr) (c : Int) : Int := if hasC T c = true then vertN T c.toNat else -1
def nextI (T : List Tr) (c : Int) : Int := if hasC T c = true then (Jor.nx c.toNat : Nat) else -1
def prevI (T : List Tr) (c : Int) : Int := if hasC T c = true then (Jor.pv c.toNat : Nat) else -1
def edgeI (T : List Tr) (c : Int) : Int × Int := (vertI T (nextI T c), vertI T (prevI T c))
def edgeN (T : List Tr) (c : Nat) : Int × Int := (vertN T (Jor.nx c), vertN T (Jor.pv c))
/-- The first corner from c on that faces an edge; that has a vertex. -/
def facFrom (T : List Tr) (c : Nat) (e : Int × Int) : Option Nat := (List.range' c (3 * T.length - c)).find? fun d => edgeN T d == e
def fstFrom (T : List Tr) (c : Nat) (v : Int) : Option Nat := (List.range' c (3 * T.length - c)).find? fun d => vertN T d == v
def facI (T : List Tr) (e : Int × Int) : Int := match facFrom T 0 e with
  | some c => (c : Int)
  | none => -1
def oppI (T : List Tr) (c : Int) : Int := facI T ((edgeI T c).2, (edgeI T c).1)
open Classical in
/-- The faces as a map holds them. -/
noncomputable def facMap (T : List Tr) (c : Nat) : Value → Option Value := fun y => if h : ∃ e, y = pairV e then (facFrom T c h.choose).map (fun d : Nat => Value.int .i64 (d : Int)) else none
theorem pairV_inj {a b : Int × Int} (h : pairV a = pairV b) : a = b := by
  obtain ⟨a1, a2⟩ := a
  obtain ⟨b1, b2⟩ := b
  simpa [pairV] using h
theorem facMap_at (T : List Tr) (c : Nat) (e : Int × Int) : facMap T c (pairV e) = (facFrom T c e).map (fun d : Nat => Value.int .i64 (d : Int)) := by
  unfold facMap
  have h : ∃ e', pairV e = pairV e' := ⟨e, rfl⟩
  rw [dif_pos h]
  have := pairV_inj h.choose_spec
  rw [← this]
def fsts (N : Int) (T : List Tr) (c : Nat) : List Int := (List.range N.toNat).map fun v : Nat => ((fstFrom T c v).getD 0 : Int)

theorem arrEdge : WideMaps.ArrKey Try.prog 88 3 2 := ⟨Try.underlying88, by kernel_rfl, by kernel_rfl, by kernel_rfl⟩
/-- Block g is a table, its triangles can be read. -/
structure TabS (w : World) (g : Nat) (N : Int) (T : List Tr) : Prop where
  ex : ∃ vT m vF, Blk w g 86 #[.int .i64 N, vT, .map (some m), vF] ∧ TrisRd w vT T
  n0 : 0 ≤ N
  n1 : N ≤ 4096
  len : T.length ≤ 8192
  inr : ∀ t ∈ T, 0 ≤ t.1 ∧ t.1 < N ∧ 0 ≤ t.2.1 ∧ t.2.1 < N ∧ 0 ≤ t.2.2 ∧ t.2.2 < N
/-- Block g is the table of a surface. -/
structure Tab (w : World) (g : Nat) (N : Int) (T : List Tr) : Prop extends TabS w g N T where
  tx : ∃ vT m vF, Blk w g 86 #[.int .i64 N, vT, .map (some m), vF] ∧ TrisRd w vT T ∧ MapP Try.prog 88 w m (facMap T 0) ∧ IntsRd w vF (fsts N T 0)
theorem IntsRd.below {w w' : World} {v : Value} {xs : List Int} (h : IntsRd w v xs) (hb : Below w.heap.size w w') : IntsRd w' v xs := by
  obtain ⟨a, c, rfl, h1, h2⟩ := h
  refine ⟨a, c, rfl, h1, fun k x hk => ?_⟩
  obtain ⟨b, o, rfl, hl, hc⟩ := h2 k x hk
  exact ⟨b, o, rfl, Nat.lt_of_lt_of_le hl hb.size, (hb.cell (p := ⟨b, _, none⟩) hl).trans hc⟩
theorem TabS.below {w w' : World} {g : Nat} {N : Int} {T : List Tr} (h : TabS w g N T) (hb : Below w.heap.size w w') : TabS w' g N T := by
  obtain ⟨⟨vT, m, vF, h1, h2⟩, a, b, c, d⟩ := h
  exact ⟨⟨vT, m, vF, h1.below hb h1.lt, h2.below hb⟩, a, b, c, d⟩
theorem Tab.below {w w' : World} {g : Nat} {N : Int} {T : List Tr} (h : Tab w g N T) (hb : Below w.heap.size w w') : Tab w' g N T := by
  obtain ⟨hs, ⟨vT, m, vF, h1, h2, h3, h4⟩⟩ := h
  exact ⟨hs.below hb, ⟨vT, m, vF, h1.below hb h1.lt, h2.below hb, h3.below hb h3.lt, h4.below hb⟩⟩
theorem TabS.alloc {w : World} {g : Nat} {N : Int} {T : List Tr} (h : TabS w g N T) (o : Obj) : TabS (w.alloc o) g N T := h.below ((Below.refl _ _).alloc (Nat.le_refl _) _)
theorem Tab.alloc {w : World} {g : Nat} {N : Int} {T : List Tr} (h : Tab w g N T) (o : Obj) : Tab (w.alloc o) g N T := h.below ((Below.refl _ _).alloc (Nat.le_refl _) _)
theorem TabS.drew {w : World} {g : Nat} {N : Int} {T : List Tr} (h : TabS w g N T) : TabS w.drew g N T := h.below (Below.refl _ _).drew
theorem TabS.lt {w : World} {g : Nat} {N : Int} {T : List Tr} (h : TabS w g N T) : g < w.heap.size := by
  obtain ⟨vT, m, vF, h1, _⟩ := h.ex
  exact h1.lt
theorem vertN_in {T : List Tr} {N : Int} (h : ∀ t ∈ T, 0 ≤ t.1 ∧ t.1 < N ∧ 0 ≤ t.2.1 ∧ t.2.1 < N ∧ 0 ≤ t.2.2 ∧ t.2.2 < N) {c : Nat} (hc : c < 3 * T.length) : 0 ≤ vertN T c ∧ vertN T c < N := by
  have hk : c / 3 < T.length := by omega
  have := h T[c / 3] (List.getElem_mem _)
  unfold vertN triAt
  rw [List.getElem?_eq_getElem hk]
  simp only [Option.getD_some]
  split
  · exact ⟨this.1, this.2.1⟩
  · split
    · exact ⟨this.2.2.1, this.2.2.2.1⟩
    · exact ⟨this.2.2.2.2.1, this.2.2.2.2.2⟩
theorem vertI_bd {T : List Tr} {N : Int} (h : ∀ t ∈ T, 0 ≤ t.1 ∧ t.1 < N ∧ 0 ≤ t.2.1 ∧ t.2.1 < N ∧ 0 ≤ t.2.2 ∧ t.2.2 < N) (hN : 0 ≤ N) (c : Int) : -1 ≤ vertI T c ∧ vertI T c ≤ N := by
  unfold vertI hasC
  split
  · rename_i hc
    simp at hc
    have := vertN_in h (c := c.toNat) (by omega)
    omega
  · omega
theorem hasC_true {T : List Tr} {c : Int} (h0 : 0 ≤ c) (h1 : c < 3 * T.length) : hasC T c = true := by simp [hasC, h0, h1]
set_option maxRecDepth 100000 in
theorem has_any (g : Nat) (N c : Int) (T : List Tr) (w : World) (h : TabS w g N T) : Calls Try.prog 79 #[.pointer (some ⟨g, 0, none⟩), .int .i64 c] w fun e w' => e = .returned (.bool (hasC T c)) ∧ w = w' := by
  obtain ⟨⟨vT, m, vF, h1, ⟨a, cT, rfl, hc1, hc2, _⟩⟩, _, _, hl, _⟩ := h
  obtain ⟨lg, x0, -, x1, -⟩ : g < w.heap.size ∧ w.cell? ⟨g, 0, none⟩ = some (.int .i64 N) ∧ w.frozen? ⟨g, 0, none⟩ = false ∧ w.cell? ⟨g, 1, none⟩ = some (.slice a T.length cT) ∧ w.frozen? ⟨g, 1, none⟩ = false := ⟨h1.lt, h1.cell 0, h1.frozen 0, h1.cell 1, h1.frozen 1⟩
  obtain ⟨n, hn⟩ : ∃ n, T.length = n := ⟨_, rfl⟩
  unfold hasC
  rw [hn] at x1 hl ⊢
  clear hn h1
  by_cases c0 : 0 ≤ c
  · by_cases c1 : c < 3 * n
    · have hp : decide (0 ≤ c ∧ c < 3 * (n : Int)) = true := by simp [c0, c1]
      rw [hp]
      clear hp
      go_enter Try.func79, Try.ntmps79
      go_wp2
      go_ret
      exact ⟨by simp, rfl⟩
    · have hp : decide (0 ≤ c ∧ c < 3 * (n : Int)) = false := by simp [c0]; omega
      have hd : decide (c < 3 * (n : Int)) = false := by simpa using c1
      rw [hp]
      clear hp c1
      go_enter Try.func79, Try.ntmps79
      go_wp2
      go_ret
      exact ⟨by simp, rfl⟩
  · have hp : decide (0 ≤ c ∧ c < 3 * (n : Int)) = false := by simp; omega
    have hd : decide (0 ≤ c) = false := by simpa using c0
    rw [hp]
    clear hp c0
    go_enter Try.func79, Try.ntmps79
    go_wp2
    go_ret
    exact ⟨by simp, rfl⟩
theorem hasC_nat {T : List Tr} {c : Int} (h : hasC T c = true) : ∃ n : Nat, c = n ∧ n < 3 * T.length := by
  simp [hasC] at h
  exact ⟨c.toNat, by omega, by omega⟩
set_option maxRecDepth 100000 in
set_option maxHeartbeats 1000000 in
theorem vertex_any (g : Nat) (N c : Int) (T : List Tr) (w : World) (h : TabS w g N T) : Calls Try.prog 44 #[.pointer (some ⟨g, 0, none⟩), .int .i64 c] w fun e w' => e = .returned (.int .i64 (vertI T c)) ∧ w = w' := by
  have H := Lib.hid (has_any g N c T w h)
  cases hc : hasC T c with
  | false =>
    have hv : vertI T c = -1 := by simp [vertI, hc]
    have Hc := Lib.hid hc
    rw [hv]
    clear hv hc h
    go_enter Try.func44, Try.ntmps44
    go_wp2_with fail
    refine H.out.mono ?_
    rw [Hc.out]
    rintro e w' ⟨rfl, rfl⟩
    go_wp2
    go_ret
    exact ⟨by simp, rfl⟩
  | true =>
    obtain ⟨n, rfl, hn⟩ := hasC_nat hc
    obtain ⟨⟨vT, m, vF, h1, ⟨a, cT, rfl, hc1, hc2, hr⟩⟩, _, _, hl, _⟩ := h
    obtain ⟨lg, x0, -, x1, -⟩ : g < w.heap.size ∧ w.cell? ⟨g, 0, none⟩ = some (.int .i64 N) ∧ w.frozen? ⟨g, 0, none⟩ = false ∧ w.cell? ⟨g, 1, none⟩ = some (.slice a T.length cT) ∧ w.frozen? ⟨g, 1, none⟩ = false := ⟨h1.lt, h1.cell 0, h1.frozen 0, h1.cell 1, h1.frozen 1⟩
    have hk : n / 3 < T.length := by omega
    obtain ⟨t, ht⟩ : ∃ t, T[n / 3]? = some t := ⟨T[n / 3], List.getElem?_eq_getElem _⟩
    obtain ⟨x, y, z⟩ := t
    obtain ⟨b, o, rfl, hbl, s0, s1, s2⟩ := hr _ x y z ht
    have hv : vertI T (n : Int) = if n % 3 = 0 then x else if n % 3 = 1 then y else z := by simp [vertI, hc, vertN, triAt, ht]
    have Hc := Lib.hid hc
    obtain ⟨L, hL⟩ : ∃ L, T.length = L := ⟨_, rfl⟩
    obtain ⟨k, hkk⟩ : ∃ k, n / 3 = k := ⟨_, rfl⟩
    rw [hL] at x1 hk
    rw [hkk] at hk s0 s1 s2
    rw [hv]
    have e1 : (n : Int) / 3 = (k : Int) := by omega
    have hb0 : (0 : Int) ≤ (n : Int) := by omega
    have hb1 : (n : Int) ≤ 100000 := by omega
    have hk3 : (k : Int) < (L : Int) := by omega
    have hi : n % 3 = 0 ∨ n % 3 = 1 ∨ n % 3 = 2 := by omega
    clear hv hc h1 hr ht hL
    rcases hi with hi | hi | hi
    · have e2 : (n : Int) % 3 = 0 := by omega
      rw [hi]
      clear hkk hi hn
      go_enter Try.func44, Try.ntmps44
      go_wp2_with fail
      refine H.out.mono ?_
      rw [Hc.out]
      rintro e w' ⟨rfl, rfl⟩
      go_wp2
      go_ret
      exact ⟨by simp, rfl⟩
    · have e2 : (n : Int) % 3 = 1 := by omega
      rw [hi]
      clear hkk hi hn
      go_enter Try.func44, Try.ntmps44
      go_wp2_with fail
      refine H.out.mono ?_
      rw [Hc.out]
      rintro e w' ⟨rfl, rfl⟩
      go_wp2
      go_ret
      exact ⟨by simp, rfl⟩
    · have e2 : (n : Int) % 3 = 2 := by omega
      rw [hi]
      clear hkk hi hn
      go_enter Try.func44, Try.ntmps44
      go_wp2_with fail
      refine H.out.mono ?_
      rw [Hc.out]
      rintro e w' ⟨rfl, rfl⟩
      go_wp2
      go_ret
      exact ⟨by simp, rfl⟩

set_option maxRecDepth 100000 in
theorem turned_any (c b : Int) (w : World) (hc : 0 ≤ c ∧ c ≤ 1000000) (hb : 0 ≤ b ∧ b ≤ 2) : Calls Try.prog 92 #[.int .i64 c, .int .i64 b] w fun e w' => e = .returned (.int .i64 (c - c % 3 + (c + b) % 3)) ∧ w = w' := by
  obtain ⟨c0, c1⟩ := hc
  obtain ⟨b0, b1⟩ := hb
  have m0 := Int.emod_nonneg c (show (3 : Int) ≠ 0 by decide)
  have m1 := Int.emod_lt_of_pos c (show (0 : Int) < 3 by decide)
  have m2 := Int.emod_nonneg (c + b) (show (3 : Int) ≠ 0 by decide)
  have m3 := Int.emod_lt_of_pos (c + b) (show (0 : Int) < 3 by decide)
  go_enter Try.func92, Try.ntmps92
  go_wp2
  go_ret
  exact ⟨rfl, rfl⟩
theorem nx_int (n : Nat) : ((n : Int) - (n : Int) % 3 + ((n : Int) + 1) % 3) = ((Jor.nx n : Nat) : Int) := by unfold Jor.nx; omega
theorem pv_int (n : Nat) : ((n : Int) - (n : Int) % 3 + ((n : Int) + 2) % 3) = ((Jor.pv n : Nat) : Int) := by unfold Jor.pv; omega
set_option maxRecDepth 100000 in
theorem next_any (g : Nat) (N c : Int) (T : List Tr) (w : World) (h : TabS w g N T) : Calls Try.prog 63 #[.pointer (some ⟨g, 0, none⟩), .int .i64 c] w fun e w' => e = .returned (.int .i64 (nextI T c)) ∧ w = w' := by
  have H := Lib.hid (has_any g N c T w h)
  have hl := h.len
  cases hc : hasC T c with
  | false =>
    have hv : nextI T c = -1 := by simp [nextI, hc]
    have Hc := Lib.hid hc
    rw [hv]
    clear hv hc h
    go_enter Try.func63, Try.ntmps63
    go_wp2_with fail
    refine H.out.mono ?_
    rw [Hc.out]
    rintro e w' ⟨rfl, rfl⟩
    go_wp2
    go_ret
    exact ⟨by simp, rfl⟩
  | true =>
    obtain ⟨n, rfl, hn⟩ := hasC_nat hc
    have hv : nextI T (n : Int) = ((Jor.nx n : Nat) : Int) := by simp [nextI, hc]
    have Hc := Lib.hid hc
    have HT := Lib.hid (turned_any (n : Int) 1 w ⟨by omega, by omega⟩ (by decide))
    rw [hv, ← nx_int]
    generalize hz : ((n : Int) - (n : Int) % 3 + ((n : Int) + 1) % 3) = z at HT
    clear hv hc h hl hn
    clear hz
    go_enter Try.func63, Try.ntmps63
    go_wp2_with fail
    refine H.out.mono ?_
    rw [Hc.out]
    rintro e w' ⟨rfl, rfl⟩
    go_wp2_with fail
    refine HT.out.mono ?_
    rintro e w' ⟨rfl, rfl⟩
    go_wp2
    go_ret
    exact ⟨rfl, rfl⟩
set_option maxRecDepth 100000 in
theorem prev_any (g : Nat) (N c : Int) (T : List Tr) (w : World) (h : TabS w g N T) : Calls Try.prog 64 #[.pointer (some ⟨g, 0, none⟩), .int .i64 c] w fun e w' => e = .returned (.int .i64 (prevI T c)) ∧ w = w' := by
  have H := Lib.hid (has_any g N c T w h)
  have hl := h.len
  cases hc : hasC T c with
  | false =>
    have hv : prevI T c = -1 := by simp [prevI, hc]
    have Hc := Lib.hid hc
    rw [hv]
    clear hv hc h
    go_enter Try.func64, Try.ntmps64
    go_wp2_with fail
    refine H.out.mono ?_
    rw [Hc.out]
    rintro e w' ⟨rfl, rfl⟩
    go_wp2
    go_ret
    exact ⟨by simp, rfl⟩
  | true =>
    obtain ⟨n, rfl, hn⟩ := hasC_nat hc
    have hv : prevI T (n : Int) = ((Jor.pv n : Nat) : Int) := by simp [prevI, hc]
    have Hc := Lib.hid hc
    have HT := Lib.hid (turned_any (n : Int) 2 w ⟨by omega, by omega⟩ (by decide))
    rw [hv, ← pv_int]
    generalize hz : ((n : Int) - (n : Int) % 3 + ((n : Int) + 2) % 3) = z at HT
    clear hv hc h hl hn
    clear hz
    go_enter Try.func64, Try.ntmps64
    go_wp2_with fail
    refine H.out.mono ?_
    rw [Hc.out]
    rintro e w' ⟨rfl, rfl⟩
    go_wp2_with fail
    refine HT.out.mono ?_
    rintro e w' ⟨rfl, rfl⟩
    go_wp2
    go_ret
    exact ⟨rfl, rfl⟩
theorem MapP.drewN {P : Program} {k : TypeId} {b : Nat} {w : World} {f : Value → Option Value} (h : MapP P k w b f) (n : Nat) : MapP P k (w.drewN n) b f := h
theorem below_drewN {B : Nat} {a w : World} (h : Below B a w) (n : Nat) : Below B a (w.drewN n) := ⟨h.os, h.tape, h.output, h.size, h.block⟩
theorem zero_int (w : World) : (zeroValue 3).run Try.prog w = .ok (.int .i64 0) w := by kernel_rfl
theorem wfV {x : Int} (h : -1 ≤ x ∧ x ≤ 10000) : (Lit.int .i64 x).wf = true := WalkArith.wf_i64 (by omega)
set_option maxRecDepth 100000 in
set_option maxHeartbeats 1000000 in
theorem edge_any (g : Nat) (N c : Int) (T : List Tr) (w : World) (h : TabS w g N T) : Calls Try.prog 43 #[.pointer (some ⟨g, 0, none⟩), .int .i64 c] w fun e w' => e = .returned (pairV (edgeI T c)) ∧ Below w.heap.size w w' := by
  have ht := h.alloc (.cells #[.int .i64 0, .int .i64 0] 88)
  have hB0 : Below w.heap.size w (w.alloc (.cells #[.int .i64 0, .int .i64 0] 88)) := (Below.refl _ _).alloc (Nat.le_refl _) _
  have HT := Lib.hid ht
  have HB0 := Lib.hid hB0
  unfold edgeI pairV
  simp only
  generalize hx : vertI T (nextI T c) = x
  generalize hy : vertI T (prevI T c) = y
  have HX := Lib.hid hx
  have HY := Lib.hid hy
  clear h ht hB0 hx hy
  go_enter Try.func43, Try.ntmps43
  go_wp2_with (first
    | (go_at_call 63; refine (next_any g N c T _ HT.out).mono ?_; rintro e w' ⟨rfl, rfl⟩)
    | (go_at_call 64; refine (prev_any g N c T _ HT.out).mono ?_; rintro e w' ⟨rfl, rfl⟩)
    | (go_at_call 44; refine (vertex_any g N _ T _ HT.out).mono ?_; rintro e w' ⟨rfl, rfl⟩))
  exact bodyPost_ret (v := .agg #[.int .i64 x, .int .i64 y]) (by simp [results, Try.results43, go_sem, HX.out, HY.out]) rfl ⟨rfl, (Below.refl _ _).alloc (Nat.le_refl _) _⟩
set_option maxRecDepth 100000 in
set_option maxHeartbeats 1000000 in
theorem facing_any (g : Nat) (N a b : Int) (T : List Tr) (w : World) (h : Tab w g N T) (ha : -1 ≤ a ∧ a ≤ 10000) (hb : -1 ≤ b ∧ b ≤ 10000) : Calls Try.prog 81 #[.pointer (some ⟨g, 0, none⟩), pairV (a, b)] w fun e w' => e = .returned (.int .i64 (facI T (a, b))) ∧ Below w.heap.size w w' := by
  obtain ⟨vT, m, vF, h1, _, h3, _⟩ := (h.alloc (.cells #[.int .i64 a, .int .i64 b] 88)).tx
  have hlk := fun nq => (h3.drewN nq).lookOk (t := 84) (Keyed.of_law arrEdge.law) Try.underlying84 (zero_int _) (WideMaps.keyOf_pair arrEdge Try.underlying3 types_succ (wfV ha) (wfV hb))
  have hg := h.lt
  rw [show (.agg #[.int .i64 a, .int .i64 b] : Value) = pairV (a, b) from rfl, facMap_at] at hlk
  unfold facI
  cases hf : facFrom T 0 (a, b) with
  | none =>
    rw [hf] at hlk
    simp only [Option.map_none, Option.getD_none, Option.isSome_none] at hlk
    have c1 := h1.cell 2
    clear h h1 h3 hf
    unfold pairV at hlk ⊢
    simp only at hlk ⊢
    go_enter Try.func81, Try.ntmps81
    go_wp2
    go_quiet (fail)
    go_wp2
    go_ret
    exact ⟨rfl, below_drewN (((Below.refl _ _).alloc (Nat.le_refl _) _)) _⟩
  | some d =>
    rw [hf] at hlk
    simp only [Option.map_some, Option.getD_some, Option.isSome_some] at hlk
    have c1 := h1.cell 2
    clear h h1 h3 hf
    unfold pairV at hlk ⊢
    simp only at hlk ⊢
    go_enter Try.func81, Try.ntmps81
    go_wp2
    go_quiet (fail)
    go_wp2
    go_ret
    exact ⟨rfl, below_drewN (((Below.refl _ _).alloc (Nat.le_refl _) _)) _⟩
theorem edgeI_bd {T : List Tr} {N : Int} (h : ∀ t ∈ T, 0 ≤ t.1 ∧ t.1 < N ∧ 0 ≤ t.2.1 ∧ t.2.1 < N ∧ 0 ≤ t.2.2 ∧ t.2.2 < N) (hN : 0 ≤ N) (h1 : N ≤ 4096) (c : Int) : (-1 ≤ (edgeI T c).1 ∧ (edgeI T c).1 ≤ 10000) ∧ -1 ≤ (edgeI T c).2 ∧ (edgeI T c).2 ≤ 10000 := by
  have a := vertI_bd h hN (nextI T c)
  have b := vertI_bd h hN (prevI T c)
  unfold edgeI
  simp only
  omega
set_option maxRecDepth 100000 in
set_option maxHeartbeats 1000000 in
theorem opp_any (g : Nat) (N c : Int) (T : List Tr) (w : World) (h : Tab w g N T) : Calls Try.prog 49 #[.pointer (some ⟨g, 0, none⟩), .int .i64 c] w fun e w' => e = .returned (.int .i64 (oppI T c)) ∧ Below w.heap.size w w' := by
  have H := Lib.hid (edge_any g N c T w h.toTabS)
  obtain ⟨⟨p0, p1⟩, p2, p3⟩ := edgeI_bd h.inr h.n0 h.n1 c
  unfold oppI
  generalize hx : edgeI T c = e at *
  obtain ⟨x, y⟩ := e
  simp only at p0 p1 p2 p3 ⊢
  have HF := Lib.hid (fun (W : World) (hw : Below w.heap.size w W) => facing_any g N y x T W (h.below hw) ⟨p2, p3⟩ ⟨p0, p1⟩)
  generalize facI T (y, x) = z at *
  clear h hx
  go_enter Try.func49, Try.ntmps49
  go_wp2_with fail
  refine H.out.mono ?_
  rintro e w1 ⟨rfl, hb1⟩
  have b1 := Blk.new w1 88 #[.int .i64 x, .int .i64 y]
  obtain ⟨l0, x0, -, x1, -⟩ := b1.two
  have hB1 := hb1.alloc hb1.size (.cells #[.int .i64 x, .int .i64 y] 88)
  have HB1 := Lib.hid hB1
  have H2 := Lib.hid (HF.out _ hB1)
  unfold pairV
  simp only
  clear b1 hB1 hb1 HF
  go_wp2_with fail
  refine H2.out.mono ?_
  rintro e w2 ⟨rfl, hb2⟩
  have HB2 := Lib.hid (HB1.out.trans (hb2.mono HB1.out.size))
  clear hb2 x0 x1 l0
  go_wp2
  go_ret
  exact ⟨rfl, HB2.out⟩
theorem oppI_bd (T : List Tr) (c : Int) : -1 ≤ oppI T c ∧ oppI T c < 3 * (T.length : Int) := by
  unfold oppI facI facFrom
  generalize ((edgeI T c).2, (edgeI T c).1) = e
  cases h : (List.range' 0 (3 * T.length - 0)).find? fun d => edgeN T d == e with
  | none => simp only; omega
  | some d =>
    have := List.mem_of_find?_eq_some h
    rw [List.mem_range'_1] at this
    simp only
    omega
set_option maxRecDepth 100000 in
theorem triangles_any (g : Nat) (N : Int) (T : List Tr) (w : World) (h : TabS w g N T) : Calls Try.prog 80 #[.pointer (some ⟨g, 0, none⟩)] w fun e w' => e = .returned (.int .i64 T.length) ∧ w = w' := by
  obtain ⟨⟨vT, m, vF, h1, ⟨a, cT, rfl, _⟩⟩, _, _, hl, _⟩ := h
  have x1 := h1.cell 1
  have lg := h1.lt
  clear h1
  go_enter Try.func80, Try.ntmps80
  go_wp2
  go_ret
  exact ⟨rfl, rfl⟩
end Go.Proofs.Ytpnkhgjjlionnaa
namespace Go.Proofs.Ytpnkhgjjlionnaa
open Go.RowKit Go.Maps
open Go.MapKept (Stamped)

/-- Block b is a map of bools: it has just the keys ks, each once, and all are true. -/
def KSet (P : Program) (k : TypeId) (w : World) (b : Nat) (ks : List Value) : Prop :=
  ∃ es clock, w.heap[b]? = some (.map es clock) ∧ Stamped es clock ∧ (∀ x ∈ es.toList, ∃ l, keyOf P k x.key = some l) ∧ es.toList.map (·.key) = ks ∧ ∀ x ∈ es.toList, x.val = .bool true
def mapSize (w : World) (b : Nat) : Nat := match w.heap[b]? with | some (.map es _) => es.size | _ => 0
section
variable {P : Program} {k e : TypeId} {b : Nat} {w : World} {ks : List Value}
theorem KSet.made (w : World) (P : Program) (k : TypeId) : KSet P k (w.alloc (.map #[] 0)) w.heap.size [] := ⟨#[], 0, heap_alloc_new w _, MapKept.stamped_empty 0, by simp, rfl, by simp⟩
theorem KSet.obj (h : KSet P k w b ks) : ∃ es clock, w.heap[b]? = some (.map es clock) := by
  obtain ⟨es, clock, hb, _⟩ := h
  exact ⟨es, clock, hb⟩
theorem KSet.lt (h : KSet P k w b ks) : b < w.heap.size := by
  obtain ⟨es, clock, hb, _⟩ := h
  exact (Array.getElem?_eq_some_iff.1 hb).1
theorem KSet.size (h : KSet P k w b ks) : mapSize w b = ks.length := by
  obtain ⟨es, clock, hb, _, _, h3, _⟩ := h
  unfold mapSize
  rw [hb, ← h3]
  simp
theorem KSet.same {w' : World} (h : KSet P k w b ks) (hg : w'.heap[b]? = w.heap[b]?) : KSet P k w' b ks := by
  obtain ⟨es, clock, hb, h1⟩ := h
  exact ⟨es, clock, hg.trans hb, h1⟩
theorem KSet.kept {w' : World} {row : Option Nat} (h : KSet P k w b ks) (hg : w.grownBy w' row) (hne : some b ≠ row) : KSet P k w' b ks := h.same (hg.block b h.lt hne)
theorem KSet.alloc (h : KSet P k w b ks) (o : Obj) : KSet P k (w.alloc o) b ks := h.kept (World.grownBy_alloc w o none) (by simp)
theorem KSet.look {t : TypeId} (h : KSet P k w b ks) (K : Keyed P k) (ht : P.underlying t = some (.map k e)) (hz : (zeroValue e).run P w = .ok (.bool false) w) {key : Value} {kl : Lit} (hkey : keyOf P k key = some kl) :
    ∃ r : Bool, (Instr.lookup t (.map (some b)) key false).run P w = .ok (.bool r) w ∧ (r = true ↔ key ∈ ks) := by
  obtain ⟨es, clock, hb, h1, h2, h3, h4⟩ := h
  rcases K.find w hkey es.toList h2 with ⟨g1, g2⟩ | ⟨j, e0, g1, g2, g3⟩
  · refine ⟨false, by simp [Instr.lookup, run_underlying ht, MapKept.run_getObj_map hb, K.check w _ hkey, g1, hz, Result.andThen], ?_⟩
    rw [← h3]
    constructor
    · intro e0; cases e0
    · intro hm
      obtain ⟨x, hx, e0⟩ := List.mem_map.1 hm
      exact absurd e0 (g2 x hx)
  · have hm := List.mem_of_getElem? g2
    refine ⟨true, ?_, ?_⟩
    · rw [h4 e0 hm] at g1
      simp [Instr.lookup, run_underlying ht, MapKept.run_getObj_map hb, K.check w _ hkey, g1, Result.andThen]
    · rw [← h3]
      exact ⟨fun _ => List.mem_map.2 ⟨e0, hm, g3⟩, fun _ => rfl⟩
theorem KSet.store {t : TypeId} (h : KSet P k w b ks) (K : Keyed P k) (ht : P.underlying t = some (.map k e)) {key : Value} {kl : Lit} (hkey : keyOf P k key = some kl) (hn : key ∉ ks) :
    ∃ w', (Instr.mapUpdate t (.map (some b)) key (.bool true)).run P w = .ok () w' ∧ KSet P k w' b (ks ++ [key]) ∧ w.grownBy w' (some b) ∧ w'.heap.size = w.heap.size := by
  obtain ⟨es, clock, hb, h1, h2, h3, h4⟩ := h
  rcases K.find w hkey es.toList h2 with ⟨g1, g2⟩ | ⟨j, e0, g1, g2, g3⟩
  · refine ⟨_, by simp [Instr.mapUpdate, run_underlying ht, MapKept.run_getObj_map hb, K.check w _ hkey, g1, MapKept.run_setObj_map _ hb, Result.andThen]; rfl, ⟨es.push ⟨key, .bool true, clock⟩, clock + 1, ChangeMaps.heap_setBlock_same hb _, MapKept.stamped_push h1 g2, ?_, by simp [h3], ?_⟩, setBlock_grown hb _, by simp [ChangeMaps.setBlock]⟩
    · intro x hx
      simp only [Array.toList_push, List.mem_append, List.mem_singleton] at hx
      rcases hx with hx | rfl
      · exact h2 x hx
      · exact ⟨_, hkey⟩
    · intro x hx
      simp only [Array.toList_push, List.mem_append, List.mem_singleton] at hx
      rcases hx with hx | rfl
      · exact h4 x hx
      · rfl
  · exact absurd (by rw [← h3]; exact List.mem_map.2 ⟨e0, List.mem_of_getElem? g2, g3⟩) hn
theorem KSet.len {t : TypeId} (h : KSet P k w b ks) (ht : P.underlying t = some (.map k e)) (ty : TypeId) : (Builtin.len_ #[t] ty #[.map (some b)]).run P w = .ok (.int .i64 ks.length) w := by
  obtain ⟨es, clock, hb, h1, h2, h3, h4⟩ := h
  have : (ks.length : Int) = es.size := by rw [← h3]; simp
  rw [this]
  simp [Builtin.len_, run_underlying ht, MapKept.run_getObj_map hb, goInt, Result.andThen]
theorem wpList_lookupK {ops : Array Oper} {rest : List Oper} {o : Oper} {a : Act} {Q : Exit → Act → World → Prop} (h : KSet P k w b ks)
    (hg : o.guard = none) (m x : Operand) (t : TypeId) (hop : o.op = Op.lookup t m x false) (K : Keyed P k) (ht : P.underlying t = some (.map k e)) (hz : (zeroValue e).run P w = .ok (.bool false) w)
    (hm : a.eval m = .map (some b)) (key : Value) (hx : a.eval x = key) {kl : Lit} (hkey : keyOf P k key = some kl)
    (hK : ∀ r : Bool, (r = true ↔ key ∈ ks) → wpList P ops Q rest (a.put o.dst (.bool r)) w) : wpList P ops Q (o :: rest) a w := by
  refine wpList_plain hg fun K' hK' => ?_
  obtain ⟨r, hrun, hi⟩ := h.look K ht hz hkey
  unfold Oper.wp
  simp [execOp, hop, hm, hx, hrun, Result.andThen]
  exact hK' _ _ (hK r hi)
theorem wpList_storeK {ops : Array Oper} {rest : List Oper} {o : Oper} {a : Act} {Q : Exit → Act → World → Prop} (h : KSet P k w b ks)
    (hg : o.guard = none) (m x v : Operand) (t : TypeId) (hop : o.op = Op.mapUpdate t m x v ∨ o.op = Op.insert t m x v) (K : Keyed P k) (ht : P.underlying t = some (.map k e))
    (hm : a.eval m = .map (some b)) (key : Value) (hx : a.eval x = key) (hv : a.eval v = .bool true) {kl : Lit} (hkey : keyOf P k key = some kl) (hn : key ∉ ks)
    (hK : ∀ w', KSet P k w' b (ks ++ [key]) → w.grownBy w' (some b) → w'.heap.size = w.heap.size → wpList P ops Q rest (a.put o.dst undef) w') : wpList P ops Q (o :: rest) a w := by
  refine wpList_plain hg fun K' hK' => ?_
  obtain ⟨w', hrun, r1, r2, r3⟩ := h.store K ht hkey hn
  unfold Oper.wp
  rcases hop with hop | hop <;> simp [execOp, hop, hm, hx, hv, hrun, Result.andThen] <;> exact hK' _ _ (hK w' r1 r2 r3)
theorem wpList_lenK {ops : Array Oper} {rest : List Oper} {o : Oper} {a : Act} {Q : Exit → Act → World → Prop} (h : KSet P k w b ks)
    (hg : o.guard = none) (m : Operand) (t : TypeId) (hop : o.op = Op.call { callee := Callee.builtin Builtin.len, args := #[m], argTypes := #[t] }) (ht : P.underlying t = some (.map k e)) (hm : a.eval m = .map (some b))
    (hK : wpList P ops Q rest (a.put o.dst (.int .i64 ks.length)) w) : wpList P ops Q (o :: rest) a w := by
  refine wpList_plain hg fun K' hK' => ?_
  have hrun := h.len ht o.type
  unfold Oper.wp execOp
  simp only [hop, resolve, invoke, builtin, Sem.run_bind, Sem.run_pure, Result.andThen_ok, List.map_toArray, List.map_cons, List.map_nil, hm, hrun]
  exact hK' _ _ hK
end

/-- A queue of numbers: what its cells hold; from block 'base' on; room behind it. -/
def IQ (w : World) (base : Nat) (v : Value) (zs : List Int) : Prop :=
  ∃ ao b off cap cur, v = .slice ao zs.length cap ∧ zs.length ≤ cap ∧ cap ≤ maxLen ∧ (0 < cap → ao = some ⟨b, off, none⟩ ∧ base ≤ b ∧ w.heap[b]? = some (.cells cur 3 (0, 0)) ∧ off + cap ≤ cur.size ∧ ∀ j, j < zs.length → cur[off + j]? = (intsV zs)[j]?)
theorem IQ.kept {w w' : World} {base : Nat} {v : Value} {zs : List Int} {row : Option Nat} (h : IQ w base v zs) (hg : w.grownBy w' row) (hr : ∀ j, row = some j → j < base ∨ ∃ es clock, w.heap[j]? = some (.map es clock)) : IQ w' base v zs := by
  obtain ⟨ao, b, off, cap, cur, h1, h2, h3, h4⟩ := h
  refine ⟨ao, b, off, cap, cur, h1, h2, h3, fun hc => ?_⟩
  obtain ⟨g1, g2, g3, g4, g5⟩ := h4 hc
  refine ⟨g1, g2, (hg.block b (Array.getElem?_eq_some_iff.1 g3).1 (fun e0 => ?_)).trans g3, g4, g5⟩
  rcases hr b e0.symm with hlt | ⟨es, clock, ho⟩
  · omega
  · rw [g3] at ho
    cases ho
theorem IQ.alloc {w : World} {base : Nat} {v : Value} {zs : List Int} (h : IQ w base v zs) (o : Obj) : IQ (w.alloc o) base v zs := h.kept (World.grownBy_alloc w o none) (fun j e => by cases e)
theorem IQ.form {w : World} {base : Nat} {v : Value} {zs : List Int} (h : IQ w base v zs) : ∃ ao c, v = .slice ao zs.length c := by
  obtain ⟨ao, b, off, cap, cur, h1, _⟩ := h
  exact ⟨ao, cap, h1⟩
end Go.Proofs.Ytpnkhgjjlionnaa
