/-
  Package word, the stack of spans: code, pop, word, by walking their text.
-/
import Derived.Test.YtgjcigokjfhfkaaKitA
import Derived.Test.YtgjcigokjfhfkaaWordM
import Derived.BigRegion
import Derived.RegionTactic
import Derived.ChangeAlike
import Derived.BigQuiet
import Derived.Outline
namespace Go.Proofs.Ytgjcigokjfhfkaa
open Go.RowKit

set_option maxHeartbeats 400000 in
theorem code_any (c : Int) (w : World) :
    Calls Try.prog 30 #[.int .u8 c] w fun e w' => e = .returned (.tuple #[.int .u64 (codeV c), .int .i64 (codeN c)]) ∧ w = w' := by
  go_enter Try.func30, Try.ntmps30
  go_wp2
  all_goals
    go_ret2
    simp_all [codeV, codeN]

/-- The cells of spans, in the order of memory. -/
def cellsS (l : List Span) : List Value := l.flatMap fun x => [.int .i64 x.1, .bool x.2]
theorem cellsS_append (a b : List Span) : cellsS (a ++ b) = cellsS a ++ cellsS b := by simp [cellsS]
theorem cellsS_length (a : List Span) : (cellsS a).length = a.length * 2 := by
  induction a with
  | nil => rfl
  | cons x r ih => simp only [cellsS, List.flatMap_cons, List.length_append, List.length_cons, List.length_nil] at ih ⊢; omega

/-- The variable in block b holds the stack st, in a row of the call's own (from block base on, ahead of block H). -/
def StackIn (w : World) (base H b : Nat) (st : List Span) : Prop :=
  ∃ v, Blk w b 77 #[v] ∧ w.ownsRow base 82 2 v st.length (cellsS st.reverse) ∧ ∀ k, v.ownBlock = some k → k < H

theorem StackIn.lt {w : World} {base H b : Nat} {st : List Span} (h : StackIn w base H b st) : b < w.heap.size := by
  obtain ⟨v, hb, _⟩ := h
  exact hb.lt
theorem StackIn.kept {w w' : World} {base H b : Nat} {st : List Span} (h : StackIn w base H b st) (hg : w.grownBy w' none) : StackIn w' base H b st := by
  obtain ⟨v, hb, hr, hH⟩ := h
  exact ⟨v, hb.grown hg (by simp), hr.kept hg (by cases hv : v.ownBlock <;> simp), hH⟩
theorem StackIn.grown {w w' : World} {base H b g : Nat} {st : List Span} (h : StackIn w base H b st) (hg : w.grownBy w' (some g)) (hne : g ≠ b) (hbase : g < base ∨ H ≤ g) : StackIn w' base H b st := by
  obtain ⟨v, hb, hr, hH⟩ := h
  refine ⟨v, hb.grown hg (by simpa using fun e => hne e.symm), hr.kept hg ?_, hH⟩
  rcases hv : v.ownBlock with _ | k
  · exact .inl rfl
  · refine .inr (fun e => ?_)
    have h1 := hr.lt k hv
    have h2 := hH k hv
    simp at e
    omega
theorem StackIn.alloc {w : World} {base H b : Nat} {st : List Span} (h : StackIn w base H b st) (o : Obj) : StackIn (w.alloc o) base H b st := h.kept (World.grownBy_alloc _ _ _)
theorem StackIn.set_ {w : World} {base H b : Nat} {st : List Span} (h : StackIn w base H b st) (p : Addr) (u : Value) (hne : p.block ≠ b) (hH : H ≤ p.block) : StackIn (w.setCell p u) base H b st :=
  h.grown (g := p.block) (gSet (World.grownBy.refl _ _) _ _ (.inl rfl)) hne (.inr hH)
theorem StackIn.st_ {w : World} {base H b g i : Nat} {u : Value} {st : List Span} (h : StackIn w base H b st) (hne : g ≠ b) (hH : H ≤ g) : StackIn (w.setCell ⟨g, i, none⟩ u) base H b st := h.set_ _ _ hne hH
theorem StackIn.calm {w w' : World} {base H b : Nat} {st : List Span} {row : Option Nat} (h : StackIn w base H b st) (hg : w.grownBy w' row) (hr : ∀ r, row = some r → ∃ o : Obj, w.heap[r]? = some o ∧ o.isCells = false) : StackIn w' base H b st := by
  obtain ⟨v, hb, ho, hH⟩ := h
  exact ⟨v, hb.calm hg hr, own_calm ho hg hr, hH⟩
theorem StackIn.new {w : World} {base b : Nat} (H : Nat) (h : Blk w b 77 #[.slice none 0 0]) : StackIn w base H b [] :=
  ⟨_, h, World.ownsRow_nil _ _ _ _, by simp [Value.ownBlock]⟩
theorem StackIn.top {w : World} {base H H' b : Nat} {st : List Span} (h : StackIn w base H b st) (hH : H ≤ H') : StackIn w base H' b st := by
  obtain ⟨v, hb, hr, h2⟩ := h
  exact ⟨v, hb, hr, fun k hk => by have := h2 k hk; omega⟩
theorem StackIn.now {w : World} {base H b : Nat} {st : List Span} (h : StackIn w base H b st) : StackIn w base w.heap.size b st := by
  obtain ⟨v, hb, hr, h2⟩ := h
  exact ⟨v, hb, hr, fun k hk => (hr.lt k hk).2⟩

theorem cut_own {w : World} {base : Nat} {e : TypeId} {size g k n cap : Nat} {xs ys : List Value} (h : w.ownsRow base e size (.slice (some ⟨g, 0, none⟩) n cap) n (xs ++ ys)) (hx : xs.length = k * size) (hk : k ≤ n) :
    w.ownsRow base e size (.slice (some ⟨g, 0, none⟩) k cap) k xs := by
  obtain ⟨h1, h2⟩ := h
  rcases h2 with ⟨h2, _⟩ | ⟨g', cap', cur, hv, hg, hh, hn, hm, hc, ht⟩
  · cases h2
  · simp only [Value.slice.injEq, Option.some.injEq, Addr.mk.injEq] at hv
    obtain ⟨⟨rfl, _⟩, _, rfl⟩ := hv
    refine ⟨hx, .inr ⟨g, cap, cur, rfl, hg, hh, by omega, hm, hc, ?_⟩⟩
    have hle : k * size ≤ n * size := Nat.mul_le_mul_right _ hk
    rw [← List.take_take_of_le_left ht hle hx]
where
  List.take_take_of_le_left {l xs ys : List Value} {a b : Nat} (ht : l.take b = xs ++ ys) (hab : a ≤ b) (hx : xs.length = a) : xs = l.take a := by
    have : (l.take b).take a = xs := by rw [ht, ← hx]; exact List.take_left
    rw [← this, List.take_take, Nat.min_eq_left hab]

set_option maxHeartbeats 400000 in
theorem pop_empty (b cap : Nat) (ao : Option Addr) (w : World) (hb : b < w.heap.size) (hc : w.cell? ⟨b, 0, none⟩ = some (.slice ao 0 cap)) :
    Calls Try.prog 52 #[.pointer (some ⟨b, 0, none⟩)] w fun e w' => e = .returned (.agg #[.int .i64 3, .bool true]) ∧ w.grownBy w' none := by
  go_enter Try.func52, Try.ntmps52
  go_wp2
  refine bodyPost_ret (v := .agg #[.int .i64 3, .bool true]) (by simp [results, Try.results52, go_sem]) rfl ⟨rfl, ?_⟩
  exact gAlloc (World.grownBy.refl _ _) _

set_option maxHeartbeats 400000 in
theorem pop_some (b g k cap : Nat) (n : Int) (m : Bool) (w : World) (hb : b < w.heap.size) (hg : g < w.heap.size) (hc : w.cell? ⟨b, 0, none⟩ = some (.slice (some ⟨g, 0, none⟩) (k + 1) cap)) (hcap : k + 1 ≤ cap) (hcm : cap ≤ maxLen)
    (hn : w.cell? ⟨g, k * 2, none⟩ = some (.int .i64 n)) (hm : w.cell? ⟨g, k * 2 + 1, none⟩ = some (.bool m)) (hf : w.frozen? ⟨b, 0, none⟩ = false) :
    Calls Try.prog 52 #[.pointer (some ⟨b, 0, none⟩)] w fun e w' => e = .returned (.agg #[.int .i64 n, .bool m]) ∧ ∃ o o',
      w' = (((w.setCell ⟨b, 0, none⟩ (.slice (some ⟨g, 0, none⟩) k cap)).alloc o).alloc o').drew.drew := by
  unfold maxLen at hcm
  go_enter Try.func52, Try.ntmps52
  go_wp2
  go_region
  go_wp2
  go_region
  go_wp2
  refine bodyPost_ret (v := .agg #[.int .i64 n, .bool m]) (by simp [results, Try.results52, go_sem]) rfl ⟨rfl, _, _, rfl⟩

/-- pop, whatever the stack. -/
theorem pop_any (base H b : Nat) (st : List Span) (w : World) (h : StackIn w base H b st) :
    Calls Try.prog 52 #[.pointer (some ⟨b, 0, none⟩)] w fun e w' => e = .returned (.agg #[.int .i64 (popX st).1, .bool (popX st).2]) ∧ StackIn w' base H b (popR st) ∧ w.grownBy w' (some b) := by
  obtain ⟨v, hb, hr, hH⟩ := h
  cases st with
  | nil =>
    obtain ⟨ao, cap, rfl⟩ : ∃ ao cap, v = .slice ao 0 cap := by
      rcases hr.2 with ⟨rfl, _⟩ | ⟨g, cap, cur, rfl, _⟩
      · exact ⟨_, _, rfl⟩
      · exact ⟨_, _, rfl⟩
    refine (pop_empty b cap ao w hb.lt (by rw [hb.cell]; rfl)).mono ?_
    rintro e w' ⟨rfl, hg⟩
    exact ⟨rfl, StackIn.kept ⟨_, hb, hr, hH⟩ hg, ⟨hg.os, hg.tape, hg.output, hg.size, fun k hk _ => hg.block k hk (by simp)⟩⟩
  | cons x r =>
    obtain ⟨g, cap, cur, rfl, hbase, hg, hn, hm, hc, ht⟩ : ∃ g cap cur, v = .slice (some ⟨g, 0, none⟩) (r.length + 1) cap ∧ base ≤ g ∧ w.heap[g]? = some (.cells cur 82 (0, 0)) ∧ r.length + 1 ≤ cap ∧ cap ≤ maxLen ∧ cur.size = cap * 2 ∧
        cur.toList.take ((r.length + 1) * 2) = cellsS (x :: r).reverse := by
      rcases hr.2 with ⟨_, h0⟩ | h
      · simp at h0
      · exact h
    have hcells := hr.cells (g := g) rfl
    have e1 : cellsS (x :: r).reverse = cellsS r.reverse ++ [.int .i64 x.1, .bool x.2] := by rw [List.reverse_cons, cellsS_append]; rfl
    have hl : (cellsS r.reverse).length = r.length * 2 := by rw [cellsS_length, List.length_reverse]
    have c0 : w.cell? ⟨g, r.length * 2, none⟩ = some (.int .i64 x.1) := by
      have := hcells (r.length * 2) (.int .i64 x.1) (by rw [e1, List.getElem?_append_right (by omega), hl]; simp)
      simpa [Addr.add_lit] using this
    have c1 : w.cell? ⟨g, r.length * 2 + 1, none⟩ = some (.bool x.2) := by
      have := hcells (r.length * 2 + 1) (.bool x.2) (by rw [e1, List.getElem?_append_right (by omega), hl]; simp)
      simpa [Addr.add_lit] using this
    have hgl : g < w.heap.size := (Array.getElem?_eq_some_iff.1 hg).1
    have hgb : g ≠ b := Blk.ne_ (t := 82) (t' := 77) hg hb (by decide)
    refine (pop_some b g r.length cap x.1 x.2 w hb.lt hgl (by rw [hb.cell]; rfl) hn hm c0 c1 (hb.frozen 0)).mono ?_
    rintro e w' ⟨rfl, o, o', rfl⟩
    refine ⟨rfl, ⟨_, (((hb.set1 _).alloc _).alloc _).drew, ?_, by simpa [Value.ownBlock] using hH⟩, gDrew (gDrew (gAlloc (gAlloc (gSet (World.grownBy.refl _ _) _ _ (.inl rfl)) _) _))⟩
    have h2 : w.ownsRow base 82 2 (.slice (some ⟨g, 0, none⟩) r.length cap) r.length (cellsS r.reverse) := by
      rw [e1] at hr
      exact cut_own hr hl (by simp)
    refine World.ownsRow.drew (World.ownsRow.drew (World.ownsRow.alloc (World.ownsRow.alloc (h2.kept (row := some b) (gSet (World.grownBy.refl _ _) _ _ (.inl rfl)) (.inr ?_)) _) _))
    simp [Value.ownBlock, hgb]
end Go.Proofs.Ytgjcigokjfhfkaa
