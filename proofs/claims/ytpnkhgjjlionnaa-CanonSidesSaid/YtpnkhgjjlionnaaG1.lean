/-
  Texts joined by program, what the law uses alone: KitA Cmp Row CertA CertI CertL Maps Grp PairM SetQ Jor TogM.
-/
import Derived.WalkKit
import Derived.WalkSpells
import Derived.WalkLawsBesides
import Derived.RangeFuncBox
import Derived.Maps.AppendAt
import Derived.Lib.Hide
import Derived.Deep.RegionHeld3
import Derived.Deep.AppendLies
import Derived.Laws.OwnMore
import Derived.Maps.OwnOps
import Derived.Maps.OwnSet
import Derived.WideKeyPair
import Derived.WideKeyEntry
import Derived.Deep.AppendSrc
import Derived.Laws.IdiomCopy
import Derived.Deep.MidRow
import Derived.Test.YtpnkhgjjlionnaaRows
namespace Go.Proofs.Ytpnkhgjjlionnaa
open Go.RowKit

/-- Block g is just the cells cs of element type t, none frozen. -/
def Blk (w : World) (g : Nat) (t : TypeId) (cs : Array Value) : Prop := w.heap[g]? = some (.cells cs t (0, 0))

section
variable {w w' : World} {g : Nat} {t : TypeId} {cs : Array Value}
theorem Blk.lt (h : Blk w g t cs) : g < w.heap.size := by
  rcases Nat.lt_or_ge g w.heap.size with hlt | hge
  · exact hlt
  · unfold Blk at h; rw [Array.getElem?_eq_none hge] at h; cases h
theorem Blk.cell (h : Blk w g t cs) (i : Nat) : w.cell? ⟨g, i, none⟩ = cs[i]? := cell_of_row w g i cs t (0, 0) h
theorem Blk.frozen (h : Blk w g t cs) (i : Nat) : w.frozen? ⟨g, i, none⟩ = false := by
  unfold Blk at h
  simp [World.frozen?, h]
theorem Blk.new (w : World) (t : TypeId) (cs : Array Value) : Blk (w.alloc (.cells cs t)) w.heap.size t cs := heap_alloc_new w _
theorem Blk.drew (h : Blk w g t cs) : Blk w.drew g t cs := h
theorem Blk.alloc (h : Blk w g t cs) (o : Obj) : Blk (w.alloc o) g t cs := (Below.heap_alloc w o g h.lt).trans h
theorem Blk.set_ (h : Blk w g t cs) (i : Nat) (u : Value) : Blk (w.setCell ⟨g, i, none⟩ u) g t (cs.setIfInBounds i u) := by
  unfold Blk at h ⊢
  simp [World.setCell, Array.getElem?_modify, h]
theorem Blk.set1 {v : Value} (h : Blk w g t #[v]) (u : Value) : Blk (w.setCell ⟨g, 0, none⟩ u) g t #[u] := by
  have := h.set_ 0 u
  simpa using this
theorem Blk.far (h : Blk w g t cs) {p : Addr} (hp : g ≠ p.block) (u : Value) : Blk (w.setCell p u) g t cs := (Below.heap_setCell w p u g hp).trans h
theorem Blk.below {B : Nat} (h : Blk w g t cs) (hb : Below B w w') (hg : g < B) : Blk w' g t cs := (hb.block g hg).trans h
theorem Blk.grown {row : Option Nat} (h : Blk w g t cs) (hb : w.grownBy w' row) (hg : some g ≠ row) : Blk w' g t cs := (hb.block g h.lt hg).trans h
theorem Blk.ne_ {g' : Nat} {t' : TypeId} {cs' : Array Value} (h : Blk w g t cs) (h' : Blk w g' t' cs') (hne : t ≠ t') : g ≠ g' := by
  rintro rfl
  unfold Blk at h h'
  rw [h] at h'
  injection h' with h'
  injection h' with _ ht
  exact hne ht
theorem Blk.one {a : Value} (h : Blk w g t #[a]) : g < w.heap.size ∧ w.cell? ⟨g, 0, none⟩ = some a ∧ w.frozen? ⟨g, 0, none⟩ = false := ⟨h.lt, h.cell 0, h.frozen 0⟩
theorem Blk.two {a b : Value} (h : Blk w g t #[a, b]) : g < w.heap.size ∧ w.cell? ⟨g, 0, none⟩ = some a ∧ w.frozen? ⟨g, 0, none⟩ = false ∧ w.cell? ⟨g, 1, none⟩ = some b ∧ w.frozen? ⟨g, 1, none⟩ = false :=
  ⟨h.lt, h.cell 0, h.frozen 0, h.cell 1, h.frozen 1⟩
theorem Blk.three {a b c : Value} (h : Blk w g t #[a, b, c]) : g < w.heap.size ∧ w.cell? ⟨g, 0, none⟩ = some a ∧ w.frozen? ⟨g, 0, none⟩ = false ∧ w.cell? ⟨g, 1, none⟩ = some b ∧ w.frozen? ⟨g, 1, none⟩ = false ∧ w.cell? ⟨g, 2, none⟩ = some c ∧ w.frozen? ⟨g, 2, none⟩ = false :=
  ⟨h.lt, h.cell 0, h.frozen 0, h.cell 1, h.frozen 1, h.cell 2, h.frozen 2⟩
theorem own_blk_ne {base : Nat} {e : TypeId} {size n : Nat} {v : Value} {xs : List Value} (h : w.ownsRow base e size v n xs) (hg : Blk w g t cs) (hne : e ≠ t) : v.ownBlock ≠ some g := by
  rcases h.2 with ⟨rfl, _⟩ | ⟨g', cap, cur, rfl, _, hh, _⟩
  · simp [Value.ownBlock]
  · intro he
    have : g' = g := by simpa [Value.ownBlock] using he
    subst this
    exact Blk.ne_ (t := e) hh hg hne rfl
end

/-! Frames, read backward from the walk's last world. -/
section
variable {w a b : World} {row : Option Nat}
theorem gDrew (h : w.grownBy a row) : w.grownBy a.drew row := ⟨h.os, h.tape, h.output, h.size, h.block⟩
theorem gSet (h : w.grownBy a row) (p : Addr) (u : Value) (hp : row = some p.block ∨ w.heap.size ≤ p.block) : w.grownBy (a.setCell p u) row :=
  ⟨h.os, h.tape, h.output, by simpa [World.setCell] using h.size, fun k hk hne => by
    rw [Below.heap_setCell _ _ _ _ (by rintro rfl; rcases hp with e | e; exact hne e.symm; omega)]
    exact h.block k hk hne⟩
theorem gStR {g i : Nat} {u : Value} (h : w.grownBy a (some g)) : w.grownBy (a.setCell ⟨g, i, none⟩ u) (some g) := gSet h _ _ (.inl rfl)
theorem gGrown {r : Option Nat} (h : w.grownBy a row) (hb : a.grownBy b r) (hr : ∀ j, r = some j → row = some j ∨ w.heap.size ≤ j) : w.grownBy b row :=
  ⟨hb.os.trans h.os, hb.tape.trans h.tape, hb.output.trans h.output, Nat.le_trans h.size hb.size, fun k hk hne =>
    (hb.block k (Nat.lt_of_lt_of_le hk h.size) (fun e => by rcases hr k e.symm with e' | e'; exact hne e'.symm; omega)).trans (h.block k hk hne)⟩
theorem grown_of_below (h : Below w.heap.size w a) (row : Option Nat) : w.grownBy a row := ⟨h.os, h.tape, h.output, h.size, fun k hk _ => h.block k hk⟩
end

/-! What a range over a function does to blocks that are no cells leaves cells alone. -/
section
variable {w w' : World} {g : Nat} {t : TypeId} {cs : Array Value} {row : Option Nat}
theorem own_own_ne {base base' : Nat} {e e' : TypeId} {size size' n n' : Nat} {v v' : Value} {xs xs' : List Value} (h : w.ownsRow base e size v n xs) (h' : w.ownsRow base' e' size' v' n' xs') (hne : e ≠ e') : v.ownBlock = none ∨ v.ownBlock ≠ v'.ownBlock := by
  rcases h.2 with ⟨rfl, _⟩ | ⟨g, cap, cur, rfl, _, hh, _⟩
  · exact .inl rfl
  · refine .inr (fun e0 => ?_)
    rcases h'.2 with ⟨rfl, _⟩ | ⟨g', cap', cur', rfl, _, hh', _⟩
    · simp [Value.ownBlock] at e0
    · have : g = g' := by simpa [Value.ownBlock] using e0
      subst this
      rw [hh] at hh'
      injection hh' with hh'
      injection hh' with _ ht
      exact hne ht
theorem own_alloc_st {base : Nat} {e : TypeId} {size n b i : Nat} {v u : Value} {xs : List Value} (h : w.ownsRow base e size v n xs) (hb : Blk w b t cs) (hne : e ≠ t) : (w.setCell ⟨b, i, none⟩ u).ownsRow base e size v n xs :=
  h.kept (row := some b) (gSet (World.grownBy.refl _ _) _ _ (.inl rfl)) (.inr (own_blk_ne h hb hne))
end

/-! Behind 'x = append(x, ..)', x a variable in the block B: what else lay lies. -/


/-! Sizes -/
theorem size_alloc' (w : World) (o : Obj) : (w.alloc o).heap.size = w.heap.size + 1 := by simp
end Go.Proofs.Ytpnkhgjjlionnaa
namespace Go.Proofs.Ytpnkhgjjlionnaa
open Go.RowKit

/-- How two rows of numbers stand. -/
def cmpL : List Int → List Int → Int
  | [], [] => 0
  | [], _ :: _ => -1
  | _ :: _, [] => 1
  | x :: xs, y :: ys => if x < y then -1 else if y < x then 1 else cmpL xs ys
def cmpI (x y : Int) : Int := if x < y then -1 else if y < x then 1 else 0
theorem cmpL_drop {xs ys : List Int} {k : Nat} (h1 : k < xs.length) (h2 : k < ys.length) : cmpL (xs.drop k) (ys.drop k) = if cmpI xs[k] ys[k] = 0 then cmpL (xs.drop (k + 1)) (ys.drop (k + 1)) else cmpI xs[k] ys[k] := by
  rw [List.drop_eq_getElem_cons h1, List.drop_eq_getElem_cons h2]
  unfold cmpI
  simp only [cmpL]
  by_cases ha : xs[k] < ys[k]
  · simp [ha]
  · by_cases hb : ys[k] < xs[k]
    · simp [ha, hb]
    · simp [ha, hb]
set_option maxRecDepth 100000 in
theorem compareI_any (x y : Int) (w : World) : Calls Try.prog 91 #[.int .i64 x, .int .i64 y] w fun e w' => e = .returned (.int .i64 (cmpI x y)) ∧ w' = w := by
  by_cases h1 : x < y
  · have hd : cmpI x y = -1 := by simp [cmpI, h1]
    have b1 : decide (x < y) = true := by simpa using h1
    have HD := Lib.hid hd
    clear h1 hd
    go_enter Try.func91, Try.ntmps91
    go_wp2
    go_ret
    exact ⟨by rw [HD.out]; rfl, rfl⟩
  · by_cases h2 : y < x
    · have hd : cmpI x y = 1 := by simp [cmpI, h1, h2]
      have b1 : decide (x < y) = false := by simpa using h1
      have b2 : decide (y < x) = true := by simpa using h2
      have HD := Lib.hid hd
      clear h1 h2 hd
      go_enter Try.func91, Try.ntmps91
      go_wp2
      go_ret
      exact ⟨by rw [HD.out]; rfl, rfl⟩
    · have hd : cmpI x y = 0 := by simp [cmpI, h1, h2]
      have b1 : decide (x < y) = false := by simpa using h1
      have b2 : decide (y < x) = false := by simpa using h2
      have HD := Lib.hid hd
      clear h1 h2 hd
      go_enter Try.func91, Try.ntmps91
      go_wp2
      go_ret
      exact ⟨by rw [HD.out]; rfl, rfl⟩
/-- A slice of numbers, as it is read. -/
def IntsRd (w : World) (v : Value) (xs : List Int) : Prop := ∃ a c, v = .slice a xs.length c ∧ xs.length ≤ 9223372036854775807 ∧ ∀ k x, xs[k]? = some x → ∃ b o, a = some ⟨b, o, none⟩ ∧ b < w.heap.size ∧ w.cell? ⟨b, o + k, none⟩ = some (.int .i64 x)
theorem IntsRd.of_row {w : World} {base n : Nat} {v : Value} {xs : List Int} (h : w.ownsRow base 3 1 v n (xs.map (Value.int .i64))) (hn : xs.length = n) : IntsRd w v xs := by
  rcases h.2 with ⟨rfl, h0⟩ | ⟨g, cap, cur, rfl, _, _, h1, h2, _⟩
  · have : xs = [] := List.eq_nil_of_length_eq_zero (by omega)
    subst this
    exact ⟨none, 0, rfl, by simp, fun k x hx => by simp at hx⟩
  · subst hn
    refine ⟨some ⟨g, 0, none⟩, cap, rfl, by unfold maxLen at h2; omega, fun k x hx => ⟨g, 0, rfl, (h.lt g rfl).2, ?_⟩⟩
    have hk := (List.getElem?_eq_some_iff.1 hx).1
    rw [Nat.zero_add, h.cellAt k (by omega), List.getElem?_map, hx]
    rfl

set_option maxRecDepth 100000 in
set_option maxHeartbeats 1000000 in
theorem compareL_any (v1 v2 : Value) (xs ys : List Int) (w : World) (h1 : IntsRd w v1 xs) (h2 : IntsRd w v2 ys) : Calls Try.prog 60 #[v1, v2] w fun e w' => e = .returned (.int .i64 (cmpL xs ys)) ∧ w' = w := by
  obtain ⟨a1, c1, rfl, l1, r1⟩ := h1
  obtain ⟨a2, c2, rfl, l2, r2⟩ := h2
  have R1 := Lib.hid r1
  have R2 := Lib.hid r2
  clear r1 r2
  go_enter Try.func60, Try.ntmps60
  go_wp2
  go_loop [11] (fun i => ∃ k : Nat, k ≤ xs.length ∧ k ≤ ys.length ∧ i = .int .i64 k ∧ cmpL xs ys = cmpL (xs.drop k) (ys.drop k)) (fun i => xs.length - (intOf i).toNat)
  case atStart => exact ⟨0, Nat.zero_le _, Nat.zero_le _, rfl, rfl⟩
  case round =>
    obtain ⟨k, hk1, hk2, rfl, hc⟩ := hrel
    by_cases hlt : k < xs.length
    · obtain ⟨b1, o1, rfl, hb1, s1⟩ := R1.out k _ (List.getElem?_eq_getElem hlt)
      by_cases hlt2 : k < ys.length
      · obtain ⟨b2, o2, rfl, hb2, s2⟩ := R2.out k _ (List.getElem?_eq_getElem hlt2)
        rw [cmpL_drop hlt hlt2] at hc
        generalize xs[k] = x at *
        generalize ys[k] = y at *
        have hge : decide ((ys.length : Int) ≤ (k : Int)) = false := by simp; omega
        by_cases h0 : cmpI x y = 0
        · rw [if_pos h0] at hc
          have HC := Lib.hid hc
          have H0 := Lib.hid h0
          clear hc h0
          go_wp2_with (go_at_call 91; refine (compareI_any _ _ _).mono ?_; rintro e w' ⟨rfl, rfl⟩; rw [H0.out])
          go_round
          case measure => simp [intOf]; omega
          case rel => exact ⟨k + 1, by omega, by omega, by go_num, HC.out⟩
        · rw [if_neg h0] at hc
          have hne : (cmpI x y != 0) = true := by simpa using h0
          have HC := Lib.hid hc
          clear hc h0
          go_wp2_with (go_at_call 91; refine (compareI_any _ _ _).mono ?_; rintro e w' ⟨rfl, rfl⟩)
          go_ret
          exact ⟨by rw [HC.out]; rfl, rfl⟩
      · obtain rfl : k = ys.length := by omega
        rw [List.drop_length, List.drop_eq_getElem_cons hlt] at hc
        have HC := Lib.hid hc
        clear hc
        go_wp2
        go_ret
        exact ⟨by rw [HC.out]; rfl, rfl⟩
    · obtain rfl : k = xs.length := by omega
      rw [List.drop_length] at hc
      by_cases hl : xs.length < ys.length
      · rw [List.drop_eq_getElem_cons hl] at hc
        have HC := Lib.hid hc
        clear hc
        go_wp2
        go_ret
        exact ⟨by rw [HC.out]; rfl, rfl⟩
      · rw [List.drop_eq_nil_of_le (by omega)] at hc
        have HC := Lib.hid hc
        clear hc
        go_wp2
        go_ret
        exact ⟨by rw [HC.out]; rfl, rfl⟩
end Go.Proofs.Ytpnkhgjjlionnaa
namespace Go.Proofs.Ytpnkhgjjlionnaa
open Go.RowKit

abbrev Tr := Int × Int × Int
def flatT (T : List Tr) : List Int := T.flatMap fun t => [t.1, t.2.1, t.2.2]
theorem flatT_length (T : List Tr) : (flatT T).length = 3 * T.length := by
  induction T with
  | nil => rfl
  | cons t r ih => simp only [flatT, List.flatMap_cons] at ih ⊢; simp only [List.length_append, ih, List.length_cons, List.length_nil]; omega
/-- Triangles, as they are read. -/
def TrisRd (w : World) (v : Value) (T : List Tr) : Prop := ∃ a c, v = .slice a T.length c ∧ T.length ≤ c ∧ c ≤ 9223372036854775807 ∧ ∀ (k : Nat) (x y z : Int), T[k]? = some (x, y, z) → ∃ b o, a = some ⟨b, o, none⟩ ∧ b < w.heap.size ∧ w.cell? ⟨b, o + k * 3, none⟩ = some (.int .i64 x) ∧ w.cell? ⟨b, o + k * 3 + 1, none⟩ = some (.int .i64 y) ∧ w.cell? ⟨b, o + k * 3 + 2, none⟩ = some (.int .i64 z)
theorem TrisRd.below {w w' : World} {v : Value} {T : List Tr} (h : TrisRd w v T) (hb : Below w.heap.size w w') : TrisRd w' v T := by
  obtain ⟨a, c, rfl, h1, h2, h3⟩ := h
  refine ⟨a, c, rfl, h1, h2, fun k x y z hk => ?_⟩
  obtain ⟨b, o, rfl, hl, s0, s1, s2⟩ := h3 k x y z hk
  exact ⟨b, o, rfl, Nat.lt_of_lt_of_le hl hb.size, (hb.cell (p := ⟨b, _, none⟩) hl).trans s0, (hb.cell (p := ⟨b, _, none⟩) hl).trans s1, (hb.cell (p := ⟨b, _, none⟩) hl).trans s2⟩
theorem TrisRd.alloc {w : World} {v : Value} {T : List Tr} (h : TrisRd w v T) (o : Obj) : TrisRd (w.alloc o) v T := h.below ((Below.refl _ _).alloc (Nat.le_refl _) _)
/-- The numbers of a soup, in order. -/
def rowM (N : Int) (T : List Tr) : List Int := N :: (T.length : Int) :: flatT T
theorem infoI : (Try.prog.info? 3).map (fun i => (i.zero, i.size, i.bytes)) = some (some (.int .i64 0), 1, 8) := by kernel_rfl

set_option maxRecDepth 100000 in
set_option maxHeartbeats 1000000 in
theorem row_any (N : Int) (v : Value) (T : List Tr) (w : World) (h : TrisRd w v T) (hl : T.length ≤ 100000) : Calls Try.prog 61 #[.agg #[.int .i64 N, v]] w fun e w' => ∃ v', e = .returned v' ∧ w'.ownsRow w.heap.size 3 1 v' (2 + 3 * T.length) ((rowM N T).map (Value.int .i64)) ∧ Below w.heap.size w w' := by
  obtain ⟨i1, hi', hy0, hy1, hy2⟩ := info_parts infoI
  obtain ⟨a, c, rfl, hc1, hc2, hr⟩ := h
  have HR := Lib.hid hr
  have b1 := Blk.new w 24 #[.int .i64 N, .slice a T.length c]
  obtain ⟨l0, x0, -, x1, -⟩ := b1.two
  have hB0 : Below w.heap.size w (w.alloc (.cells #[.int .i64 N, .slice a T.length c] 24)) := (Below.refl _ _).alloc (Nat.le_refl _) _
  have r0 : ((w.alloc (.cells #[.int .i64 N, .slice a T.length c] 24)).alloc (.cells #[.int .i64 N, .int .i64 (T.length : Int)] 3)).ownsRow w.heap.size 3 1 (.slice (some ⟨w.heap.size + 1, 0, none⟩) 2 2) 2 [.int .i64 N, .int .i64 (T.length : Int)] := by
    have := World.ownsRow_lit (w.alloc (.cells #[.int .i64 N, .slice a T.length c] 24)) (base := w.heap.size) (e := 3) (size := 1) #[.int .i64 N, .int .i64 (T.length : Int)] 2 (by simp) (by decide) rfl
    rw [size_alloc'] at this
    exact this
  have hB1 := hB0.alloc hB0.size (.cells #[.int .i64 N, .int .i64 (T.length : Int)] 3)
  obtain ⟨n, hn⟩ : ∃ n, T.length = n := ⟨_, rfl⟩
  unfold rowM
  rw [hn] at hl hc1 x1 r0 hB0 hB1 b1 l0 ⊢
  have HN := Lib.hid hn
  clear hr hn
  go_enter Try.func61, Try.ntmps61
  go_wp2
  go_loopw [3, 15] (fun v3 i wr => ∃ (k : Nat) (v' : Value), v' = v3 ∧ k ≤ n ∧ i = .int .i64 k ∧ wr.ownsRow w.heap.size 3 1 v' (2 + 3 * k) ((N :: (n : Int) :: flatT (T.take k)).map (Value.int .i64)) ∧ Below w.heap.size w wr) (fun _ i _ => n - (intOf i).toNat)
  case atStart => exact ⟨0, _, rfl, Nat.zero_le _, rfl, r0, hB1⟩
  case round =>
    obtain ⟨k, v', rfl, hk, rfl, hrow, hB⟩ := hrel
    by_cases hlt : k < n
    · obtain ⟨t, ht⟩ : ∃ t, T[k]? = some t := ⟨T[k]'(by have := HN.out; omega), List.getElem?_eq_getElem _⟩
      obtain ⟨x, y, z⟩ := t
      obtain ⟨b, o, rfl, hbl, s0, s1, s2⟩ := HR.out k x y z ht
      have s0' := (hB.cell (p := ⟨b, _, none⟩) hbl).trans s0
      have s1' := (hB.cell (p := ⟨b, _, none⟩) hbl).trans s1
      have s2' := (hB.cell (p := ⟨b, _, none⟩) hbl).trans s2
      have hts : flatT (T.take (k + 1)) = flatT (T.take k) ++ [x, y, z] := by
        obtain ⟨hk', he⟩ := List.getElem?_eq_some_iff.1 ht
        rw [List.take_succ_eq_append_getElem hk', he]
        simp [flatT]
      have Hts := Lib.hid hts
      have hsz := hB.size
      have hk3 : (k : Int) < (n : Int) := by omega
      have hk0 : (0 : Int) ≤ (k : Int) := by omega
      have c3 : 2 + 3 * k + 3 ≤ maxLen := by unfold maxLen; omega
      have c4 : (2 + 3 * k + 3) * 8 ≤ 140737488355328 := by omega
      clear hts ht s0 s1 s2
      go_wp2_with (at_builtin; refine wpList_append_lies _ rfl (.tmp 19) (.tmp 20) 35 rfl w.heap.size 3 i1 _ 1 8 Try.underlying35 hi' hy0 hy1 hy2 rfl (by decide) _ _ _ rfl (hrow.alloc _) ⟨wr.heap.size, 0, none⟩ 3 3 [.int .i64 x, .int .i64 y, .int .i64 z] rfl rfl (World.news_of_block (heap_alloc_new _ _)) (by simp [Value.oneCell']) (by decide) c3 c4 (by rw [size_alloc']; omega) (wr.heap.size + 1) (by simp) ?_; intro g4 cap4 W4 hr4 hg4 _ _)
      go_roundw
      case measure => simp [intOf]; omega
      case rel =>
        refine ⟨k + 1, _, rfl, by omega, by go_num, ?_, hB.grown (gGrown (World.grownBy_alloc wr _ _) hg4 (row := v'.ownBlock) (fun _ e => .inl e)) hB.size (fun j e => (hrow.lt j e).1)⟩
        rw [Hts.out]
        have e1 : 2 + 3 * (k + 1) = 2 + 3 * k + 3 := by omega
        rw [e1]
        simpa using hr4
    · obtain rfl : k = n := by omega
      have hnn := HN.out
      rw [List.take_of_length_le (by omega)] at hrow
      have Hrow := Lib.hid hrow
      have HB := Lib.hid hB
      clear hrow hB hnn
      go_wp2
      go_ret
      exact ⟨_, rfl, Hrow.out, HB.out⟩
end Go.Proofs.Ytpnkhgjjlionnaa
namespace Go.Proofs.Ytpnkhgjjlionnaa
open Go.RowKit

/-- The cells of a row of triples. -/
def ws3 (ws : List Tr) : List Value := (flatT ws).map (Value.int .i64)
theorem ws3_snoc (ws : List Tr) (a b c : Int) : ws3 (ws ++ [(a, b, c)]) = ws3 ws ++ [.int .i64 a, .int .i64 b, .int .i64 c] := by simp [ws3, flatT]
theorem index_t0 (a b c : Value) (w : World) : (Instr.index 61 (.agg #[a, b, c]) (.int .i64 0)).run Try.prog w = .ok a w := by
  simp [Instr.index, run_underlying Try.underlying61, part, go_sem]
theorem index_t1 (a b c : Value) (w : World) : (Instr.index 61 (.agg #[a, b, c]) (.int .i64 1)).run Try.prog w = .ok b w := by
  simp [Instr.index, run_underlying Try.underlying61, part, go_sem]
theorem index_t2 (a b c : Value) (w : World) : (Instr.index 61 (.agg #[a, b, c]) (.int .i64 2)).run Try.prog w = .ok c w := by
  simp [Instr.index, run_underlying Try.underlying61, part, go_sem]
theorem heap_alloc_new2 (w : World) (o o' : Obj) : ((w.alloc o).alloc o').heap[w.heap.size + 1]? = some o' := by
  have h := heap_alloc_new (w.alloc o) o'
  rw [size_alloc'] at h
  exact h
theorem snoc_kind {ws : List Tr} {k : Int} {t : Tr} (h : ∀ x ∈ ws, x.1 = k) (ht : t.1 = k) : ∀ x ∈ ws ++ [t], x.1 = k := by
  intro x hx
  rcases List.mem_append.1 hx with hx | hx
  · exact h x hx
  · simp only [List.mem_singleton] at hx
    rw [hx, ht]
/-- What a list of witnesses says: of one kind, none just if nothing is wrong. -/
def WitsIs (w : World) (base : Nat) (v : Value) (kind : Int) (P : Prop) : Prop := ∃ ws : List Tr, w.ownsRow base 44 3 v ws.length (ws3 ws) ∧ (ws = [] ↔ P) ∧ (∀ x ∈ ws, x.1 = kind) ∧ ws.length ≤ 1000000000000
theorem infoWit : (Try.prog.info? 44).map (fun i => (i.zero, i.size, i.bytes)) = some (some (.agg #[.int .i64 0, .int .i64 0, .int .i64 0]), 3, 24) := by kernel_rfl
def simple3 (t : Tr) : Prop := t.1 ≠ t.2.1 ∧ t.2.1 ≠ t.2.2 ∧ t.2.2 ≠ t.1
theorem take_succ_all {α : Type} {p : α → Prop} {T : List α} {k : Nat} {t : α} (h : T[k]? = some t) : (∀ x ∈ T.take (k + 1), p x) ↔ (∀ x ∈ T.take k, p x) ∧ p t := by
  obtain ⟨hk, he⟩ := List.getElem?_eq_some_iff.1 h
  rw [List.take_succ_eq_append_getElem hk, he]
  constructor
  · exact fun hh => ⟨fun x hx => hh x (by simp [hx]), hh t (by simp)⟩
  · rintro ⟨h1, h2⟩ x hx
    rcases List.mem_append.1 hx with hx | hx
    · exact h1 x hx
    · simp only [List.mem_singleton] at hx
      subst hx
      exact h2

theorem simple3_parts (x y z : Int) : ((x == y) = false ∧ (y == z) = false ∧ (z == x) = false ∧ simple3 (x, y, z)) ∨ (((x == y) = true ∨ ((x == y) = false ∧ (y == z) = true) ∨ ((x == y) = false ∧ (y == z) = false ∧ (z == x) = true)) ∧ ¬ simple3 (x, y, z)) := by
  unfold simple3
  cases h1 : (x == y) <;> cases h2 : (y == z) <;> cases h3 : (z == x) <;> simp_all
set_option maxRecDepth 100000 in
set_option maxHeartbeats 1000000 in
theorem loop_any (N : Int) (v : Value) (T : List Tr) (w : World) (h : TrisRd w v T) (hl : T.length ≤ 100000) : Calls Try.prog 95 #[.agg #[.int .i64 N, v]] w fun e w' => ∃ v', e = .returned v' ∧ WitsIs w' w.heap.size v' 2 (∀ t ∈ T, simple3 t) ∧ Below w.heap.size w w' := by
  obtain ⟨i1, hi', hy0, hy1, hy2⟩ := info_parts infoWit
  obtain ⟨a, c, rfl, hc1, hc2, hr⟩ := h
  have HR := Lib.hid hr
  have b1 := Blk.new w 24 #[.int .i64 N, .slice a T.length c]
  obtain ⟨l0, x0, -, x1, -⟩ := b1.two
  have hB0 : Below w.heap.size w (w.alloc (.cells #[.int .i64 N, .slice a T.length c] 24)) := (Below.refl _ _).alloc (Nat.le_refl _) _
  obtain ⟨n, hn⟩ : ∃ n, T.length = n := ⟨_, rfl⟩
  rw [hn] at hl hc1 x1 hB0 b1 l0 ⊢
  have HN := Lib.hid hn
  clear hr hn
  go_enter Try.func95, Try.ntmps95
  go_wp2
  go_loopw [3, 9] (fun v3 i wr => ∃ (k : Nat) (v' : Value) (ws : List Tr), v' = v3 ∧ k ≤ n ∧ i = .int .i64 k ∧ wr.ownsRow w.heap.size 44 3 v' ws.length (ws3 ws) ∧ ws.length ≤ k ∧ (ws = [] ↔ ∀ t ∈ T.take k, simple3 t) ∧ (∀ x ∈ ws, x.1 = 2) ∧ Below w.heap.size w wr) (fun _ i _ => n - (intOf i).toNat)
  case atStart => exact ⟨0, _, [], rfl, Nat.zero_le _, rfl, World.ownsRow_nil _ _ _ _, Nat.le_refl _, by simp, by simp, hB0⟩
  case round =>
    obtain ⟨k, v', ws, rfl, hk, rfl, hrow, hwl, hws, hkd, hB⟩ := hrel
    by_cases hlt : k < n
    · obtain ⟨t, ht⟩ : ∃ t, T[k]? = some t := ⟨T[k]'(by have := HN.out; omega), List.getElem?_eq_getElem _⟩
      obtain ⟨x, y, z⟩ := t
      obtain ⟨b, o, rfl, hbl, s0, s1, s2⟩ := HR.out k x y z ht
      have s0' := (hB.cell (p := ⟨b, _, none⟩) hbl).trans s0
      have s1' := (hB.cell (p := ⟨b, _, none⟩) hbl).trans s1
      have s2' := (hB.cell (p := ⟨b, _, none⟩) hbl).trans s2
      have Hts := Lib.hid (take_succ_all (p := simple3) ht)
      have Hws := Lib.hid hws
      have hsz := hB.size
      have hk3 : (k : Int) < (n : Int) := by omega
      have hk0 : (0 : Int) ≤ (k : Int) := by omega
      have c3 : ws.length + 1 ≤ maxLen := by unfold maxLen; omega
      have c4 : (ws.length + 1) * 24 ≤ 140737488355328 := by omega
      clear ht s0 s1 s2 hws
      rcases simple3_parts x y z with ⟨q1, q2, q3, e1⟩ | ⟨q, e1⟩
      · have He := Lib.hid e1
        clear e1
        go_wp2
        go_roundw
        case measure => simp [intOf]; omega
        case rel =>
          refine ⟨k + 1, _, ws, rfl, by omega, by go_num, hrow.alloc _, by omega, ?_, hkd, hB.alloc hB.size _⟩
          rw [Hts.out, Hws.out]
          exact ⟨fun h => ⟨h, He.out⟩, fun h => h.1⟩
      · have He := Lib.hid e1
        clear e1
        rcases q with q1 | ⟨q1, q2⟩ | ⟨q1, q2, q3⟩
        all_goals go_wp2_with (at_builtin; refine wpList_append_lies _ rfl (.tmp 33) (.tmp 36) 114 rfl w.heap.size 44 i1 _ 3 24 Try.underlying114 hi' hy0 hy1 hy2 rfl (by decide) _ _ _ rfl ((hrow.alloc _).alloc _) ⟨wr.heap.size + 1, 0, none⟩ 1 1 [.int .i64 2, .int .i64 k, .int .i64 0] rfl rfl (World.news_of_block (heap_alloc_new2 _ _ _)) (by simp [Value.oneCell']) (by decide) c3 c4 (by rw [size_alloc', size_alloc']; omega) (wr.heap.size + 2) (by simp) ?_; intro g4 cap4 W4 hr4 hg4 _ _)
        all_goals go_roundw
        case measure | measure | measure => simp [intOf]; omega
        case rel | rel | rel =>
          refine ⟨k + 1, _, ws ++ [(2, (k : Int), 0)], rfl, by omega, by go_num, ?_, by simp; omega, ?_, ?_, (hB.alloc hB.size _).grown (gGrown (World.grownBy_alloc _ _ _) hg4 (row := v'.ownBlock) (fun _ e => .inl e)) (by rw [size_alloc']; omega) (fun j e => (hrow.lt j e).1)⟩
          · rw [ws3_snoc]
            simpa using hr4
          · rw [Hts.out]
            simp [He.out]
          · intro x hx
            rcases List.mem_append.1 hx with hx | hx
            · exact hkd x hx
            · simp only [List.mem_singleton] at hx
              rw [hx]
    · obtain rfl : k = n := by omega
      have hnn := HN.out
      rw [List.take_of_length_le (by omega)] at hws
      have Hrow := Lib.hid hrow
      have HB := Lib.hid hB
      have Hws := Lib.hid hws
      clear hrow hB hnn hws
      go_wp2
      go_ret
      exact ⟨_, rfl, ⟨ws, Hrow.out, Hws.out, hkd, by omega⟩, HB.out⟩
end Go.Proofs.Ytpnkhgjjlionnaa
namespace Go.Proofs.Ytpnkhgjjlionnaa
open Go.RowKit

def inR (N v : Int) : Prop := 0 ≤ v ∧ v < N
def in3 (N : Int) (t : Tr) : Prop := inR N t.1 ∧ inR N t.2.1 ∧ inR N t.2.2

set_option maxRecDepth 100000 in
set_option maxHeartbeats 2000000 in
theorem index_any (N : Int) (v : Value) (T : List Tr) (w : World) (h : TrisRd w v T) (hN : 0 ≤ N ∧ N ≤ 4096) (hl : T.length ≤ 8192) : Calls Try.prog 94 #[.agg #[.int .i64 N, v]] w fun e w' => ∃ v', e = .returned v' ∧ WitsIs w' w.heap.size v' 1 (∀ t ∈ T, in3 N t) ∧ Below w.heap.size w w' := by
  obtain ⟨i1, hi', hy0, hy1, hy2⟩ := info_parts infoWit
  obtain ⟨a, c, rfl, hc1, hc2, hr⟩ := h
  have HR := Lib.hid hr
  have b1 := Blk.new w 24 #[.int .i64 N, .slice a T.length c]
  obtain ⟨l0, x0, -, x1, -⟩ := b1.two
  have hB0 : Below w.heap.size w (w.alloc (.cells #[.int .i64 N, .slice a T.length c] 24)) := (Below.refl _ _).alloc (Nat.le_refl _) _
  obtain ⟨n, hn⟩ : ∃ n, T.length = n := ⟨_, rfl⟩
  rw [hn] at hl hc1 x0 x1 hB0 b1 l0 ⊢
  have HN := Lib.hid hn
  obtain ⟨hN0, hN1⟩ := hN
  have g1 : ¬ N < 0 := by omega
  have g2 : ¬ 4096 < N := by omega
  have g3 : ¬ 8192 < (n : Int) := by omega
  have ix0 := @index_t0
  have ix1 := @index_t1
  have ix2 := @index_t2
  clear hr hn
  go_enter Try.func94, Try.ntmps94
  go_wp2
  go_loopw [3, 27] (fun v3 i wr => ∃ (k : Nat) (v' : Value) (ws : List Tr), v' = v3 ∧ k ≤ n ∧ i = .int .i64 k ∧ wr.ownsRow w.heap.size 44 3 v' ws.length (ws3 ws) ∧ ws.length ≤ k ∧ (ws = [] ↔ ∀ t ∈ T.take k, in3 N t) ∧ (∀ x ∈ ws, x.1 = 1) ∧ Blk wr w.heap.size 24 #[.int .i64 N, .slice a n c] ∧ Below w.heap.size w wr) (fun _ i _ => n - (intOf i).toNat)
  case atStart => exact ⟨0, _, [], rfl, Nat.zero_le _, rfl, World.ownsRow_nil _ _ _ _, Nat.le_refl _, by simp, by simp, b1, hB0⟩
  case round =>
    obtain ⟨k, v', ws, rfl, hk, rfl, hrow, hwl, hws, hkd, hB', hB⟩ := hrel
    obtain ⟨ly, y0, -, y1, -⟩ := hB'.two
    clear x0 x1 l0 b1
    by_cases hlt : k < n
    · obtain ⟨t, ht⟩ : ∃ t, T[k]? = some t := ⟨T[k]'(by have := HN.out; omega), List.getElem?_eq_getElem _⟩
      obtain ⟨x, y, z⟩ := t
      obtain ⟨b, o, rfl, hbl, s0, s1, s2⟩ := HR.out k x y z ht
      have s0' := (hB.cell (p := ⟨b, _, none⟩) hbl).trans s0
      have s1' := (hB.cell (p := ⟨b, _, none⟩) hbl).trans s1
      have s2' := (hB.cell (p := ⟨b, _, none⟩) hbl).trans s2
      have Hts := Lib.hid (take_succ_all (p := in3 N) ht)
      have Hws := Lib.hid hws
      have hsz := hB.size
      have hk3 : (k : Int) < (n : Int) := by omega
      have hk0 : (0 : Int) ≤ (k : Int) := by omega
      have c3 : ws.length + 1 ≤ maxLen := by unfold maxLen; omega
      have c4 : (ws.length + 1) * 24 ≤ 140737488355328 := by omega
      have hB'' := hB'.alloc (.cells #[.int .i64 x, .int .i64 y, .int .i64 z] 61)
      obtain ⟨lz, z0, -, z1, -⟩ := hB''.two
      have HNE := Lib.hid (fun e => own_blk_ne hrow hB' (by decide) e.symm : some w.heap.size ≠ v'.ownBlock)
      clear ht s0 s1 s2 hws
      go_wp2
      rename World => wA
      go_loopw [3, 33] (fun v3 i wq => ∃ j : Nat, v' = v3 ∧ j ≤ 3 ∧ i = .int .i64 j ∧ wq = wA.alloc (.cells #[.int .i64 x, .int .i64 y, .int .i64 z] 61) ∧ (1 ≤ j → inR N x) ∧ (2 ≤ j → inR N y) ∧ (3 ≤ j → inR N z)) (fun _ i _ => 3 - (intOf i).toNat)
      case atStart => exact ⟨0, rfl, by omega, rfl, rfl, by omega, by omega, by omega⟩
      case round =>
        obtain ⟨j, rfl, hj, rfl, rfl, f1, f2, f3⟩ := hrel
        have F1 := Lib.hid f1
        have F2 := Lib.hid f2
        have F3 := Lib.hid f3
        clear f1 f2 f3
        have hj' : j = 0 ∨ j = 1 ∨ j = 2 ∨ j = 3 := by omega
        rcases hj' with rfl | rfl | rfl | rfl
        · by_cases u1 : x < 0
          · have He : ¬ in3 N (x, y, z) := fun h => by have := h.1.1; simp only at this; omega
            have He := Lib.hid He
            go_wp2_with (at_builtin; refine wpList_append_lies _ rfl (.tmp 44) (.tmp 47) 114 rfl w.heap.size 44 i1 _ 3 24 Try.underlying114 hi' hy0 hy1 hy2 rfl (by decide) _ _ _ rfl ((hrow.alloc _).alloc _) ⟨wA.heap.size + 1, 0, none⟩ 1 1 [.int .i64 1, .int .i64 k, .int .i64 0] rfl rfl (World.news_of_block (heap_alloc_new2 _ _ _)) (by simp [Value.oneCell']) (by decide) c3 c4 (by rw [size_alloc', size_alloc']; omega) (wA.heap.size + 2) (by simp) ?_; intro g4 cap4 W4 hr4 hg4 _ _)
            go_roundw
            case measure => simp [intOf]; omega
            case rel => exact ⟨k + 1, _, ws ++ [(1, (k : Int), 0)], rfl, by omega, by go_num, by rw [ws3_snoc]; simpa using hr4, by simp; omega, by rw [Hts.out]; simp [He.out], snoc_kind hkd rfl, (hB'.alloc _).grown (gGrown (World.grownBy_alloc _ _ _) hg4 (row := v'.ownBlock) (fun _ e => .inl e)) HNE.out, (hB.alloc hB.size _).grown (gGrown (World.grownBy_alloc _ _ _) hg4 (row := v'.ownBlock) (fun _ e => .inl e)) (by rw [size_alloc']; omega) (fun j e => (hrow.lt j e).1)⟩
          · by_cases u2 : N ≤ x
            · have He : ¬ in3 N (x, y, z) := fun h => by have := h.1.2; simp only at this; omega
              have He := Lib.hid He
              go_wp2_with (at_builtin; refine wpList_append_lies _ rfl (.tmp 44) (.tmp 47) 114 rfl w.heap.size 44 i1 _ 3 24 Try.underlying114 hi' hy0 hy1 hy2 rfl (by decide) _ _ _ rfl ((hrow.alloc _).alloc _) ⟨wA.heap.size + 1, 0, none⟩ 1 1 [.int .i64 1, .int .i64 k, .int .i64 0] rfl rfl (World.news_of_block (heap_alloc_new2 _ _ _)) (by simp [Value.oneCell']) (by decide) c3 c4 (by rw [size_alloc', size_alloc']; omega) (wA.heap.size + 2) (by simp) ?_; intro g4 cap4 W4 hr4 hg4 _ _)
              go_roundw
              case measure => simp [intOf]; omega
              case rel => exact ⟨k + 1, _, ws ++ [(1, (k : Int), 0)], rfl, by omega, by go_num, by rw [ws3_snoc]; simpa using hr4, by simp; omega, by rw [Hts.out]; simp [He.out], snoc_kind hkd rfl, (hB'.alloc _).grown (gGrown (World.grownBy_alloc _ _ _) hg4 (row := v'.ownBlock) (fun _ e => .inl e)) HNE.out, (hB.alloc hB.size _).grown (gGrown (World.grownBy_alloc _ _ _) hg4 (row := v'.ownBlock) (fun _ e => .inl e)) (by rw [size_alloc']; omega) (fun j e => (hrow.lt j e).1)⟩
            · have u3 : inR N x := ⟨by omega, by omega⟩
              have U3 := Lib.hid u3
              clear u3
              go_wp2
              go_roundw
              case measure => simp [intOf]
              case rel => exact ⟨1, rfl, by omega, by simp, by simp, fun _ => U3.out, by omega, by omega⟩
        · by_cases u1 : y < 0
          · have He : ¬ in3 N (x, y, z) := fun h => by have := h.2.1.1; simp only at this; omega
            have He := Lib.hid He
            go_wp2_with (at_builtin; refine wpList_append_lies _ rfl (.tmp 44) (.tmp 47) 114 rfl w.heap.size 44 i1 _ 3 24 Try.underlying114 hi' hy0 hy1 hy2 rfl (by decide) _ _ _ rfl ((hrow.alloc _).alloc _) ⟨wA.heap.size + 1, 0, none⟩ 1 1 [.int .i64 1, .int .i64 k, .int .i64 0] rfl rfl (World.news_of_block (heap_alloc_new2 _ _ _)) (by simp [Value.oneCell']) (by decide) c3 c4 (by rw [size_alloc', size_alloc']; omega) (wA.heap.size + 2) (by simp) ?_; intro g4 cap4 W4 hr4 hg4 _ _)
            go_roundw
            case measure => simp [intOf]; omega
            case rel => exact ⟨k + 1, _, ws ++ [(1, (k : Int), 0)], rfl, by omega, by go_num, by rw [ws3_snoc]; simpa using hr4, by simp; omega, by rw [Hts.out]; simp [He.out], snoc_kind hkd rfl, (hB'.alloc _).grown (gGrown (World.grownBy_alloc _ _ _) hg4 (row := v'.ownBlock) (fun _ e => .inl e)) HNE.out, (hB.alloc hB.size _).grown (gGrown (World.grownBy_alloc _ _ _) hg4 (row := v'.ownBlock) (fun _ e => .inl e)) (by rw [size_alloc']; omega) (fun j e => (hrow.lt j e).1)⟩
          · by_cases u2 : N ≤ y
            · have He : ¬ in3 N (x, y, z) := fun h => by have := h.2.1.2; simp only at this; omega
              have He := Lib.hid He
              go_wp2_with (at_builtin; refine wpList_append_lies _ rfl (.tmp 44) (.tmp 47) 114 rfl w.heap.size 44 i1 _ 3 24 Try.underlying114 hi' hy0 hy1 hy2 rfl (by decide) _ _ _ rfl ((hrow.alloc _).alloc _) ⟨wA.heap.size + 1, 0, none⟩ 1 1 [.int .i64 1, .int .i64 k, .int .i64 0] rfl rfl (World.news_of_block (heap_alloc_new2 _ _ _)) (by simp [Value.oneCell']) (by decide) c3 c4 (by rw [size_alloc', size_alloc']; omega) (wA.heap.size + 2) (by simp) ?_; intro g4 cap4 W4 hr4 hg4 _ _)
              go_roundw
              case measure => simp [intOf]; omega
              case rel => exact ⟨k + 1, _, ws ++ [(1, (k : Int), 0)], rfl, by omega, by go_num, by rw [ws3_snoc]; simpa using hr4, by simp; omega, by rw [Hts.out]; simp [He.out], snoc_kind hkd rfl, (hB'.alloc _).grown (gGrown (World.grownBy_alloc _ _ _) hg4 (row := v'.ownBlock) (fun _ e => .inl e)) HNE.out, (hB.alloc hB.size _).grown (gGrown (World.grownBy_alloc _ _ _) hg4 (row := v'.ownBlock) (fun _ e => .inl e)) (by rw [size_alloc']; omega) (fun j e => (hrow.lt j e).1)⟩
            · have u3 : inR N y := ⟨by omega, by omega⟩
              have U3 := Lib.hid u3
              clear u3
              go_wp2
              go_roundw
              case measure => simp [intOf]
              case rel => exact ⟨2, rfl, by omega, by simp, by simp, fun _ => F1.out (by omega), fun _ => U3.out, by omega⟩
        · by_cases u1 : z < 0
          · have He : ¬ in3 N (x, y, z) := fun h => by have := h.2.2.1; simp only at this; omega
            have He := Lib.hid He
            go_wp2_with (at_builtin; refine wpList_append_lies _ rfl (.tmp 44) (.tmp 47) 114 rfl w.heap.size 44 i1 _ 3 24 Try.underlying114 hi' hy0 hy1 hy2 rfl (by decide) _ _ _ rfl ((hrow.alloc _).alloc _) ⟨wA.heap.size + 1, 0, none⟩ 1 1 [.int .i64 1, .int .i64 k, .int .i64 0] rfl rfl (World.news_of_block (heap_alloc_new2 _ _ _)) (by simp [Value.oneCell']) (by decide) c3 c4 (by rw [size_alloc', size_alloc']; omega) (wA.heap.size + 2) (by simp) ?_; intro g4 cap4 W4 hr4 hg4 _ _)
            go_roundw
            case measure => simp [intOf]; omega
            case rel => exact ⟨k + 1, _, ws ++ [(1, (k : Int), 0)], rfl, by omega, by go_num, by rw [ws3_snoc]; simpa using hr4, by simp; omega, by rw [Hts.out]; simp [He.out], snoc_kind hkd rfl, (hB'.alloc _).grown (gGrown (World.grownBy_alloc _ _ _) hg4 (row := v'.ownBlock) (fun _ e => .inl e)) HNE.out, (hB.alloc hB.size _).grown (gGrown (World.grownBy_alloc _ _ _) hg4 (row := v'.ownBlock) (fun _ e => .inl e)) (by rw [size_alloc']; omega) (fun j e => (hrow.lt j e).1)⟩
          · by_cases u2 : N ≤ z
            · have He : ¬ in3 N (x, y, z) := fun h => by have := h.2.2.2; simp only at this; omega
              have He := Lib.hid He
              go_wp2_with (at_builtin; refine wpList_append_lies _ rfl (.tmp 44) (.tmp 47) 114 rfl w.heap.size 44 i1 _ 3 24 Try.underlying114 hi' hy0 hy1 hy2 rfl (by decide) _ _ _ rfl ((hrow.alloc _).alloc _) ⟨wA.heap.size + 1, 0, none⟩ 1 1 [.int .i64 1, .int .i64 k, .int .i64 0] rfl rfl (World.news_of_block (heap_alloc_new2 _ _ _)) (by simp [Value.oneCell']) (by decide) c3 c4 (by rw [size_alloc', size_alloc']; omega) (wA.heap.size + 2) (by simp) ?_; intro g4 cap4 W4 hr4 hg4 _ _)
              go_roundw
              case measure => simp [intOf]; omega
              case rel => exact ⟨k + 1, _, ws ++ [(1, (k : Int), 0)], rfl, by omega, by go_num, by rw [ws3_snoc]; simpa using hr4, by simp; omega, by rw [Hts.out]; simp [He.out], snoc_kind hkd rfl, (hB'.alloc _).grown (gGrown (World.grownBy_alloc _ _ _) hg4 (row := v'.ownBlock) (fun _ e => .inl e)) HNE.out, (hB.alloc hB.size _).grown (gGrown (World.grownBy_alloc _ _ _) hg4 (row := v'.ownBlock) (fun _ e => .inl e)) (by rw [size_alloc']; omega) (fun j e => (hrow.lt j e).1)⟩
            · have u3 : inR N z := ⟨by omega, by omega⟩
              have U3 := Lib.hid u3
              clear u3
              go_wp2
              go_roundw
              case measure => simp [intOf]
              case rel => exact ⟨3, rfl, by omega, by simp, by simp, fun _ => F1.out (by omega), fun _ => F2.out (by omega), fun _ => U3.out⟩
        · have He : in3 N (x, y, z) := ⟨F1.out (by omega), F2.out (by omega), F3.out (by omega)⟩
          have He := Lib.hid He
          go_wp2
          go_roundw
          case measure => simp [intOf]; omega
          case rel =>
            refine ⟨k + 1, _, ws, rfl, by omega, by go_num, hrow.alloc _, by omega, ?_, hkd, hB'.alloc _, hB.alloc hB.size _⟩
            rw [Hts.out, Hws.out]
            exact ⟨fun h => ⟨h, He.out⟩, fun h => h.1⟩
    · obtain rfl : k = n := by omega
      have hnn := HN.out
      rw [List.take_of_length_le (by omega)] at hws
      have Hrow := Lib.hid hrow
      have HB := Lib.hid hB
      have Hws := Lib.hid hws
      clear hrow hB hnn hws
      go_wp2
      go_ret
      exact ⟨_, rfl, ⟨ws, Hrow.out, Hws.out, hkd, by omega⟩, HB.out⟩
end Go.Proofs.Ytpnkhgjjlionnaa
namespace Go.Proofs.Ytpnkhgjjlionnaa
open Go.RowKit

/-- Which numbers are marked. -/
def BitsOf (bs : List Bool) (m : Nat) (S : List Int) : Prop := bs.length = m ∧ ∀ v, v < m → (bs[v]? = some true ↔ (v : Int) ∈ S)
def bools (bs : List Bool) : List Value := bs.map Value.bool
theorem BitsOf.none_ (m : Nat) : BitsOf (List.replicate m false) m [] := ⟨by simp, fun v hv => by simp [hv]⟩
theorem BitsOf.mark {bs : List Bool} {m : Nat} {S : List Int} (h : BitsOf bs m S) {v : Nat} (hv : v < m) : BitsOf (bs.set v true) m (S ++ [(v : Int)]) := by
  obtain ⟨h1, h2⟩ := h
  refine ⟨by simp [h1], fun u hu => ?_⟩
  rw [List.getElem?_set]
  by_cases e : v = u
  · subst e
    simp [h1, hv]
  · rw [if_neg e, h2 u hu]
    simp
    omega
theorem bools_set (bs : List Bool) (v : Nat) (b : Bool) : (bools bs).set v (.bool b) = bools (bs.set v b) := by simp [bools, List.map_set]
theorem infoBool : (Try.prog.info? 4).map (fun i => (i.zero, i.size, i.bytes)) = some (some (.bool false), 1, 1) := by kernel_rfl
theorem made_bools (m : Nat) : (madeCells (Value.bool false).cells (m * 1)).toList = bools (List.replicate m false) := by
  rw [Nat.mul_one]
  show (madeCells #[Value.bool false] m).toList = _
  rw [toList_madeCells_one]
  simp [bools]

set_option maxRecDepth 100000 in
set_option maxHeartbeats 2000000 in
theorem lonely_any (N : Int) (v : Value) (T : List Tr) (w : World) (h : TrisRd w v T) (hN : 0 ≤ N ∧ N ≤ 4096) (hl : T.length ≤ 8192) (hin : ∀ t ∈ T, in3 N t) : Calls Try.prog 98 #[.agg #[.int .i64 N, v]] w fun e w' => ∃ v', e = .returned v' ∧ WitsIs w' w.heap.size v' 5 (∀ u : Int, inR N u → u ∈ flatT T) ∧ Below w.heap.size w w' := by
  obtain ⟨i1, hi', hy0, hy1, hy2⟩ := info_parts infoWit
  obtain ⟨i2, hj', hz0, hz1, hz2⟩ := info_parts infoBool
  obtain ⟨a, c, rfl, hc1, hc2, hr⟩ := h
  have HR := Lib.hid hr
  obtain ⟨hN0, hN1⟩ := hN
  obtain ⟨m, rfl⟩ : ∃ m : Nat, N = m := ⟨N.toNat, by omega⟩
  have b1 := Blk.new w 24 #[.int .i64 m, .slice a T.length c]
  obtain ⟨l0, x0, -, x1, -⟩ := b1.two
  have hB0 : Below w.heap.size w (w.alloc (.cells #[.int .i64 m, .slice a T.length c] 24)) := (Below.refl _ _).alloc (Nat.le_refl _) _
  have HIN := Lib.hid hin
  obtain ⟨n, hn⟩ : ∃ n, T.length = n := ⟨_, rfl⟩
  rw [hn] at hl hc1 x0 x1 hB0 b1 l0 ⊢
  have HN := Lib.hid hn
  have ix0 := @index_t0
  have ix1 := @index_t1
  have ix2 := @index_t2
  clear hr hn hin
  go_enter Try.func98, Try.ntmps98
  go_wp2_with (at_make; refine wpList_make_full _ rfl (.tmp 12) (.tmp 12) 66 rfl w.heap.size 4 i2 _ 1 Try.underlying66 hj' hz0 hz1 .i64 .i64 _ _ m rfl rfl rfl rfl (by rw [hz2]; omega) (by unfold maxLen; omega) (by rw [size_alloc']; omega) ?_; intro w1 hr1 hg1; have k1 := b1.grown hg1 (by simp); obtain ⟨l1, y0, -, y1, -⟩ := k1.two)
  rw [made_bools, size_alloc'] at hr1
  have hB1 : Below w.heap.size w w1 := hB0.grown hg1 (by rw [size_alloc']; omega) (fun j e => by cases e)
  clear b1 x0 x1 l0 hg1 hB0
  go_loopw [17] (fun i wr => ∃ (k : Nat) (bs : List Bool), k ≤ n ∧ i = .int .i64 k ∧ wr.ownsRow w.heap.size 4 1 (.slice (some ⟨w.heap.size + 1, 0, none⟩) m m) m (bools bs) ∧ BitsOf bs m (flatT (T.take k)) ∧ Below w.heap.size w wr) (fun i _ => n - (intOf i).toNat)
  case atStart => exact ⟨0, _, Nat.zero_le _, rfl, hr1, BitsOf.none_ m, hB1⟩
  case round =>
    clear hr1 hB1 k1 l1 y0 y1
    obtain ⟨k, bs, hk, rfl, hrow, hbs, hB⟩ := hrel
    by_cases hlt : k < n
    · obtain ⟨t, ht⟩ : ∃ t, T[k]? = some t := ⟨T[k]'(by have := HN.out; omega), List.getElem?_eq_getElem _⟩
      obtain ⟨x, y, z⟩ := t
      obtain ⟨⟨ix1', ix2'⟩, ⟨iy1, iy2⟩, ⟨iz1, iz2⟩⟩ := HIN.out _ (List.mem_of_getElem? ht)
      simp only at ix1' ix2' iy1 iy2 iz1 iz2
      obtain ⟨x, rfl⟩ : ∃ q : Nat, x = q := ⟨x.toNat, by omega⟩
      obtain ⟨y, rfl⟩ : ∃ q : Nat, y = q := ⟨y.toNat, by omega⟩
      obtain ⟨z, rfl⟩ : ∃ q : Nat, z = q := ⟨z.toNat, by omega⟩
      obtain ⟨b, o, rfl, hbl, s0, s1, s2⟩ := HR.out k x y z ht
      have s0' := (hB.cell (p := ⟨b, _, none⟩) hbl).trans s0
      have s1' := (hB.cell (p := ⟨b, _, none⟩) hbl).trans s1
      have s2' := (hB.cell (p := ⟨b, _, none⟩) hbl).trans s2
      have Hts : Hid (flatT (T.take (k + 1)) = flatT (T.take k) ++ [(x : Int), (y : Int), (z : Int)]) := by
        refine Lib.hid ?_
        obtain ⟨hk', he⟩ := List.getElem?_eq_some_iff.1 ht
        rw [List.take_succ_eq_append_getElem hk', he]
        simp [flatT]
      have hsz := hB.size
      have hk3 : (k : Int) < (n : Int) := by omega
      have hk0 : (0 : Int) ≤ (k : Int) := by omega
      clear ht s0 s1 s2
      go_wp2
      rename World => wA
      go_loopw [22] (fun i wq => ∃ (j : Nat) (bs : List Bool), j ≤ 3 ∧ i = .int .i64 j ∧ wq.ownsRow w.heap.size 4 1 (.slice (some ⟨w.heap.size + 1, 0, none⟩) m m) m (bools bs) ∧ BitsOf bs m (flatT (T.take k) ++ [(x : Int), (y : Int), (z : Int)].take j) ∧ Below w.heap.size w wq) (fun i _ => 3 - (intOf i).toNat)
      case atStart => exact ⟨0, _, by omega, rfl, hrow.alloc _, by simpa using hbs, hB.alloc hB.size _⟩
      case round =>
        clear hrow hbs hB
        rename World => hrelW
        obtain ⟨j, cs, hj, rfl, hrow, hbs, hB⟩ := hrel
        have hj4 : j = 0 ∨ j = 1 ∨ j = 2 ∨ j = 3 := by omega
        have hfr := fun i => hrow.frozenAt i
        have hsz' := hB.size
        rcases hj4 with rfl | rfl | rfl | rfl
        · obtain ⟨cb, hcb⟩ : ∃ cb, cs[x]? = some cb := ⟨cs[x]'(by rw [hbs.1]; omega), List.getElem?_eq_getElem _⟩
          have hc : hrelW.cell? ⟨w.heap.size + 1, x, none⟩ = some (.bool cb) := by rw [hrow.cellAt x (by omega), bools, List.getElem?_map, hcb]; rfl
          have hf := hrow.frozenAt x
          have hv3 : (x : Int) < (m : Int) := by omega
          clear hfr hcb
          go_wp2
          go_roundw
          case measure => simp [intOf]
          case rel => exact ⟨1, cs.set x true, by omega, by simp, by rw [← bools_set]; exact (hrow.stored x _).1, by simpa using hbs.mark (v := x) (by omega), hB.grown (hrow.stored x _).2 hsz' (fun j e => by cases e; omega)⟩
        · obtain ⟨cb, hcb⟩ : ∃ cb, cs[y]? = some cb := ⟨cs[y]'(by rw [hbs.1]; omega), List.getElem?_eq_getElem _⟩
          have hc : hrelW.cell? ⟨w.heap.size + 1, y, none⟩ = some (.bool cb) := by rw [hrow.cellAt y (by omega), bools, List.getElem?_map, hcb]; rfl
          have hf := hrow.frozenAt y
          have hv3 : (y : Int) < (m : Int) := by omega
          clear hfr hcb
          go_wp2
          go_roundw
          case measure => simp [intOf]
          case rel => exact ⟨2, cs.set y true, by omega, by simp, by rw [← bools_set]; exact (hrow.stored y _).1, by simpa using hbs.mark (v := y) (by omega), hB.grown (hrow.stored y _).2 hsz' (fun j e => by cases e; omega)⟩
        · obtain ⟨cb, hcb⟩ : ∃ cb, cs[z]? = some cb := ⟨cs[z]'(by rw [hbs.1]; omega), List.getElem?_eq_getElem _⟩
          have hc : hrelW.cell? ⟨w.heap.size + 1, z, none⟩ = some (.bool cb) := by rw [hrow.cellAt z (by omega), bools, List.getElem?_map, hcb]; rfl
          have hf := hrow.frozenAt z
          have hv3 : (z : Int) < (m : Int) := by omega
          clear hfr hcb
          go_wp2
          go_roundw
          case measure => simp [intOf]
          case rel => exact ⟨3, cs.set z true, by omega, by simp, by rw [← bools_set]; exact (hrow.stored z _).1, by simpa using hbs.mark (v := z) (by omega), hB.grown (hrow.stored z _).2 hsz' (fun j e => by cases e; omega)⟩
        · have hbs' : BitsOf cs m (flatT (T.take (k + 1))) := by rw [Hts.out]; exact hbs
          go_wp2
          go_roundw
          case measure => simp [intOf]; omega
          case rel => exact ⟨k + 1, cs, by omega, by go_num, hrow, hbs', hB⟩
    · obtain rfl : k = n := by omega
      have hnn := HN.out
      rw [List.take_of_length_le (by omega)] at hbs
      have hb1 := Lib.hid hbs
      go_wp2
      clear ix0 ix1 ix2
      rename World => wB
      go_loopw [8, 32] (fun v3 i wr => ∃ (j : Nat) (v' : Value) (ws : List Tr), v' = v3 ∧ j ≤ m ∧ i = .int .i64 j ∧ wr.ownsRow w.heap.size 44 3 v' ws.length (ws3 ws) ∧ ws.length ≤ j ∧ (ws = [] ↔ ∀ u : Nat, u < j → (u : Int) ∈ flatT T) ∧ (∀ x ∈ ws, x.1 = 5) ∧ wr.ownsRow w.heap.size 4 1 (.slice (some ⟨w.heap.size + 1, 0, none⟩) m m) m (bools bs) ∧ Below w.heap.size w wr) (fun _ i _ => m - (intOf i).toNat)
      case atStart => exact ⟨0, _, [], rfl, Nat.zero_le _, rfl, World.ownsRow_nil _ _ _ _, Nat.le_refl _, by simp, by simp, hrow, hB⟩
      case round =>
        clear hrow hB
        obtain ⟨j, v', ws, rfl, hj, rfl, hrw, hwl, hws, hkd, hrow, hB⟩ := hrel
        rename World => wC
        have Hws := Lib.hid hws
        have hsz := hB.size
        clear hws
        by_cases hjm : j < m
        · obtain ⟨cb, hcb⟩ : ∃ cb, bs[j]? = some cb := ⟨bs[j]'(by rw [hb1.out.1]; omega), List.getElem?_eq_getElem _⟩
          have hc : wC.cell? ⟨w.heap.size + 1, j, none⟩ = some (.bool cb) := by rw [hrow.cellAt j (by omega), bools, List.getElem?_map, hcb]; rfl
          have Hcb := Lib.hid (hb1.out.2 j hjm)
          have hv3 : (j : Int) < (m : Int) := by omega
          have hv0 : (0 : Int) ≤ (j : Int) := by omega
          have c3 : ws.length + 1 ≤ maxLen := by unfold maxLen; omega
          have c4 : (ws.length + 1) * 24 ≤ 140737488355328 := by omega
          have HNE := Lib.hid (own_own_ne hrow hrw (by decide))
          cases cb
          · have hn' : Hid (¬ (j : Int) ∈ flatT T) := Lib.hid (fun e => by have := Hcb.out.2 e; rw [hcb] at this; cases this)
            clear hcb
            go_wp2_with (at_builtin; refine wpList_append_lies _ rfl (.tmp 39) (.tmp 42) 114 rfl w.heap.size 44 i1 _ 3 24 Try.underlying114 hi' hy0 hy1 hy2 rfl (by decide) _ _ _ rfl (hrw.alloc _) ⟨wC.heap.size, 0, none⟩ 1 1 [.int .i64 5, .int .i64 j, .int .i64 0] rfl rfl (World.news_of_block (heap_alloc_new _ _)) (by simp [Value.oneCell']) (by decide) c3 c4 (by rw [size_alloc']; omega) (wC.heap.size + 1) (by simp) ?_; intro g4 cap4 W4 hr4 hg4 _ _)
            go_roundw
            case measure => simp [intOf]; omega
            case rel =>
              refine ⟨j + 1, _, ws ++ [(5, (j : Int), 0)], rfl, by omega, by go_num, by rw [ws3_snoc]; simpa using hr4, by simp; omega, ?_, snoc_kind hkd rfl, (hrow.alloc _).kept hg4 HNE.out, hB.grown (gGrown (World.grownBy_alloc _ _ _) hg4 (row := v'.ownBlock) (fun _ e => .inl e)) hsz (fun j e => (hrw.lt j e).1)⟩
              constructor
              · intro h; simp at h
              · intro h; exact absurd (h j (by omega)) hn'.out
          · have hn' : Hid ((j : Int) ∈ flatT T) := Lib.hid (Hcb.out.1 hcb)
            clear hcb
            go_wp2
            go_roundw
            case measure => simp [intOf]; omega
            case rel =>
              refine ⟨j + 1, _, ws, rfl, by omega, by go_num, hrw, by omega, ?_, hkd, hrow, hB⟩
              rw [Hws.out]
              constructor
              · intro h u hu
                by_cases e : u = j
                · rw [e]; exact hn'.out
                · exact h u (by omega)
              · intro h u hu
                exact h u (by omega)
        · obtain rfl : j = m := by omega
          have Hrow := Lib.hid hrw
          have HB := Lib.hid hB
          clear hrow hB hrw
          go_wp2
          go_ret
          refine ⟨_, rfl, ⟨ws, Hrow.out, ?_, hkd, by omega⟩, HB.out⟩
          rw [Hws.out]
          constructor
          · intro h u hu
            obtain ⟨q, rfl⟩ : ∃ q : Nat, u = q := ⟨u.toNat, by have := hu.1; omega⟩
            exact h q (by have := hu.2; omega)
          · intro h u hu
            exact h u ⟨by omega, by omega⟩
end Go.Proofs.Ytpnkhgjjlionnaa
namespace Go.Proofs.Ytpnkhgjjlionnaa
open Go.RowKit Go.Maps



/-- Block b is a map of bools: true at the keys of the list. -/
def MapB (P : Program) (k e : TypeId) (w : World) (b n : Nat) (seen : List Value) : Prop :=
  ∃ D : DataW Unit, w.ownsMap P k (plainElem P e) b n D ∧ IsMap D ∧ ∀ key kl, keyOf P k key = some kl → ∃ x, D.atKey kl (.lit (.bool false)) = .lit (.bool x) ∧ (x = true ↔ key ∈ seen)
theorem plainElem_bool_inv {P : Program} {e : TypeId} (he : P.underlying e = some .bool) {v : Value} {z : DataW Unit × List MemPlace} (h : plainElem P e v = some z) : ∃ x, v = .bool x ∧ z = (.lit (.bool x), []) := by
  unfold plainElem at h
  rw [he] at h
  cases v <;> simp at h
  exact ⟨_, rfl, h.symm⟩
section
variable {P : Program} {k e : TypeId} {w : World} {b n : Nat} {seen : List Value}
theorem MapB.made (w : World) (P : Program) (k e : TypeId) : MapB P k e (w.alloc (.map #[] 0)) w.heap.size 0 [] :=
  ⟨_, World.ownsMap_made _ _ _ _, isMap_empty, fun _ _ _ => ⟨false, rfl, by simp⟩⟩
theorem MapB.kept {w' : World} {row : Option Nat} (h : MapB P k e w b n seen) (hg : w.grownBy w' row) (hne : some b ≠ row) : MapB P k e w' b n seen := by
  obtain ⟨D, h1, h2⟩ := h
  exact ⟨D, h1.kept hg hne, h2⟩
theorem MapB.look {t : TypeId} (h : MapB P k e w b n seen) (K : Keyed P k) (ht : P.underlying t = some (.map k e)) (he : P.underlying e = some .bool) (hz : (zeroValue e).run P w = .ok (.bool false) w) {key : Value} {kl : Lit} (hkey : keyOf P k key = some kl) :
    ∃ x, (Instr.lookup t (.map (some b)) key false).run P w = .ok (.bool x) w ∧ (x = true ↔ key ∈ seen) := by
  obtain ⟨D, h1, _, h3⟩ := h
  obtain ⟨v, ps, hrun, hv⟩ := h1.lookup K ht hz (plainElem_bool he false) hkey
  obtain ⟨x, rfl, hx⟩ := plainElem_bool_inv he hv
  obtain ⟨x', hx', hi⟩ := h3 key kl hkey
  rw [hx'] at hx
  cases hx
  exact ⟨_, hrun, hi⟩
theorem MapB.store {t : TypeId} (h : MapB P k e w b n seen) (K : Keyed P k) (ht : P.underlying t = some (.map k e)) (he : P.underlying e = some .bool) (hn : n < maxLen) {key : Value} {kl : Lit} (hkey : keyOf P k key = some kl) :
    ∃ w', (Instr.mapUpdate t (.map (some b)) key (.bool true)).run P w = .ok () w' ∧ MapB P k e w' b (n + 1) (key :: seen) ∧ w.grownBy w' (some b) := by
  obtain ⟨D, h1, h2, h3⟩ := h
  obtain ⟨w', hrun, hown, hg⟩ := h1.update K ht hn hkey (plainElem_bool he true)
  refine ⟨w', hrun, ⟨_, hown, h2.put _ _, fun key' kl' hk' => ?_⟩, hg⟩
  by_cases ha : kl' = kl
  · subst ha
    obtain rfl := K.inj hk' hkey
    exact ⟨true, atKey_put_same h2 (K.key hkey) _ _, by simp⟩
  · obtain ⟨x, hx, hi⟩ := h3 key' kl' hk'
    refine ⟨x, by rw [atKey_put_other ha, hx], ?_⟩
    rw [hi, List.mem_cons]
    constructor
    · exact .inr
    · rintro (rfl | h)
      · rw [hk'] at hkey
        cases hkey
        exact absurd rfl ha
      · exact h
end

theorem keyOf_three {P : Program} {k e : TypeId} {q : IntKind} (A : WideMaps.ArrKey P k e 3) (he : P.underlying e = some (.int q)) (hsz : ∃ m, P.types.size = m + 1) {a b c : Int} (wa : (Lit.int q a).wf = true) (wb : (Lit.int q b).wf = true) (wc : (Lit.int q c).wf = true) :
    keyOf P k (.agg #[.int q a, .int q b, .int q c]) = some (.string (keyBytes [.int q a, .int q b, .int q c])) := by
  have hkt := A.keyType hsz
  obtain ⟨m, hm⟩ := hsz
  unfold keyOf
  simp only [A.hu]
  rw [if_pos (by simp [hkt, Value.formed, A.hu, A.size]), hm]
  unfold Program.keyLits
  simp only [A.hu, Value.cells]
  rw [if_pos (by rw [A.size]; rfl), show List.range 3 = [0, 1, 2] from rfl, List.mapM_cons, List.mapM_cons, List.mapM_cons, List.mapM_nil]
  simp [A.one, Program.keyLits, he, wa, wb, wc]
end Go.Proofs.Ytpnkhgjjlionnaa
namespace Go.Proofs.Ytpnkhgjjlionnaa
open Go.RowKit Go.Maps
open Go.MapKept (Stamped)

def intsV (zs : List Int) : List Value := zs.map (Value.int .i64)
open Classical in
noncomputable def upd (f : Value → List Int) (key : Value) (zs : List Int) : Value → List Int := fun y => if y = key then zs else f y
theorem upd_same (f : Value → List Int) (key : Value) (zs : List Int) : upd f key zs key = zs := by simp [upd]
theorem upd_other {f : Value → List Int} {key y : Value} {zs : List Int} (h : y ≠ key) : upd f key zs y = f y := by simp [upd, h]
/-- Block b is a map from keys of type k to rows (of one-cell elements e, from block 'base' on, apart from each other): at a key the numbers f says. -/
def Grp (P : Program) (k : TypeId) (base : Nat) (e : TypeId) (w : World) (b : Nat) (f : Value → List Int) : Prop :=
  ∃ es clock, w.heap[b]? = some (.map es clock) ∧ Stamped es clock ∧ (∀ x ∈ es.toList, ∃ l, keyOf P k x.key = some l) ∧
    (∀ x ∈ es.toList, w.ownsRow base e 1 x.val (f x.key).length (intsV (f x.key))) ∧
    (∀ x ∈ es.toList, ∀ y ∈ es.toList, x.key ≠ y.key → x.val.ownBlock = none ∨ x.val.ownBlock ≠ y.val.ownBlock) ∧
    (∀ key, (∀ x ∈ es.toList, x.key ≠ key) → f key = []) ∧ b < base
section
variable {P : Program} {k e : TypeId} {base b : Nat} {w : World} {f : Value → List Int}
theorem Grp.made (w : World) (P : Program) (k e : TypeId) {base : Nat} (h : w.heap.size < base) : Grp P k base e (w.alloc (.map #[] 0)) w.heap.size (fun _ => []) :=
  ⟨#[], 0, heap_alloc_new w _, MapKept.stamped_empty 0, by simp, by simp, by simp, fun _ _ => rfl, h⟩
theorem Grp.lt (h : Grp P k base e w b f) : b < w.heap.size := by
  obtain ⟨es, clock, hb, _⟩ := h
  exact (Array.getElem?_eq_some_iff.1 hb).1
theorem Grp.notRow (h : Grp P k base e w b f) {base' : Nat} {e' : TypeId} {s n : Nat} {v : Value} {xs : List Value} (hr : w.ownsRow base' e' s v n xs) : v.ownBlock ≠ some b := by
  obtain ⟨es, clock, hb, _⟩ := h
  intro e0
  rcases hr.2 with ⟨rfl, _⟩ | ⟨g, cap, cur, rfl, _, hh, _⟩
  · cases e0
  · have : g = b := by simpa [Value.ownBlock] using e0
    subst this
    rw [hh] at hb
    cases hb
theorem Grp.kept {w' : World} {row : Option Nat} (h : Grp P k base e w b f) (hg : w.grownBy w' row) (hne : some b ≠ row) (hr : ∀ v n xs, w.ownsRow base e 1 v n xs → v.ownBlock = none ∨ v.ownBlock ≠ row) : Grp P k base e w' b f := by
  have hlt := h.lt
  obtain ⟨es, clock, hb, h1, h2, h3, h4, h5, h6⟩ := h
  exact ⟨es, clock, (hg.block b hlt hne).trans hb, h1, h2, fun x hx => (h3 x hx).kept hg (hr _ _ _ (h3 x hx)), h4, h5, h6⟩
theorem Grp.alloc (h : Grp P k base e w b f) (o : Obj) : Grp P k base e (w.alloc o) b f := h.kept (World.grownBy_alloc w o none) (by simp) (fun v _ _ hv => by
  cases hb : v.ownBlock
  · exact .inl rfl
  · exact .inr (by simp))
theorem Grp.grown {w' : World} (h : Grp P k base e w b f) (hg : w.grownBy w' none) : Grp P k base e w' b f := h.kept hg (by simp) (fun v _ _ hv => by
  cases hb : v.ownBlock
  · exact .inl rfl
  · exact .inr (by simp))
/-- A row of elements of another type is written. -/
theorem Grp.row {w' : World} {base' : Nat} {e' : TypeId} {s n : Nat} {v : Value} {xs : List Value} (h : Grp P k base e w b f) (hr : w.ownsRow base' e' s v n xs) (hne : e ≠ e') (hg : w.grownBy w' v.ownBlock) : Grp P k base e w' b f :=
  h.kept hg (fun e0 => h.notRow hr e0.symm) (fun _ _ _ hv => own_own_ne hv hr hne)
/-- Another map is written. -/
theorem Grp.map {w' : World} {b' : Nat} {es : Array MapEntry} {clock : Nat} (h : Grp P k base e w b f) (hm : w.heap[b']? = some (.map es clock)) (hne : b ≠ b') (hg : w.grownBy w' (some b')) : Grp P k base e w' b f :=
  h.kept hg (by simpa using hne) (fun v _ _ hv => by
    rcases hv.2 with ⟨rfl, _⟩ | ⟨g, cap, cur, rfl, _, hh, _⟩
    · exact .inl rfl
    · refine .inr (fun e0 => ?_)
      have : g = b' := by simpa [Value.ownBlock] using e0
      subst this
      rw [hh] at hm
      cases hm)
theorem Grp.look {t E : TypeId} (h : Grp P k base e w b f) (K : Keyed P k) (ht : P.underlying t = some (.map k E)) (hz : (zeroValue E).run P w = .ok (.slice none 0 0) w) {key : Value} {kl : Lit} (hkey : keyOf P k key = some kl) :
    ∃ v, (Instr.lookup t (.map (some b)) key false).run P w = .ok v w ∧ w.ownsRow base e 1 v (f key).length (intsV (f key)) := by
  obtain ⟨es, clock, hb, h1, h2, h3, h4, h5, h6⟩ := h
  rcases K.find w hkey es.toList h2 with ⟨g1, g2⟩ | ⟨j, e0, g1, g2, g3⟩
  · refine ⟨.slice none 0 0, by simp [Instr.lookup, run_underlying ht, MapKept.run_getObj_map hb, K.check w _ hkey, g1, hz, Result.andThen], ?_⟩
    rw [h5 key g2]
    exact World.ownsRow_nil _ _ _ _
  · refine ⟨e0.val, by simp [Instr.lookup, run_underlying ht, MapKept.run_getObj_map hb, K.check w _ hkey, g1, Result.andThen], ?_⟩
    have := h3 e0 (List.mem_of_getElem? g2)
    rw [g3] at this
    exact this
theorem setBlock_grown {w : World} {es : Array MapEntry} {clock : Nat} (hb : w.heap[b]? = some (.map es clock)) (o : Obj) : w.grownBy (ChangeMaps.setBlock w b o) (some b) :=
  ⟨rfl, rfl, rfl, by simp [ChangeMaps.setBlock], fun i _ hi => ChangeMaps.heap_setBlock_other hb _ (fun e1 => hi (by rw [e1]))⟩
theorem mem_set_apart {l : List MapEntry} (hd : l.Pairwise (fun x y => x.key ≠ y.key)) {j : Nat} {e0 a : MapEntry} (h : l[j]? = some e0) {x : MapEntry} (hx : x ∈ l.set j a) : x = a ∨ (x ∈ l ∧ x.key ≠ e0.key) := by
  obtain ⟨i, hi⟩ := List.mem_iff_getElem?.1 hx
  rw [List.getElem?_set] at hi
  by_cases hij : j = i
  · subst hij
    have hlt := (List.getElem?_eq_some_iff.1 h).1
    rw [if_pos rfl, if_pos hlt] at hi
    exact .inl (Option.some.inj hi).symm
  · rw [if_neg hij] at hi
    refine .inr ⟨List.mem_of_getElem? hi, ?_⟩
    obtain ⟨h1, e1⟩ := List.getElem?_eq_some_iff.1 hi
    obtain ⟨h2, e2⟩ := List.getElem?_eq_some_iff.1 h
    have hp := List.pairwise_iff_getElem.1 hd
    rcases Nat.lt_or_gt_of_ne hij with hlt | hlt
    · have := hp j i h2 h1 hlt
      rw [e1, e2] at this
      exact fun e3 => this e3.symm
    · have := hp i j h1 h2 hlt
      rw [e1, e2] at this
      exact this
/-- Entered at a key: what is there, and the way back: what is stored at the stamp. -/
theorem Grp.entry {t E : TypeId} (h : Grp P k base e w b f) (K : Keyed P k) (ht : P.underlying t = some (.map k E)) (hz : ∀ u : World, (zeroValue E).run P u = .ok (.slice none 0 0) u) {key : Value} {kl : Lit} (hkey : keyOf P k key = some kl) :
    ∃ v st W1, (Instr.mapEntry t (.map (some b)) key).run P w = .ok (.tuple #[v, .int .i64 st]) W1 ∧ w.grownBy W1 (some b) ∧ W1.heap.size = w.heap.size ∧ Grp P k base e W1 b f ∧ W1.ownsRow base e 1 v (f key).length (intsV (f key)) ∧
      ∀ (W2 : World) (v' : Value) (zs' : List Int), W1.grownBy W2 v.ownBlock → W2.ownsRow base e 1 v' zs'.length (intsV zs') → (v'.ownBlock = v.ownBlock ∨ ∃ g, v'.ownBlock = some g ∧ W1.heap.size ≤ g) →
        ∃ W3, (Instr.entryStore t (.map (some b)) (.int .i64 st) v').run P W2 = .ok () W3 ∧ Grp P k base e W3 b (upd f key zs') ∧ W2.grownBy W3 (some b) := by
  have hblt := h.lt
  obtain ⟨es, clock, hb, h1, h2, h3, h4, h5, h6⟩ := h
  -- what is behind the entry: the key stands somewhere
  have claim : ∃ (es1 : Array MapEntry) (clock1 j : Nat) (e1 : MapEntry), (Instr.mapEntry t (.map (some b)) key).run P w = .ok (.tuple #[e1.val, goInt e1.born]) (ChangeMaps.setBlock w b (.map es1 clock1)) ∧ Stamped es1 clock1 ∧
      es1.toList[j]? = some e1 ∧ e1.key = key ∧ (∀ x ∈ es1.toList, ∃ l, keyOf P k x.key = some l) ∧ (∀ x ∈ es1.toList, w.ownsRow base e 1 x.val (f x.key).length (intsV (f x.key))) ∧
      (∀ x ∈ es1.toList, ∀ y ∈ es1.toList, x.key ≠ y.key → x.val.ownBlock = none ∨ x.val.ownBlock ≠ y.val.ownBlock) ∧ (∀ key, (∀ x ∈ es1.toList, x.key ≠ key) → f key = []) := by
    rcases K.find w hkey es.toList h2 with ⟨g1, g2⟩ | ⟨j, e0, g1, g2, g3⟩
    · refine ⟨es.push ⟨key, .slice none 0 0, clock⟩, clock + 1, es.size, ⟨key, .slice none 0 0, clock⟩, ?_, MapKept.stamped_push h1 g2, by simp, rfl, ?_, ?_, ?_, ?_⟩
      · simp [Instr.mapEntry, run_underlying ht, MapKept.run_getObj_map hb, K.check w false hkey, g1, hz, MapKept.run_setObj_map _ hb, Result.andThen, ChangeMaps.setBlock]
      · intro x hx
        simp only [Array.toList_push, List.mem_append, List.mem_singleton] at hx
        rcases hx with hx | rfl
        · exact h2 x hx
        · exact ⟨_, hkey⟩
      · intro x hx
        simp only [Array.toList_push, List.mem_append, List.mem_singleton] at hx
        rcases hx with hx | rfl
        · exact h3 x hx
        · rw [h5 key g2]
          exact World.ownsRow_nil _ _ _ _
      · intro x hx y hy hne
        simp only [Array.toList_push, List.mem_append, List.mem_singleton] at hx hy
        rcases hx with hx | rfl
        · rcases hy with hy | rfl
          · exact h4 x hx y hy hne
          · cases hv : x.val.ownBlock
            · exact .inl rfl
            · exact .inr (by simp [Value.ownBlock])
        · exact .inl rfl
      · intro u hu
        exact h5 u (fun x hx => hu x (by simp [hx]))
    · have hj : es[j]? = some e0 := by simpa using g2
      have hsame : es.modify j (fun e => { e with key := key }) = es := by
        apply Array.ext'
        rw [Array.toList_modify, ChangeMaps.modify_eq_set _ _ _ _ g2]
        have : ({ e0 with key := key } : MapEntry) = e0 := by rw [← g3]
        rw [this]
        exact WideElems.set_self _ _ _ g2
      refine ⟨es, clock, j, e0, ?_, h1, g2, g3, h2, h3, h4, h5⟩
      simp [Instr.mapEntry, run_underlying ht, MapKept.run_getObj_map hb, K.check w false hkey, g1, hj, g3, K.stays w hkey, hsame, MapKept.run_setObj_map _ hb, Result.andThen, ChangeMaps.setBlock]
  obtain ⟨es1, clock1, j, e1, c0, c1, c2, c3, c4, c5, c6, c7⟩ := claim
  have hgw := setBlock_grown hb (.map es1 clock1)
  have hne_b : ∀ {u : World} {v : Value} {n : Nat} {xs : List Value}, u.ownsRow base e 1 v n xs → v.ownBlock = none ∨ v.ownBlock ≠ some b := fun {u v n xs} hv => by
    cases hb' : v.ownBlock
    · exact .inl rfl
    · refine .inr (fun e2 => ?_)
      have := (hv.lt _ hb').1
      cases e2
      omega
  have hrows : ∀ x ∈ es1.toList, (ChangeMaps.setBlock w b (.map es1 clock1)).ownsRow base e 1 x.val (f x.key).length (intsV (f x.key)) := fun x hx => (c5 x hx).kept hgw (hne_b (c5 x hx))
  have hm1 : (ChangeMaps.setBlock w b (.map es1 clock1)).heap[b]? = some (.map es1 clock1) := ChangeMaps.heap_setBlock_same hb _
  have m1 := List.mem_of_getElem? c2
  refine ⟨e1.val, e1.born, _, c0, hgw, by simp [ChangeMaps.setBlock], ⟨es1, clock1, hm1, c1, c4, hrows, c6, c7, h6⟩, by have := hrows e1 m1; rw [c3] at this; exact this, ?_⟩
  intro W2 v' zs' hg hown hloc
  have hbW : (ChangeMaps.setBlock w b (.map es1 clock1)).heap.size = w.heap.size := by simp [ChangeMaps.setBlock]
  have hvb : some b ≠ e1.val.ownBlock := fun e2 => by
    rcases hne_b (hrows e1 m1) with h | h
    · rw [h] at e2; cases e2
    · exact h e2.symm
  have hm2 : W2.heap[b]? = some (.map es1 clock1) := (hg.block b (by rw [hbW]; exact hblt) hvb).trans hm1
  obtain ⟨s1, s2, s3⟩ := (MapKept.stamped_iff es1 clock1).1 c1
  have hidx : es1.findIdx? (fun e => ((e.born : Nat) : Int) == ((e1.born : Nat) : Int)) = some j := by
    rw [WideElems.findIdx_arr]
    exact WideElems.findIdx_born s2 c2
  have hset : (es1.modify j (fun e => { e with val := v' })).toList = es1.toList.set j { e1 with val := v' } := by
    rw [Array.toList_modify, ChangeMaps.modify_eq_set _ _ _ _ c2]
  have hgw2 := setBlock_grown hm2 (.map (es1.modify j (fun e => { e with val := v' })) clock1)
  have hmem : ∀ x ∈ (es1.modify j (fun e => { e with val := v' })).toList, x = { e1 with val := v' } ∨ (x ∈ es1.toList ∧ x.key ≠ key) := by
    intro x hx
    rw [hset] at hx
    rcases mem_set_apart s3 c2 hx with h | ⟨h, h'⟩
    · exact .inl h
    · exact .inr ⟨h, by rw [← c3]; exact h'⟩
  have old : ∀ x ∈ es1.toList, x.key ≠ key → x.val.ownBlock = none ∨ x.val.ownBlock ≠ e1.val.ownBlock := fun x hx hne => c6 x hx e1 m1 (by rw [c3]; exact hne)
  have old_new : ∀ x ∈ es1.toList, x.key ≠ key → x.val.ownBlock = none ∨ x.val.ownBlock ≠ v'.ownBlock := by
    intro x hx hne
    rcases hloc with g1 | ⟨g, g1, g2⟩
    · rw [g1]
      exact old x hx hne
    · cases hx' : x.val.ownBlock
      · exact .inl rfl
      · refine .inr (fun e2 => ?_)
        have := ((hrows x hx).lt _ hx').2
        rw [g1] at e2
        cases e2
        omega
  refine ⟨ChangeMaps.setBlock W2 b (.map (es1.modify j (fun e => { e with val := v' })) clock1), ?_, ⟨_, clock1, ChangeMaps.heap_setBlock_same hm2 _, ?_, ?_, ?_, ?_, ?_, h6⟩, hgw2⟩
  · have hidx' : es1.findIdx? (fun e => ((e.born : Nat) : Int) == ((e1.born : Nat) : Int)) = some j := hidx
    simp [Instr.entryStore, MapKept.run_getObj_map hm2, asInt, asIntOf, hidx', MapKept.run_setObj_map _ hm2, Result.andThen, ChangeMaps.setBlock]
  · exact MapKept.stamped_modify c1 j _ (fun _ _ => rfl) (fun _ _ _ => rfl)
  · intro x hx
    rcases hmem x hx with rfl | ⟨hx, _⟩
    · exact c4 e1 m1
    · exact c4 x hx
  · intro x hx
    rcases hmem x hx with rfl | ⟨hx, hne⟩
    · simp only [c3, upd_same]
      exact hown.kept hgw2 (hne_b hown)
    · simp only [upd_other hne]
      have r2 := (hrows x hx).kept hg (old x hx hne)
      exact r2.kept hgw2 (hne_b r2)
  · intro x hx y hy hne
    rcases hmem x hx with rfl | ⟨hx, hxk⟩ <;> rcases hmem y hy with rfl | ⟨hy, hyk⟩
    · exact absurd rfl hne
    · show v'.ownBlock = none ∨ v'.ownBlock ≠ y.val.ownBlock
      cases hv : v'.ownBlock
      · exact .inl rfl
      · refine .inr (fun e2 => ?_)
        rcases old_new y hy hyk with h | h
        · rw [h] at e2; cases e2
        · exact h (by rw [hv, e2])
    · exact old_new x hx hxk
    · exact c6 x hx y hy hne
  · intro u hu
    have huk : u ≠ key := fun e2 => hu { e1 with val := v' } (by rw [hset]; exact List.mem_iff_getElem?.2 ⟨j, by rw [List.getElem?_set, if_pos rfl, if_pos (List.getElem?_eq_some_iff.1 c2).1]⟩) (by rw [e2]; exact c3)
    rw [upd_other huk]
    refine c7 u (fun x hx e2 => ?_)
    obtain ⟨i, hi⟩ := List.mem_iff_getElem?.1 hx
    have hij : j ≠ i := fun e3 => by
      subst e3
      rw [c2] at hi
      cases hi
      exact huk (e2.symm.trans c3)
    exact hu x (by rw [hset]; exact List.mem_iff_getElem?.2 ⟨i, by rw [List.getElem?_set, if_neg hij]; exact hi⟩) e2
theorem wpList_lookupG {ops : Array Oper} {rest : List Oper} {o : Oper} {a : Act} {Q : Exit → Act → World → Prop} (h : Grp P k base e w b f)
    (hg : o.guard = none) (m x : Operand) (t E : TypeId) (hop : o.op = Op.lookup t m x false) (K : Keyed P k) (ht : P.underlying t = some (.map k E)) (hz : (zeroValue E).run P w = .ok (.slice none 0 0) w)
    (hm : a.eval m = .map (some b)) (key : Value) (hx : a.eval x = key) {kl : Lit} (hkey : keyOf P k key = some kl)
    (hK : ∀ v, w.ownsRow base e 1 v (f key).length (intsV (f key)) → wpList P ops Q rest (a.put o.dst v) w) : wpList P ops Q (o :: rest) a w := by
  refine wpList_plain hg fun K' hK' => ?_
  obtain ⟨v, hrun, r1⟩ := h.look K ht hz hkey
  unfold Oper.wp
  simp [execOp, hop, hm, hx, hrun, Result.andThen]
  exact hK' _ _ (hK v r1)
theorem wpList_entryG {ops : Array Oper} {rest : List Oper} {o : Oper} {a : Act} {Q : Exit → Act → World → Prop} (h : Grp P k base e w b f)
    (hg : o.guard = none) (m x : Operand) (t E : TypeId) (hop : o.op = Op.mapEntry t m x) (K : Keyed P k) (ht : P.underlying t = some (.map k E)) (hz : ∀ u : World, (zeroValue E).run P u = .ok (.slice none 0 0) u)
    (hm : a.eval m = .map (some b)) (key : Value) (hx : a.eval x = key) {kl : Lit} (hkey : keyOf P k key = some kl)
    (hK : ∀ v st W1, w.grownBy W1 (some b) → W1.heap.size = w.heap.size → Grp P k base e W1 b f → W1.ownsRow base e 1 v (f key).length (intsV (f key)) →
      (∀ (W2 : World) (v' : Value) (zs' : List Int), W1.grownBy W2 v.ownBlock → W2.ownsRow base e 1 v' zs'.length (intsV zs') → (v'.ownBlock = v.ownBlock ∨ ∃ g, v'.ownBlock = some g ∧ W1.heap.size ≤ g) →
        ∃ W3, (Instr.entryStore t (.map (some b)) (.int .i64 st) v').run P W2 = .ok () W3 ∧ Grp P k base e W3 b (upd f key zs') ∧ W2.grownBy W3 (some b)) →
      wpList P ops Q rest (a.put o.dst (.tuple #[v, .int .i64 st])) W1) : wpList P ops Q (o :: rest) a w := by
  refine wpList_plain hg fun K' hK' => ?_
  obtain ⟨v, st, W1, hrun, r1, r2, r3, r4, r5⟩ := h.entry K ht hz hkey
  unfold Oper.wp
  simp [execOp, hop, hm, hx, hrun, Result.andThen]
  exact hK' _ _ (hK v st W1 r1 r2 r3 r4 r5)
end
end Go.Proofs.Ytpnkhgjjlionnaa
namespace Go.Proofs.Ytpnkhgjjlionnaa
open Go.RowKit Go.Maps

theorem arrPair : WideMaps.ArrKey Try.prog 87 3 2 := ⟨Try.underlying87, by kernel_rfl, by kernel_rfl, by kernel_rfl⟩
theorem arrThree : WideMaps.ArrKey Try.prog 60 3 3 := ⟨Try.underlying60, by kernel_rfl, by kernel_rfl, by kernel_rfl⟩
theorem types_succ : ∃ m, Try.prog.types.size = m + 1 := ⟨Try.prog.types.size - 1, by kernel_rfl⟩
theorem zero_bool (w : World) : (zeroValue 4).run Try.prog w = .ok (.bool false) w := by kernel_rfl
theorem zero_ints (w : World) : (zeroValue 35).run Try.prog w = .ok (.slice none 0 0) w := by kernel_rfl
def triV (t : Tr) : Value := .agg #[.int .i64 t.1, .int .i64 t.2.1, .int .i64 t.2.2]
def pairV (e : Int × Int) : Value := .agg #[.int .i64 e.1, .int .i64 e.2]
theorem triV_inj {a b : Tr} (h : triV a = triV b) : a = b := by
  obtain ⟨a1, a2, a3⟩ := a
  obtain ⟨b1, b2, b3⟩ := b
  simpa [triV] using h

section
variable {P : Program} {k e : TypeId} {w : World} {b n : Nat} {seen : List Value}
theorem MapB.obj (h : MapB P k e w b n seen) : ∃ es clock, w.heap[b]? = some (.map es clock) := by
  obtain ⟨D, ⟨es, clock, hb, _⟩, _⟩ := h
  exact ⟨es, clock, hb⟩
theorem Grp.obj {base : Nat} {f : Value → List Int} (h : Grp P k base e w b f) : ∃ es clock, w.heap[b]? = some (.map es clock) := by
  obtain ⟨es, clock, hb, _⟩ := h
  exact ⟨es, clock, hb⟩
theorem row_map_ne {base' n' s : Nat} {e' : TypeId} {v : Value} {xs : List Value} (hr : w.ownsRow base' e' s v n' xs) (hm : ∃ es clock, w.heap[b]? = some (.map es clock)) : v.ownBlock = none ∨ v.ownBlock ≠ some b := by
  obtain ⟨es, clock, hb⟩ := hm
  rcases hr.2 with ⟨rfl, _⟩ | ⟨g, cap, cur, rfl, _, hh, _⟩
  · exact .inl rfl
  · refine .inr (fun e0 => ?_)
    have : g = b := by simpa [Value.ownBlock] using e0
    subst this
    rw [hh] at hb
    cases hb
theorem map_row_ne {base' n' s : Nat} {e' : TypeId} {v : Value} {xs : List Value} (hr : w.ownsRow base' e' s v n' xs) (hm : ∃ es clock, w.heap[b]? = some (.map es clock)) : some b ≠ v.ownBlock := by
  rcases row_map_ne hr hm with h | h
  · rw [h]; simp
  · exact fun e0 => h e0.symm
theorem wpList_lookupB {ops : Array Oper} {rest : List Oper} {o : Oper} {a : Act} {Q : Exit → Act → World → Prop} (h : MapB P k e w b n seen)
    (hg : o.guard = none) (m x : Operand) (t : TypeId) (hop : o.op = Op.lookup t m x false) (K : Keyed P k) (ht : P.underlying t = some (.map k e)) (he : P.underlying e = some .bool) (hz : (zeroValue e).run P w = .ok (.bool false) w)
    (hm : a.eval m = .map (some b)) (key : Value) (hx : a.eval x = key) {kl : Lit} (hkey : keyOf P k key = some kl)
    (hK : ∀ r : Bool, (r = true ↔ key ∈ seen) → wpList P ops Q rest (a.put o.dst (.bool r)) w) : wpList P ops Q (o :: rest) a w := by
  refine wpList_plain hg fun K' hK' => ?_
  obtain ⟨r, hrun, hi⟩ := h.look K ht he hz hkey
  unfold Oper.wp
  simp [execOp, hop, hm, hx, hrun, Result.andThen]
  exact hK' _ _ (hK r hi)
theorem wpList_storeB {ops : Array Oper} {rest : List Oper} {o : Oper} {a : Act} {Q : Exit → Act → World → Prop} (h : MapB P k e w b n seen)
    (hg : o.guard = none) (m x v : Operand) (t : TypeId) (hop : o.op = Op.mapUpdate t m x v) (K : Keyed P k) (ht : P.underlying t = some (.map k e)) (he : P.underlying e = some .bool) (hn : n < maxLen)
    (hm : a.eval m = .map (some b)) (key : Value) (hx : a.eval x = key) (hv : a.eval v = .bool true) {kl : Lit} (hkey : keyOf P k key = some kl)
    (hK : ∀ w', MapB P k e w' b (n + 1) (key :: seen) → w.grownBy w' (some b) → wpList P ops Q rest (a.put o.dst undef) w') : wpList P ops Q (o :: rest) a w := by
  refine wpList_plain hg fun K' hK' => ?_
  obtain ⟨w', hrun, r1, r2⟩ := h.store K ht he hn hkey
  unfold Oper.wp
  simp [execOp, hop, hm, hx, hv, hrun, Result.andThen]
  exact hK' _ _ (hK w' r1 r2)
theorem wpList_entryStore {ops : Array Oper} {rest : List Oper} {o : Oper} {a : Act} {Q : Exit → Act → World → Prop}
    (hg : o.guard = none) (m s v : Operand) (t : TypeId) (hop : o.op = Op.entryStore t m s v) {vm vs vv : Value} (hm : a.eval m = vm) (hs : a.eval s = vs) (hv : a.eval v = vv) {w' : World}
    (hrun : (Instr.entryStore t vm vs vv).run P w = .ok () w') (hK : wpList P ops Q rest (a.put o.dst undef) w') : wpList P ops Q (o :: rest) a w := by
  refine wpList_plain hg fun K' hK' => ?_
  unfold Oper.wp
  simp [execOp, hop, hm, hs, hv, hrun, Result.andThen]
  exact hK' _ _ hK
end

/-- What is held. H: the world's size at the start; f: the rows at each key; S: the pairs seen. -/
structure PairSt (w W : World) (kind : Int) (f : Value → List Int) (S : List Value) (v : Value) (ws : List Tr) : Prop where
  g : Grp Try.prog 60 (w.heap.size + 3) 3 W (w.heap.size + 1) f
  s : MapB Try.prog 87 4 W (w.heap.size + 2) ws.length S
  r : W.ownsRow w.heap.size 44 3 v ws.length (ws3 ws)
  b : Below w.heap.size w W
  c : ws = [] → S = []
  k : ∀ x ∈ ws, x.1 = kind
section
variable {w W : World} {kind : Int} {f : Value → List Int} {S : List Value} {v : Value} {ws : List Tr}
theorem PairSt.alloc (h : PairSt w W kind f S v ws) (o : Obj) : PairSt w (W.alloc o) kind f S v ws :=
  ⟨h.g.alloc o, h.s.kept (World.grownBy_alloc W o none) (by simp), h.r.alloc o, h.b.alloc h.b.size o, h.c, h.k⟩
theorem PairSt.below {W' : World} (h : PairSt w W kind f S v ws) (hb : Below W.heap.size W W') : PairSt w W' kind f S v ws :=
  ⟨h.g.grown (grown_of_below hb none), h.s.kept (grown_of_below hb none) (by simp), h.r.kept (grown_of_below hb none) (by cases e0 : v.ownBlock <;> simp), h.b.trans (hb.mono h.b.size), h.c, h.k⟩
/-- A pair is marked, and its witness written. -/
theorem PairSt.mark {W1 W2 : World} {o : Obj} {x : Tr} {v' p : Value} (h : PairSt w W kind f S v ws) (hm : MapB Try.prog 87 4 W1 (w.heap.size + 2) (ws.length + 1) (p :: S)) (hg : W.grownBy W1 (some (w.heap.size + 2)))
    (hr : W2.ownsRow w.heap.size 44 3 v' (ws.length + 1) (ws3 (ws ++ [x]))) (hg2 : (W1.alloc o).grownBy W2 v.ownBlock) (hx : x.1 = kind) : PairSt w W2 kind f (p :: S) v' (ws ++ [x]) := by
  have hr1 := h.r.kept hg (row_map_ne h.r h.s.obj)
  obtain ⟨es, clock, hob⟩ := h.s.obj
  have g1 := h.g.map hob (by omega) hg
  have hall := gGrown (World.grownBy_alloc W1 o v.ownBlock) hg2 (row := v.ownBlock) (fun _ e => .inl e)
  exact ⟨g1.row hr1 (by decide) hall, by rw [List.length_append]; exact hm.kept hall (map_row_ne hr1 hm.obj), by rw [List.length_append]; exact hr, (h.b.grown hg h.b.size (fun j e => by cases e; omega)).grown hall (Nat.le_trans h.b.size hg.size) (fun j e => (hr1.lt j e).1), by simp, snoc_kind h.k hx⟩
theorem PairSt.markRow {W1 W2 : World} {o : Obj} {base' s' n' : Nat} {e' : TypeId} {u : Value} {xs : List Value} (h : PairSt w W kind f S v ws) (hg : W.grownBy W1 (some (w.heap.size + 2)))
    (hg2 : (W1.alloc o).grownBy W2 v.ownBlock) (hne : e' ≠ 44) (hu : W.ownsRow base' e' s' u n' xs) : W2.ownsRow base' e' s' u n' xs := by
  have hr1 := h.r.kept hg (row_map_ne h.r h.s.obj)
  have hall := gGrown (World.grownBy_alloc W1 o v.ownBlock) hg2 (row := v.ownBlock) (fun _ e => .inl e)
  have u1 := hu.kept hg (row_map_ne hu h.s.obj)
  exact u1.kept hall (own_own_ne u1 hr1 hne)
theorem PairSt.markBlk {W1 W2 : World} {o : Obj} {g : Nat} {t : TypeId} {cs : Array Value} (h : PairSt w W kind f S v ws) (hg : W.grownBy W1 (some (w.heap.size + 2)))
    (hg2 : (W1.alloc o).grownBy W2 v.ownBlock) (hne : 44 ≠ t) (hb : Blk W g t cs) : Blk W2 g t cs := by
  have hr1 := h.r.kept hg (row_map_ne h.r h.s.obj)
  have hall := gGrown (World.grownBy_alloc W1 o v.ownBlock) hg2 (row := v.ownBlock) (fun _ e => .inl e)
  have b1 := hb.grown hg (fun e0 => by
    obtain ⟨es, clock, ho⟩ := h.s.obj
    cases e0
    rw [show W.heap[w.heap.size + 2]? = _ from hb] at ho
    cases ho)
  exact b1.grown hall (fun e0 => own_blk_ne hr1 b1 hne e0.symm)
/-- A number is put at a key. -/
theorem PairSt.put {W1 W2 W3 : World} {v0 : Value} {f' : Value → List Int} (h : PairSt w W kind f S v ws) (h1 : W.grownBy W1 (some (w.heap.size + 1))) (hg1 : Grp Try.prog 60 (w.heap.size + 3) 3 W1 (w.heap.size + 1) f) {n0 : Nat} {xs0 : List Value} (hr0 : W1.ownsRow (w.heap.size + 3) 3 1 v0 n0 xs0) (h2 : W1.grownBy W2 v0.ownBlock) (h3 : W2.grownBy W3 (some (w.heap.size + 1))) (hg : Grp Try.prog 60 (w.heap.size + 3) 3 W3 (w.heap.size + 1) f') : PairSt w W3 kind f' S v ws := by
  have s1 := h.s.kept h1 (by simp)
  have r1 := h.r.kept h1 (row_map_ne h.r h.g.obj)
  have s2 := s1.kept h2 (map_row_ne hr0 s1.obj)
  have r2 := r1.kept h2 (own_own_ne r1 hr0 (by decide))
  have hm1 : ∃ es clock, W2.heap[w.heap.size + 1]? = some (.map es clock) := by
    obtain ⟨es, clock, ho⟩ := hg1.obj
    exact ⟨es, clock, (h2.block _ hg1.lt (map_row_ne hr0 hg1.obj)).trans ho⟩
  exact ⟨hg, s2.kept h3 (by simp), r2.kept h3 (row_map_ne r2 hm1), ((h.b.grown h1 h.b.size (fun j e => by cases e; omega)).grown h2 (Nat.le_trans h.b.size h1.size) (fun j e => by have := (hr0.lt j e).1; omega)).grown h3 (Nat.le_trans h.b.size (Nat.le_trans h1.size h2.size)) (fun j e => by cases e; omega), h.c, h.k⟩
theorem PairSt.putRow {W1 W2 W3 : World} {v0 u : Value} {base' s' n' : Nat} {e' : TypeId} {xs : List Value} (h : PairSt w W kind f S v ws) (h1 : W.grownBy W1 (some (w.heap.size + 1))) (hg1 : Grp Try.prog 60 (w.heap.size + 3) 3 W1 (w.heap.size + 1) f) {n0 : Nat} {xs0 : List Value} (hr0 : W1.ownsRow (w.heap.size + 3) 3 1 v0 n0 xs0) (h2 : W1.grownBy W2 v0.ownBlock) (h3 : W2.grownBy W3 (some (w.heap.size + 1))) (hne : e' ≠ 3) (hu : W.ownsRow base' e' s' u n' xs) : W3.ownsRow base' e' s' u n' xs := by
  have u1 := hu.kept h1 (row_map_ne hu h.g.obj)
  have u2 := u1.kept h2 (own_own_ne u1 hr0 hne)
  have hm1 : ∃ es clock, W2.heap[w.heap.size + 1]? = some (.map es clock) := by
    obtain ⟨es, clock, ho⟩ := hg1.obj
    exact ⟨es, clock, (h2.block _ hg1.lt (map_row_ne hr0 hg1.obj)).trans ho⟩
  exact u2.kept h3 (row_map_ne u2 hm1)
end
end Go.Proofs.Ytpnkhgjjlionnaa
namespace Go.Proofs.Ytpnkhgjjlionnaa
open Go.RowKit Go.Maps
open Go.MapKept (Stamped)

/-- Block b is a map of bools: it has just the keys ks, each once, and all are true. -/
def KSet (P : Program) (k : TypeId) (w : World) (b : Nat) (ks : List Value) : Prop :=
  ∃ es clock, w.heap[b]? = some (.map es clock) ∧ Stamped es clock ∧ (∀ x ∈ es.toList, ∃ l, keyOf P k x.key = some l) ∧ es.toList.map (·.key) = ks ∧ ∀ x ∈ es.toList, x.val = .bool true
def mapSize (w : World) (b : Nat) : Nat := match w.heap[b]? with | some (.map es _) => es.size | _ => 0
section
variable {P : Program} {k e : TypeId} {b : Nat} {w : World} {ks : List Value}
theorem KSet.made (w : World) (P : Program) (k : TypeId) : KSet P k (w.alloc (.map #[] 0)) w.heap.size [] := ⟨#[], 0, heap_alloc_new w _, MapKept.stamped_empty 0, by simp, rfl, by simp⟩
theorem KSet.obj (h : KSet P k w b ks) : ∃ es clock, w.heap[b]? = some (.map es clock) := by
  obtain ⟨es, clock, hb, _⟩ := h
  exact ⟨es, clock, hb⟩
theorem KSet.lt (h : KSet P k w b ks) : b < w.heap.size := by
  obtain ⟨es, clock, hb, _⟩ := h
  exact (Array.getElem?_eq_some_iff.1 hb).1
theorem KSet.size (h : KSet P k w b ks) : mapSize w b = ks.length := by
  obtain ⟨es, clock, hb, _, _, h3, _⟩ := h
  unfold mapSize
  rw [hb, ← h3]
  simp
theorem KSet.same {w' : World} (h : KSet P k w b ks) (hg : w'.heap[b]? = w.heap[b]?) : KSet P k w' b ks := by
  obtain ⟨es, clock, hb, h1⟩ := h
  exact ⟨es, clock, hg.trans hb, h1⟩
theorem KSet.kept {w' : World} {row : Option Nat} (h : KSet P k w b ks) (hg : w.grownBy w' row) (hne : some b ≠ row) : KSet P k w' b ks := h.same (hg.block b h.lt hne)
theorem KSet.alloc (h : KSet P k w b ks) (o : Obj) : KSet P k (w.alloc o) b ks := h.kept (World.grownBy_alloc w o none) (by simp)
theorem KSet.look {t : TypeId} (h : KSet P k w b ks) (K : Keyed P k) (ht : P.underlying t = some (.map k e)) (hz : (zeroValue e).run P w = .ok (.bool false) w) {key : Value} {kl : Lit} (hkey : keyOf P k key = some kl) :
    ∃ r : Bool, (Instr.lookup t (.map (some b)) key false).run P w = .ok (.bool r) w ∧ (r = true ↔ key ∈ ks) := by
  obtain ⟨es, clock, hb, h1, h2, h3, h4⟩ := h
  rcases K.find w hkey es.toList h2 with ⟨g1, g2⟩ | ⟨j, e0, g1, g2, g3⟩
  · refine ⟨false, by simp [Instr.lookup, run_underlying ht, MapKept.run_getObj_map hb, K.check w _ hkey, g1, hz, Result.andThen], ?_⟩
    rw [← h3]
    constructor
    · intro e0; cases e0
    · intro hm
      obtain ⟨x, hx, e0⟩ := List.mem_map.1 hm
      exact absurd e0 (g2 x hx)
  · have hm := List.mem_of_getElem? g2
    refine ⟨true, ?_, ?_⟩
    · rw [h4 e0 hm] at g1
      simp [Instr.lookup, run_underlying ht, MapKept.run_getObj_map hb, K.check w _ hkey, g1, Result.andThen]
    · rw [← h3]
      exact ⟨fun _ => List.mem_map.2 ⟨e0, hm, g3⟩, fun _ => rfl⟩
theorem KSet.store {t : TypeId} (h : KSet P k w b ks) (K : Keyed P k) (ht : P.underlying t = some (.map k e)) {key : Value} {kl : Lit} (hkey : keyOf P k key = some kl) (hn : key ∉ ks) :
    ∃ w', (Instr.mapUpdate t (.map (some b)) key (.bool true)).run P w = .ok () w' ∧ KSet P k w' b (ks ++ [key]) ∧ w.grownBy w' (some b) ∧ w'.heap.size = w.heap.size := by
  obtain ⟨es, clock, hb, h1, h2, h3, h4⟩ := h
  rcases K.find w hkey es.toList h2 with ⟨g1, g2⟩ | ⟨j, e0, g1, g2, g3⟩
  · refine ⟨_, by simp [Instr.mapUpdate, run_underlying ht, MapKept.run_getObj_map hb, K.check w _ hkey, g1, MapKept.run_setObj_map _ hb, Result.andThen]; rfl, ⟨es.push ⟨key, .bool true, clock⟩, clock + 1, ChangeMaps.heap_setBlock_same hb _, MapKept.stamped_push h1 g2, ?_, by simp [h3], ?_⟩, setBlock_grown hb _, by simp [ChangeMaps.setBlock]⟩
    · intro x hx
      simp only [Array.toList_push, List.mem_append, List.mem_singleton] at hx
      rcases hx with hx | rfl
      · exact h2 x hx
      · exact ⟨_, hkey⟩
    · intro x hx
      simp only [Array.toList_push, List.mem_append, List.mem_singleton] at hx
      rcases hx with hx | rfl
      · exact h4 x hx
      · rfl
  · exact absurd (by rw [← h3]; exact List.mem_map.2 ⟨e0, List.mem_of_getElem? g2, g3⟩) hn
theorem KSet.len {t : TypeId} (h : KSet P k w b ks) (ht : P.underlying t = some (.map k e)) (ty : TypeId) : (Builtin.len_ #[t] ty #[.map (some b)]).run P w = .ok (.int .i64 ks.length) w := by
  obtain ⟨es, clock, hb, h1, h2, h3, h4⟩ := h
  have : (ks.length : Int) = es.size := by rw [← h3]; simp
  rw [this]
  simp [Builtin.len_, run_underlying ht, MapKept.run_getObj_map hb, goInt, Result.andThen]
theorem wpList_lookupK {ops : Array Oper} {rest : List Oper} {o : Oper} {a : Act} {Q : Exit → Act → World → Prop} (h : KSet P k w b ks)
    (hg : o.guard = none) (m x : Operand) (t : TypeId) (hop : o.op = Op.lookup t m x false) (K : Keyed P k) (ht : P.underlying t = some (.map k e)) (hz : (zeroValue e).run P w = .ok (.bool false) w)
    (hm : a.eval m = .map (some b)) (key : Value) (hx : a.eval x = key) {kl : Lit} (hkey : keyOf P k key = some kl)
    (hK : ∀ r : Bool, (r = true ↔ key ∈ ks) → wpList P ops Q rest (a.put o.dst (.bool r)) w) : wpList P ops Q (o :: rest) a w := by
  refine wpList_plain hg fun K' hK' => ?_
  obtain ⟨r, hrun, hi⟩ := h.look K ht hz hkey
  unfold Oper.wp
  simp [execOp, hop, hm, hx, hrun, Result.andThen]
  exact hK' _ _ (hK r hi)
theorem wpList_storeK {ops : Array Oper} {rest : List Oper} {o : Oper} {a : Act} {Q : Exit → Act → World → Prop} (h : KSet P k w b ks)
    (hg : o.guard = none) (m x v : Operand) (t : TypeId) (hop : o.op = Op.mapUpdate t m x v ∨ o.op = Op.insert t m x v) (K : Keyed P k) (ht : P.underlying t = some (.map k e))
    (hm : a.eval m = .map (some b)) (key : Value) (hx : a.eval x = key) (hv : a.eval v = .bool true) {kl : Lit} (hkey : keyOf P k key = some kl) (hn : key ∉ ks)
    (hK : ∀ w', KSet P k w' b (ks ++ [key]) → w.grownBy w' (some b) → w'.heap.size = w.heap.size → wpList P ops Q rest (a.put o.dst undef) w') : wpList P ops Q (o :: rest) a w := by
  refine wpList_plain hg fun K' hK' => ?_
  obtain ⟨w', hrun, r1, r2, r3⟩ := h.store K ht hkey hn
  unfold Oper.wp
  rcases hop with hop | hop <;> simp [execOp, hop, hm, hx, hv, hrun, Result.andThen] <;> exact hK' _ _ (hK w' r1 r2 r3)
theorem wpList_lenK {ops : Array Oper} {rest : List Oper} {o : Oper} {a : Act} {Q : Exit → Act → World → Prop} (h : KSet P k w b ks)
    (hg : o.guard = none) (m : Operand) (t : TypeId) (hop : o.op = Op.call { callee := Callee.builtin Builtin.len, args := #[m], argTypes := #[t] }) (ht : P.underlying t = some (.map k e)) (hm : a.eval m = .map (some b))
    (hK : wpList P ops Q rest (a.put o.dst (.int .i64 ks.length)) w) : wpList P ops Q (o :: rest) a w := by
  refine wpList_plain hg fun K' hK' => ?_
  have hrun := h.len ht o.type
  unfold Oper.wp execOp
  simp only [hop, resolve, invoke, builtin, Sem.run_bind, Sem.run_pure, Result.andThen_ok, List.map_toArray, List.map_cons, List.map_nil, hm, hrun]
  exact hK' _ _ hK
end

/-- A queue of numbers: what its cells hold; from block 'base' on; room behind it. -/
def IQ (w : World) (base : Nat) (v : Value) (zs : List Int) : Prop :=
  ∃ ao b off cap cur, v = .slice ao zs.length cap ∧ zs.length ≤ cap ∧ cap ≤ maxLen ∧ (0 < cap → ao = some ⟨b, off, none⟩ ∧ base ≤ b ∧ w.heap[b]? = some (.cells cur 3 (0, 0)) ∧ off + cap ≤ cur.size ∧ ∀ j, j < zs.length → cur[off + j]? = (intsV zs)[j]?)
theorem IQ.kept {w w' : World} {base : Nat} {v : Value} {zs : List Int} {row : Option Nat} (h : IQ w base v zs) (hg : w.grownBy w' row) (hr : ∀ j, row = some j → j < base ∨ ∃ es clock, w.heap[j]? = some (.map es clock)) : IQ w' base v zs := by
  obtain ⟨ao, b, off, cap, cur, h1, h2, h3, h4⟩ := h
  refine ⟨ao, b, off, cap, cur, h1, h2, h3, fun hc => ?_⟩
  obtain ⟨g1, g2, g3, g4, g5⟩ := h4 hc
  refine ⟨g1, g2, (hg.block b (Array.getElem?_eq_some_iff.1 g3).1 (fun e0 => ?_)).trans g3, g4, g5⟩
  rcases hr b e0.symm with hlt | ⟨es, clock, ho⟩
  · omega
  · rw [g3] at ho
    cases ho
theorem IQ.alloc {w : World} {base : Nat} {v : Value} {zs : List Int} (h : IQ w base v zs) (o : Obj) : IQ (w.alloc o) base v zs := h.kept (World.grownBy_alloc w o none) (fun j e => by cases e)
theorem IQ.form {w : World} {base : Nat} {v : Value} {zs : List Int} (h : IQ w base v zs) : ∃ ao c, v = .slice ao zs.length c := by
  obtain ⟨ao, b, off, cap, cur, h1, _⟩ := h
  exact ⟨ao, cap, h1⟩
end Go.Proofs.Ytpnkhgjjlionnaa
namespace Go.Proofs.Ytpnkhgjjlionnaa
namespace Jor

/-! The exclusive or of a test over a list. -/


/-! Lists without doubles. -/
theorem nodup_le {l m : List Nat} (hn : l.Nodup) (hs : ∀ x ∈ l, x ∈ m) : l.length ≤ m.length := by
  induction l generalizing m with
  | nil => exact Nat.zero_le _
  | cons a l ih =>
    rw [List.nodup_cons] at hn
    have ha := hs a (List.mem_cons_self ..)
    have h1 := ih (m := m.erase a) hn.2 (fun x hx => (List.mem_erase_of_ne (fun e => hn.1 (by rw [← e]; exact hx))).2 (hs x (List.mem_cons_of_mem _ hx)))
    have h2 := List.length_erase_of_mem ha
    have h3 := List.length_pos_of_mem ha
    simp only [List.length_cons]
    omega
/-! Corners -/
def nx (c : Nat) : Nat := c - c % 3 + (c + 1) % 3
def pv (c : Nat) : Nat := c - c % 3 + (c + 2) % 3
theorem nx_div (c : Nat) : nx c / 3 = c / 3 := by unfold nx; omega
theorem pv_div (c : Nat) : pv c / 3 = c / 3 := by unfold pv; omega
theorem pv_nx (c : Nat) : pv (nx c) = c := by unfold nx pv; omega
theorem nx_pv (c : Nat) : nx (pv c) = c := by unfold nx pv; omega
theorem nx_nx (c : Nat) : nx (nx c) = pv c := by unfold nx pv; omega
theorem pv_pv (c : Nat) : pv (pv c) = nx c := by unfold nx pv; omega
theorem nx_lt {F c : Nat} (h : c < 3 * F) : nx c < 3 * F := by unfold nx; omega
theorem pv_lt {F c : Nat} (h : c < 3 * F) : pv c < 3 * F := by unfold pv; omega

section
variable {F N : Nat} {opp vert : Nat → Nat}

/-! A tree of vertices, along edges U. -/
variable {U : Nat → Prop}
end
end Jor
end Go.Proofs.Ytpnkhgjjlionnaa
namespace Go.Proofs.Ytpnkhgjjlionnaa
open Go.RowKit Go.Maps
open Go.MapKept (Stamped)

section
variable {P : Program} {w : World} {base : Nat} {v : Value} {zs : List Int}
theorem IQ.append (h : IQ w base v zs) (t ty : TypeId) (i : TypeInfo) (ht : P.underlying t = some (.slice 3)) (hi : P.info? 3 = some i) (hz : i.zero = some (.int .i64 0)) (h1 : i.size = 1) (h8 : i.bytes = 8)
    (B c : Nat) (z : Int) (hB : w.cell? ⟨B, 0, none⟩ = some (.int .i64 z)) (hn : zs.length + 1 ≤ 1000000000) (hb : base ≤ w.heap.size) :
    ∃ v' w' row, (Builtin.append_ #[t, t] ty #[v, .slice (some ⟨B, 0, none⟩) 1 c]).run P w = .ok v' w' ∧ IQ w' base v' (zs ++ [z]) ∧ w.grownBy w' row ∧ ∀ j, row = some j → base ≤ j ∧ ∃ C, w.heap[j]? = some (.cells C 3 (0, 0)) := by
  obtain ⟨ao, b, off, cap, cur, rfl, hnc, hcm, hpos⟩ := h
  have src : Src P i.size t (.slice (some ⟨B, 0, none⟩) 1 c) 1 [.int .i64 z] w := Src.ofSlice w ht ⟨B, 0, none⟩ 1 c [.int .i64 z] (by simp [h1]) (by
    intro j u hj
    cases j with
    | zero =>
      simp at hj
      subst hj
      rw [Addr.add_lit]
      exact hB
    | succ j => simp at hj) (by simp [Value.oneCell'])
  by_cases hroom : zs.length + 1 ≤ cap
  · obtain ⟨rfl, hbb, hcur, hsz, hcs⟩ := hpos (by omega)
    have hblk : Blk w b 3 cur := hcur
    have hin : off + zs.length < cur.size := by omega
    have hr := run_append_room_src (P := P) w t t ty 3 i ht hi b off zs.length cap _ 1 _ src hroom (by
      intro j hj
      simp only [List.length_singleton] at hj
      obtain rfl : j = 0 := by omega
      rw [hblk.cell, h1]
      simp
      omega) (fun j _ => hblk.frozen _)
    rw [h1, Nat.mul_one] at hr
    refine ⟨_, _, some b, hr, ?_, gSet (World.grownBy.refl _ _) ⟨b, off + zs.length, none⟩ (.int .i64 z) (.inl rfl), fun j e => by cases e; exact ⟨hbb, cur, hcur⟩⟩
    refine ⟨some ⟨b, off, none⟩, b, off, cap, _, by simp, by simpa using hroom, hcm, fun _ => ⟨rfl, hbb, hblk.set_ (off + zs.length) (.int .i64 z), by simpa using hsz, fun j hj => ?_⟩⟩
    simp only [List.length_append, List.length_singleton] at hj
    by_cases e : j = zs.length
    · subst e
      simp [intsV, hin]
    · have h2 : j < zs.length := by omega
      rw [Array.getElem?_setIfInBounds_ne (by omega), hcs j h2]
      simp [intsV, List.getElem?_append_left, h2]
  · have hc : cap = zs.length := by omega
    have hold : (Builtin.firstCells i.size zs.length (.slice ao zs.length cap)).run P w.drew = .ok (intsV zs).toArray w.drew := by
      rcases Nat.eq_zero_or_pos cap with h0 | h0
      · have : zs = [] := List.eq_nil_of_length_eq_zero (by omega)
        subst this
        cases ao with
        | none => exact run_firstCells_none w.drew i.size 0 0 cap
        | some a => exact run_firstCells_some w.drew i.size 0 a 0 cap [] (by simp) (by simp)
      · obtain ⟨rfl, hbb, hcur, hsz, hcs⟩ := hpos h0
        refine run_firstCells_some w.drew i.size zs.length ⟨b, off, none⟩ zs.length cap (intsV zs) (by simp [intsV, h1]) (fun j u hj => ?_)
        have hj' : j < zs.length := by have := (List.getElem?_eq_some_iff.1 hj).1; simpa [intsV] using this
        have hblk : Blk w.drew b 3 cur := hcur
        rw [Addr.add_lit, hblk.cell, hcs j hj', hj]
    have hr := run_append_grow_src (P := P) w t t ty 3 i (.int .i64 0) ht hi hz ao zs.length cap (intsV zs) hold _ 1 _ src (by omega) (by omega) (by
      have := growslice_fits (need := zs.length + 1) (old := cap) (bytes := i.bytes) (by omega) (by rw [h8]; omega)
      exact this)
    have hge := grownCap_ge w (zs.length + 1) cap 3
    have hmx := grownCap_le_maxLen w (zs.length + 1) cap 3 (by unfold maxLen; omega)
    refine ⟨_, _, none, hr, ?_, ⟨rfl, rfl, rfl, by simp, fun k hk _ => (Below.heap_alloc w.drew _ k hk)⟩, fun j e => by cases e⟩
    refine ⟨some ⟨w.heap.size, 0, none⟩, w.heap.size, 0, _, _, by simp, by simpa using hge, hmx, fun _ => ⟨rfl, hb, heap_alloc_new w.drew _, ?_, fun j hj => ?_⟩⟩
    · rw [Array.size_append, size_zeroCells]
      simp [intsV, Value.cells]
      omega
    · have e1 : (intsV zs ++ [Value.int .i64 z]) = intsV (zs ++ [z]) := by simp [intsV]
      rw [Nat.zero_add, Array.getElem?_append_left (by simp [intsV]; simpa using hj), e1]
      simp
theorem wpList_pushQ {ops : Array Oper} {rest : List Oper} {o : Oper} {a : Act} {Q : Exit → Act → World → Prop} (h : IQ w base v zs) (hg : o.guard = none) (s x : Operand) (t : TypeId)
    (hop : o.op = .call { callee := .builtin .append, args := #[s, x], argTypes := #[t, t] }) (i : TypeInfo) (ht : P.underlying t = some (.slice 3)) (hi : P.info? 3 = some i) (hz : i.zero = some (.int .i64 0)) (h1 : i.size = 1) (h8 : i.bytes = 8)
    (hs : a.eval s = v) (B c : Nat) (z : Int) (hx : a.eval x = .slice (some ⟨B, 0, none⟩) 1 c) (hB : w.cell? ⟨B, 0, none⟩ = some (.int .i64 z)) (hn : zs.length + 1 ≤ 1000000000) (hb : base ≤ w.heap.size)
    (hK : ∀ v' w' row, IQ w' base v' (zs ++ [z]) → w.grownBy w' row → (∀ j, row = some j → base ≤ j ∧ ∃ C, w.heap[j]? = some (.cells C 3 (0, 0))) → wpList P ops Q rest (a.put o.dst v') w') : wpList P ops Q (o :: rest) a w := by
  refine wpList_plain hg fun K' hK' => ?_
  obtain ⟨v', w', row, hrun, r1, r2, r3⟩ := h.append t o.type i ht hi hz h1 h8 B c z hB hn hb
  unfold Oper.wp execOp
  simp only [hop, resolve, invoke, builtin, Sem.run_bind, Sem.run_pure, Result.andThen_ok, List.map_toArray, List.map_cons, List.map_nil, hs, hx, hrun]
  exact hK' _ _ (hK v' w' row r1 r2 r3)
/-- The first one, and the others. -/
theorem IQ.cons {z : Int} (h : IQ w base v (z :: zs)) : ∃ b off cap, v = .slice (some ⟨b, off, none⟩) (zs.length + 1) cap ∧ zs.length + 1 ≤ cap ∧ b < w.heap.size ∧ base ≤ b ∧ w.cell? ⟨b, off, none⟩ = some (.int .i64 z) ∧
    IQ w base (.slice (some (if cap = 1 then ⟨b, off, none⟩ else ⟨b, off + 1, none⟩)) zs.length (cap - 1)) zs := by
  obtain ⟨ao, b, off, cap, cur, rfl, hnc, hcm, hpos⟩ := h
  simp only [List.length_cons] at hnc hpos
  obtain ⟨rfl, hbb, hcur, hsz, hcs⟩ := hpos (by omega)
  have hblk : Blk w b 3 cur := hcur
  refine ⟨b, off, cap, rfl, hnc, hblk.lt, hbb, ?_, ?_⟩
  · have := hcs 0 (by omega)
    rw [hblk.cell]
    simpa [intsV] using this
  · refine ⟨some _, b, off + 1, cap - 1, cur, rfl, by omega, by omega, fun hc => ⟨by rw [if_neg (by omega)], hbb, hcur, by omega, fun j hj => ?_⟩⟩
    have := hcs (j + 1) (by omega)
    rw [show off + 1 + j = off + (j + 1) from by omega, this]
    simp [intsV]
/-- A row that was made with one number. -/
theorem IQ.one {B : Nat} {z : Int} (hB : Blk w B 3 #[.int .i64 z]) (hb : base ≤ B) : IQ w base (.slice (some ⟨B, 0, none⟩) 1 1) [z] :=
  ⟨some ⟨B, 0, none⟩, B, 0, 1, _, rfl, Nat.le_refl _, by decide, fun _ => ⟨rfl, hb, hB, by simp, fun j hj => by
    simp only [List.length_singleton] at hj
    obtain rfl : j = 0 := by omega
    simp [intsV]⟩⟩
end

section
variable {P : Program} {k e : TypeId} {base b : Nat} {w : World} {f : Value → List Int}
/-- A row is stored at its key. -/
theorem Grp.update {t E : TypeId} (h : Grp P k base e w b f) (K : Keyed P k) (ht : P.underlying t = some (.map k E)) {key : Value} {kl : Lit} (hkey : keyOf P k key = some kl) {v : Value}
    (hv : w.ownsRow base e 1 v (f key).length (intsV (f key))) (hvk : ∀ es clock, w.heap[b]? = some (.map es clock) → ∀ x ∈ es.toList, x.key = key → x.val = v) (hvn : ∀ es clock, w.heap[b]? = some (.map es clock) → (∀ x ∈ es.toList, x.key ≠ key) → v = .slice none 0 0)
    (W2 : World) (v' : Value) (zs' : List Int) (hg : w.grownBy W2 v.ownBlock) (hown : W2.ownsRow base e 1 v' zs'.length (intsV zs')) (hloc : v'.ownBlock = v.ownBlock ∨ ∃ g, v'.ownBlock = some g ∧ w.heap.size ≤ g) :
    ∃ W3, (Instr.mapUpdate t (.map (some b)) key v').run P W2 = .ok () W3 ∧ Grp P k base e W3 b (upd f key zs') ∧ W2.grownBy W3 (some b) ∧ W3.heap.size = W2.heap.size := by
  have hblt := h.lt
  obtain ⟨es, clock, hb, h1, h2, h3, h4, h5, h6⟩ := h
  have hne_b : ∀ {u : World} {v : Value} {n : Nat} {xs : List Value}, u.ownsRow base e 1 v n xs → v.ownBlock = none ∨ v.ownBlock ≠ some b := fun {u v n xs} hv => by
    cases hb' : v.ownBlock
    · exact .inl rfl
    · refine .inr (fun e2 => ?_)
      have := (hv.lt _ hb').1
      cases e2
      omega
  have hvb : some b ≠ v.ownBlock := fun e2 => by
    rcases hne_b hv with h | h
    · rw [h] at e2; cases e2
    · exact h e2.symm
  have hm2 : W2.heap[b]? = some (.map es clock) := (hg.block b hblt hvb).trans hb
  obtain ⟨s1, s2, s3⟩ := (MapKept.stamped_iff es clock).1 h1
  have old : ∀ x ∈ es.toList, x.key ≠ key → x.val.ownBlock = none ∨ x.val.ownBlock ≠ v.ownBlock := by
    intro x hx hne
    by_cases hex : ∃ y ∈ es.toList, y.key = key
    · obtain ⟨y, hy, hyk⟩ := hex
      rw [← hvk es clock hb y hy hyk]
      exact h4 x hx y hy (by rw [hyk]; exact hne)
    · rw [hvn es clock hb (fun y hy e2 => hex ⟨y, hy, e2⟩)]
      cases hx' : x.val.ownBlock
      · exact .inl rfl
      · exact .inr (by simp [Value.ownBlock])
  have old_new : ∀ x ∈ es.toList, x.key ≠ key → x.val.ownBlock = none ∨ x.val.ownBlock ≠ v'.ownBlock := by
    intro x hx hne
    rcases hloc with g1 | ⟨g, g1, g2⟩
    · rw [g1]
      exact old x hx hne
    · cases hx' : x.val.ownBlock
      · exact .inl rfl
      · refine .inr (fun e2 => ?_)
        have := ((h3 x hx).lt _ hx').2
        rw [g1] at e2
        cases e2
        omega
  rcases K.find W2 hkey es.toList h2 with ⟨g1, g2⟩ | ⟨j, e0, g1, g2, g3⟩
  · have hgw := setBlock_grown hm2 (.map (es.push ⟨key, v', clock⟩) (clock + 1))
    refine ⟨ChangeMaps.setBlock W2 b (.map (es.push ⟨key, v', clock⟩) (clock + 1)), by simp [Instr.mapUpdate, run_underlying ht, MapKept.run_getObj_map hm2, K.check W2 _ hkey, g1, MapKept.run_setObj_map _ hm2, Result.andThen, ChangeMaps.setBlock],
      ⟨_, _, ChangeMaps.heap_setBlock_same hm2 _, MapKept.stamped_push h1 g2, ?_, ?_, ?_, ?_, h6⟩, hgw, by simp [ChangeMaps.setBlock]⟩
    · intro x hx
      simp only [Array.toList_push, List.mem_append, List.mem_singleton] at hx
      rcases hx with hx | rfl
      · exact h2 x hx
      · exact ⟨_, hkey⟩
    · intro x hx
      simp only [Array.toList_push, List.mem_append, List.mem_singleton] at hx
      rcases hx with hx | rfl
      · rw [upd_other (g2 x hx)]
        exact ((h3 x hx).kept hg (old x hx (g2 x hx))).kept hgw (hne_b (h3 x hx))
      · simp only [upd_same]
        exact hown.kept hgw (hne_b hown)
    · intro x hx y hy hne
      simp only [Array.toList_push, List.mem_append, List.mem_singleton] at hx hy
      rcases hx with hx | rfl <;> rcases hy with hy | rfl
      · exact h4 x hx y hy hne
      · exact old_new x hx (g2 x hx)
      · show v'.ownBlock = none ∨ v'.ownBlock ≠ y.val.ownBlock
        cases hv' : v'.ownBlock
        · exact .inl rfl
        · refine .inr (fun e2 => ?_)
          rcases old_new y hy (g2 y hy) with h | h
          · rw [h] at e2; cases e2
          · exact h (by rw [hv', e2])
      · exact absurd rfl hne
    · intro u hu
      have huk : u ≠ key := fun e2 => hu ⟨key, v', clock⟩ (by simp) e2.symm
      rw [upd_other huk]
      exact h5 u (fun x hx => hu x (by simp [hx]))
  · have hset : (es.modify j (fun e => { e with key := key, val := v' })).toList = es.toList.set j { e0 with val := v' } := by
      rw [Array.toList_modify, ChangeMaps.modify_eq_set _ _ _ _ g2, ← g3]
    have hset' : (es.modify j (fun e => { e with val := v' })).toList = es.toList.set j { e0 with val := v' } := by
      rw [Array.toList_modify, ChangeMaps.modify_eq_set _ _ _ _ g2]
    have hsame : es.modify j (fun e => { e with key := key, val := v' }) = es.modify j (fun e => { e with val := v' }) := by
      apply Array.ext'
      rw [hset, hset']
    have hj : es[j]? = some e0 := by simpa using g2
    have hgw := setBlock_grown hm2 (.map (es.modify j (fun e => { e with val := v' })) clock)
    have hmem : ∀ x ∈ (es.modify j (fun e => { e with val := v' })).toList, x = { e0 with val := v' } ∨ (x ∈ es.toList ∧ x.key ≠ key) := by
      intro x hx
      rw [hset'] at hx
      rcases mem_set_apart s3 g2 hx with h | ⟨h, h'⟩
      · exact .inl h
      · exact .inr ⟨h, by rw [← g3]; exact h'⟩
    have m0 := List.mem_of_getElem? g2
    refine ⟨ChangeMaps.setBlock W2 b (.map (es.modify j (fun e => { e with val := v' })) clock), ?_,
      ⟨_, _, ChangeMaps.heap_setBlock_same hm2 _, MapKept.stamped_modify h1 j _ (fun _ _ => rfl) (fun _ _ _ => rfl), ?_, ?_, ?_, ?_, h6⟩, hgw, by simp [ChangeMaps.setBlock]⟩
    · simp [Instr.mapUpdate, run_underlying ht, MapKept.run_getObj_map hm2, K.check W2 _ hkey, g1, hj, g3, K.stays W2 hkey, hsame, MapKept.run_setObj_map _ hm2, Result.andThen, ChangeMaps.setBlock]
    · intro x hx
      rcases hmem x hx with rfl | ⟨hx, _⟩
      · exact h2 e0 m0
      · exact h2 x hx
    · intro x hx
      rcases hmem x hx with rfl | ⟨hx, hne⟩
      · simp only [g3, upd_same]
        exact hown.kept hgw (hne_b hown)
      · simp only [upd_other hne]
        exact ((h3 x hx).kept hg (old x hx hne)).kept hgw (hne_b (h3 x hx))
    · intro x hx y hy hne
      rcases hmem x hx with rfl | ⟨hx, hxk⟩ <;> rcases hmem y hy with rfl | ⟨hy, hyk⟩
      · exact absurd rfl hne
      · show v'.ownBlock = none ∨ v'.ownBlock ≠ y.val.ownBlock
        cases hv' : v'.ownBlock
        · exact .inl rfl
        · refine .inr (fun e2 => ?_)
          rcases old_new y hy hyk with h | h
          · rw [h] at e2; cases e2
          · exact h (by rw [hv', e2])
      · exact old_new x hx hxk
      · exact h4 x hx y hy hne
    · intro u hu
      have huk : u ≠ key := fun e2 => hu { e0 with val := v' } (by rw [hset']; exact List.mem_iff_getElem?.2 ⟨j, by rw [List.getElem?_set, if_pos rfl, if_pos (List.getElem?_eq_some_iff.1 g2).1]⟩) (by rw [e2]; exact g3)
      rw [upd_other huk]
      refine h5 u (fun x hx e2 => ?_)
      obtain ⟨i, hi⟩ := List.mem_iff_getElem?.1 hx
      have hij : j ≠ i := fun e3 => by
        subst e3
        rw [g2] at hi
        cases hi
        exact huk (e2.symm.trans g3)
      exact hu x (by rw [hset']; exact List.mem_iff_getElem?.2 ⟨i, by rw [List.getElem?_set, if_neg hij]; exact hi⟩) e2
/-- Looked up, with what a later store wants to know. -/
theorem Grp.look2 {t E : TypeId} (h : Grp P k base e w b f) (K : Keyed P k) (ht : P.underlying t = some (.map k E)) (hz : (zeroValue E).run P w = .ok (.slice none 0 0) w) {key : Value} {kl : Lit} (hkey : keyOf P k key = some kl) :
    ∃ v, (Instr.lookup t (.map (some b)) key false).run P w = .ok v w ∧ w.ownsRow base e 1 v (f key).length (intsV (f key)) ∧
      ∀ (W2 : World) (v' : Value) (zs' : List Int), w.grownBy W2 v.ownBlock → W2.ownsRow base e 1 v' zs'.length (intsV zs') → (v'.ownBlock = v.ownBlock ∨ ∃ g, v'.ownBlock = some g ∧ w.heap.size ≤ g) →
        ∃ W3, (Instr.mapUpdate t (.map (some b)) key v').run P W2 = .ok () W3 ∧ Grp P k base e W3 b (upd f key zs') ∧ W2.grownBy W3 (some b) ∧ W3.heap.size = W2.heap.size := by
  have h0 := h
  obtain ⟨es, clock, hb, h1, h2, h3, h4, h5, h6⟩ := h
  obtain ⟨s1, s2, s3⟩ := (MapKept.stamped_iff es clock).1 h1
  rcases K.find w hkey es.toList h2 with ⟨g1, g2⟩ | ⟨j, e0, g1, g2, g3⟩
  · have hr : w.ownsRow base e 1 (.slice none 0 0) (f key).length (intsV (f key)) := by
      rw [h5 key g2]
      exact World.ownsRow_nil _ _ _ _
    refine ⟨.slice none 0 0, by simp [Instr.lookup, run_underlying ht, MapKept.run_getObj_map hb, K.check w _ hkey, g1, hz, Result.andThen], hr, fun W2 v' zs' a b' c => h0.update K ht hkey hr ?_ ?_ W2 v' zs' a b' c⟩
    · intro es' clock' hb' x hx hxk
      rw [hb] at hb'
      cases hb'
      exact absurd hxk (g2 x hx)
    · intro es' clock' hb' _
      rfl
  · have hr : w.ownsRow base e 1 e0.val (f key).length (intsV (f key)) := by
      have := h3 e0 (List.mem_of_getElem? g2)
      rw [g3] at this
      exact this
    refine ⟨e0.val, by simp [Instr.lookup, run_underlying ht, MapKept.run_getObj_map hb, K.check w _ hkey, g1, Result.andThen], hr, fun W2 v' zs' a b' c => h0.update K ht hkey hr ?_ ?_ W2 v' zs' a b' c⟩
    · intro es' clock' hb' x hx hxk
      rw [hb] at hb'
      cases hb'
      obtain ⟨i, hi⟩ := List.mem_iff_getElem?.1 hx
      by_cases hij : j = i
      · subst hij
        rw [g2] at hi
        cases hi
        rfl
      · exfalso
        obtain ⟨q1, e1⟩ := List.getElem?_eq_some_iff.1 hi
        obtain ⟨q2, e2⟩ := List.getElem?_eq_some_iff.1 g2
        have hp := List.pairwise_iff_getElem.1 s3
        rcases Nat.lt_or_gt_of_ne hij with hlt | hlt
        · have := hp j i q2 q1 hlt
          rw [e1, e2, g3, hxk] at this
          exact this rfl
        · have := hp i j q1 q2 hlt
          rw [e1, e2, g3, hxk] at this
          exact this rfl
    · intro es' clock' hb' hall
      rw [hb] at hb'
      cases hb'
      exact absurd g3 (hall e0 (List.mem_of_getElem? g2))
theorem wpList_lookupG2 {ops : Array Oper} {rest : List Oper} {o : Oper} {a : Act} {Q : Exit → Act → World → Prop} (h : Grp P k base e w b f)
    (hg : o.guard = none) (m x : Operand) (t E : TypeId) (hop : o.op = Op.lookup t m x false) (K : Keyed P k) (ht : P.underlying t = some (.map k E)) (hz : (zeroValue E).run P w = .ok (.slice none 0 0) w)
    (hm : a.eval m = .map (some b)) (key : Value) (hx : a.eval x = key) {kl : Lit} (hkey : keyOf P k key = some kl)
    (hK : ∀ v, w.ownsRow base e 1 v (f key).length (intsV (f key)) → (∀ (W2 : World) (v' : Value) (zs' : List Int), w.grownBy W2 v.ownBlock → W2.ownsRow base e 1 v' zs'.length (intsV zs') → (v'.ownBlock = v.ownBlock ∨ ∃ g, v'.ownBlock = some g ∧ w.heap.size ≤ g) →
        ∃ W3, (Instr.mapUpdate t (.map (some b)) key v').run P W2 = .ok () W3 ∧ Grp P k base e W3 b (upd f key zs') ∧ W2.grownBy W3 (some b) ∧ W3.heap.size = W2.heap.size) → wpList P ops Q rest (a.put o.dst v) w) : wpList P ops Q (o :: rest) a w := by
  refine wpList_plain hg fun K' hK' => ?_
  obtain ⟨v, hrun, r1, r2⟩ := h.look2 K ht hz hkey
  unfold Oper.wp
  simp [execOp, hop, hm, hx, hrun, Result.andThen]
  exact hK' _ _ (hK v r1 r2)
theorem wpList_mapUpdate {ops : Array Oper} {rest : List Oper} {o : Oper} {a : Act} {Q : Exit → Act → World → Prop}
    (hg : o.guard = none) (m s v : Operand) (t : TypeId) (hop : o.op = Op.mapUpdate t m s v) {vm vs vv : Value} (hm : a.eval m = vm) (hs : a.eval s = vs) (hv : a.eval v = vv) {w' : World}
    (hrun : (Instr.mapUpdate t vm vs vv).run P w = .ok () w') (hK : wpList P ops Q rest (a.put o.dst undef) w') : wpList P ops Q (o :: rest) a w := by
  refine wpList_plain hg fun K' hK' => ?_
  unfold Oper.wp
  simp [execOp, hop, hm, hs, hv, hrun, Result.andThen]
  exact hK' _ _ hK

theorem Grp.look_at {w0 : World} {t E : TypeId} (h : Grp P k base e w0 b f) (hb : Below w0.heap.size w0 w) (K : Keyed P k) (ht : P.underlying t = some (.map k E)) (hz : (zeroValue E).run P w = .ok (.slice none 0 0) w) {key : Value} {kl : Lit} (hkey : keyOf P k key = some kl) :
    ∃ v, (Instr.lookup t (.map (some b)) key false).run P w = .ok v w ∧ w0.ownsRow base e 1 v (f key).length (intsV (f key)) := by
  have hlt := h.lt
  obtain ⟨es, clock, hb0, h1, h2, h3, h4, h5, h6⟩ := h
  have hb := (hb.block b hlt).trans hb0
  rcases K.find w hkey es.toList h2 with ⟨g1, g2⟩ | ⟨j, e0, g1, g2, g3⟩
  · refine ⟨.slice none 0 0, by simp [Instr.lookup, run_underlying ht, MapKept.run_getObj_map hb, K.check w _ hkey, g1, hz, Result.andThen], ?_⟩
    rw [h5 key g2]
    exact World.ownsRow_nil _ _ _ _
  · refine ⟨e0.val, by simp [Instr.lookup, run_underlying ht, MapKept.run_getObj_map hb, K.check w _ hkey, g1, Result.andThen], ?_⟩
    have := h3 e0 (List.mem_of_getElem? g2)
    rw [g3] at this
    exact this
theorem wpList_lookupGB {w0 : World} {ops : Array Oper} {rest : List Oper} {o : Oper} {a : Act} {Q : Exit → Act → World → Prop} (h : Grp P k base e w0 b f) (hb : Below w0.heap.size w0 w)
    (hg : o.guard = none) (m x : Operand) (t E : TypeId) (hop : o.op = Op.lookup t m x false) (K : Keyed P k) (ht : P.underlying t = some (.map k E)) (hz : (zeroValue E).run P w = .ok (.slice none 0 0) w)
    (hm : a.eval m = .map (some b)) (key : Value) (hx : a.eval x = key) {kl : Lit} (hkey : keyOf P k key = some kl)
    (hK : ∀ v, w0.ownsRow base e 1 v (f key).length (intsV (f key)) → wpList P ops Q rest (a.put o.dst v) w) : wpList P ops Q (o :: rest) a w := by
  refine wpList_plain hg fun K' hK' => ?_
  obtain ⟨v, hrun, r1⟩ := h.look_at hb K ht hz hkey
  unfold Oper.wp
  simp [execOp, hop, hm, hx, hrun, Result.andThen]
  exact hK' _ _ (hK v r1)
theorem wpList_tailQ {v : Value} {z : Int} {zs : List Int} {ops : Array Oper} {rest : List Oper} {o : Oper} {a : Act} {Q : Exit → Act → World → Prop} (h : IQ w base v (z :: zs)) (hg : o.guard = none) (x : Operand) (t : TypeId)
    (hop : o.op = Op.slice t x (some (.const (.int .i64 1))) none none) (ht : P.underlying t = some (.slice 3)) {i : TypeInfo} (hi : P.info? 3 = some i) (h1 : i.size = 1) (hx : a.eval x = v)
    (hK : ∀ v', IQ w base v' zs → wpList P ops Q rest (a.put o.dst v') w) : wpList P ops Q (o :: rest) a w := by
  refine wpList_plain hg fun K' hK' => ?_
  obtain ⟨b, off, cap, rfl, hc1, _, _, _, hq⟩ := h.cons
  have hel : P.elem t = 3 := by simp [Program.elem, ht]
  have ht' : P.underlying t = some (.slice (P.elem t)) := by rw [hel]; exact ht
  have hrun : (Instr.sliceAt t (.slice (some ⟨b, off, none⟩) (zs.length + 1) cap) (some (.int .i64 1)) none none).run P w = .ok (.slice (some (if cap = 1 then ⟨b, off, none⟩ else ⟨b, off + 1, none⟩)) zs.length (cap - 1)) w := by
    rw [run_sliceAt_slice (w := w) t _ _ _ _ ht', run_slice_l (w := w) t (some ⟨b, off, none⟩) (zs.length + 1) cap ht' .i64 1 (by omega) (by omega), hel]
    have hs : (sizeOf 3).run P w = .ok 1 w := by simp [sizeOf, typeInfo, hi, h1]
    rw [hs]
    simp only [Result.andThen, sliced]
    by_cases e : cap = 1
    · simp [e]
    · have : ¬ cap = (1 : Int).toNat := e
      simp only [Option.map, if_neg e, Addr.add_mid, if_neg this]
      rfl
  have e1 : a.eval (.const (.int .i64 1)) = .int .i64 1 := rfl
  unfold Oper.wp
  simp only [execOp, hop, hx, Option.map, e1, Sem.run_bind, hrun, Result.andThen]
  exact hK' _ _ (hK _ hq)
end
section
variable {w : World} {base : Nat} {v : Value} {zs : List Int}
theorem IQ.len (h : IQ w base v zs) : (match v with | .slice _ n _ => n | _ => 0) = zs.length := by
  obtain ⟨ao, c, rfl⟩ := h.form
  rfl
end

/-! Which triangles of a vertex are connected. -/
def hasV (t : Tr) (x : Int) : Prop := x = t.1 ∨ x = t.2.1 ∨ x = t.2.2
def adjV (T : List Tr) (v : Int) (i k : Nat) : Prop := ∃ a b x, T[i]? = some a ∧ T[k]? = some b ∧ x ≠ v ∧ hasV a x ∧ hasV b x
def ConnV (T : List Tr) (v : Int) (l : List Nat) : Prop := ∀ S : Nat → Prop, (∀ i, l.head? = some i → S i) → (∀ i ∈ l, ∀ k ∈ l, S i → adjV T v i k → S k) → ∀ k ∈ l, S k
theorem mem_keys {R : List Nat} {k : Nat} : (Value.int .i64 (k : Int)) ∈ intsV (R.map fun i : Nat => (i : Int)) ↔ k ∈ R := by
  simp only [intsV, List.mem_map, Value.int.injEq, true_and]
  constructor
  · rintro ⟨a, ⟨b, hb, rfl⟩, e⟩
    have : b = k := by omega
    rw [← this]
    exact hb
  · intro h
    exact ⟨_, ⟨k, h, rfl⟩, rfl⟩
def nats (l : List Nat) : List Int := l.map fun i : Nat => (i : Int)
theorem nats_length (l : List Nat) : (nats l).length = l.length := by simp [nats]
/-- What the ends know: at a vertex the triangles that have it. -/
def Ends (f : Value → List Int) (pre : List (Int × Nat)) : Prop := ∀ x : Int, ∃ l : List Nat, f (.int .i64 x) = nats l ∧ (∀ k, k ∈ l ↔ (x, k) ∈ pre) ∧ l.length ≤ pre.length
theorem Ends.nil : Ends (fun _ => []) [] := fun x => ⟨[], rfl, by simp, by simp⟩
theorem Ends.put {f : Value → List Int} {pre : List (Int × Nat)} (h : Ends f pre) (x : Int) (i : Nat) : Ends (upd f (.int .i64 x) (f (.int .i64 x) ++ [(i : Int)])) (pre ++ [(x, i)]) := by
  intro y
  obtain ⟨l, h1, h2, h3⟩ := h y
  by_cases e : y = x
  · subst e
    rw [upd_same]
    refine ⟨l ++ [i], by rw [h1]; simp [nats], fun k => ?_, by simp; exact h3⟩
    simp only [List.mem_append, h2, List.mem_singleton, Prod.mk.injEq, true_and]
  · rw [upd_other (by simpa using e)]
    refine ⟨l, h1, fun k => ?_, by simp; omega⟩
    simp only [List.mem_append, h2, List.mem_singleton, Prod.mk.injEq, e, false_and, or_false]
/-- What one triangle adds. -/
def tells (v : Int) (t : Tr) (i : Nat) : List (Int × Nat) := ([t.1, t.2.1, t.2.2].filter (· != v)).map fun x => (x, i)
def told (T : List Tr) (v : Int) (l : List Nat) : List (Int × Nat) := l.flatMap fun i => tells v (T[i]?.getD (0, 0, 0)) i
theorem told_snoc (T : List Tr) (v : Int) (l : List Nat) (i : Nat) : told T v (l ++ [i]) = told T v l ++ tells v (T[i]?.getD (0, 0, 0)) i := by simp [told]
theorem tells_length (v : Int) (t : Tr) (i : Nat) : (tells v t i).length ≤ 3 := by
  unfold tells
  rw [List.length_map]
  have := List.length_filter_le (· != v) [t.1, t.2.1, t.2.2]
  simpa using this
theorem told_mem {T : List Tr} {v : Int} {l : List Nat} {x : Int} {k : Nat} : (x, k) ∈ told T v l ↔ k ∈ l ∧ x ≠ v ∧ hasV (T[k]?.getD (0, 0, 0)) x := by
  simp only [told, tells, List.mem_flatMap, List.mem_map, List.mem_filter, List.mem_cons, List.not_mem_nil, or_false, Prod.mk.injEq, bne_iff_ne, hasV]
  constructor
  · rintro ⟨i, hi, y, ⟨hy, hn⟩, rfl, rfl⟩
    exact ⟨hi, hn, hy⟩
  · rintro ⟨hk, hn, hx⟩
    exact ⟨k, hk, x, ⟨hx, hn⟩, rfl, rfl⟩

/-- The search: what was reached, and what of it waits. -/
structure Bfs (T : List Tr) (v : Int) (l R Q : List Nat) : Prop where
  le : Q.length ≤ R.length
  nd : R.Nodup
  sub : ∀ k ∈ R, k ∈ l
  wait : ∀ k ∈ Q, k ∈ R
  head : ∀ i, l.head? = some i → i ∈ R
  done : ∀ i ∈ R, i ∉ Q → ∀ k ∈ l, adjV T v i k → k ∈ R
  reach : ∀ S : Nat → Prop, (∀ i, l.head? = some i → S i) → (∀ i ∈ l, ∀ k ∈ l, S i → adjV T v i k → S k) → ∀ k ∈ R, S k
theorem Bfs.start {T : List Tr} {v : Int} {l : List Nat} {i : Nat} (h : l.head? = some i) : Bfs T v l [i] [i] where
  le := by simp
  nd := by simp
  sub := by
    intro k hk
    rw [List.mem_singleton.1 hk]
    exact List.mem_of_mem_head? h
  wait := fun k hk => hk
  head := by
    intro j hj
    rw [h] at hj
    cases hj
    simp
  done := fun j hj hn => absurd hj hn
  reach := by
    intro S h1 _ k hk
    rw [List.mem_singleton.1 hk]
    exact h1 i h
theorem nodup_full {R l : List Nat} (hn : R.Nodup) (hs : ∀ x ∈ R, x ∈ l) (hl : l.length ≤ R.length) : ∀ x ∈ l, x ∈ R := by
  intro x hx
  refine Classical.byContradiction fun hne => ?_
  have h2 := Jor.nodup_le (l := x :: R) (m := l) (List.nodup_cons.2 ⟨hne, hn⟩) (fun y hy => by
    rcases List.mem_cons.1 hy with rfl | hy
    · exact hx
    · exact hs y hy)
  simp only [List.length_cons] at h2
  omega
theorem Bfs.finish {T : List Tr} {v : Int} {l R : List Nat} (h : Bfs T v l R []) (hl : l.Nodup) : R.length = l.length ↔ ConnV T v l := by
  have hle : R.length ≤ l.length := Jor.nodup_le h.nd h.sub
  constructor
  · intro he S h1 h2 k hk
    exact h.reach S h1 h2 k (nodup_full h.nd h.sub (by omega) k hk)
  · intro hc
    have hall := hc (fun k => k ∈ R) h.head (fun i _ k hk hiR ha => h.done i hiR (by simp) k hk ha)
    have := Jor.nodup_le hl hall
    omega
/-- In the midst of one triangle: its vertices C are done. -/
structure BfsAt (T : List Tr) (v : Int) (l R Q : List Nat) (i : Nat) (C : List Int) : Prop where
  le : Q.length ≤ R.length
  nd : R.Nodup
  sub : ∀ k ∈ R, k ∈ l
  wait : ∀ k ∈ Q, k ∈ R
  head : ∀ i, l.head? = some i → i ∈ R
  cur : i ∈ R
  done : ∀ j ∈ R, j ∉ Q → j ≠ i → ∀ k ∈ l, adjV T v j k → k ∈ R
  part : ∀ k ∈ l, ∀ b, T[k]? = some b → ∀ x ∈ C, x ≠ v → hasV b x → k ∈ R
  reach : ∀ S : Nat → Prop, (∀ i, l.head? = some i → S i) → (∀ i ∈ l, ∀ k ∈ l, S i → adjV T v i k → S k) → ∀ k ∈ R, S k
theorem Bfs.pop {T : List Tr} {v : Int} {l R Q : List Nat} {i : Nat} (h : Bfs T v l R (i :: Q)) : BfsAt T v l R Q i [] where
  le := by have := h.le; simp at this; omega
  nd := h.nd
  sub := h.sub
  wait := fun k hk => h.wait k (List.mem_cons_of_mem _ hk)
  head := h.head
  cur := h.wait i (List.mem_cons_self ..)
  done := fun j hj hn hne k hk ha => h.done j hj (fun hm => by rcases List.mem_cons.1 hm with e | hm; exact hne e; exact hn hm) k hk ha
  part := fun k _ b _ x hx => by cases hx
  reach := h.reach
theorem BfsAt.add {T : List Tr} {v : Int} {l R Q : List Nat} {i k : Nat} {C : List Int} (h : BfsAt T v l R Q i C) (hk : k ∈ l) (hn : k ∉ R) (ha : adjV T v i k) : BfsAt T v l (R ++ [k]) (Q ++ [k]) i C where
  le := by have := h.le; simp; exact this
  nd := by
    rw [List.nodup_append]
    exact ⟨h.nd, by simp, fun a ha b hb e => by rw [List.mem_singleton.1 hb] at e; exact hn (by rw [← e]; exact ha)⟩
  sub := fun x hx => by
    rcases List.mem_append.1 hx with hx | hx
    · exact h.sub x hx
    · rw [List.mem_singleton.1 hx]; exact hk
  wait := fun x hx => by
    rcases List.mem_append.1 hx with hx | hx
    · exact List.mem_append_left _ (h.wait x hx)
    · exact List.mem_append_right _ hx
  head := fun j hj => List.mem_append_left _ (h.head j hj)
  cur := List.mem_append_left _ h.cur
  done := fun j hj hq hne x hx hax => by
    rcases List.mem_append.1 hj with hj | hj
    · exact List.mem_append_left _ (h.done j hj (fun hm => hq (List.mem_append_left _ hm)) hne x hx hax)
    · exact absurd (List.mem_append_right _ hj) hq
  part := fun x hx b hb y hy hyv hyb => List.mem_append_left _ (h.part x hx b hb y hy hyv hyb)
  reach := fun S h1 h2 x hx => by
    rcases List.mem_append.1 hx with hx | hx
    · exact h.reach S h1 h2 x hx
    · rw [List.mem_singleton.1 hx]
      exact h2 i (h.sub i h.cur) k hk (h.reach S h1 h2 i h.cur) ha
theorem BfsAt.skip {T : List Tr} {v : Int} {l R Q : List Nat} {i : Nat} {C : List Int} (h : BfsAt T v l R Q i C) : BfsAt T v l R Q i (C ++ [v]) := ⟨h.le, h.nd, h.sub, h.wait, h.head, h.cur, h.done, fun k hk b hb x hx hxv hxb => by
  rcases List.mem_append.1 hx with hx | hx
  · exact h.part k hk b hb x hx hxv hxb
  · exact absurd (List.mem_singleton.1 hx) hxv, h.reach⟩
theorem BfsAt.over {T : List Tr} {v : Int} {l R Q : List Nat} {i : Nat} {C : List Int} {y : Int} (h : BfsAt T v l R Q i C) (hy : ∀ k ∈ l, ∀ b, T[k]? = some b → hasV b y → k ∈ R) : BfsAt T v l R Q i (C ++ [y]) := ⟨h.le, h.nd, h.sub, h.wait, h.head, h.cur, h.done, fun k hk b hb x hx hxv hxb => by
  rcases List.mem_append.1 hx with hx | hx
  · exact h.part k hk b hb x hx hxv hxb
  · rw [List.mem_singleton.1 hx] at hxb
    exact hy k hk b hb hxb, h.reach⟩
theorem BfsAt.finish {T : List Tr} {v : Int} {l R Q : List Nat} {i : Nat} {x y z : Int} (h : BfsAt T v l R Q i [x, y, z]) (ht : T[i]? = some (x, y, z)) : Bfs T v l R Q where
  le := h.le
  nd := h.nd
  sub := h.sub
  wait := h.wait
  head := h.head
  done := fun j hj hq k hk ha => by
    by_cases e : j = i
    · subst e
      obtain ⟨a, b, u, h1, h2, h3, h4, h5⟩ := ha
      rw [ht] at h1
      cases h1
      refine h.part k hk b h2 u ?_ h3 h5
      rcases h4 with rfl | rfl | rfl <;> simp
    · exact h.done j hj hq e k hk ha
  reach := h.reach
def sliceLen : Value → Nat
  | .slice _ n _ => n
  | _ => 0
end Go.Proofs.Ytpnkhgjjlionnaa
