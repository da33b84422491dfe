/-
  Texts joined by program: Twice SortK All Is New.
-/
import Derived.Test.YtghlnknncahkgaaGreatK4
import Derived.Deep.Onto
import Derived.Test.YtghlnknncahkgaaGreatK1
import Derived.Sort.OwnSortedInts
import Derived.Shelf.SlSortCmp.WholeK
import Derived.Test.YtghlnknncahkgaaGreatShelf
import Derived.Deep.RegionHeld3
import Derived.Test.YtghlnknncahkgaaGreatK2
import Derived.Deep.DeepCutAuto
import Derived.BigRegion
import Derived.RegionTactic
/-
  certify.twice, mirrored: their keys, and what is found.
-/
namespace Go.Proofs.YtghlnknncahkgaaGreat
open Go.RowKit Go.Maps

def edges3 (t : Tr) : List Tr := [(t.1, t.2.1, 0), (t.2.1, t.2.2, 0), (t.2.2, t.1, 0)]
def key3 (t : Tr) : List Tr := [sort3 t.1 t.2.1 t.2.2]

set_option maxRecDepth 100000 in
set_option maxHeartbeats 1000000 in
theorem keysTwice_any (t : Tr) (W : World) : Calls Tryz.prog 120 #[triV t] W fun e W' => ∃ v', e = .returned v' ∧ W'.ownsRow W.heap.size 71 3 v' (edges3 t).length (ws3 (edges3 t)) ∧ Below W.heap.size W W' := by
  obtain ⟨x, y, z⟩ := t
  unfold triV
  have b1 := Blk.new W 72 #[.int .i64 x, .int .i64 y, .int .i64 z]
  obtain ⟨l0, x0, -, x1, -, x2, -⟩ := b1.three
  have hB0 : Below W.heap.size W (W.alloc (.cells #[.int .i64 x, .int .i64 y, .int .i64 z] 72)) := (Below.refl _ _).alloc (Nat.le_refl _) _
  have hrow := World.ownsRow_lit (W.alloc (.cells #[.int .i64 x, .int .i64 y, .int .i64 z] 72)) (base := W.heap.size) (e := 71) (size := 3) #[.int .i64 x, .int .i64 y, .int .i64 0, .int .i64 y, .int .i64 z, .int .i64 0, .int .i64 z, .int .i64 x, .int .i64 0] 3 (by simp) (by decide) rfl
  rw [size_alloc'] at hrow
  have Hrow := Lib.hid hrow
  have HB := Lib.hid (hB0.alloc hB0.size (.cells #[.int .i64 x, .int .i64 y, .int .i64 0, .int .i64 y, .int .i64 z, .int .i64 0, .int .i64 z, .int .i64 x, .int .i64 0] 71))
  clear hrow hB0
  go_enter Tryz.func120, Tryz.ntmps120
  go_wp2
  go_ret
  exact ⟨_, rfl, Hrow.out, HB.out⟩
set_option maxRecDepth 100000 in
set_option maxHeartbeats 1000000 in
theorem keysMir_any (t : Tr) (W : World) : Calls Tryz.prog 121 #[triV t] W fun e W' => ∃ v', e = .returned v' ∧ W'.ownsRow W.heap.size 71 3 v' (key3 t).length (ws3 (key3 t)) ∧ Below W.heap.size W W' := by
  obtain ⟨x, y, z⟩ := t
  unfold triV
  have b1 := Blk.new W 72 #[.int .i64 x, .int .i64 y, .int .i64 z]
  obtain ⟨l0, x0, -, x1, -, x2, -⟩ := b1.three
  have hB0 : Below W.heap.size W (W.alloc (.cells #[.int .i64 x, .int .i64 y, .int .i64 z] 72)) := (Below.refl _ _).alloc (Nat.le_refl _) _
  go_enter Tryz.func121, Tryz.ntmps121
  go_wp2_with fail
  refine (sort3_any x y z (W.heap.size + 1) 72 _ (by have := Blk.new (W.alloc (.cells #[.int .i64 x, .int .i64 y, .int .i64 z] 72)) 72 #[.int .i64 x, .int .i64 y, .int .i64 z]; rw [size_alloc'] at this; exact this)).mono ?_
  rintro e w1 ⟨rfl, hb, hg⟩
  obtain ⟨l3, x3, -, x4, -, x5, -⟩ := hb.three
  have hB1 : Below W.heap.size W w1 := (hB0.alloc hB0.size _).grown hg (by rw [size_alloc', size_alloc']; omega) (fun j e => by cases e; omega)
  have hs1 := hB1.size
  have hrow := World.ownsRow_lit w1 (base := W.heap.size) (e := 71) (size := 3) #[.int .i64 (sort3 x y z).1, .int .i64 (sort3 x y z).2.1, .int .i64 (sort3 x y z).2.2] 1 hs1 (by decide) rfl
  have Hrow := Lib.hid hrow
  have HB := Lib.hid (hB1.alloc hs1 (.cells #[.int .i64 (sort3 x y z).1, .int .i64 (sort3 x y z).2.1, .int .i64 (sort3 x y z).2.2] 71))
  clear hrow hB0 hB1 x0 x1 x2
  go_wp2
  go_ret
  exact ⟨_, rfl, Hrow.out, HB.out⟩

theorem sort3_in (a b c : Int) : (sort3 a b c).1 ∈ [a, b, c] ∧ (sort3 a b c).2.1 ∈ [a, b, c] ∧ (sort3 a b c).2.2 ∈ [a, b, c] := by
  have h := sort3_eq a b c
  have hp : (sortL [a, b, c]).Perm [a, b, c] := List.mergeSort_perm _ _
  rw [h] at hp
  exact ⟨hp.mem_iff.1 (by simp), hp.mem_iff.1 (by simp), hp.mem_iff.1 (by simp)⟩
theorem keyOk_edges {N : Int} {t : Tr} (hN : N ≤ 4096) (h : in3 N t) : ∀ κ ∈ edges3 t, keyOk κ := by
  obtain ⟨⟨a1, a2⟩, ⟨b1, b2⟩, ⟨c1, c2⟩⟩ := h
  intro κ hκ
  simp only [edges3, List.mem_cons, List.not_mem_nil, or_false] at hκ
  unfold keyOk
  rcases hκ with rfl | rfl | rfl <;> simp only <;> omega
theorem keyOk_key3 {N : Int} {t : Tr} (hN : N ≤ 4096) (h : in3 N t) : ∀ κ ∈ key3 t, keyOk κ := by
  obtain ⟨⟨a1, a2⟩, ⟨b1, b2⟩, ⟨c1, c2⟩⟩ := h
  intro κ hκ
  simp only [key3, List.mem_singleton] at hκ
  subst hκ
  obtain ⟨h1, h2, h3⟩ := sort3_in t.1 t.2.1 t.2.2
  have H : ∀ u, u ∈ [t.1, t.2.1, t.2.2] → 0 ≤ u ∧ u ≤ 8192 := by
    intro u hu
    simp only [List.mem_cons, List.not_mem_nil, or_false] at hu
    rcases hu with rfl | rfl | rfl <;> exact ⟨by omega, by omega⟩
  exact ⟨H _ h1, H _ h2, H _ h3⟩

set_option maxRecDepth 100000 in
theorem twice_any (N : Int) (v : Value) (T : List Tr) (w : World) (h : TrisRd w v T) (hN : 0 ≤ N ∧ N ≤ 4096) (hl : T.length ≤ 8192) (hin : ∀ t ∈ T, in3 N t) : Calls Tryz.prog 96 #[.agg #[.int .i64 N, v]] w fun e w' => ∃ v', e = .returned v' ∧ WitsIs w' w.heap.size v' 3 (T.flatMap edges3).Nodup ∧ Below w.heap.size w w' := by
  have b1 := Blk.new w 24 #[.int .i64 N, v]
  obtain ⟨l0, x0, -, x1, -⟩ := b1.two
  have hB0 : Below w.heap.size w (w.alloc (.cells #[.int .i64 N, v] 24)) := (Below.refl _ _).alloc (Nat.le_refl _) _
  have H := Lib.hid (pairsTwice_any 3 edges3 N v T _ (h.alloc (.cells #[.int .i64 N, v] 24)) hl (fun t W _ => keysTwice_any t W) (fun t _ => by simp [edges3]) (fun t ht => keyOk_edges hN.2 (hin t ht)))
  clear h
  go_enter Tryz.func96, Tryz.ntmps96
  go_wp2_with fail
  refine H.out.mono ?_
  rintro e w1 ⟨v', rfl, ⟨ws, h1, h2, h3, h4⟩, hb⟩
  have HB := Lib.hid (hB0.trans (hb.mono hB0.size))
  rw [size_alloc'] at h1
  have H1 := Lib.hid (h1.mono (Nat.le_succ _))
  have H2 := Lib.hid h2
  clear hb hB0 h1 h2
  go_wp2
  go_ret
  exact ⟨_, rfl, ⟨ws, H1.out, H2.out, h3, h4⟩, HB.out⟩
set_option maxRecDepth 100000 in
theorem mirrored_any (N : Int) (v : Value) (T : List Tr) (w : World) (h : TrisRd w v T) (hN : 0 ≤ N ∧ N ≤ 4096) (hl : T.length ≤ 8192) (hin : ∀ t ∈ T, in3 N t) : Calls Tryz.prog 97 #[.agg #[.int .i64 N, v]] w fun e w' => ∃ v', e = .returned v' ∧ WitsIs w' w.heap.size v' 4 (T.flatMap key3).Nodup ∧ Below w.heap.size w w' := by
  have b1 := Blk.new w 24 #[.int .i64 N, v]
  obtain ⟨l0, x0, -, x1, -⟩ := b1.two
  have hB0 : Below w.heap.size w (w.alloc (.cells #[.int .i64 N, v] 24)) := (Below.refl _ _).alloc (Nat.le_refl _) _
  have H := Lib.hid (pairsMir_any 4 key3 N v T _ (h.alloc (.cells #[.int .i64 N, v] 24)) hl (fun t W _ => keysMir_any t W) (fun t _ => by simp [key3]) (fun t ht => keyOk_key3 hN.2 (hin t ht)))
  clear h
  go_enter Tryz.func97, Tryz.ntmps97
  go_wp2_with fail
  refine H.out.mono ?_
  rintro e w1 ⟨v', rfl, ⟨ws, h1, h2, h3, h4⟩, hb⟩
  have HB := Lib.hid (hB0.trans (hb.mono hB0.size))
  rw [size_alloc'] at h1
  have H1 := Lib.hid (h1.mono (Nat.le_succ _))
  have H2 := Lib.hid h2
  clear hb hB0 h1 h2
  go_wp2
  go_ret
  exact ⟨_, rfl, ⟨ws, H1.out, H2.out, h3, h4⟩, HB.out⟩
end Go.Proofs.YtghlnknncahkgaaGreat
/-
  A row of elements of k cells of the call's own, sorted by the library: before, it holds them; behind, it holds the sorted ones.
-/
namespace Go.Proofs.YtghlnknncahkgaaGreat
open Go.RowKit Go.Sort

section
variable {α : Type} [Inhabited α] {enc : α → List Value} {k : Nat}
theorem flatMap_at (hk : ∀ x, (enc x).length = k) (h0 : 0 < k) : ∀ (l : List α) (t : Nat), t < l.length * k → (l.flatMap enc)[t]? = some ((enc (l[t / k]!))[t % k]!)
  | [], t, h => by simp at h
  | a :: l, t, h => by
    rw [List.flatMap_cons]
    by_cases ht : t < k
    · rw [List.getElem?_append_left (by rw [hk]; exact ht), Nat.div_eq_of_lt ht, Nat.mod_eq_of_lt ht]
      have : t < (enc a).length := by rw [hk]; exact ht
      simp [this]
    · rw [List.getElem?_append_right (by rw [hk]; omega), hk]
      have h1 : t - k < l.length * k := by
        simp only [List.length_cons, Nat.add_mul, Nat.one_mul] at h
        omega
      rw [flatMap_at hk h0 l (t - k) h1]
      have e1 : t / k = (t - k) / k + 1 := by rw [Nat.div_eq t k, if_pos ⟨h0, by omega⟩]
      have e2 : t % k = (t - k) % k := Nat.mod_eq_sub_mod (by omega)
      rw [e1, e2]
      simp
omit [Inhabited α] in
theorem flatMap_len (hk : ∀ x, (enc x).length = k) (l : List α) : (l.flatMap enc).length = l.length * k := by
  induction l with
  | nil => simp
  | cons a l ih => rw [List.flatMap_cons, List.length_append, ih, hk, List.length_cons, Nat.add_mul, Nat.one_mul]; omega
theorem flatK_list (hk : ∀ x, (enc x).length = k) (h0 : 0 < k) (d : Array α) : (flatK enc k d).toList = d.toList.flatMap enc := by
  apply List.ext_getElem?
  intro t
  by_cases ht : t < d.size * k
  · rw [flatMap_at hk h0 d.toList t (by simpa using ht)]
    have h1 := get_flatK enc k d t ht
    rw [getElem!_pos (flatK enc k d) t (by simpa using ht)] at h1
    have h2 : (flatK enc k d).toList[t]? = some ((enc d[t / k]!)[t % k]!) := by
      rw [Array.getElem?_toList, Array.getElem?_eq_getElem (by simpa using ht), h1]
    rw [h2]
    have h3 : t / k < d.size := Nat.div_lt_of_lt_mul (by rw [Nat.mul_comm]; exact ht)
    simp [getElem!_pos, h3]
  · rw [List.getElem?_eq_none (by simp; omega), List.getElem?_eq_none (by rw [flatMap_len hk]; simp; omega)]
variable {w : World} {base g n cap : Nat} {e : TypeId}
theorem holdsK_of_own (hk : ∀ x, (enc x).length = k) (h0 : 0 < k) {d : Array α} (h : w.ownsRow base e k (.slice (some ⟨g, 0, none⟩) n cap) n (d.toList.flatMap enc)) : HoldsK enc k w g 0 d := by
  rcases h.2 with ⟨e0, _⟩ | ⟨g', cap', cur, e0, hb, hg, h1, h2, h3, h4⟩
  · cases e0
  · cases e0
    have hl := h.1
    rw [flatMap_len hk] at hl
    have hdn : d.toList.length * k = n * k := hl
    intro j hj
    have hj' : j < d.size * k := by simpa using hj
    have hjn : j < n * k := by rw [← hdn]; simpa using hj'
    refine ⟨?_, by simp [World.frozen?, hg]⟩
    rw [Nat.zero_add]
    have c1 := h.cellAt j hjn
    rw [c1, ← flatK_list hk h0 d, Array.getElem?_toList, Array.getElem?_eq_getElem hj, getElem!_pos (flatK enc k d) j hj]
    rfl
theorem ownsRow_sortedK (hk : ∀ x, (enc x).length = k) (h0 : 0 < k) {d d' : Array α} {m : Nat} {os : Array Obj} (h : w.ownsRow base e k (.slice (some ⟨g, 0, none⟩) n cap) n (d.toList.flatMap enc)) (hs : d'.size = d.size) :
    (sortWorldK enc k w g 0 m d' os).ownsRow base e k (.slice (some ⟨g, 0, none⟩) n cap) n (d'.toList.flatMap enc) ∧ w.grownBy (sortWorldK enc k w g 0 m d' os) (some g) := by
  rcases h.2 with ⟨e0, _⟩ | ⟨g', cap', cur, e0, hb, hg, h1, h2, h3, h4⟩
  · cases e0
  · cases e0
    have hl := h.1
    have hlen : (d'.toList.flatMap enc).length = n * k := by rw [← hl, flatMap_len hk, flatMap_len hk]; simp [hs]
    have hgl : g < w.heap.size := (Array.getElem?_eq_some_iff.1 hg).1
    have hsz : (flatK enc k d').size = n * k := by rw [← hlen, ← flatK_list hk h0]; simp
    constructor
    · refine ⟨hlen, .inr ⟨g, cap, Go.Sort.putCells id 0 (flatK enc k d') cur, rfl, hb, ?_, h1, h2, by simp [Go.Sort.putCells, h3], ?_⟩⟩
      · unfold sortWorldK putRowK
        rw [heap_grow_old _ _ (by simpa using hgl)]
        simp [Go.Sort.putRow, Go.Sort.mapBlock, Go.Sort.ahead, Array.getElem?_modify, hg, Go.Sort.onCells]
      · apply List.ext_getElem?
        intro j
        have hcur : n * k ≤ cur.size := by rw [h3]; exact Nat.mul_le_mul_right _ h1
        by_cases hj : j < n * k
        · rw [List.getElem?_take_of_lt hj, Array.getElem?_toList, ← flatK_list hk h0, Array.getElem?_toList]
          have hjs : j < (flatK enc k d').size := by rw [hsz]; exact hj
          have hr : (flatK enc k d')[j]? = some (flatK enc k d')[j]! := by rw [Array.getElem?_eq_getElem hjs, getElem!_pos (flatK enc k d') j hjs]
          rw [hr]
          simp [Go.Sort.putCells, hsz, hj, show j < cur.size by omega]
        · rw [List.getElem?_take_eq_none (by omega), List.getElem?_eq_none (by omega)]
    · refine ⟨rfl, rfl, rfl, by simp [sortWorldK, putRowK, Go.Sort.putRow, Go.Sort.mapBlock, Go.Sort.ahead, grow], fun j hj hne => ?_⟩
      unfold sortWorldK putRowK
      rw [heap_grow_old _ _ (by simpa using hj)]
      have : g ≠ j := fun e => hne (by rw [e])
      simp [Go.Sort.putRow, Go.Sort.mapBlock, Go.Sort.ahead, Array.getElem?_modify, this]
end
end Go.Proofs.YtghlnknncahkgaaGreat
/-
  certify.All, Check, Is: which triangles are a surface, by walking their texts.
-/
namespace Go.Proofs.YtghlnknncahkgaaGreat
open Go.RowKit Go.Sort Go.Lib

/-- Triangles that are a surface. -/
structure Surf (N : Int) (T : List Tr) : Prop where
  n0 : 0 ≤ N
  n1 : N ≤ 4096
  len : T.length ≤ 8192
  inr : ∀ t ∈ T, in3 N t
  simple : ∀ t ∈ T, simple3 t
  twice : (T.flatMap edges3).Nodup
  mirrored : (T.flatMap key3).Nodup
  lonely : ∀ u : Int, inR N u → u ∈ flatT T
  pinch : ∀ u : Int, inR N u → ConnV T u (atV T u)

set_option maxRecDepth 100000 in
theorem or_any (x y : Int) (g : Nat) (W : World) (hb : Blk W g 3 #[.int .i64 x, .int .i64 y]) : Calls Tryz.prog 102 #[.slice (some ⟨g, 0, none⟩) 2 2] W fun e w' => e = .returned (.int .i64 (if x = 0 then y else x)) ∧ w' = W := by
  obtain ⟨l0, x0, -, x1, -⟩ := hb.two
  go_enter Tryz.func102, Tryz.ntmps102
  go_wp2
  go_loop [8] (fun i => ∃ k : Nat, k ≤ 2 ∧ i = .int .i64 k ∧ (1 ≤ k → x = 0) ∧ (2 ≤ k → y = 0)) (fun i => 2 - (intOf i).toNat)
  case atStart => exact ⟨0, by omega, rfl, by omega, by omega⟩
  case round =>
    obtain ⟨k, hk, rfl, h1, h2⟩ := hrel
    have hk3 : k = 0 ∨ k = 1 ∨ k = 2 := by omega
    rcases hk3 with rfl | rfl | rfl
    · by_cases hx : x = 0
      · subst hx
        clear h1 h2
        go_wp2
        go_round
        case rel => exact ⟨1, by omega, by simp, fun _ => (by simp), by omega⟩
        case measure => simp [intOf]
      · have hb1 : (x != 0) = true := by simpa using hx
        have HX := Lib.hid hx
        clear h1 h2 hx
        go_wp2
        go_ret
        exact ⟨rfl, rfl⟩
    · have hx := h1 (by omega)
      subst hx
      clear h1 h2
      by_cases hy : y = 0
      · subst hy
        go_wp2
        go_round
        case rel => exact ⟨2, by omega, by simp, fun _ => (by simp), fun _ => (by simp)⟩
        case measure => simp [intOf]
      · have hb1 : (y != 0) = true := by simpa using hy
        have HY := Lib.hid hy
        clear hy
        go_wp2
        go_ret
        exact ⟨by simp, rfl⟩
    · have hx := h1 (by omega)
      have hy := h2 (by omega)
      subst hx
      subst hy
      clear h1 h2
      go_wp2
      go_ret
      exact ⟨by simp, rfl⟩

def cmpW (a b : Tr) : Int := if cmpI a.2.2 b.2.2 = 0 then cmpI a.2.1 b.2.1 else cmpI a.2.2 b.2.2
def encW (t : Tr) : List Value := [.int .i64 t.1, .int .i64 t.2.1, .int .i64 t.2.2]
set_option maxRecDepth 100000 in
set_option maxHeartbeats 1000000 in
theorem cmpAll_any (a b : Tr) (W : World) : Calls Tryz.prog 101 #[triV a, triV b] W fun e w' => e = .returned (.int .i64 (cmpW a b)) ∧ ∃ q os', w' = grow (W.drewN q) os' := by
  obtain ⟨k1, x1, y1⟩ := a
  obtain ⟨k2, x2, y2⟩ := b
  unfold triV cmpW
  simp only
  generalize hp : cmpI y1 y2 = p
  generalize hq : cmpI x1 x2 = q
  have HP := Lib.hid hp
  have HQ := Lib.hid hq
  clear hp hq
  have cp : ∀ W', Calls Tryz.prog 89 #[.int .i64 y1, .int .i64 y2] W' fun e w' => e = .returned (.int .i64 p) ∧ w' = W' := fun W' => by have := compareI_any y1 y2 W'; rw [HP.out] at this; exact this
  have cq : ∀ W', Calls Tryz.prog 89 #[.int .i64 x1, .int .i64 x2] W' fun e w' => e = .returned (.int .i64 q) ∧ w' = W' := fun W' => by have := compareI_any x1 x2 W'; rw [HQ.out] at this; exact this
  generalize hr : (if p = 0 then q else p) = r
  have co : ∀ g W', Blk W' g 3 #[.int .i64 p, .int .i64 q] → Calls Tryz.prog 102 #[.slice (some ⟨g, 0, none⟩) 2 2] W' fun e w' => e = .returned (.int .i64 r) ∧ w' = W' := fun g W' hb => by have := or_any p q g W' hb; rw [hr] at this; exact this
  have CO := Lib.hid co
  clear co hr
  have CP := Lib.hid cp
  have CQ := Lib.hid cq
  clear cp cq
  go_enter Tryz.func101, Tryz.ntmps101
  go_wp2
  have b1 := (Blk.new W 74 #[.int .i64 k1, .int .i64 x1, .int .i64 y1]).alloc (.cells #[.int .i64 k2, .int .i64 x2, .int .i64 y2] 74)
  have b2 := Blk.new (W.alloc (.cells #[.int .i64 k1, .int .i64 x1, .int .i64 y1] 74)) 74 #[.int .i64 k2, .int .i64 x2, .int .i64 y2]
  rw [size_alloc'] at b2
  obtain ⟨l0, z0, -, z1, -, z2, -⟩ := b1.three
  obtain ⟨l1, u0, -, u1, -, u2, -⟩ := b2.three
  clear b1 b2
  have bor := (Blk.new (((W.alloc (.cells #[.int .i64 k1, .int .i64 x1, .int .i64 y1] 74)).alloc (.cells #[.int .i64 k2, .int .i64 x2, .int .i64 y2] 74)).drew) 3 #[.int .i64 p, .int .i64 q])
  rw [show (((W.alloc (.cells #[.int .i64 k1, .int .i64 x1, .int .i64 y1] 74)).alloc (.cells #[.int .i64 k2, .int .i64 x2, .int .i64 y2] 74)).drew).heap.size = W.heap.size + 2 from by simp [World.drew]] at bor
  go_region_held3 (fun w' => w'.cell? ⟨W.heap.size, 1, none⟩ = some (.int .i64 x1) ∧ w'.cell? ⟨W.heap.size, 2, none⟩ = some (.int .i64 y1) ∧ w'.cell? ⟨W.heap.size + 1, 1, none⟩ = some (.int .i64 x2) ∧ w'.cell? ⟨W.heap.size + 1, 2, none⟩ = some (.int .i64 y2)) (go_keep)
    (first
      | (go_at_call 89; refine (compareI_any _ _ _).mono ?_; rintro e w' ⟨rfl, rfl⟩)
      | (go_at_call 102; rw [HP.out, HQ.out]; refine (CO.out (W.heap.size + 1 + 1) _ (by exact bor)).mono ?_; rintro e w' ⟨rfl, rfl⟩))
  all_goals
    go_wp2
    go_ret
    exact ⟨rfl, 1, _, by simp only [alloc_eq_grow, grow_grow]; rfl⟩
theorem ws3_flat (ws : List Tr) : ws3 ws = ws.flatMap encW := by
  induction ws with
  | nil => rfl
  | cons a l ih =>
    have : ws3 (a :: l) = encW a ++ ws3 l := by simp [ws3, flatT, encW]
    rw [this, ih, List.flatMap_cons]
theorem cmpI_lt (x y : Int) : cmpI x y < 0 ↔ x < y := by
  unfold cmpI
  split
  · simp; omega
  · split <;> simp <;> omega
theorem cmpI_eq (x y : Int) : cmpI x y = 0 ↔ x = y := by
  unfold cmpI
  split
  · simp; omega
  · split <;> simp <;> omega
theorem cmpW_lt (a b : Tr) : cmpW a b < 0 ↔ a.2.2 < b.2.2 ∨ (a.2.2 = b.2.2 ∧ a.2.1 < b.2.1) := by
  unfold cmpW
  by_cases h : cmpI a.2.2 b.2.2 = 0
  · rw [if_pos h, cmpI_lt]
    have := (cmpI_eq _ _).1 h
    omega
  · rw [if_neg h, cmpI_lt]
    have : ¬ a.2.2 = b.2.2 := fun e => h ((cmpI_eq _ _).2 e)
    omega
theorem swoW : SWO (ltOf cmpW) where
  irrefl x := by simp only [ltOf, decide_eq_false_iff_not, cmpW_lt]; omega
  trans x y z h1 h2 := by simp only [ltOf, decide_eq_true_eq, cmpW_lt] at *; omega
  ntrans x y z h1 h2 := by simp only [ltOf, decide_eq_false_iff_not, cmpW_lt] at *; omega
theorem isAggWit (w : World) : (isAgg 74).run Tryz.prog w = .ok true w := by kernel_rfl
theorem sizeWit (w : World) : (Go.sizeOf 74).run Tryz.prog w = .ok 3 w := by kernel_rfl
theorem sortW_any (base : Nat) (v : Value) (ws : List Tr) (w : World) (hown : w.ownsRow base 74 3 v ws.length (ws3 ws)) (hl : ws.length < 4611686018427387904) :
    Calls Tryz.prog 100 #[v, .func (.func 101) #[] #[]] w fun e w' => e = .returned (.tuple #[]) ∧ ∃ ws' : List Tr, ws'.Perm ws ∧ w'.ownsRow base 74 3 v ws.length (ws3 ws') ∧ w.grownBy w' v.ownBlock := by
  rcases hown.2 with ⟨rfl, h0⟩ | ⟨g, cap, cur, rfl, hb, hg, _⟩
  · rw [h0]
    refine (Tryz.slices_SortFunc_none (α := Tr) none 0 _ w).mono ?_
    rintro e w' ⟨rfl, rfl⟩
    rw [h0] at hown
    exact ⟨rfl, ws, List.Perm.refl _, hown, World.grownBy.refl _ _⟩
  · have hgl : g < w.heap.size := (Array.getElem?_eq_some_iff.1 hg).1
    have hown2 : w.ownsRow base 74 3 (.slice (some ⟨g, 0, none⟩) ws.length cap) ws.length (ws.toArray.toList.flatMap encW) := by
      rw [← ws3_flat]
      exact hown
    have hH := holdsK_of_own (enc := encW) (k := 3) (fun _ => rfl) (by decide) hown2
    have eg : ∀ args w, (callFunc 101 args).run Tryz.prog w = .ok (.enter 101 args) w := enters_of Tryz.func101 (by kernel_rfl) rfl
    have hc := Tryz.slices_SortFunc (α := Tr) 3 isAggWit sizeWit encW (fun _ => rfl) (fun x v hv => by simp [encW] at hv; rcases hv with rfl | rfl | rfl <;> rfl) cmpW swoW 101 #[] g 0 cap ws.toArray w eg (fun m os dk _ x y => cmpAll_any x y _) hH hgl (by simpa using hl)
    rw [List.size_toArray] at hc
    refine hc.mono ?_
    rintro e w' ⟨rfl, d', n, os, ⟨hs, _, hp⟩, _, rfl⟩
    obtain ⟨h1, h2⟩ := ownsRow_sortedK (enc := encW) (k := 3) (fun _ => rfl) (by decide) (m := n) (os := os) hown2 hs
    refine ⟨rfl, d'.toList, ?_, by rw [ws3_flat]; exact h1, h2⟩
    have e1 : d'.extract 0 ws.length = d' := by
      have : ws.length = d'.size := by rw [hs]; simp
      rw [this]
      simp
    have e2 : ws.toArray.extract 0 ws.length = ws.toArray := by simp
    rw [e1, e2] at hp
    exact hp

set_option maxRecDepth 100000 in
theorem index_bad (N : Int) (v : Value) (T : List Tr) (w : World) (h : TrisRd w v T) (hN : ¬ (0 ≤ N ∧ N ≤ 4096)) (_hl : T.length ≤ 8192) : Calls Tryz.prog 94 #[.agg #[.int .i64 N, v]] w fun e w' => ∃ v', e = .returned v' ∧ w'.ownsRow w.heap.size 74 3 v' 1 (ws3 [(1, -1, 0)]) ∧ Below w.heap.size w w' := by
  obtain ⟨a, c, rfl, hc1, hc2, hr⟩ := h
  have b1 := Blk.new w 24 #[.int .i64 N, .slice a T.length c]
  obtain ⟨l0, x0, -, x1, -⟩ := b1.two
  have hB0 : Below w.heap.size w (w.alloc (.cells #[.int .i64 N, .slice a T.length c] 24)) := (Below.refl _ _).alloc (Nat.le_refl _) _
  have hrow := World.ownsRow_lit (w.alloc (.cells #[.int .i64 N, .slice a T.length c] 24)) (base := w.heap.size) (e := 74) (size := 3) #[.int .i64 1, .int .i64 (-1), .int .i64 0] 1 (by simp) (by decide) rfl
  rw [size_alloc'] at hrow
  have Hrow := Lib.hid hrow
  have HB := Lib.hid (hB0.alloc hB0.size (.cells #[.int .i64 1, .int .i64 (-1), .int .i64 0] 74))
  clear hrow hB0 b1 hr
  by_cases h1 : N < 0
  · go_enter Tryz.func94, Tryz.ntmps94
    go_wp2
    go_ret
    exact ⟨_, rfl, Hrow.out, HB.out⟩
  · have h2 : 4096 < N := by omega
    go_enter Tryz.func94, Tryz.ntmps94
    go_wp2
    go_ret
    exact ⟨_, rfl, Hrow.out, HB.out⟩

theorem ownsRow_slice {w : World} {base n s : Nat} {e : TypeId} {v : Value} {xs : List Value} (h : w.ownsRow base e s v n xs) : ∃ a c, v = .slice a n c := by
  rcases h.2 with ⟨rfl, h0⟩ | ⟨g, cap, cur, rfl, _⟩
  · rw [h0]
    exact ⟨_, _, rfl⟩
  · exact ⟨_, _, rfl⟩
/-- The j-th of the kinds: nothing is wrong. -/
def kindOk (N : Int) (T : List Tr) : Nat → Prop
  | 0 => (0 ≤ N ∧ N ≤ 4096) ∧ ∀ t ∈ T, in3 N t
  | 1 => ∀ t ∈ T, simple3 t
  | 2 => (T.flatMap edges3).Nodup
  | 3 => (T.flatMap key3).Nodup
  | 4 => ∀ u : Int, inR N u → u ∈ flatT T
  | _ => ∀ u : Int, inR N u → ConnV T u (atV T u)
theorem surf_kinds {N : Int} {T : List Tr} (hl : T.length ≤ 8192) : Surf N T ↔ ∀ i, i < 6 → kindOk N T i := by
  constructor
  · intro h i hi
    have : i = 0 ∨ i = 1 ∨ i = 2 ∨ i = 3 ∨ i = 4 ∨ i = 5 := by omega
    rcases this with rfl | rfl | rfl | rfl | rfl | rfl
    · exact ⟨⟨h.n0, h.n1⟩, h.inr⟩
    · exact h.simple
    · exact h.twice
    · exact h.mirrored
    · exact h.lonely
    · exact h.pinch
  · intro h
    obtain ⟨⟨a, b⟩, c⟩ := h 0 (by omega)
    exact ⟨a, b, hl, c, h 1 (by omega), h 2 (by omega), h 3 (by omega), h 4 (by omega), h 5 (by omega)⟩
set_option maxRecDepth 100000 in
set_option maxHeartbeats 4000000 in
theorem all_any (N : Int) (v : Value) (T : List Tr) (w : World) (h : TrisRd w v T) (hl : T.length ≤ 8192) : Calls Tryz.prog 78 #[.agg #[.int .i64 N, v]] w fun e w' => ∃ v' ws, e = .returned v' ∧ w'.ownsRow w.heap.size 74 3 v' ws.length (ws3 ws) ∧ (ws = [] ↔ Surf N T) ∧ (∀ x ∈ ws, 1 ≤ x.1) ∧ Below w.heap.size w w' := by
  have b1 := Blk.new w 24 #[.int .i64 N, v]
  have hB0 : Below w.heap.size w (w.alloc (.cells #[.int .i64 N, v] 24)) := (Below.refl _ _).alloc (Nat.le_refl _) _
  obtain ⟨l0, x0, -, x1, -⟩ := b1.two
  have HT := Lib.hid h
  clear h
  go_enter Tryz.func78, Tryz.ntmps78
  go_wp2
  have bx := b1.alloc (.cells #[.func (.func 94) #[] #[], .func (.func 95) #[] #[], .func (.func 96) #[] #[], .func (.func 97) #[] #[], .func (.func 98) #[] #[], .func (.func 99) #[] #[]] 135)
  have bf := Blk.new (w.alloc (.cells #[.int .i64 N, v] 24)) 135 #[.func (.func 94) #[] #[], .func (.func 95) #[] #[], .func (.func 96) #[] #[], .func (.func 97) #[] #[], .func (.func 98) #[] #[], .func (.func 99) #[] #[]]
  rw [size_alloc'] at bf
  have hB1 := hB0.alloc hB0.size (.cells #[.func (.func 94) #[] #[], .func (.func 95) #[] #[], .func (.func 96) #[] #[], .func (.func 97) #[] #[], .func (.func 98) #[] #[], .func (.func 99) #[] #[]] 135)
  obtain ⟨W1, hW1⟩ : ∃ W1, W1 = (w.alloc (.cells #[.int .i64 N, v] 24)).alloc (.cells #[.func (.func 94) #[] #[], .func (.func 95) #[] #[], .func (.func 96) #[] #[], .func (.func 97) #[] #[], .func (.func 98) #[] #[], .func (.func 99) #[] #[]] 135) := ⟨_, rfl⟩
  rw [← hW1] at bx bf hB1 ⊢
  have HB1 := Lib.hid hB1
  clear hW1 hB0 b1 hB1 l0 x0 x1
  go_loopw [8] (fun i wr => ∃ j : Nat, j ≤ 6 ∧ i = .int .i64 j ∧ (∀ i, i < j → kindOk N T i) ∧ Below W1.heap.size W1 wr) (fun i _ => 6 - (intOf i).toNat)
  case atStart => exact ⟨0, by omega, rfl, fun i hi => by omega, Below.refl _ _⟩
  case round =>
    obtain ⟨j, hj, rfl, hf, hB⟩ := hrel
    rename World => wr
    have Hf := Lib.hid hf
    clear hf
    obtain ⟨lx, y0, -, y1, -⟩ := (bx.below hB bx.lt).two
    have bfr := bf.below hB bf.lt
    have f0 := bfr.cell 0
    have f1 := bfr.cell 1
    have f2 := bfr.cell 2
    have f3 := bfr.cell 3
    have f4 := bfr.cell 4
    have f5 := bfr.cell 5
    have htr := HT.out.below (HB1.out.trans (hB.mono HB1.out.size))
    clear bfr
    have hj' : j = 0 ∨ j = 1 ∨ j = 2 ∨ j = 3 ∨ j = 4 ∨ j = 5 ∨ j = 6 := by omega
    rcases hj' with rfl | rfl | rfl | rfl | rfl | rfl | rfl
    · by_cases hk : 0 ≤ N ∧ N ≤ 4096
      · go_wp2_with fail
        refine (index_any N v T wr htr hk hl).mono ?_
        rintro e w2 ⟨v', rfl, ⟨ws, hr, hi, hk2, hlw⟩, hb⟩
        clear y0 y1 f0 f1 f2 f3 f4 f5 htr lx
        obtain ⟨av, cv, rfl⟩ := ownsRow_slice hr
        have hB2 := hB.trans (hb.mono hB.size)
        by_cases hws : ws = []
        · subst hws
          have Hok : Hid (∀ i, i < 1 → kindOk N T i) := Lib.hid (fun i hi' => by
            rcases Nat.lt_or_ge i 0 with h | h
            · exact Hf.out i h
            · obtain rfl : i = 0 := by omega
              exact ⟨hk, hi.1 rfl⟩)
          clear hi hr hk2 hb
          rw [List.length_nil]
          go_wp2
          go_roundw
          case measure => simp [intOf]
          case rel => exact ⟨1, by omega, by simp, Hok.out, hB2⟩
        · have hn0 : ¬ Surf N T := fun hS => hws (hi.2 ((surf_kinds hl).1 hS 0 (by omega)).2)
          have Hn0 := Lib.hid hn0
          have Hws := Lib.hid hws
          have hlen : ws.length < 4611686018427387904 := by omega
          have hpos : 0 < ws.length := List.length_pos_iff.2 hws
          have H := Lib.hid (sortW_any wr.heap.size _ ws w2 hr hlen)
          have Hr := Lib.hid hr
          have hBw := HB1.out.trans (hB2.mono HB1.out.size)
          have hszr := hB.size
          have hszw := HB1.out.size
          obtain ⟨n, hn⟩ : ∃ n, ws.length = n := ⟨_, rfl⟩
          rw [hn] at hpos Hr H ⊢
          have HN := Lib.hid hn
          clear hn hlen hn0 hws hi hr hb
          go_wp2_with (go_at_call 100; refine H.out.mono ?_; rintro e w3 ⟨rfl, ws', hp, hr3, hg3⟩)
          go_ret
          have hl3 : ws'.length = n := by rw [hp.length_eq, HN.out]
          refine ⟨_, ws', rfl, by rw [hl3]; exact hr3.mono (by omega), ⟨fun e => absurd (by rw [e] at hp; exact hp.symm.eq_nil) Hws.out, fun hS => absurd hS Hn0.out⟩, fun x hx => by rw [hk2 x (hp.mem_iff.1 hx)]; decide, hBw.grown hg3 hBw.size (fun jj e => by have := (Hr.out.lt jj e).1; omega)⟩
      · have hn0 : ¬ Surf N T := fun hS => hk ⟨hS.n0, hS.n1⟩
        have Hn0 := Lib.hid hn0
        have H1 := Lib.hid (index_bad N v T wr htr hk hl)
        clear hn0 hk
        go_wp2_with fail
        refine H1.out.mono ?_
        rintro e w2 ⟨v', rfl, hr, hb⟩
        obtain ⟨av, cv, rfl⟩ := ownsRow_slice hr
        have hB2 := hB.trans (hb.mono hB.size)
        have H := Lib.hid (sortW_any wr.heap.size _ [(1, -1, 0)] w2 hr (by decide))
        have Hr := Lib.hid hr
        have hBw := HB1.out.trans (hB2.mono HB1.out.size)
        have hszr := hB.size
        have hszw := HB1.out.size
        clear hr hb y0 y1 f0 f1 f2 f3 f4 f5 htr lx
        go_wp2_with (go_at_call 100; refine H.out.mono ?_; rintro e w3 ⟨rfl, ws', hp, hr3, hg3⟩)
        go_ret
        have hl3 : ws'.length = 1 := by rw [hp.length_eq]; rfl
        have hsz1 := HB1.out.size
        refine ⟨_, ws', rfl, by rw [hl3]; exact hr3.mono (by omega), ⟨fun e => absurd (by rw [e] at hp; exact hp.symm.eq_nil) (by simp), fun hS => absurd hS Hn0.out⟩, fun x hx => by have := hp.mem_iff.1 hx; rw [List.mem_singleton.1 this]; decide, hBw.grown hg3 hBw.size (fun jj e => by have := (Hr.out.lt jj e).1; omega)⟩
    · have H0 := Lib.hid (loop_any N v T wr htr (by omega))
      clear htr
      go_wp2_with fail
      refine H0.out.mono ?_
      rintro e w2 ⟨v', rfl, ⟨ws, hr, hi, hk2, hlw⟩, hb⟩
      clear y0 y1 f0 f1 f2 f3 f4 f5 lx
      obtain ⟨av, cv, rfl⟩ := ownsRow_slice hr
      have hB2 := hB.trans (hb.mono hB.size)
      by_cases hws : ws = []
      · subst hws
        have Hok : Hid (∀ i, i < 2 → kindOk N T i) := Lib.hid (fun i hi' => by
          rcases Nat.lt_or_ge i 1 with h | h
          · exact Hf.out i h
          · obtain rfl : i = 1 := by omega
            exact (hi.1 rfl))
        clear hi hr hk2 hb
        rw [List.length_nil]
        go_wp2
        go_roundw
        case measure => simp [intOf]
        case rel => exact ⟨2, by omega, by simp, Hok.out, hB2⟩
      · have hn0 : ¬ Surf N T := fun hS => hws (hi.2 ((surf_kinds hl).1 hS 1 (by omega)))
        have Hn0 := Lib.hid hn0
        have Hws := Lib.hid hws
        have hlen : ws.length < 4611686018427387904 := by omega
        have hpos : 0 < ws.length := List.length_pos_iff.2 hws
        have H := Lib.hid (sortW_any wr.heap.size _ ws w2 hr hlen)
        have Hr := Lib.hid hr
        have hBw := HB1.out.trans (hB2.mono HB1.out.size)
        have hszr := hB.size
        have hszw := HB1.out.size
        obtain ⟨n, hn⟩ : ∃ n, ws.length = n := ⟨_, rfl⟩
        rw [hn] at hpos Hr H ⊢
        have HN := Lib.hid hn
        clear hn hlen hn0 hws hi hr hb
        go_wp2_with (go_at_call 100; refine H.out.mono ?_; rintro e w3 ⟨rfl, ws', hp, hr3, hg3⟩)
        go_ret
        have hl3 : ws'.length = n := by rw [hp.length_eq, HN.out]
        refine ⟨_, ws', rfl, by rw [hl3]; exact hr3.mono (by omega), ⟨fun e => absurd (by rw [e] at hp; exact hp.symm.eq_nil) Hws.out, fun hS => absurd hS Hn0.out⟩, fun x hx => by rw [hk2 x (hp.mem_iff.1 hx)]; decide, hBw.grown hg3 hBw.size (fun jj e => by have := (Hr.out.lt jj e).1; omega)⟩
    · have H0 := Lib.hid (twice_any N v T wr htr (Hf.out 0 (by omega)).1 hl (Hf.out 0 (by omega)).2)
      clear htr
      go_wp2_with fail
      refine H0.out.mono ?_
      rintro e w2 ⟨v', rfl, ⟨ws, hr, hi, hk2, hlw⟩, hb⟩
      clear y0 y1 f0 f1 f2 f3 f4 f5 lx
      obtain ⟨av, cv, rfl⟩ := ownsRow_slice hr
      have hB2 := hB.trans (hb.mono hB.size)
      by_cases hws : ws = []
      · subst hws
        have Hok : Hid (∀ i, i < 3 → kindOk N T i) := Lib.hid (fun i hi' => by
          rcases Nat.lt_or_ge i 2 with h | h
          · exact Hf.out i h
          · obtain rfl : i = 2 := by omega
            exact (hi.1 rfl))
        clear hi hr hk2 hb
        rw [List.length_nil]
        go_wp2
        go_roundw
        case measure => simp [intOf]
        case rel => exact ⟨3, by omega, by simp, Hok.out, hB2⟩
      · have hn0 : ¬ Surf N T := fun hS => hws (hi.2 ((surf_kinds hl).1 hS 2 (by omega)))
        have Hn0 := Lib.hid hn0
        have Hws := Lib.hid hws
        have hlen : ws.length < 4611686018427387904 := by omega
        have hpos : 0 < ws.length := List.length_pos_iff.2 hws
        have H := Lib.hid (sortW_any wr.heap.size _ ws w2 hr hlen)
        have Hr := Lib.hid hr
        have hBw := HB1.out.trans (hB2.mono HB1.out.size)
        have hszr := hB.size
        have hszw := HB1.out.size
        obtain ⟨n, hn⟩ : ∃ n, ws.length = n := ⟨_, rfl⟩
        rw [hn] at hpos Hr H ⊢
        have HN := Lib.hid hn
        clear hn hlen hn0 hws hi hr hb
        go_wp2_with (go_at_call 100; refine H.out.mono ?_; rintro e w3 ⟨rfl, ws', hp, hr3, hg3⟩)
        go_ret
        have hl3 : ws'.length = n := by rw [hp.length_eq, HN.out]
        refine ⟨_, ws', rfl, by rw [hl3]; exact hr3.mono (by omega), ⟨fun e => absurd (by rw [e] at hp; exact hp.symm.eq_nil) Hws.out, fun hS => absurd hS Hn0.out⟩, fun x hx => by rw [hk2 x (hp.mem_iff.1 hx)]; decide, hBw.grown hg3 hBw.size (fun jj e => by have := (Hr.out.lt jj e).1; omega)⟩
    · have H0 := Lib.hid (mirrored_any N v T wr htr (Hf.out 0 (by omega)).1 hl (Hf.out 0 (by omega)).2)
      clear htr
      go_wp2_with fail
      refine H0.out.mono ?_
      rintro e w2 ⟨v', rfl, ⟨ws, hr, hi, hk2, hlw⟩, hb⟩
      clear y0 y1 f0 f1 f2 f3 f4 f5 lx
      obtain ⟨av, cv, rfl⟩ := ownsRow_slice hr
      have hB2 := hB.trans (hb.mono hB.size)
      by_cases hws : ws = []
      · subst hws
        have Hok : Hid (∀ i, i < 4 → kindOk N T i) := Lib.hid (fun i hi' => by
          rcases Nat.lt_or_ge i 3 with h | h
          · exact Hf.out i h
          · obtain rfl : i = 3 := by omega
            exact (hi.1 rfl))
        clear hi hr hk2 hb
        rw [List.length_nil]
        go_wp2
        go_roundw
        case measure => simp [intOf]
        case rel => exact ⟨4, by omega, by simp, Hok.out, hB2⟩
      · have hn0 : ¬ Surf N T := fun hS => hws (hi.2 ((surf_kinds hl).1 hS 3 (by omega)))
        have Hn0 := Lib.hid hn0
        have Hws := Lib.hid hws
        have hlen : ws.length < 4611686018427387904 := by omega
        have hpos : 0 < ws.length := List.length_pos_iff.2 hws
        have H := Lib.hid (sortW_any wr.heap.size _ ws w2 hr hlen)
        have Hr := Lib.hid hr
        have hBw := HB1.out.trans (hB2.mono HB1.out.size)
        have hszr := hB.size
        have hszw := HB1.out.size
        obtain ⟨n, hn⟩ : ∃ n, ws.length = n := ⟨_, rfl⟩
        rw [hn] at hpos Hr H ⊢
        have HN := Lib.hid hn
        clear hn hlen hn0 hws hi hr hb
        go_wp2_with (go_at_call 100; refine H.out.mono ?_; rintro e w3 ⟨rfl, ws', hp, hr3, hg3⟩)
        go_ret
        have hl3 : ws'.length = n := by rw [hp.length_eq, HN.out]
        refine ⟨_, ws', rfl, by rw [hl3]; exact hr3.mono (by omega), ⟨fun e => absurd (by rw [e] at hp; exact hp.symm.eq_nil) Hws.out, fun hS => absurd hS Hn0.out⟩, fun x hx => by rw [hk2 x (hp.mem_iff.1 hx)]; decide, hBw.grown hg3 hBw.size (fun jj e => by have := (Hr.out.lt jj e).1; omega)⟩
    · have H0 := Lib.hid (lonely_any N v T wr htr (Hf.out 0 (by omega)).1 hl (Hf.out 0 (by omega)).2)
      clear htr
      go_wp2_with fail
      refine H0.out.mono ?_
      rintro e w2 ⟨v', rfl, ⟨ws, hr, hi, hk2, hlw⟩, hb⟩
      clear y0 y1 f0 f1 f2 f3 f4 f5 lx
      obtain ⟨av, cv, rfl⟩ := ownsRow_slice hr
      have hB2 := hB.trans (hb.mono hB.size)
      by_cases hws : ws = []
      · subst hws
        have Hok : Hid (∀ i, i < 5 → kindOk N T i) := Lib.hid (fun i hi' => by
          rcases Nat.lt_or_ge i 4 with h | h
          · exact Hf.out i h
          · obtain rfl : i = 4 := by omega
            exact (hi.1 rfl))
        clear hi hr hk2 hb
        rw [List.length_nil]
        go_wp2
        go_roundw
        case measure => simp [intOf]
        case rel => exact ⟨5, by omega, by simp, Hok.out, hB2⟩
      · have hn0 : ¬ Surf N T := fun hS => hws (hi.2 ((surf_kinds hl).1 hS 4 (by omega)))
        have Hn0 := Lib.hid hn0
        have Hws := Lib.hid hws
        have hlen : ws.length < 4611686018427387904 := by omega
        have hpos : 0 < ws.length := List.length_pos_iff.2 hws
        have H := Lib.hid (sortW_any wr.heap.size _ ws w2 hr hlen)
        have Hr := Lib.hid hr
        have hBw := HB1.out.trans (hB2.mono HB1.out.size)
        have hszr := hB.size
        have hszw := HB1.out.size
        obtain ⟨n, hn⟩ : ∃ n, ws.length = n := ⟨_, rfl⟩
        rw [hn] at hpos Hr H ⊢
        have HN := Lib.hid hn
        clear hn hlen hn0 hws hi hr hb
        go_wp2_with (go_at_call 100; refine H.out.mono ?_; rintro e w3 ⟨rfl, ws', hp, hr3, hg3⟩)
        go_ret
        have hl3 : ws'.length = n := by rw [hp.length_eq, HN.out]
        refine ⟨_, ws', rfl, by rw [hl3]; exact hr3.mono (by omega), ⟨fun e => absurd (by rw [e] at hp; exact hp.symm.eq_nil) Hws.out, fun hS => absurd hS Hn0.out⟩, fun x hx => by rw [hk2 x (hp.mem_iff.1 hx)]; decide, hBw.grown hg3 hBw.size (fun jj e => by have := (Hr.out.lt jj e).1; omega)⟩
    · have H0 := Lib.hid (pinch_any N v T wr htr (Hf.out 0 (by omega)).1 hl (Hf.out 0 (by omega)).2 (Hf.out 1 (by omega)) (Hf.out 4 (by omega)))
      clear htr
      go_wp2_with fail
      refine H0.out.mono ?_
      rintro e w2 ⟨v', rfl, ⟨ws, hr, hi, hk2, hlw⟩, hb⟩
      clear y0 y1 f0 f1 f2 f3 f4 f5 lx
      obtain ⟨av, cv, rfl⟩ := ownsRow_slice hr
      have hB2 := hB.trans (hb.mono hB.size)
      by_cases hws : ws = []
      · subst hws
        have Hok : Hid (∀ i, i < 6 → kindOk N T i) := Lib.hid (fun i hi' => by
          rcases Nat.lt_or_ge i 5 with h | h
          · exact Hf.out i h
          · obtain rfl : i = 5 := by omega
            exact (hi.1 rfl))
        clear hi hr hk2 hb
        rw [List.length_nil]
        go_wp2
        go_roundw
        case measure => simp [intOf]
        case rel => exact ⟨6, by omega, by simp, Hok.out, hB2⟩
      · have hn0 : ¬ Surf N T := fun hS => hws (hi.2 ((surf_kinds hl).1 hS 5 (by omega)))
        have Hn0 := Lib.hid hn0
        have Hws := Lib.hid hws
        have hlen : ws.length < 4611686018427387904 := by omega
        have hpos : 0 < ws.length := List.length_pos_iff.2 hws
        have H := Lib.hid (sortW_any wr.heap.size _ ws w2 hr hlen)
        have Hr := Lib.hid hr
        have hBw := HB1.out.trans (hB2.mono HB1.out.size)
        have hszr := hB.size
        have hszw := HB1.out.size
        obtain ⟨n, hn⟩ : ∃ n, ws.length = n := ⟨_, rfl⟩
        rw [hn] at hpos Hr H ⊢
        have HN := Lib.hid hn
        clear hn hlen hn0 hws hi hr hb
        go_wp2_with (go_at_call 100; refine H.out.mono ?_; rintro e w3 ⟨rfl, ws', hp, hr3, hg3⟩)
        go_ret
        have hl3 : ws'.length = n := by rw [hp.length_eq, HN.out]
        refine ⟨_, ws', rfl, by rw [hl3]; exact hr3.mono (by omega), ⟨fun e => absurd (by rw [e] at hp; exact hp.symm.eq_nil) Hws.out, fun hS => absurd hS Hn0.out⟩, fun x hx => by rw [hk2 x (hp.mem_iff.1 hx)]; decide, hBw.grown hg3 hBw.size (fun jj e => by have := (Hr.out.lt jj e).1; omega)⟩
    · have hS := (surf_kinds hl).2 Hf.out
      have HS := Lib.hid hS
      have HBw := Lib.hid (HB1.out.trans (hB.mono HB1.out.size))
      clear hS y0 y1 f0 f1 f2 f3 f4 f5 htr hB lx
      go_wp2
      go_ret
      exact ⟨_, [], rfl, World.ownsRow_nil _ _ _ _, ⟨fun _ => HS.out, fun _ => rfl⟩, by simp, HBw.out⟩
end Go.Proofs.YtghlnknncahkgaaGreat
/-
  certify.Check, Is, by walking their texts.
-/
namespace Go.Proofs.YtghlnknncahkgaaGreat
open Go.RowKit

def witV (k a b : Int) : Value := .agg #[.int .i64 k, .int .i64 a, .int .i64 b]
set_option maxRecDepth 100000 in
set_option maxHeartbeats 1000000 in
theorem check_any (N : Int) (v : Value) (T : List Tr) (w : World) (h : TrisRd w v T) (hl : T.length ≤ 8192) : Calls Tryz.prog 46 #[.agg #[.int .i64 N, v]] w fun e w' => ∃ k a b : Int, e = .returned (witV k a b) ∧ ((Surf N T ∧ k = 0 ∧ a = 0 ∧ b = 0) ∨ (¬ Surf N T ∧ 1 ≤ k)) ∧ Below w.heap.size w w' := by
  have b1 := (Blk.new w 24 #[.int .i64 N, v]).alloc (.cells #[.int .i64 0, .int .i64 0, .int .i64 0] 74)
  have b2 := Blk.new (w.alloc (.cells #[.int .i64 N, v] 24)) 74 #[.int .i64 0, .int .i64 0, .int .i64 0]
  rw [size_alloc'] at b2
  have hB0 : Below w.heap.size w ((w.alloc (.cells #[.int .i64 N, v] 24)).alloc (.cells #[.int .i64 0, .int .i64 0, .int .i64 0] 74)) := ((Below.refl _ _).alloc (Nat.le_refl _) _).alloc (by rw [size_alloc']; omega) _
  obtain ⟨l0, x0, -, x1, -⟩ := b1.two
  have hA := all_any N v T ((w.alloc (.cells #[.int .i64 N, v] 24)).alloc (.cells #[.int .i64 0, .int .i64 0, .int .i64 0] 74)) (h.below hB0) hl
  have HA := Lib.hid hA
  clear h hA
  go_enter Tryz.func46, Tryz.ntmps46
  go_wp2_with fail
  refine HA.out.mono ?_
  rintro e w2 ⟨v', ws, rfl, hr, hi, hk, hb⟩
  obtain ⟨av, cv, rfl⟩ := ownsRow_slice hr
  have hB2 := hB0.trans (hb.mono hB0.size)
  have b3 := b2.below hb b2.lt
  obtain ⟨l3, y0, f0, y1, f1, y2, f2⟩ := b3.three
  have hsz2 := hb.size
  rw [size_alloc', size_alloc'] at hsz2 hr
  have hB3 : ∀ u0 u1 u2 : Value, Below w.heap.size w (((w2.setCell ⟨w.heap.size + 1, 0, none⟩ u0).setCell ⟨w.heap.size + 1, 1, none⟩ u1).setCell ⟨w.heap.size + 1, 2, none⟩ u2) := fun u0 u1 u2 => ((hB2.setCell (by simp) _).setCell (by simp) _).setCell (by simp) _
  have HB3 := Lib.hid hB3
  have b4 : ∀ u0 u1 u2 : Value, Blk (((w2.setCell ⟨w.heap.size + 1, 0, none⟩ u0).setCell ⟨w.heap.size + 1, 1, none⟩ u1).setCell ⟨w.heap.size + 1, 2, none⟩ u2) (w.heap.size + 1) 74 #[u0, u1, u2] := fun u0 u1 u2 => by
    have := ((b3.set_ 0 u0).set_ 1 u1).set_ 2 u2
    simpa using this
  have HB4 := Lib.hid b4
  clear b4
  cases ws with
  | nil =>
    have HS := Lib.hid (hi.1 rfl)
    clear hB3 hB2 hb b1 b2 x0 x1 l0 hi hk hr hB0
    rw [List.length_nil]
    go_wp2
    obtain ⟨z, z0, -, z1, -, z2, -⟩ := (HB4.out (.int .i64 0) (.int .i64 0) (.int .i64 0)).three
    exact bodyPost_ret (v := .agg #[.int .i64 0, .int .i64 0, .int .i64 0]) (by simp [results, Tryz.results46, go_sem, z0, z1, z2]) rfl ⟨0, 0, 0, rfl, .inl ⟨HS.out, rfl, rfl, rfl⟩, HB3.out _ _ _⟩
  | cons t r =>
    have HS := Lib.hid (fun hS => List.cons_ne_nil t r (hi.2 hS))
    have hk1 := hk t (by simp)
    obtain ⟨k, a, b⟩ := t
    rw [List.length_cons] at hr
    obtain ⟨g, cap, e0, hbg, hgl⟩ := hr.form (by omega)
    cases e0
    have c0 := hr.cellAt 0 (by omega)
    have c1 := hr.cellAt 1 (by omega)
    have c2 := hr.cellAt 2 (by omega)
    have d0 : (ws3 ((k, a, b) :: r))[0]? = some (.int .i64 k) := by simp [ws3, flatT]
    have d1 : (ws3 ((k, a, b) :: r))[1]? = some (.int .i64 a) := by simp [ws3, flatT]
    have d2 : (ws3 ((k, a, b) :: r))[2]? = some (.int .i64 b) := by simp [ws3, flatT]
    rw [d0] at c0
    rw [d1] at c1
    rw [d2] at c2
    clear hB3 hB2 hb b1 b2 x0 x1 l0 hi hk hr hB0 d0 d1 d2
    go_wp2
    obtain ⟨z, z0, -, z1, -, z2, -⟩ := (HB4.out (.int .i64 k) (.int .i64 a) (.int .i64 b)).three
    exact bodyPost_ret (v := .agg #[.int .i64 k, .int .i64 a, .int .i64 b]) (by simp [results, Tryz.results46, go_sem, z0, z1, z2]) rfl ⟨k, a, b, rfl, .inr ⟨HS.out, hk1⟩, HB3.out _ _ _⟩

theorem is_any (N : Int) (v : Value) (T : List Tr) (w : World) (h : TrisRd w v T) (hl : T.length ≤ 8192) : Calls Tryz.prog 19 #[.agg #[.int .i64 N, v]] w fun e w' => ∃ b : Bool, e = .returned (.bool b) ∧ (b = true ↔ Surf N T) ∧ Below w.heap.size w w' := by
  have b1 := Blk.new w 24 #[.int .i64 N, v]
  have hB0 : Below w.heap.size w (w.alloc (.cells #[.int .i64 N, v] 24)) := (Below.refl _ _).alloc (Nat.le_refl _) _
  obtain ⟨l0, x0, -, x1, -⟩ := b1.two
  have HA := Lib.hid (check_any N v T (w.alloc (.cells #[.int .i64 N, v] 24)) (h.below hB0) hl)
  clear h b1
  go_enter Tryz.func19, Tryz.ntmps19
  go_wp2_with fail
  refine HA.out.mono ?_
  rintro e w2 ⟨k, a, b, rfl, hS, hb⟩
  have HB := Lib.hid (hB0.trans (hb.mono hB0.size))
  unfold witV
  clear hb hB0 x0 x1 l0
  rcases hS with ⟨hS, rfl, rfl, rfl⟩ | ⟨hS, hk⟩
  · have HS := Lib.hid hS
    clear hS
    go_wp2
    go_ret
    exact ⟨true, rfl, ⟨fun _ => HS.out, fun _ => rfl⟩, HB.out⟩
  · have HS := Lib.hid hS
    have hk0 : (k == 0) = false := by simp; omega
    clear hS
    go_wp2
    go_ret
    exact ⟨false, by simp, ⟨fun e => Bool.noConfusion e, fun h => absurd h HS.out⟩, HB.out⟩
end Go.Proofs.YtghlnknncahkgaaGreat
/-
  slices.Clone of triangles; corner.New, by walking their texts.
-/
namespace Go.Proofs.YtghlnknncahkgaaGreat
open Go.RowKit Go.Maps

theorem infoTri : (Tryz.prog.info? 72).map (fun i => (i.zero, i.size, i.bytes)) = some (some (.agg #[.int .i64 0, .int .i64 0, .int .i64 0]), 3, 24) := by kernel_rfl
theorem ws3_len (T : List Tr) : (ws3 T).length = T.length * 3 := by simp [ws3, flatT_length]; omega
theorem TrisRd.of_row {w : World} {base : Nat} {v : Value} {T : List Tr} (h : w.ownsRow base 72 3 v T.length (ws3 T)) : TrisRd w v T := by
  rcases h.2 with ⟨rfl, h0⟩ | ⟨g, cap, cur, rfl, hb, hg, h1, h2, _⟩
  · rw [List.eq_nil_of_length_eq_zero h0]
    exact ⟨none, 0, rfl, by simp, by simp, fun k x y z hk => by simp at hk⟩
  · unfold maxLen at h2
    refine ⟨some ⟨g, 0, none⟩, cap, rfl, h1, by omega, fun k x y z hk => ?_⟩
    obtain ⟨d0, d1, d2⟩ := ws3_at hk
    have hk' := (List.getElem?_eq_some_iff.1 hk).1
    have hl := h.1
    refine ⟨g, 0, rfl, (Array.getElem?_eq_some_iff.1 hg).1, ?_, ?_, ?_⟩
    · rw [Nat.zero_add, h.cellAt _ (by omega)]; exact d0
    · rw [Nat.zero_add, h.cellAt _ (by omega)]; exact d1
    · rw [Nat.zero_add, h.cellAt _ (by omega)]; exact d2
theorem ws3_get {T : List Tr} {j : Nat} {u : Value} (h : (ws3 T)[j]? = some u) : ∃ k x y z, T[k]? = some (x, y, z) ∧ ((j = k * 3 ∧ u = .int .i64 x) ∨ (j = k * 3 + 1 ∧ u = .int .i64 y) ∨ (j = k * 3 + 2 ∧ u = .int .i64 z)) := by
  have hj := (List.getElem?_eq_some_iff.1 h).1
  rw [ws3_len] at hj
  have hk : j / 3 < T.length := by omega
  obtain ⟨t, ht⟩ : ∃ t, T[j / 3]? = some t := ⟨T[j / 3], List.getElem?_eq_getElem _⟩
  obtain ⟨x, y, z⟩ := t
  obtain ⟨d0, d1, d2⟩ := ws3_at ht
  refine ⟨j / 3, x, y, z, ht, ?_⟩
  have : j % 3 = 0 ∨ j % 3 = 1 ∨ j % 3 = 2 := by omega
  rcases this with e | e | e
  · have e1 : j = j / 3 * 3 := by omega
    rw [e1, d0] at h
    exact .inl ⟨e1, by cases h; rfl⟩
  · have e1 : j = j / 3 * 3 + 1 := by omega
    rw [e1, d1] at h
    exact .inr (.inl ⟨e1, by cases h; rfl⟩)
  · have e1 : j = j / 3 * 3 + 2 := by omega
    rw [e1, d2] at h
    exact .inr (.inr ⟨e1, by cases h; rfl⟩)
/-- The cells behind an address that triangles are read from. -/
theorem TrisRd.cells {w : World} {ad : Addr} {n c : Nat} {T : List Tr} (h : TrisRd w (.slice (some ad) n c) T) : ∀ j u, (ws3 T)[j]? = some u → w.cell? (ad.add j) = some u := by
  intro j u hu
  obtain ⟨a, c', e0, h1, h2, h3⟩ := h
  cases e0
  obtain ⟨k, x, y, z, hk, hj⟩ := ws3_get hu
  obtain ⟨b, o, e1, hl, s0, s1, s2⟩ := h3 k x y z hk
  cases e1
  rw [Addr.add_lit]
  rcases hj with ⟨rfl, rfl⟩ | ⟨rfl, rfl⟩ | ⟨rfl, rfl⟩
  · exact s0
  · exact s1
  · exact s2
set_option maxRecDepth 100000 in
set_option maxHeartbeats 1000000 in
theorem cloneT_any (v : Value) (T : List Tr) (w : World) (h : TrisRd w v T) (hl : T.length ≤ 100000) : Calls Tryz.prog 65 #[v] w fun e w' => ∃ v', e = .returned v' ∧ w'.ownsRow w.heap.size 72 3 v' T.length (ws3 T) ∧ Below w.heap.size w w' := by
  obtain ⟨i1, hi', hy0, hy1, hy2⟩ := info_parts infoTri
  have h0 := h
  obtain ⟨a, c, rfl, hc1, hc2, hr⟩ := h
  cases a with
  | none =>
    have hT : T = [] := by
      cases T with
      | nil => rfl
      | cons t r =>
        obtain ⟨x, y, z⟩ := t
        obtain ⟨b, o, e, _⟩ := hr 0 x y z rfl
        cases e
    subst hT
    have q := fun (W : World) => Lib.run_eql_slice_nil (P := Tryz.prog) W 22 72 none 0 c 0 0 Tryz.underlying22
    clear h0 hr
    go_enter Tryz.func65, Tryz.ntmps65
    go_wp2
    go_ret
    exact ⟨_, rfl, World.ownsRow_nil _ _ _ _, Below.refl _ _⟩
  | some ad =>
    have hcell := (h0.alloc (.cells #[] 72)).cells
    have HC := Lib.hid hcell
    have hrow := World.ownsRow_lit w (base := w.heap.size) (e := 72) (size := 3) #[] 0 (Nat.le_refl _) (by decide) rfl
    have HL := Lib.hid (ws3_len T)
    obtain ⟨n, hn⟩ : ∃ n, T.length = n := ⟨_, rfl⟩
    rw [hn] at hl hc1 HL ⊢
    have hb : Below w.heap.size w (w.alloc (.cells #[] 72)) := (Below.refl _ _).alloc (Nat.le_refl _) _
    have c3 : 0 + n ≤ maxLen := by unfold maxLen; omega
    have c4 : (0 + n) * 24 ≤ 140737488355328 := by omega
    have q := fun (W : World) => Lib.run_eql_slice_nil (P := Tryz.prog) W 22 72 (some ad) n c 0 0 Tryz.underlying22
    clear h0 hr hcell hn
    go_enter Tryz.func65, Tryz.ntmps65
    go_wp2_with (at_builtin; refine wpList_append_own _ rfl (.tmp 5) (.tmp 6) 22 rfl w.heap.size 72 i1 _ 3 24 Tryz.underlying22 hi' hy0 hy1 hy2 rfl (by decide) _ 0 [] rfl hrow ad n c (ws3 T) rfl HL.out HC.out (by intro u hu; simp only [ws3, List.mem_map] at hu; obtain ⟨x, _, rfl⟩ := hu; rfl) c3 c4 (by rw [size_alloc']; omega) ?_; intro v' w' h1' h2' _; have HW := Lib.hid h1')
    go_ret
    exact ⟨_, rfl, by have := HW.out; simpa using this, hb.grown h2' hb.size (fun j e => by have := (hrow.lt j e).1; omega)⟩

theorem blk_new_at {w : World} {g : Nat} {t : TypeId} {cs : Array Value} (h : w.heap.size = g) : Blk (w.alloc (.cells cs t)) g t cs := by
  subst h
  exact Blk.new w t cs
theorem mapP_new_at {P : Program} {k : TypeId} {w : World} {b : Nat} (h : w.heap.size = b) : MapP P k (w.alloc (.map #[] 0)) b (fun _ => none) := by
  subst h
  exact MapP.made w P k
theorem row_new_at {w : World} {base g m : Nat} (h : w.heap.size = g) (hb : base ≤ g) (hm : m ≤ maxLen) : (w.alloc (.cells (madeCells #[.int .i64 0] m) 3)).ownsRow base 3 1 (.slice (some ⟨g, 0, none⟩) m m) m (List.replicate m (.int .i64 0)) := by
  subst h
  refine ⟨by simp, .inr ⟨w.heap.size, m, _, rfl, hb, heap_alloc_new w _, Nat.le_refl _, hm, ?_, ?_⟩⟩
  · have := size_madeCells #[Value.int .i64 0] m
    simpa using this
  · rw [toList_madeCells_one]
    simp
theorem own_drew {w : World} {base n s : Nat} {e : TypeId} {v : Value} {xs : List Value} (h : w.ownsRow base e s v n xs) : w.drew.ownsRow base e s v n xs := h
theorem own_below {w w' : World} {base n s : Nat} {e : TypeId} {v : Value} {xs : List Value} (h : w.ownsRow base e s v n xs) (hb : Below w.heap.size w w') : w'.ownsRow base e s v n xs :=
  h.kept (grown_of_below hb none) (by cases e : v.ownBlock; exact .inl rfl; exact .inr (by simp))
/-- The table as it is made: no face yet, no first corner. -/
def NewSt (w : World) (m : Nat) (v : Value) (T : List Tr) (s5 : Value) (W : World) : Prop :=
  ∃ g av cv mb fb, s5 = .pointer (some ⟨g, 0, none⟩) ∧ Blk W g 118 #[.int .i64 (m : Int), .slice av T.length cv, .map (some mb), .slice (some ⟨fb, 0, none⟩) m m] ∧ W.ownsRow w.heap.size 72 3 (.slice av T.length cv) T.length (ws3 T) ∧
    MapP Tryz.prog 108 W mb (fun _ => none) ∧ W.ownsRow w.heap.size 3 1 (.slice (some ⟨fb, 0, none⟩) m m) m (List.replicate m (.int .i64 0)) ∧ w.heap.size ≤ g ∧ w.heap.size ≤ mb ∧
    Blk W w.heap.size 24 #[.int .i64 (m : Int), v] ∧ Blk W (w.heap.size + 1) 74 #[.int .i64 0, .int .i64 0, .int .i64 0] ∧ Below w.heap.size w W
theorem facFrom_step {T : List Tr} {k : Nat} (hk : k < 3 * T.length) (e : Int × Int) : facFrom T k e = if edgeN T k = e then some k else facFrom T (k + 1) e := by
  unfold facFrom
  rw [show 3 * T.length - k = (3 * T.length - (k + 1)) + 1 from by omega, List.range'_succ, List.find?_cons]
  by_cases h : edgeN T k = e
  · simp [h]
  · have : (edgeN T k == e) = false := by simpa using h
    simp [h, this]
theorem fstFrom_step {T : List Tr} {k : Nat} (hk : k < 3 * T.length) (v : Int) : fstFrom T k v = if vertN T k = v then some k else fstFrom T (k + 1) v := by
  unfold fstFrom
  rw [show 3 * T.length - k = (3 * T.length - (k + 1)) + 1 from by omega, List.range'_succ, List.find?_cons]
  by_cases h : vertN T k = v
  · simp [h]
  · have : (vertN T k == v) = false := by simpa using h
    simp [h, this]
theorem facMap_step {T : List Tr} {k : Nat} (hk : k < 3 * T.length) (y : Value) : updP (facMap T (k + 1)) (pairV (edgeN T k)) (.int .i64 (k : Int)) y = facMap T k y := by
  by_cases hy : ∃ e, y = pairV e
  · obtain ⟨e, rfl⟩ := hy
    rw [facMap_at, facFrom_step hk]
    by_cases h : edgeN T k = e
    · rw [if_pos h, h, updP_same]
      rfl
    · rw [if_neg h, updP_other (fun e' => h (pairV_inj e').symm), facMap_at]
  · have h1 : facMap T k y = none := by
      unfold facMap
      rw [dif_neg hy]
    have h2 : facMap T (k + 1) y = none := by
      unfold facMap
      rw [dif_neg hy]
    rw [h1, updP_other (fun e' => hy ⟨_, e'⟩), h2]
theorem facMap_end (T : List Tr) (y : Value) : (none : Option Value) = facMap T (3 * T.length) y := by
  unfold facMap
  split
  · simp [facFrom]
  · rfl
theorem fsts_end (m : Nat) (T : List Tr) : fsts (m : Int) T (3 * T.length) = List.replicate m 0 := by
  apply List.ext_getElem?
  intro i
  unfold fsts
  by_cases hi : i < m
  · rw [List.getElem?_map, List.getElem?_range (by simpa using hi), List.getElem?_replicate, if_pos hi]
    simp [fstFrom]
  · rw [List.getElem?_eq_none (by simp; omega), List.getElem?_eq_none (by simp; omega)]
theorem fsts_step {m : Nat} {T : List Tr} {k u : Nat} (hk : k < 3 * T.length) (hu : vertN T k = (u : Int)) : (fsts (m : Int) T (k + 1)).set u (k : Int) = fsts (m : Int) T k := by
  apply List.ext_getElem?
  intro i
  unfold fsts
  rw [List.getElem?_set]
  by_cases hi : i < m
  · have h1 : ((List.range (m : Int).toNat).map fun v : Nat => (((fstFrom T k v).getD 0 : Nat) : Int))[i]? = some (((fstFrom T k i).getD 0 : Nat) : Int) := by
      rw [List.getElem?_map, List.getElem?_range (by simpa using hi)]
      rfl
    have h2 : ((List.range (m : Int).toNat).map fun v : Nat => (((fstFrom T (k + 1) v).getD 0 : Nat) : Int))[i]? = some (((fstFrom T (k + 1) i).getD 0 : Nat) : Int) := by
      rw [List.getElem?_map, List.getElem?_range (by simpa using hi)]
      rfl
    rw [h1, h2, fstFrom_step hk, hu]
    by_cases e : u = i
    · subst e
      rw [if_pos rfl, if_pos (by simpa using hi), if_pos rfl]
      rfl
    · rw [if_neg e, if_neg (by omega)]
  · have h1 : ((List.range (m : Int).toNat).map fun v : Nat => (((fstFrom T k v).getD 0 : Nat) : Int))[i]? = none := List.getElem?_eq_none (by simp; omega)
    have h2 : ((List.range (m : Int).toNat).map fun v : Nat => (((fstFrom T (k + 1) v).getD 0 : Nat) : Int))[i]? = none := List.getElem?_eq_none (by simp; omega)
    rw [h1, h2]
    split
    · rw [if_neg (by simp; omega)]
    · rfl
theorem fsts_len (m : Nat) (T : List Tr) (k : Nat) : (fsts (m : Int) T k).length = m := by simp [fsts]
theorem edgeI_nat {T : List Tr} {k : Nat} (hk : k < 3 * T.length) : edgeI T (k : Int) = edgeN T k := by
  have h1 : hasC T (k : Int) = true := hasC_true (by omega) (by omega)
  have h2 : hasC T ((Jor.nx k : Nat) : Int) = true := hasC_true (by omega) (by have := Jor.nx_lt hk; omega)
  have h3 : hasC T ((Jor.pv k : Nat) : Int) = true := hasC_true (by omega) (by have := Jor.pv_lt hk; omega)
  simp [edgeI, edgeN, nextI, prevI, vertI, h1, h2, h3]
theorem vertI_nat {T : List Tr} {k : Nat} (hk : k < 3 * T.length) : vertI T (k : Int) = vertN T k := by
  have h1 : hasC T (k : Int) = true := hasC_true (by omega) (by omega)
  simp [vertI, h1]
set_option maxRecDepth 100000 in
set_option maxHeartbeats 4000000 in
theorem new_any (N : Int) (v : Value) (T : List Tr) (w : World) (h : TrisRd w v T) (hl : T.length ≤ 8192) : Calls Tryz.prog 33 #[.agg #[.int .i64 N, v]] w fun e w' =>
    ((Surf N T ∧ ∃ g, e = .returned (.tuple #[.pointer (some ⟨g, 0, none⟩), witV 0 0 0]) ∧ Tab w' g N T ∧ w.heap.size ≤ g) ∨ (¬ Surf N T ∧ ∃ k a b : Int, 1 ≤ k ∧ e = .returned (.tuple #[.pointer none, witV k a b]))) ∧ Below w.heap.size w w' := by
  obtain ⟨i1, hi', hy0, hy1, hy2⟩ := info_parts infoInt
  have b1 := (Blk.new w 24 #[.int .i64 N, v]).alloc (.cells #[.int .i64 0, .int .i64 0, .int .i64 0] 74)
  have b2 := Blk.new (w.alloc (.cells #[.int .i64 N, v] 24)) 74 #[.int .i64 0, .int .i64 0, .int .i64 0]
  rw [size_alloc'] at b2
  have hB0 : Below w.heap.size w ((w.alloc (.cells #[.int .i64 N, v] 24)).alloc (.cells #[.int .i64 0, .int .i64 0, .int .i64 0] 74)) := ((Below.refl _ _).alloc (Nat.le_refl _) _).alloc (by rw [size_alloc']; omega) _
  obtain ⟨l0, x0, -, x1, -⟩ := b1.two
  have hC := check_any N v T ((w.alloc (.cells #[.int .i64 N, v] 24)).alloc (.cells #[.int .i64 0, .int .i64 0, .int .i64 0] 74)) (h.below hB0) hl
  have HC := Lib.hid hC
  have HT := Lib.hid h
  clear h hC
  go_enter Tryz.func33, Tryz.ntmps33
  go_wp2_with fail
  refine HC.out.mono ?_
  rintro e w2 ⟨k, a, b, rfl, hS, hb⟩
  have hB2 := hB0.trans (hb.mono hB0.size)
  have b3 := b2.below hb b2.lt
  have b4 := b1.below hb b1.lt
  unfold witV
  clear hb b1 b2 x0 x1 l0 HC
  obtain ⟨l3, y0, f0, y1, f1, y2, f2⟩ := b3.three
  obtain ⟨l4, z0, -, z1, -⟩ := b4.two
  have hsz := hB2.size
  rcases hS with ⟨hS, rfl, rfl, rfl⟩ | ⟨hS, hk⟩
  · have HS := Lib.hid hS
    have hNm : ∃ m : Nat, N = m := ⟨N.toNat, by have := hS.n0; omega⟩
    have hN1 := hS.n1
    obtain ⟨m, rfl⟩ := hNm
    clear hS
    go_upto_region 4 with fail
    have hmm := @run_makeMap Tryz.prog
    have hmk := fun (W : World) => run_make (P := Tryz.prog) W 28 3 i1 (.int .i64 0) Tryz.underlying28 hi' hy0 .i64 .i64 (m : Int) (m : Int) (by omega) (by omega) (by rw [hy2]; omega) (by omega)
    have HB2 := Lib.hid hB2
    have hB3 : Below w.heap.size w (w2.alloc (.cells #[.int .i64 0, .int .i64 0, .int .i64 0] 74)).drew := (hB2.alloc hsz _).drew
    have HB3 := Lib.hid hB3
    have HCl := Lib.hid (fun (W : World) (hW : Below w.heap.size w W) => cloneT_any v T W (HT.out.below hW) (by omega))
    have HB4 := Lib.hid b4
    have HB5 := Lib.hid b3
    obtain ⟨l5, zz0, -, zz1, -⟩ := (b4.alloc (.cells #[.int .i64 0, .int .i64 0, .int .i64 0] 74)).two
    clear hB3 b4 b3
    go_cut [5] (fun s5 W => NewSt w m v T s5 W)
    case first =>
      go_region_held3 (fun w' => w'.cell? ⟨w.heap.size, 0, none⟩ = some (.int .i64 (m : Int)) ∧ w'.cell? ⟨w.heap.size, 1, none⟩ = some v) (go_keep)
        (first
          | (go_at_call 65; refine (HCl.out _ (by repeat (first | exact HB2.out | refine Below.drew ?_ | refine Below.alloc ?_ (by first | exact hsz | (simp; omega)) _))).mono ?_; rintro e w3 ⟨vT, rfl, hrT, hb3⟩; obtain ⟨av, cv, rfl⟩ := ownsRow_slice hrT; obtain ⟨q0, q1, -, q2, -⟩ := (Blk.below (g := w.heap.size) (t := 24) (cs := #[.int .i64 (m : Int), v]) (by repeat (first | exact HB4.out | refine Blk.drew ?_ | refine Blk.alloc ?_ _)) hb3 (by simp [World.drew]; omega)).two))
      all_goals
        go_wp2_with fail
        go_meet
        have hsz3 := hb3.size
        refine ⟨_, av, cv, _, _, rfl, blk_new_at (by simp), ?_, ?_, ?_, ?_, ?_, ?_, ?_, ?_⟩
        · repeat (first | with_reducible exact hrT.mono (by first | exact hsz | (simp [World.drew]; omega) | omega) | with_reducible refine World.ownsRow.alloc ?_ _ | with_reducible refine own_drew ?_)
        · repeat (first | with_reducible exact mapP_new_at (by simp) | with_reducible refine MapP.alloc ?_ _ | with_reducible refine MapP.drew ?_ | with_reducible refine MapP.below ?_ hb3 (by first | (simp [World.drew]; done) | (simp [World.drew]; omega)))
        · repeat (first | with_reducible exact row_new_at (by simp) (by first | exact hsz | (simp [World.drew]; omega) | omega) (by unfold maxLen; omega) | with_reducible refine World.ownsRow.alloc ?_ _ | with_reducible refine own_drew ?_ | with_reducible refine own_below ?_ hb3)
        · simp [World.drew] at hsz3 ⊢; omega
        · simp [World.drew] at hsz3 ⊢; omega
        · repeat (first | with_reducible exact HB4.out | with_reducible refine Blk.alloc ?_ _ | with_reducible refine Blk.drew ?_ | with_reducible refine Blk.below ?_ hb3 (by simp [World.drew]; omega))
        · repeat (first | with_reducible exact HB5.out | with_reducible refine Blk.alloc ?_ _ | with_reducible refine Blk.drew ?_ | with_reducible refine Blk.below ?_ hb3 (by simp [World.drew]; omega))
        · repeat (first | with_reducible exact HB2.out | with_reducible refine Below.alloc ?_ (by simp [World.drew] at hsz3 ⊢; omega) _ | with_reducible refine Below.drew ?_ | with_reducible refine Below.trans ?_ (hb3.mono (by simp [World.drew]; omega)))
    case rest =>
      obtain ⟨g, av, cv, mb, fb, rfl, hbt, htr, hmp, hrow, hg0, hm0, hbs, hbw, hB⟩ := hcut
      obtain ⟨n, hn⟩ : ∃ n, T.length = n := ⟨_, rfl⟩
      have hlen := hl
      rw [hn] at hbt htr hlen
      have HN := Lib.hid hn
      have hmp0 : MapP Tryz.prog 108 wc mb (facMap T (3 * n)) := by rw [← hn]; exact hmp.congr (facMap_end T)
      have hrow0 : wc.ownsRow w.heap.size 3 1 (.slice (some ⟨fb, 0, none⟩) m m) m (intsV (fsts (m : Int) T (3 * n))) := by
        rw [← hn, fsts_end]
        simpa [intsV] using hrow
      have hin : ∀ t ∈ T, 0 ≤ t.1 ∧ t.1 < (m : Int) ∧ 0 ≤ t.2.1 ∧ t.2.1 < (m : Int) ∧ 0 ≤ t.2.2 ∧ t.2.2 < (m : Int) := fun t ht => by
        obtain ⟨⟨a1, a2⟩, ⟨a3, a4⟩, ⟨a5, a6⟩⟩ := HS.out.inr t ht
        exact ⟨a1, a2, a3, a4, a5, a6⟩
      have HIN := Lib.hid hin
      have HTR := Lib.hid htr
      obtain ⟨l6, p0, -, p1, -⟩ := hbs.two
      have hTl : ∃ vv : Option Addr × Nat, v = .slice vv.1 n vv.2 := by
        obtain ⟨a, c, e, _⟩ := HT.out
        exact ⟨(a, c), by rw [← hn]; exact e⟩
      obtain ⟨⟨a0, c0⟩, rfl⟩ := hTl
      have HM0 := Lib.hid hmp0
      have HR0 := Lib.hid hrow0
      have HBT := Lib.hid hbt
      have HBW := Lib.hid hbw
      have HB := Lib.hid hB
      clear hn hmp hrow hmp0 hrow0 hin htr hbt hbw hB zz0 zz1 l5 hbs
      go_wp2
      go_loopw [6] (fun c wr => ∃ k : Nat, k ≤ 3 * n ∧ c = .int .i64 ((k : Int) - 1) ∧ MapP Tryz.prog 108 wr mb (facMap T k) ∧ wr.ownsRow w.heap.size 3 1 (.slice (some ⟨fb, 0, none⟩) m m) m (intsV (fsts (m : Int) T k)) ∧
        Blk wr g 118 #[.int .i64 (m : Int), .slice av n cv, .map (some mb), .slice (some ⟨fb, 0, none⟩) m m] ∧ wr.ownsRow w.heap.size 72 3 (.slice av n cv) n (ws3 T) ∧ Blk wr (w.heap.size + 1) 74 #[.int .i64 0, .int .i64 0, .int .i64 0] ∧ Below w.heap.size w wr) (fun c _ => (intOf c + 1).toNat)
      case atStart => exact ⟨3 * n, Nat.le_refl _, by simp, HM0.out, HR0.out, HBT.out, HTR.out, HBW.out, HB.out⟩
      case round =>
        clear HM0 HR0 HBT HTR HBW HB p0 p1 l6
        obtain ⟨k, hk, rfl, hmp, hrow, hbt, htr, hbw, hB⟩ := hrel
        rename World => wr
        cases k with
        | zero =>
          have hTab : ∀ u0 u1 u2 : Value, Tab (((wr.setCell ⟨w.heap.size + 1, 0, none⟩ u0).setCell ⟨w.heap.size + 1, 1, none⟩ u1).setCell ⟨w.heap.size + 1, 2, none⟩ u2) g (m : Int) T := by
            intro u0 u1 u2
            have hgS : wr.grownBy (((wr.setCell ⟨w.heap.size + 1, 0, none⟩ u0).setCell ⟨w.heap.size + 1, 1, none⟩ u1).setCell ⟨w.heap.size + 1, 2, none⟩ u2) (some (w.heap.size + 1)) := gStR (gStR (gStR (World.grownBy.refl _ _)))
            have hbt' := hbt.grown hgS (by simpa using Blk.ne_ hbt hbw (by decide))
            have htr' := htr.kept hgS (.inr (own_blk_ne htr hbw (by decide)))
            have hrow' := hrow.kept hgS (.inr (own_blk_ne hrow hbw (by decide)))
            have hmp' := hmp.kept hgS (fun e => by
              cases e
              obtain ⟨es, ck, ho⟩ := hmp.obj
              rw [show wr.heap[w.heap.size + 1]? = _ from hbw] at ho
              cases ho)
            have htd := TrisRd.of_row (T := T) (by rw [HN.out]; exact htr')
            have hrd : IntsRd _ (.slice (some ⟨fb, 0, none⟩) m m) (fsts (m : Int) T 0) := IntsRd.of_row hrow' (fsts_len m T 0)
            exact { ex := ⟨_, _, _, hbt', htd⟩, n0 := by omega, n1 := hN1, len := hl, inr := HIN.out, tx := ⟨_, _, _, hbt', htd, hmp', hrd⟩ }
          have HTab := Lib.hid hTab
          have hcells := fun (u0 u1 u2 : Value) => (((hbw.set_ 0 u0).set_ 1 u1).set_ 2 u2)
          have HCE := Lib.hid hcells
          have hBx := fun (u0 u1 u2 : Value) => ((hB.setCell (p := ⟨w.heap.size + 1, 0, none⟩) (by simp) u0).setCell (p := ⟨w.heap.size + 1, 1, none⟩) (by simp) u1).setCell (p := ⟨w.heap.size + 1, 2, none⟩) (by simp) u2
          have HBX := Lib.hid hBx
          obtain ⟨lw, y0', f0', y1', f1', y2', f2'⟩ := hbw.three
          clear hTab hcells hBx hbt hmp hrow htr hbw hB
          go_wp2
          obtain ⟨z, r0, -, r1, -, r2, -⟩ : _ ∧ _ ∧ _ ∧ _ ∧ _ ∧ _ ∧ _ := Blk.three (a := .int .i64 0) (b := .int .i64 0) (c := .int .i64 0) (by simpa using HCE.out (.int .i64 0) (.int .i64 0) (.int .i64 0))
          exact bodyPost_ret (v := .tuple #[.pointer (some ⟨g, 0, none⟩), .agg #[.int .i64 0, .int .i64 0, .int .i64 0]]) (by simp [results, Tryz.results33, go_sem, r0, r1, r2]) rfl ⟨.inl ⟨HS.out, g, rfl, HTab.out _ _ _, hg0⟩, HBX.out _ _ _⟩
        | succ k =>
          have hkT : k < 3 * T.length := by have := HN.out; omega
          have htd : TrisRd wr (.slice av n cv) T := TrisRd.of_row (by rw [HN.out]; exact htr)
          have hts : TabS wr g (m : Int) T := ⟨⟨_, _, _, hbt, htd⟩, by omega, hN1, hl, HIN.out⟩
          have hgm : g ≠ mb := fun e => by
            subst e
            obtain ⟨es, c, ho⟩ := hmp.obj
            rw [show wr.heap[g]? = _ from hbt] at ho
            cases ho
          obtain ⟨x, hx⟩ : ∃ x : Int × Int, edgeN T k = x := ⟨_, rfl⟩
          obtain ⟨⟨q0, q1⟩, q2, q3⟩ := edgeI_bd HIN.out (by omega) hN1 (k : Int)
          rw [edgeI_nat hkT, hx] at q0 q1 q2 q3
          obtain ⟨x, y⟩ := x
          simp only at q0 q1 q2 q3
          have HE := Lib.hid (fun (W : World) (hW : Below wr.heap.size wr W) => (by have := edge_any g (m : Int) (k : Int) T W (hts.below hW); rw [edgeI_nat hkT, hx] at this; exact this : Calls Tryz.prog 61 #[.pointer (some ⟨g, 0, none⟩), .int .i64 (k : Int)] W fun e w' => e = .returned (pairV (x, y)) ∧ Below W.heap.size W w'))
          have hkey := WideMaps.keyOf_pair arrEdge Tryz.underlying3 types_succ (wfV ⟨q0, q1⟩) (wfV ⟨q2, q3⟩)
          have HST := Lib.hid (fun (W : World) (hW : Below wr.heap.size wr W) => (hmp.below hW hmp.lt).store (t := 116) (Keyed.of_law arrEdge.law) Tryz.underlying116 hkey (.int .i64 (k : Int)))
          have lg := hbt.lt
          have lm := hmp.lt
          have t2 := hbt.cell 2
          have t3 := hbt.cell 3
          have HBT := Lib.hid hbt
          have Hstep : Hid (∀ W, MapP Tryz.prog 108 W mb (updP (facMap T (k + 1)) (pairV (x, y)) (.int .i64 (k : Int))) → MapP Tryz.prog 108 W mb (facMap T k)) := Lib.hid (fun W h => h.congr (fun y' => by rw [← hx]; exact facMap_step hkT y'))
          have Hrow := Lib.hid hrow
          have Htr := Lib.hid htr
          have Hbw := Lib.hid hbw
          have HBr := Lib.hid hB
          have HX := Lib.hid hx
          have HTS := Lib.hid hts
          have hlen2 : (k : Int) + 1 - 1 = (k : Int) := by omega
          have hk0 : (0 : Int) ≤ (k : Int) := by omega
          have hk1 : (k : Int) ≤ 100000 := by omega
          unfold pairV at HST hkey HE
          simp only at HST hkey HE
          have hmo := Lib.hid hmp.obj
          clear hbt hmp hrow htr hbw hB hx hts htd
          go_wp2
          go_region_held3 (fun w' => w'.cell? ⟨g, 2, none⟩ = some (.map (some mb))) (go_keep)
            (first
              | (go_at_call 61; refine (HE.out _ (by exact (Below.refl _ _).drew)).mono ?_; rintro e w5 ⟨rfl, hb5⟩; have hb5' := ((Below.refl wr.heap.size wr).drew).trans hb5; have c5 := (hb5'.cell (p := ⟨g, 2, none⟩) lg).trans t2; obtain ⟨w6, hrun6, hm6, hg6, -⟩ := HST.out w5 hb5'; have c6 := hg6.cell c5 (by simpa using hgm)))
          have hbt6 := (HBT.out.below hb5' lg).grown hg6 (by simpa using hgm)
          have hgr5 := grown_of_below hb5' none
          obtain ⟨es0, ck0, hmo0⟩ := hmo.out
          have hmo5 : ∃ es clock, w5.heap[mb]? = some (.map es clock) := ⟨es0, ck0, (hb5'.block mb lm).trans hmo0⟩
          have nn : ∀ v : Value, v.ownBlock = none ∨ v.ownBlock ≠ none := fun v => by cases v.ownBlock <;> simp
          have htr5 := own_below Htr.out hb5'
          have htr6 := htr5.kept hg6 (row_map_ne htr5 hmo5)
          have hrow5 := own_below Hrow.out hb5'
          have hrow6 := hrow5.kept hg6 (row_map_ne hrow5 hmo5)
          have hbw6 := (Hbw.out.below hb5' Hbw.out.lt).grown hg6 (fun e => by cases e; have := Hbw.out; obtain ⟨es, ck, ho⟩ := hmo.out; rw [show wr.heap[w.heap.size + 1]? = _ from this] at ho; cases ho)
          have hB6 := (HBr.out.trans (hb5'.mono HBr.out.size)).grown hg6 (Nat.le_trans HBr.out.size hb5'.size) (fun j e => by cases e; exact hm0)
          have hts6 : TabS w6 g (m : Int) T := ⟨⟨_, _, _, hbt6, TrisRd.of_row (by rw [HN.out]; exact htr6)⟩, by omega, hN1, hl, HIN.out⟩
          obtain ⟨v0, v1⟩ := vertN_in HIN.out hkT
          obtain ⟨u, hu⟩ : ∃ u : Nat, vertN T k = u := ⟨(vertN T k).toNat, by omega⟩
          rw [hu] at v1
          have hum : u < m := by omega
          have HV := Lib.hid (fun (W : World) (hW : TabS W g (m : Int) T) => (by have := vertex_any g (m : Int) (k : Int) T W hW; rw [vertI_nat hkT, hu] at this; exact this : Calls Tryz.prog 36 #[.pointer (some ⟨g, 0, none⟩), .int .i64 (k : Int)] W fun e w' => e = .returned (.int .i64 (u : Int)) ∧ W = w'))
          have Hfs := Lib.hid (fsts_step (m := m) hkT hu)
          obtain ⟨z, hz⟩ : ∃ z, (intsV (fsts (m : Int) T (k + 1)))[u]? = some z := ⟨(intsV (fsts (m : Int) T (k + 1)))[u]'(by simp [intsV, fsts_len]; exact hum), List.getElem?_eq_getElem _⟩
          have hcu : w6.cell? ⟨fb, u, none⟩ = some z := by rw [hrow6.cellAt u (by omega)]; exact hz
          have hfu := hrow6.frozenAt u
          have lg6 := hbt6.lt
          have t6 := hbt6.cell 3
          have lf6 := (hrow6.lt fb rfl).2
          have HM6 := Lib.hid (Hstep.out w6 hm6)
          have hgf : g ≠ fb := fun e => own_blk_ne hrow6 hbt6 (by decide) (by rw [e]; rfl)
          have hfg : fb ≠ g := fun e => hgf e.symm
          have hgs := (hrow6.stored u (.int .i64 (k : Int)))
          have HGS := Lib.hid hgs
          have HBT6 := Lib.hid hbt6
          have HTR6 := Lib.hid htr6
          have HR6 := Lib.hid hrow6
          have HBW6 := Lib.hid hbw6
          have HB6 := Lib.hid hB6
          have HTS6 := Lib.hid hts6
          clear hbt6 htr6 hrow6 hbw6 hB6 hts6 hgs hm6 hg6 hrun6 c6 c5 hb5 hb5' htr5 hrow5 hmo5 hmo0 hgr5 nn HST HE hkey t2 t3 hu v0 hz
          go_wp2
          go_region_held3 (fun w' => w'.cell? ⟨g, 3, none⟩ = some (.slice (some ⟨fb, 0, none⟩) m m)) (go_keep)
            (first
              | (go_at_call 36; refine (HV.out _ (by exact HTS6.out.drew)).mono ?_; rintro e w7 ⟨rfl, rfl⟩))
          go_wp2
          go_roundw
          case measure => simp [intOf]
          case rel =>
            obtain ⟨hr7, hg7⟩ := HGS.out
            have hg8 := gDrew hg7
            have hsz6 := HB6.out.size
            have hfb := (HR6.out.lt fb rfl).1
            refine ⟨k, by omega, by simp, HM6.out.kept hg8 (map_row_ne HR6.out HM6.out.obj), ?_, (HBT6.out.grown hg8 (by simpa using hgf)), HTR6.out.kept hg8 (own_own_ne HTR6.out HR6.out (by decide)), HBW6.out.grown hg8 (fun e => own_blk_ne HR6.out HBW6.out (by decide) e.symm), HB6.out.grown hg8 hsz6 (fun j e => by cases e; exact hfb)⟩
            have := own_drew hr7
            rw [← Hfs.out]
            simpa [intsV, List.map_set] using this
  · have HS := Lib.hid hS
    have hk0 : (k != 0) = true := by simp; omega
    clear hS
    have hcells := fun (u0 u1 u2 : Value) => (((b3.set_ 0 u0).set_ 1 u1).set_ 2 u2)
    have HCE := Lib.hid hcells
    have hBx := fun (u0 u1 u2 : Value) => ((hB2.setCell (p := ⟨w.heap.size + 1, 0, none⟩) (by simp) u0).setCell (p := ⟨w.heap.size + 1, 1, none⟩) (by simp) u1).setCell (p := ⟨w.heap.size + 1, 2, none⟩) (by simp) u2
    have HBX := Lib.hid hBx
    clear hcells hBx b3 b4
    go_wp2
    go_region
    all_goals
      go_wp2
      have b6 := ((HCE.out (.int .i64 k) (.int .i64 a) (.int .i64 b)).alloc (.cells #[.int .i64 k, .int .i64 a, .int .i64 b] 74)).drew
      obtain ⟨z, r0, -, r1, -, r2, -⟩ : _ ∧ _ ∧ _ ∧ _ ∧ _ ∧ _ ∧ _ := Blk.three (a := .int .i64 k) (b := .int .i64 a) (c := .int .i64 b) (by simpa using b6)
      exact bodyPost_ret (v := .tuple #[.pointer none, .agg #[.int .i64 k, .int .i64 a, .int .i64 b]]) (by simp [results, Tryz.results33, go_sem, r0, r1, r2]) rfl ⟨.inr ⟨HS.out, k, a, b, hk, rfl⟩, ((HBX.out _ _ _).alloc (by simp; exact hsz) _).drew⟩
end Go.Proofs.YtghlnknncahkgaaGreat
