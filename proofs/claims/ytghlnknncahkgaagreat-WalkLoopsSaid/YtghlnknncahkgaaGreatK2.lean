/-
  Texts joined by program: CertL PairM Jor Tab SetQ.
-/
import Derived.Test.YtghlnknncahkgaaGreatK1
import Derived.Laws.OwnMore
import Derived.Deep.QuietTactic
import Derived.BigQuiet
import Derived.Deep.AppendSrc
import Derived.Laws.IdiomCopy
/-
  certify.lonely, by walking its text.
-/
namespace Go.Proofs.YtghlnknncahkgaaGreat
open Go.RowKit

/-- Which numbers are marked. -/
def BitsOf (bs : List Bool) (m : Nat) (S : List Int) : Prop := bs.length = m ∧ ∀ v, v < m → (bs[v]? = some true ↔ (v : Int) ∈ S)
def bools (bs : List Bool) : List Value := bs.map Value.bool
theorem BitsOf.none_ (m : Nat) : BitsOf (List.replicate m false) m [] := ⟨by simp, fun v hv => by simp [hv]⟩
theorem BitsOf.mark {bs : List Bool} {m : Nat} {S : List Int} (h : BitsOf bs m S) {v : Nat} (hv : v < m) : BitsOf (bs.set v true) m (S ++ [(v : Int)]) := by
  obtain ⟨h1, h2⟩ := h
  refine ⟨by simp [h1], fun u hu => ?_⟩
  rw [List.getElem?_set]
  by_cases e : v = u
  · subst e
    simp [h1, hv]
  · rw [if_neg e, h2 u hu]
    simp
    omega
theorem bools_set (bs : List Bool) (v : Nat) (b : Bool) : (bools bs).set v (.bool b) = bools (bs.set v b) := by simp [bools, List.map_set]
theorem infoBool : (Tryz.prog.info? 4).map (fun i => (i.zero, i.size, i.bytes)) = some (some (.bool false), 1, 1) := by kernel_rfl
theorem made_bools (m : Nat) : (madeCells (Value.bool false).cells (m * 1)).toList = bools (List.replicate m false) := by
  rw [Nat.mul_one]
  show (madeCells #[Value.bool false] m).toList = _
  rw [toList_madeCells_one]
  simp [bools]

set_option maxRecDepth 100000 in
set_option maxHeartbeats 2000000 in
theorem lonely_any (N : Int) (v : Value) (T : List Tr) (w : World) (h : TrisRd w v T) (hN : 0 ≤ N ∧ N ≤ 4096) (hl : T.length ≤ 8192) (hin : ∀ t ∈ T, in3 N t) : Calls Tryz.prog 98 #[.agg #[.int .i64 N, v]] w fun e w' => ∃ v', e = .returned v' ∧ WitsIs w' w.heap.size v' 5 (∀ u : Int, inR N u → u ∈ flatT T) ∧ Below w.heap.size w w' := by
  obtain ⟨i1, hi', hy0, hy1, hy2⟩ := info_parts infoWit
  obtain ⟨i2, hj', hz0, hz1, hz2⟩ := info_parts infoBool
  obtain ⟨a, c, rfl, hc1, hc2, hr⟩ := h
  have HR := Lib.hid hr
  obtain ⟨hN0, hN1⟩ := hN
  obtain ⟨m, rfl⟩ : ∃ m : Nat, N = m := ⟨N.toNat, by omega⟩
  have b1 := Blk.new w 24 #[.int .i64 m, .slice a T.length c]
  obtain ⟨l0, x0, -, x1, -⟩ := b1.two
  have hB0 : Below w.heap.size w (w.alloc (.cells #[.int .i64 m, .slice a T.length c] 24)) := (Below.refl _ _).alloc (Nat.le_refl _) _
  have HIN := Lib.hid hin
  obtain ⟨n, hn⟩ : ∃ n, T.length = n := ⟨_, rfl⟩
  rw [hn] at hl hc1 x0 x1 hB0 b1 l0 ⊢
  have HN := Lib.hid hn
  have ix0 := @index_t0
  have ix1 := @index_t1
  have ix2 := @index_t2
  clear hr hn hin
  go_enter Tryz.func98, Tryz.ntmps98
  go_wp2_with (at_make; refine wpList_make_full _ rfl (.tmp 12) (.tmp 12) 122 rfl w.heap.size 4 i2 _ 1 Tryz.underlying122 hj' hz0 hz1 .i64 .i64 _ _ m rfl rfl rfl rfl (by rw [hz2]; omega) (by unfold maxLen; omega) (by rw [size_alloc']; omega) ?_; intro w1 hr1 hg1; have k1 := b1.grown hg1 (by simp); obtain ⟨l1, y0, -, y1, -⟩ := k1.two)
  rw [made_bools, size_alloc'] at hr1
  have hB1 : Below w.heap.size w w1 := hB0.grown hg1 (by rw [size_alloc']; omega) (fun j e => by cases e)
  clear b1 x0 x1 l0 hg1 hB0
  go_loopw [17] (fun i wr => ∃ (k : Nat) (bs : List Bool), k ≤ n ∧ i = .int .i64 k ∧ wr.ownsRow w.heap.size 4 1 (.slice (some ⟨w.heap.size + 1, 0, none⟩) m m) m (bools bs) ∧ BitsOf bs m (flatT (T.take k)) ∧ Below w.heap.size w wr) (fun i _ => n - (intOf i).toNat)
  case atStart => exact ⟨0, _, Nat.zero_le _, rfl, hr1, BitsOf.none_ m, hB1⟩
  case round =>
    clear hr1 hB1 k1 l1 y0 y1
    obtain ⟨k, bs, hk, rfl, hrow, hbs, hB⟩ := hrel
    by_cases hlt : k < n
    · obtain ⟨t, ht⟩ : ∃ t, T[k]? = some t := ⟨T[k]'(by have := HN.out; omega), List.getElem?_eq_getElem _⟩
      obtain ⟨x, y, z⟩ := t
      obtain ⟨⟨ix1', ix2'⟩, ⟨iy1, iy2⟩, ⟨iz1, iz2⟩⟩ := HIN.out _ (List.mem_of_getElem? ht)
      simp only at ix1' ix2' iy1 iy2 iz1 iz2
      obtain ⟨x, rfl⟩ : ∃ q : Nat, x = q := ⟨x.toNat, by omega⟩
      obtain ⟨y, rfl⟩ : ∃ q : Nat, y = q := ⟨y.toNat, by omega⟩
      obtain ⟨z, rfl⟩ : ∃ q : Nat, z = q := ⟨z.toNat, by omega⟩
      obtain ⟨b, o, rfl, hbl, s0, s1, s2⟩ := HR.out k x y z ht
      have s0' := (hB.cell (p := ⟨b, _, none⟩) hbl).trans s0
      have s1' := (hB.cell (p := ⟨b, _, none⟩) hbl).trans s1
      have s2' := (hB.cell (p := ⟨b, _, none⟩) hbl).trans s2
      have Hts : Hid (flatT (T.take (k + 1)) = flatT (T.take k) ++ [(x : Int), (y : Int), (z : Int)]) := by
        refine Lib.hid ?_
        obtain ⟨hk', he⟩ := List.getElem?_eq_some_iff.1 ht
        rw [List.take_succ_eq_append_getElem hk', he]
        simp [flatT]
      have hsz := hB.size
      have hk3 : (k : Int) < (n : Int) := by omega
      have hk0 : (0 : Int) ≤ (k : Int) := by omega
      clear ht s0 s1 s2
      go_wp2
      rename World => wA
      go_loopw [22] (fun i wq => ∃ (j : Nat) (bs : List Bool), j ≤ 3 ∧ i = .int .i64 j ∧ wq.ownsRow w.heap.size 4 1 (.slice (some ⟨w.heap.size + 1, 0, none⟩) m m) m (bools bs) ∧ BitsOf bs m (flatT (T.take k) ++ [(x : Int), (y : Int), (z : Int)].take j) ∧ Below w.heap.size w wq) (fun i _ => 3 - (intOf i).toNat)
      case atStart => exact ⟨0, _, by omega, rfl, hrow.alloc _, by simpa using hbs, hB.alloc hB.size _⟩
      case round =>
        clear hrow hbs hB
        rename World => hrelW
        obtain ⟨j, cs, hj, rfl, hrow, hbs, hB⟩ := hrel
        have hj4 : j = 0 ∨ j = 1 ∨ j = 2 ∨ j = 3 := by omega
        have hfr := fun i => hrow.frozenAt i
        have hsz' := hB.size
        rcases hj4 with rfl | rfl | rfl | rfl
        · obtain ⟨cb, hcb⟩ : ∃ cb, cs[x]? = some cb := ⟨cs[x]'(by rw [hbs.1]; omega), List.getElem?_eq_getElem _⟩
          have hc : hrelW.cell? ⟨w.heap.size + 1, x, none⟩ = some (.bool cb) := by rw [hrow.cellAt x (by omega), bools, List.getElem?_map, hcb]; rfl
          have hf := hrow.frozenAt x
          have hv3 : (x : Int) < (m : Int) := by omega
          clear hfr hcb
          go_wp2
          go_roundw
          case measure => simp [intOf]
          case rel => exact ⟨1, cs.set x true, by omega, by simp, by rw [← bools_set]; exact (hrow.stored x _).1, by simpa using hbs.mark (v := x) (by omega), hB.grown (hrow.stored x _).2 hsz' (fun j e => by cases e; omega)⟩
        · obtain ⟨cb, hcb⟩ : ∃ cb, cs[y]? = some cb := ⟨cs[y]'(by rw [hbs.1]; omega), List.getElem?_eq_getElem _⟩
          have hc : hrelW.cell? ⟨w.heap.size + 1, y, none⟩ = some (.bool cb) := by rw [hrow.cellAt y (by omega), bools, List.getElem?_map, hcb]; rfl
          have hf := hrow.frozenAt y
          have hv3 : (y : Int) < (m : Int) := by omega
          clear hfr hcb
          go_wp2
          go_roundw
          case measure => simp [intOf]
          case rel => exact ⟨2, cs.set y true, by omega, by simp, by rw [← bools_set]; exact (hrow.stored y _).1, by simpa using hbs.mark (v := y) (by omega), hB.grown (hrow.stored y _).2 hsz' (fun j e => by cases e; omega)⟩
        · obtain ⟨cb, hcb⟩ : ∃ cb, cs[z]? = some cb := ⟨cs[z]'(by rw [hbs.1]; omega), List.getElem?_eq_getElem _⟩
          have hc : hrelW.cell? ⟨w.heap.size + 1, z, none⟩ = some (.bool cb) := by rw [hrow.cellAt z (by omega), bools, List.getElem?_map, hcb]; rfl
          have hf := hrow.frozenAt z
          have hv3 : (z : Int) < (m : Int) := by omega
          clear hfr hcb
          go_wp2
          go_roundw
          case measure => simp [intOf]
          case rel => exact ⟨3, cs.set z true, by omega, by simp, by rw [← bools_set]; exact (hrow.stored z _).1, by simpa using hbs.mark (v := z) (by omega), hB.grown (hrow.stored z _).2 hsz' (fun j e => by cases e; omega)⟩
        · have hbs' : BitsOf cs m (flatT (T.take (k + 1))) := by rw [Hts.out]; exact hbs
          go_wp2
          go_roundw
          case measure => simp [intOf]; omega
          case rel => exact ⟨k + 1, cs, by omega, by go_num, hrow, hbs', hB⟩
    · obtain rfl : k = n := by omega
      have hnn := HN.out
      rw [List.take_of_length_le (by omega)] at hbs
      have hb1 := Lib.hid hbs
      go_wp2
      clear ix0 ix1 ix2
      rename World => wB
      go_loopw [8, 32] (fun v3 i wr => ∃ (j : Nat) (v' : Value) (ws : List Tr), v' = v3 ∧ j ≤ m ∧ i = .int .i64 j ∧ wr.ownsRow w.heap.size 74 3 v' ws.length (ws3 ws) ∧ ws.length ≤ j ∧ (ws = [] ↔ ∀ u : Nat, u < j → (u : Int) ∈ flatT T) ∧ (∀ x ∈ ws, x.1 = 5) ∧ wr.ownsRow w.heap.size 4 1 (.slice (some ⟨w.heap.size + 1, 0, none⟩) m m) m (bools bs) ∧ Below w.heap.size w wr) (fun _ i _ => m - (intOf i).toNat)
      case atStart => exact ⟨0, _, [], rfl, Nat.zero_le _, rfl, World.ownsRow_nil _ _ _ _, Nat.le_refl _, by simp, by simp, hrow, hB⟩
      case round =>
        clear hrow hB
        obtain ⟨j, v', ws, rfl, hj, rfl, hrw, hwl, hws, hkd, hrow, hB⟩ := hrel
        rename World => wC
        have Hws := Lib.hid hws
        have hsz := hB.size
        clear hws
        by_cases hjm : j < m
        · obtain ⟨cb, hcb⟩ : ∃ cb, bs[j]? = some cb := ⟨bs[j]'(by rw [hb1.out.1]; omega), List.getElem?_eq_getElem _⟩
          have hc : wC.cell? ⟨w.heap.size + 1, j, none⟩ = some (.bool cb) := by rw [hrow.cellAt j (by omega), bools, List.getElem?_map, hcb]; rfl
          have Hcb := Lib.hid (hb1.out.2 j hjm)
          have hv3 : (j : Int) < (m : Int) := by omega
          have hv0 : (0 : Int) ≤ (j : Int) := by omega
          have c3 : ws.length + 1 ≤ maxLen := by unfold maxLen; omega
          have c4 : (ws.length + 1) * 24 ≤ 140737488355328 := by omega
          have HNE := Lib.hid (own_own_ne hrow hrw (by decide))
          cases cb
          · have hn' : Hid (¬ (j : Int) ∈ flatT T) := Lib.hid (fun e => by have := Hcb.out.2 e; rw [hcb] at this; cases this)
            clear hcb
            go_wp2_with (at_builtin; refine wpList_append_lies _ rfl (.tmp 39) (.tmp 42) 134 rfl w.heap.size 74 i1 _ 3 24 Tryz.underlying134 hi' hy0 hy1 hy2 rfl (by decide) _ _ _ rfl (hrw.alloc _) ⟨wC.heap.size, 0, none⟩ 1 1 [.int .i64 5, .int .i64 j, .int .i64 0] rfl rfl (World.news_of_block (heap_alloc_new _ _)) (by simp [Value.oneCell']) (by decide) c3 c4 (by rw [size_alloc']; omega) (wC.heap.size + 1) (by simp) ?_; intro g4 cap4 W4 hr4 hg4 _ _)
            go_roundw
            case measure => simp [intOf]; omega
            case rel =>
              refine ⟨j + 1, _, ws ++ [(5, (j : Int), 0)], rfl, by omega, by go_num, by rw [ws3_snoc]; simpa using hr4, by simp; omega, ?_, snoc_kind hkd rfl, (hrow.alloc _).kept hg4 HNE.out, hB.grown (gGrown (World.grownBy_alloc _ _ _) hg4 (row := v'.ownBlock) (fun _ e => .inl e)) hsz (fun j e => (hrw.lt j e).1)⟩
              constructor
              · intro h; simp at h
              · intro h; exact absurd (h j (by omega)) hn'.out
          · have hn' : Hid ((j : Int) ∈ flatT T) := Lib.hid (Hcb.out.1 hcb)
            clear hcb
            go_wp2
            go_roundw
            case measure => simp [intOf]; omega
            case rel =>
              refine ⟨j + 1, _, ws, rfl, by omega, by go_num, hrw, by omega, ?_, hkd, hrow, hB⟩
              rw [Hws.out]
              constructor
              · intro h u hu
                by_cases e : u = j
                · rw [e]; exact hn'.out
                · exact h u (by omega)
              · intro h u hu
                exact h u (by omega)
        · obtain rfl : j = m := by omega
          have Hrow := Lib.hid hrw
          have HB := Lib.hid hB
          clear hrow hB hrw
          go_wp2
          go_ret
          refine ⟨_, rfl, ⟨ws, Hrow.out, ?_, hkd, by omega⟩, HB.out⟩
          rw [Hws.out]
          constructor
          · intro h u hu
            obtain ⟨q, rfl⟩ : ∃ q : Nat, u = q := ⟨u.toNat, by have := hu.1; omega⟩
            exact h q (by have := hu.2; omega)
          · intro h u hu
            exact h u ⟨by omega, by omega⟩
end Go.Proofs.YtghlnknncahkgaaGreat
/-
  What certify.pairs holds: a map of rows by triples, a map of bools by pairs, its witnesses; and the laws of one operation at a time.
-/
namespace Go.Proofs.YtghlnknncahkgaaGreat
open Go.RowKit Go.Maps

theorem arrPair : WideMaps.ArrKey Tryz.prog 107 3 2 := ⟨Tryz.underlying107, by kernel_rfl, by kernel_rfl, by kernel_rfl⟩
theorem arrThree : WideMaps.ArrKey Tryz.prog 71 3 3 := ⟨Tryz.underlying71, by kernel_rfl, by kernel_rfl, by kernel_rfl⟩
theorem types_succ : ∃ m, Tryz.prog.types.size = m + 1 := ⟨Tryz.prog.types.size - 1, by kernel_rfl⟩
theorem zero_bool (w : World) : (zeroValue 4).run Tryz.prog w = .ok (.bool false) w := by kernel_rfl
theorem zero_ints (w : World) : (zeroValue 28).run Tryz.prog w = .ok (.slice none 0 0) w := by kernel_rfl
def triV (t : Tr) : Value := .agg #[.int .i64 t.1, .int .i64 t.2.1, .int .i64 t.2.2]
def pairV (e : Int × Int) : Value := .agg #[.int .i64 e.1, .int .i64 e.2]
theorem triV_inj {a b : Tr} (h : triV a = triV b) : a = b := by
  obtain ⟨a1, a2, a3⟩ := a
  obtain ⟨b1, b2, b3⟩ := b
  simpa [triV] using h

section
variable {P : Program} {k e : TypeId} {w : World} {b n : Nat} {seen : List Value}
theorem MapB.obj (h : MapB P k e w b n seen) : ∃ es clock, w.heap[b]? = some (.map es clock) := by
  obtain ⟨D, ⟨es, clock, hb, _⟩, _⟩ := h
  exact ⟨es, clock, hb⟩
theorem Grp.obj {base : Nat} {f : Value → List Int} (h : Grp P k base e w b f) : ∃ es clock, w.heap[b]? = some (.map es clock) := by
  obtain ⟨es, clock, hb, _⟩ := h
  exact ⟨es, clock, hb⟩
theorem row_map_ne {base' n' s : Nat} {e' : TypeId} {v : Value} {xs : List Value} (hr : w.ownsRow base' e' s v n' xs) (hm : ∃ es clock, w.heap[b]? = some (.map es clock)) : v.ownBlock = none ∨ v.ownBlock ≠ some b := by
  obtain ⟨es, clock, hb⟩ := hm
  rcases hr.2 with ⟨rfl, _⟩ | ⟨g, cap, cur, rfl, _, hh, _⟩
  · exact .inl rfl
  · refine .inr (fun e0 => ?_)
    have : g = b := by simpa [Value.ownBlock] using e0
    subst this
    rw [hh] at hb
    cases hb
theorem map_row_ne {base' n' s : Nat} {e' : TypeId} {v : Value} {xs : List Value} (hr : w.ownsRow base' e' s v n' xs) (hm : ∃ es clock, w.heap[b]? = some (.map es clock)) : some b ≠ v.ownBlock := by
  rcases row_map_ne hr hm with h | h
  · rw [h]; simp
  · exact fun e0 => h e0.symm
theorem wpList_lookupB {ops : Array Oper} {rest : List Oper} {o : Oper} {a : Act} {Q : Exit → Act → World → Prop} (h : MapB P k e w b n seen)
    (hg : o.guard = none) (m x : Operand) (t : TypeId) (hop : o.op = Op.lookup t m x false) (K : Keyed P k) (ht : P.underlying t = some (.map k e)) (he : P.underlying e = some .bool) (hz : (zeroValue e).run P w = .ok (.bool false) w)
    (hm : a.eval m = .map (some b)) (key : Value) (hx : a.eval x = key) {kl : Lit} (hkey : keyOf P k key = some kl)
    (hK : ∀ r : Bool, (r = true ↔ key ∈ seen) → wpList P ops Q rest (a.put o.dst (.bool r)) w) : wpList P ops Q (o :: rest) a w := by
  refine wpList_plain hg fun K' hK' => ?_
  obtain ⟨r, hrun, hi⟩ := h.look K ht he hz hkey
  unfold Oper.wp
  simp [execOp, hop, hm, hx, hrun, Result.andThen]
  exact hK' _ _ (hK r hi)
theorem wpList_storeB {ops : Array Oper} {rest : List Oper} {o : Oper} {a : Act} {Q : Exit → Act → World → Prop} (h : MapB P k e w b n seen)
    (hg : o.guard = none) (m x v : Operand) (t : TypeId) (hop : o.op = Op.mapUpdate t m x v) (K : Keyed P k) (ht : P.underlying t = some (.map k e)) (he : P.underlying e = some .bool) (hn : n < maxLen)
    (hm : a.eval m = .map (some b)) (key : Value) (hx : a.eval x = key) (hv : a.eval v = .bool true) {kl : Lit} (hkey : keyOf P k key = some kl)
    (hK : ∀ w', MapB P k e w' b (n + 1) (key :: seen) → w.grownBy w' (some b) → wpList P ops Q rest (a.put o.dst undef) w') : wpList P ops Q (o :: rest) a w := by
  refine wpList_plain hg fun K' hK' => ?_
  obtain ⟨w', hrun, r1, r2⟩ := h.store K ht he hn hkey
  unfold Oper.wp
  simp [execOp, hop, hm, hx, hv, hrun, Result.andThen]
  exact hK' _ _ (hK w' r1 r2)
theorem wpList_entryStore {ops : Array Oper} {rest : List Oper} {o : Oper} {a : Act} {Q : Exit → Act → World → Prop}
    (hg : o.guard = none) (m s v : Operand) (t : TypeId) (hop : o.op = Op.entryStore t m s v) {vm vs vv : Value} (hm : a.eval m = vm) (hs : a.eval s = vs) (hv : a.eval v = vv) {w' : World}
    (hrun : (Instr.entryStore t vm vs vv).run P w = .ok () w') (hK : wpList P ops Q rest (a.put o.dst undef) w') : wpList P ops Q (o :: rest) a w := by
  refine wpList_plain hg fun K' hK' => ?_
  unfold Oper.wp
  simp [execOp, hop, hm, hs, hv, hrun, Result.andThen]
  exact hK' _ _ hK
end

/-- What is held. H: the world's size at the start; f: the rows at each key; S: the pairs seen. -/
structure PairSt (w W : World) (kind : Int) (f : Value → List Int) (S : List Value) (v : Value) (ws : List Tr) : Prop where
  g : Grp Tryz.prog 71 (w.heap.size + 3) 3 W (w.heap.size + 1) f
  s : MapB Tryz.prog 107 4 W (w.heap.size + 2) ws.length S
  r : W.ownsRow w.heap.size 74 3 v ws.length (ws3 ws)
  b : Below w.heap.size w W
  c : ws = [] → S = []
  k : ∀ x ∈ ws, x.1 = kind
section
variable {w W : World} {kind : Int} {f : Value → List Int} {S : List Value} {v : Value} {ws : List Tr}
theorem PairSt.alloc (h : PairSt w W kind f S v ws) (o : Obj) : PairSt w (W.alloc o) kind f S v ws :=
  ⟨h.g.alloc o, h.s.kept (World.grownBy_alloc W o none) (by simp), h.r.alloc o, h.b.alloc h.b.size o, h.c, h.k⟩
theorem PairSt.set (h : PairSt w W kind f S v ws) {g : Nat} {t : TypeId} {cs : Array Value} (hb : Blk W g t cs) (hne : 3 ≠ t) (hne' : 74 ≠ t) (hg : w.heap.size ≤ g) (i : Nat) (u : Value) : PairSt w (W.setCell ⟨g, i, none⟩ u) kind f S v ws := by
  have hgr : W.grownBy (W.setCell ⟨g, i, none⟩ u) (some g) := gSet (World.grownBy.refl _ _) _ _ (.inl rfl)
  have nm : ∀ {b' : Nat}, (∃ es clock, W.heap[b']? = some (.map es clock)) → some b' ≠ some g := fun {b'} hm e0 => by
    obtain ⟨es, clock, hm⟩ := hm
    cases e0
    rw [show W.heap[g]? = _ from hb] at hm
    cases hm
  exact ⟨h.g.kept hgr (nm h.g.obj) (fun _ _ _ hv => .inr (own_blk_ne hv hb hne)), h.s.kept hgr (nm h.s.obj), h.r.kept hgr (.inr (own_blk_ne h.r hb hne')), h.b.grown hgr h.b.size (fun j e => by cases e; exact hg), h.c, h.k⟩
theorem PairSt.below {W' : World} (h : PairSt w W kind f S v ws) (hb : Below W.heap.size W W') : PairSt w W' kind f S v ws :=
  ⟨h.g.grown (grown_of_below hb none), h.s.kept (grown_of_below hb none) (by simp), h.r.kept (grown_of_below hb none) (by cases e0 : v.ownBlock <;> simp), h.b.trans (hb.mono h.b.size), h.c, h.k⟩
/-- A pair is marked, and its witness written. -/
theorem PairSt.mark {W1 W2 : World} {o : Obj} {x : Tr} {v' p : Value} (h : PairSt w W kind f S v ws) (hm : MapB Tryz.prog 107 4 W1 (w.heap.size + 2) (ws.length + 1) (p :: S)) (hg : W.grownBy W1 (some (w.heap.size + 2)))
    (hr : W2.ownsRow w.heap.size 74 3 v' (ws.length + 1) (ws3 (ws ++ [x]))) (hg2 : (W1.alloc o).grownBy W2 v.ownBlock) (hx : x.1 = kind) : PairSt w W2 kind f (p :: S) v' (ws ++ [x]) := by
  have hr1 := h.r.kept hg (row_map_ne h.r h.s.obj)
  obtain ⟨es, clock, hob⟩ := h.s.obj
  have g1 := h.g.map hob (by omega) hg
  have hall := gGrown (World.grownBy_alloc W1 o v.ownBlock) hg2 (row := v.ownBlock) (fun _ e => .inl e)
  exact ⟨g1.row hr1 (by decide) hall, by rw [List.length_append]; exact hm.kept hall (map_row_ne hr1 hm.obj), by rw [List.length_append]; exact hr, (h.b.grown hg h.b.size (fun j e => by cases e; omega)).grown hall (Nat.le_trans h.b.size hg.size) (fun j e => (hr1.lt j e).1), by simp, snoc_kind h.k hx⟩
theorem PairSt.markRow {W1 W2 : World} {o : Obj} {base' s' n' : Nat} {e' : TypeId} {u : Value} {xs : List Value} (h : PairSt w W kind f S v ws) (hg : W.grownBy W1 (some (w.heap.size + 2)))
    (hg2 : (W1.alloc o).grownBy W2 v.ownBlock) (hne : e' ≠ 74) (hu : W.ownsRow base' e' s' u n' xs) : W2.ownsRow base' e' s' u n' xs := by
  have hr1 := h.r.kept hg (row_map_ne h.r h.s.obj)
  have hall := gGrown (World.grownBy_alloc W1 o v.ownBlock) hg2 (row := v.ownBlock) (fun _ e => .inl e)
  have u1 := hu.kept hg (row_map_ne hu h.s.obj)
  exact u1.kept hall (own_own_ne u1 hr1 hne)
theorem PairSt.markBlk {W1 W2 : World} {o : Obj} {g : Nat} {t : TypeId} {cs : Array Value} (h : PairSt w W kind f S v ws) (hg : W.grownBy W1 (some (w.heap.size + 2)))
    (hg2 : (W1.alloc o).grownBy W2 v.ownBlock) (hne : 74 ≠ t) (hb : Blk W g t cs) : Blk W2 g t cs := by
  have hr1 := h.r.kept hg (row_map_ne h.r h.s.obj)
  have hall := gGrown (World.grownBy_alloc W1 o v.ownBlock) hg2 (row := v.ownBlock) (fun _ e => .inl e)
  have b1 := hb.grown hg (fun e0 => by
    obtain ⟨es, clock, ho⟩ := h.s.obj
    cases e0
    rw [show W.heap[w.heap.size + 2]? = _ from hb] at ho
    cases ho)
  exact b1.grown hall (fun e0 => own_blk_ne hr1 b1 hne e0.symm)
/-- A number is put at a key. -/
theorem PairSt.put {W1 W2 W3 : World} {v0 : Value} {f' : Value → List Int} (h : PairSt w W kind f S v ws) (h1 : W.grownBy W1 (some (w.heap.size + 1))) (hg1 : Grp Tryz.prog 71 (w.heap.size + 3) 3 W1 (w.heap.size + 1) f) {n0 : Nat} {xs0 : List Value} (hr0 : W1.ownsRow (w.heap.size + 3) 3 1 v0 n0 xs0) (h2 : W1.grownBy W2 v0.ownBlock) (h3 : W2.grownBy W3 (some (w.heap.size + 1))) (hg : Grp Tryz.prog 71 (w.heap.size + 3) 3 W3 (w.heap.size + 1) f') : PairSt w W3 kind f' S v ws := by
  have s1 := h.s.kept h1 (by simp)
  have r1 := h.r.kept h1 (row_map_ne h.r h.g.obj)
  have s2 := s1.kept h2 (map_row_ne hr0 s1.obj)
  have r2 := r1.kept h2 (own_own_ne r1 hr0 (by decide))
  have hm1 : ∃ es clock, W2.heap[w.heap.size + 1]? = some (.map es clock) := by
    obtain ⟨es, clock, ho⟩ := hg1.obj
    exact ⟨es, clock, (h2.block _ hg1.lt (map_row_ne hr0 hg1.obj)).trans ho⟩
  exact ⟨hg, s2.kept h3 (by simp), r2.kept h3 (row_map_ne r2 hm1), ((h.b.grown h1 h.b.size (fun j e => by cases e; omega)).grown h2 (Nat.le_trans h.b.size h1.size) (fun j e => by have := (hr0.lt j e).1; omega)).grown h3 (Nat.le_trans h.b.size (Nat.le_trans h1.size h2.size)) (fun j e => by cases e; omega), h.c, h.k⟩
theorem PairSt.putRow {W1 W2 W3 : World} {v0 u : Value} {base' s' n' : Nat} {e' : TypeId} {xs : List Value} (h : PairSt w W kind f S v ws) (h1 : W.grownBy W1 (some (w.heap.size + 1))) (hg1 : Grp Tryz.prog 71 (w.heap.size + 3) 3 W1 (w.heap.size + 1) f) {n0 : Nat} {xs0 : List Value} (hr0 : W1.ownsRow (w.heap.size + 3) 3 1 v0 n0 xs0) (h2 : W1.grownBy W2 v0.ownBlock) (h3 : W2.grownBy W3 (some (w.heap.size + 1))) (hne : e' ≠ 3) (hu : W.ownsRow base' e' s' u n' xs) : W3.ownsRow base' e' s' u n' xs := by
  have u1 := hu.kept h1 (row_map_ne hu h.g.obj)
  have u2 := u1.kept h2 (own_own_ne u1 hr0 hne)
  have hm1 : ∃ es clock, W2.heap[w.heap.size + 1]? = some (.map es clock) := by
    obtain ⟨es, clock, ho⟩ := hg1.obj
    exact ⟨es, clock, (h2.block _ hg1.lt (map_row_ne hr0 hg1.obj)).trans ho⟩
  exact u2.kept h3 (row_map_ne u2 hm1)
end
end Go.Proofs.YtghlnknncahkgaaGreat
/-
  Jordan's law, in plain words: on a closed connected surface of corners with V - E + F = 2 each cycle of edges parts the triangles in two. No program in sight.
-/
namespace Go.Proofs.YtghlnknncahkgaaGreat
namespace Jor

/-! The exclusive or of a test over a list. -/
def xs (l : List Nat) (p : Nat → Bool) : Bool := l.foldr (fun c b => xor (p c) b) false
section
variable {l m : List Nat} {p q : Nat → Bool}
theorem xs_nil : xs [] p = false := rfl
theorem xs_cons {a : Nat} : xs (a :: l) p = xor (p a) (xs l p) := rfl
theorem xs_perm (h : l.Perm m) : xs l p = xs m p := by
  induction h with
  | nil => rfl
  | cons x _ ih => rw [xs_cons, xs_cons, ih]
  | swap x y l =>
    simp only [xs_cons]
    cases p x <;> cases p y <;> simp
  | trans _ _ ih1 ih2 => exact ih1.trans ih2
theorem xs_xor : xs l (fun c => xor (p c) (q c)) = xor (xs l p) (xs l q) := by
  induction l with
  | nil => rfl
  | cons a l ih =>
    rw [xs_cons, xs_cons, xs_cons, ih]
    cases p a <;> cases q a <;> cases xs l p <;> cases xs l q <;> rfl
theorem xs_map (h : Nat → Nat) : xs (l.map h) p = xs l (fun c => p (h c)) := by
  induction l with
  | nil => rfl
  | cons a l ih => rw [List.map_cons, xs_cons, xs_cons, ih]
theorem xs_congr (h : ∀ c ∈ l, p c = q c) : xs l p = xs l q := by
  induction l with
  | nil => rfl
  | cons a l ih =>
    rw [xs_cons, xs_cons, ih (fun c hc => h c (List.mem_cons_of_mem _ hc)), h a (List.mem_cons_self ..)]
theorem xs_false (h : ∀ c ∈ l, p c = false) : xs l p = false := by
  induction l with
  | nil => rfl
  | cons a l ih =>
    rw [xs_cons, ih (fun c hc => h c (List.mem_cons_of_mem _ hc)), h a (List.mem_cons_self ..)]
    rfl
theorem xs_one {a : Nat} (hn : l.Nodup) (ha : a ∈ l) (h : ∀ c ∈ l, c ≠ a → p c = false) : xs l p = p a := by
  induction l with
  | nil => cases ha
  | cons b l ih =>
    rw [List.nodup_cons] at hn
    rw [xs_cons]
    by_cases e : b = a
    · subst e
      rw [xs_false (fun c hc => h c (List.mem_cons_of_mem _ hc) (fun e => hn.1 (by rw [← e]; exact hc)))]
      simp
    · rw [h b (List.mem_cons_self ..) e, ih hn.2 (by rcases List.mem_cons.1 ha with h1 | h1; exact absurd h1.symm e; exact h1) (fun c hc => h c (List.mem_cons_of_mem _ hc))]
      simp
end

/-! Lists without doubles. -/
theorem nodup_le {l m : List Nat} (hn : l.Nodup) (hs : ∀ x ∈ l, x ∈ m) : l.length ≤ m.length := by
  induction l generalizing m with
  | nil => exact Nat.zero_le _
  | cons a l ih =>
    rw [List.nodup_cons] at hn
    have ha := hs a (List.mem_cons_self ..)
    have h1 := ih (m := m.erase a) hn.2 (fun x hx => (List.mem_erase_of_ne (fun e => hn.1 (by rw [← e]; exact hx))).2 (hs x (List.mem_cons_of_mem _ hx)))
    have h2 := List.length_erase_of_mem ha
    have h3 := List.length_pos_of_mem ha
    simp only [List.length_cons]
    omega
theorem nodup_all {l : List Nat} {n : Nat} (hn : l.Nodup) (hs : ∀ x ∈ l, x < n) (hl : n ≤ l.length) : ∀ x, x < n → x ∈ l := by
  intro x hx
  refine Classical.byContradiction fun hne => ?_
  have h1 : (x :: l).Nodup := List.nodup_cons.2 ⟨hne, hn⟩
  have h2 := nodup_le (m := List.range n) h1 (fun y hy => by
    rw [List.mem_range]
    rcases List.mem_cons.1 hy with rfl | hy
    · exact hx
    · exact hs y hy)
  simp only [List.length_cons, List.length_range] at h2
  omega
theorem missing {l : List Nat} {n : Nat} (hl : l.length < n) : ∃ x, x < n ∧ x ∉ l := by
  refine Classical.byContradiction fun hne => ?_
  have h1 := nodup_le (l := List.range n) (m := l) List.nodup_range (fun x hx => Classical.byContradiction fun h => hne ⟨x, List.mem_range.1 hx, h⟩)
  simp only [List.length_range] at h1
  omega
theorem perm_map_range {n : Nat} (h k : Nat → Nat) (h1 : ∀ c, c < n → h c < n) (h2 : ∀ c, c < n → k c < n) (h3 : ∀ c, c < n → k (h c) = c) (h4 : ∀ c, c < n → h (k c) = c) : ((List.range n).map h).Perm (List.range n) := by
  have hn : ((List.range n).map h).Nodup := by
    rw [List.nodup_iff_pairwise_ne, List.pairwise_map]
    refine List.Pairwise.imp_of_mem ?_ (List.nodup_iff_pairwise_ne.1 (List.nodup_range (n := n)))
    intro a b ha hb hab e
    rw [List.mem_range] at ha hb
    exact hab (by rw [← h3 a ha, ← h3 b hb, e])
  rw [List.perm_iff_count]
  intro a
  rw [hn.count, (List.nodup_range (n := n)).count]
  have : a ∈ (List.range n).map h ↔ a ∈ List.range n := by
    rw [List.mem_map, List.mem_range]
    constructor
    · rintro ⟨b, hb, rfl⟩
      exact h1 b (List.mem_range.1 hb)
    · intro ha
      exact ⟨k a, List.mem_range.2 (h2 a ha), h4 a ha⟩
  simp only [this]

/-! Corners -/
def nx (c : Nat) : Nat := c - c % 3 + (c + 1) % 3
def pv (c : Nat) : Nat := c - c % 3 + (c + 2) % 3
theorem nx_div (c : Nat) : nx c / 3 = c / 3 := by unfold nx; omega
theorem pv_div (c : Nat) : pv c / 3 = c / 3 := by unfold pv; omega
theorem pv_nx (c : Nat) : pv (nx c) = c := by unfold nx pv; omega
theorem nx_pv (c : Nat) : nx (pv c) = c := by unfold nx pv; omega
theorem nx_nx (c : Nat) : nx (nx c) = pv c := by unfold nx pv; omega
theorem pv_pv (c : Nat) : pv (pv c) = nx c := by unfold nx pv; omega
theorem nx_ne (c : Nat) : nx c ≠ c := by unfold nx; omega
theorem pv_ne (c : Nat) : pv c ≠ c := by unfold pv; omega
theorem nx_lt {F c : Nat} (h : c < 3 * F) : nx c < 3 * F := by unfold nx; omega
theorem pv_lt {F c : Nat} (h : c < 3 * F) : pv c < 3 * F := by unfold pv; omega

/-- A closed surface of F triangles and N vertices; across each corner is one. -/
structure Closed (F N : Nat) (opp vert : Nat → Nat) : Prop where
  lt : ∀ c, c < 3 * F → opp c < 3 * F
  inv : ∀ c, c < 3 * F → opp (opp c) = c
  apart : ∀ c, c < 3 * F → opp c / 3 ≠ c / 3
  vn : ∀ c, c < 3 * F → vert (nx (opp c)) = vert (pv c)
  vp : ∀ c, c < 3 * F → vert (pv (opp c)) = vert (nx c)
  simple : ∀ c, c < 3 * F → vert (nx c) ≠ vert c
  vlt : ∀ c, c < 3 * F → vert c < N
  all : ∀ v, v < N → ∃ c, c < 3 * F ∧ vert c = v
  conn : ∀ S : Nat → Prop, S 0 → (∀ c, c < 3 * F → S (c / 3) → S (opp c / 3)) → ∀ t, t < F → S t
section
variable {F N : Nat} {opp vert : Nat → Nat}

/-- What a tree of gates goes over. -/
def tris : List Nat → List Nat
  | [] => [0]
  | g :: G => g / 3 :: tris G
def Grown (F : Nat) (opp : Nat → Nat) : List Nat → Prop
  | [] => True
  | g :: G => Grown F opp G ∧ g < 3 * F ∧ g / 3 ∉ tris G ∧ opp g / 3 ∈ tris G
theorem tris_length (G : List Nat) : (tris G).length = G.length + 1 := by
  induction G with
  | nil => rfl
  | cons g G ih => simp only [tris, List.length_cons, ih]
theorem tris_nodup : ∀ {G : List Nat}, Grown F opp G → (tris G).Nodup
  | [], _ => by simp [tris]
  | g :: G, h => List.nodup_cons.2 ⟨h.2.2.1, tris_nodup h.1⟩
theorem tris_zero : ∀ (G : List Nat), 0 ∈ tris G
  | [] => by simp [tris]
  | g :: G => List.mem_cons_of_mem _ (tris_zero G)
theorem tris_lt (hF : 0 < F) : ∀ {G : List Nat}, Grown F opp G → ∀ t ∈ tris G, t < F
  | [], _, t, ht => by
    simp only [tris, List.mem_singleton] at ht
    omega
  | g :: G, h, t, ht => by
    rcases List.mem_cons.1 ht with rfl | ht
    · have := h.2.1
      omega
    · exact tris_lt hF h.1 t ht
theorem gate_tris : ∀ {G : List Nat}, Grown F opp G → ∀ g ∈ G, g / 3 ∈ tris G ∧ opp g / 3 ∈ tris G ∧ g < 3 * F
  | g' :: G, h, g, hg => by
    rcases List.mem_cons.1 hg with rfl | hg
    · exact ⟨List.mem_cons_self .., List.mem_cons_of_mem _ h.2.2.2, h.2.1⟩
    · obtain ⟨a, b, c⟩ := gate_tris h.1 g hg
      exact ⟨List.mem_cons_of_mem _ a, List.mem_cons_of_mem _ b, c⟩
theorem grown_exists (K : Closed F N opp vert) (hF : 0 < F) : ∀ k, k < F → ∃ G, Grown F opp G ∧ G.length = k
  | 0, _ => ⟨[], trivial, rfl⟩
  | k + 1, hk => by
    obtain ⟨G, hG, hl⟩ := grown_exists K hF k (by omega)
    have hlen := tris_length G
    obtain ⟨x, hx, hxn⟩ := missing (l := tris G) (n := F) (by omega)
    have : ∃ c, c < 3 * F ∧ c / 3 ∈ tris G ∧ opp c / 3 ∉ tris G := by
      refine Classical.byContradiction fun hne => hxn ?_
      exact K.conn (fun t => t ∈ tris G) (tris_zero G) (fun c hc hm => Classical.byContradiction fun h => hne ⟨c, hc, hm, h⟩) x hx
    obtain ⟨c, h1, h2, h3⟩ := this
    exact ⟨opp c :: G, ⟨hG, K.lt c h1, h3, by rw [K.inv c h1]; exact h2⟩, by simp [hl]⟩

def crossed (opp : Nat → Nat) (G : List Nat) (c : Nat) : Prop := c ∈ G ∨ opp c ∈ G
theorem crossed_in (K : Closed F N opp vert) {G : List Nat} (hG : Grown F opp G) {c : Nat} (hc : c < 3 * F) (h : crossed opp G c) : c / 3 ∈ tris G := by
  rcases h with h | h
  · exact (gate_tris hG c h).1
  · have := (gate_tris hG _ h).2.1
    rwa [K.inv c hc] at this
/-- Along the edges that no gate crosses one comes to all vertices. -/
theorem walkable (K : Closed F N opp vert) : ∀ {G : List Nat}, Grown F opp G → ∀ S : Nat → Prop, (∃ c, c < 3 * F ∧ c / 3 ∈ tris G ∧ S (vert c)) →
    (∀ c, c < 3 * F → c / 3 ∈ tris G → ¬ crossed opp G c → (S (vert (nx c)) ↔ S (vert (pv c)))) → ∀ c, c < 3 * F → c / 3 ∈ tris G → S (vert c)
  | [], _, S, ⟨c0, h0, h1, h2⟩, hS, c, hc, hm => by
    have nc : ∀ c, ¬ crossed opp [] c := fun c h => by rcases h with h | h <;> cases h
    simp only [tris, List.mem_singleton] at h1 hm
    have e1 := hS c0 h0 (by simp [tris, h1]) (nc _)
    have e2 := hS (nx c0) (nx_lt h0) (by simp [tris, nx_div, h1]) (nc _)
    rw [nx_nx, pv_nx] at e2
    have : c = c0 ∨ c = nx c0 ∨ c = pv c0 := by unfold nx pv; omega
    rcases this with rfl | rfl | rfl
    · exact h2
    · exact e1.2 (e2.2 h2)
    · exact e2.2 h2
  | g :: G, hG, S, hx, hS, c, hc, hm => by
    obtain ⟨hG', g1, g2, g3⟩ := hG
    have u1 : ¬ crossed opp (g :: G) (nx g) := fun h => by
      rcases h with h | h
      · rcases List.mem_cons.1 h with h | h
        · exact nx_ne g h
        · exact g2 (by have := (gate_tris hG' _ h).1; rwa [nx_div] at this)
      · rcases List.mem_cons.1 h with h | h
        · have h5 := K.apart _ (nx_lt g1)
          rw [h, nx_div] at h5
          exact h5 rfl
        · have := (gate_tris hG' _ h).2.1
          rw [K.inv _ (nx_lt g1), nx_div] at this
          exact g2 this
    have u2 : ¬ crossed opp (g :: G) (pv g) := fun h => by
      rcases h with h | h
      · rcases List.mem_cons.1 h with h | h
        · exact pv_ne g h
        · exact g2 (by have := (gate_tris hG' _ h).1; rwa [pv_div] at this)
      · rcases List.mem_cons.1 h with h | h
        · have h5 := K.apart _ (pv_lt g1)
          rw [h, pv_div] at h5
          exact h5 rfl
        · have := (gate_tris hG' _ h).2.1
          rw [K.inv _ (pv_lt g1), pv_div] at this
          exact g2 this
    have e1 := hS (nx g) (nx_lt g1) (by rw [nx_div]; exact List.mem_cons_self ..) u1
    have e2 := hS (pv g) (pv_lt g1) (by rw [pv_div]; exact List.mem_cons_self ..) u2
    rw [nx_nx, pv_nx] at e1
    rw [nx_pv, pv_pv] at e2
    -- the edges of what was gone over ahead
    have hS' : ∀ c, c < 3 * F → c / 3 ∈ tris G → ¬ crossed opp G c → (S (vert (nx c)) ↔ S (vert (pv c))) := by
      intro c hc hm hn
      by_cases hcg : c = opp g
      · subst hcg
        rw [K.vn g g1, K.vp g g1]
        exact e1.trans e2
      · refine hS c hc (List.mem_cons_of_mem _ hm) (fun h => ?_)
        rcases h with h | h
        · rcases List.mem_cons.1 h with h | h
          · exact g2 (by rw [← h]; exact hm)
          · exact hn (.inl h)
        · rcases List.mem_cons.1 h with h | h
          · exact hcg (by rw [← h, K.inv c hc])
          · exact hn (.inr h)
    have hog : opp g < 3 * F := K.lt g g1
    -- something of what was gone over ahead is in S
    have hx' : ∃ c, c < 3 * F ∧ c / 3 ∈ tris G ∧ S (vert c) := by
      obtain ⟨c0, h0, h1, h2⟩ := hx
      rcases List.mem_cons.1 h1 with h1 | h1
      · have hh : S (vert (nx g)) ∧ S (vert (pv g)) := by
          have : c0 = g ∨ c0 = nx g ∨ c0 = pv g := by unfold nx pv; omega
          rcases this with rfl | rfl | rfl
          · exact ⟨e2.1 h2, e1.2 h2⟩
          · exact ⟨h2, e1.2 (e2.2 h2)⟩
          · exact ⟨e2.1 (e1.1 h2), h2⟩
        exact ⟨nx (opp g), nx_lt hog, by rw [nx_div]; exact g3, by rw [K.vn g g1]; exact hh.2⟩
      · exact ⟨c0, h0, h1, h2⟩
    have ih := walkable K hG' S hx' hS'
    rcases List.mem_cons.1 hm with hm | hm
    · have s1 : S (vert (pv g)) := by
        have := ih (nx (opp g)) (nx_lt hog) (by rw [nx_div]; exact g3)
        rwa [K.vn g g1] at this
      have : c = g ∨ c = nx g ∨ c = pv g := by unfold nx pv; omega
      rcases this with rfl | rfl | rfl
      · exact e1.1 s1
      · exact e2.1 (e1.1 s1)
      · exact s1
    · exact ih c hc hm

/-! A tree of vertices, along edges U. -/
def vs (vert : Nat → Nat) : List Nat → List Nat
  | [] => [vert 0]
  | e :: H => vert (pv e) :: vs vert H
def VGrown (F : Nat) (vert : Nat → Nat) (U : Nat → Prop) : List Nat → Prop
  | [] => True
  | e :: H => VGrown F vert U H ∧ e < 3 * F ∧ U e ∧ vert (nx e) ∈ vs vert H ∧ vert (pv e) ∉ vs vert H
variable {U : Nat → Prop}
theorem vs_length (H : List Nat) : (vs vert H).length = H.length + 1 := by
  induction H with
  | nil => rfl
  | cons g G ih => simp only [vs, List.length_cons, ih]
theorem vs_zero : ∀ (H : List Nat), vert 0 ∈ vs vert H
  | [] => by simp [vs]
  | e :: H => List.mem_cons_of_mem _ (vs_zero H)
theorem vedge : ∀ {H : List Nat}, VGrown F vert U H → ∀ e ∈ H, vert (nx e) ∈ vs vert H ∧ vert (pv e) ∈ vs vert H ∧ e < 3 * F ∧ U e
  | e' :: H, h, e, he => by
    rcases List.mem_cons.1 he with rfl | he
    · exact ⟨List.mem_cons_of_mem _ h.2.2.2.1, List.mem_cons_self .., h.2.1, h.2.2.1⟩
    · obtain ⟨a, b, c⟩ := vedge h.1 e he
      exact ⟨List.mem_cons_of_mem _ a, List.mem_cons_of_mem _ b, c⟩
theorem vgrown_exists (K : Closed F N opp vert) (hF : 0 < F) (hU : ∀ c, c < 3 * F → U c → U (opp c))
    (hw : ∀ S : Nat → Prop, (∃ c, c < 3 * F ∧ S (vert c)) → (∀ c, c < 3 * F → U c → (S (vert (nx c)) ↔ S (vert (pv c)))) → ∀ c, c < 3 * F → S (vert c)) : ∀ k, k < N → ∃ H, VGrown F vert U H ∧ H.length = k
  | 0, _ => ⟨[], trivial, rfl⟩
  | k + 1, hk => by
    obtain ⟨H, hH, hl⟩ := vgrown_exists K hF hU hw k (by omega)
    have hlen := vs_length (vert := vert) H
    obtain ⟨x, hx, hxn⟩ := missing (l := vs vert H) (n := N) (by omega)
    have : ∃ c, c < 3 * F ∧ U c ∧ vert (nx c) ∈ vs vert H ∧ vert (pv c) ∉ vs vert H := by
      refine Classical.byContradiction fun hne => hxn ?_
      obtain ⟨c, hc, rfl⟩ := K.all x hx
      refine hw (fun t => t ∈ vs vert H) ⟨0, by omega, vs_zero H⟩ (fun c hc hu => ?_) c hc
      constructor
      · exact fun hm => Classical.byContradiction fun h => hne ⟨c, hc, hu, hm, h⟩
      · intro hm
        refine Classical.byContradiction fun h => hne ⟨opp c, K.lt c hc, hU c hc hu, ?_, ?_⟩
        · rw [K.vn c hc]; exact hm
        · rw [K.vp c hc]; exact h
    obtain ⟨c, h1, h2, h3, h4⟩ := this
    exact ⟨c :: H, ⟨hH, h1, h2, h3, h4⟩, by simp [hl]⟩

/-- The edges of a list of corners, both ways. -/
def both (opp : Nat → Nat) (l : List Nat) : List Nat := l ++ l.map opp
theorem both_nodup_cons (K : Closed F N opp vert) {l : List Nat} {a : Nat} (hl : ∀ c ∈ l, c < 3 * F) (ha : a < 3 * F) (h : (both opp l).Nodup) (h1 : a ∉ both opp l) : (both opp (a :: l)).Nodup := by
  unfold both at h h1 ⊢
  have hoa : opp a ≠ a := fun e => K.apart a ha (by rw [e])
  have h2 : opp a ∉ l ++ l.map opp := fun hm => by
    apply h1
    rcases List.mem_append.1 hm with hm | hm
    · exact List.mem_append_right _ (List.mem_map.2 ⟨_, hm, K.inv a ha⟩)
    · obtain ⟨b, hb, e⟩ := List.mem_map.1 hm
      have : b = a := by rw [← K.inv b (hl b hb), e, K.inv a ha]
      subst this
      exact List.mem_append_left _ hb
  have hp : ((a :: l) ++ (a :: l).map opp).Perm (a :: opp a :: (l ++ l.map opp)) := by
    simp only [List.cons_append, List.map_cons]
    exact List.Perm.cons a List.perm_middle
  rw [hp.nodup_iff, List.nodup_cons, List.nodup_cons]
  refine ⟨fun hm => ?_, h2, h⟩
  rcases List.mem_cons.1 hm with e | hm
  · exact hoa e.symm
  · exact h1 hm
theorem both_mem {l : List Nat} {c : Nat} : c ∈ both opp l ↔ c ∈ l ∨ ∃ b ∈ l, opp b = c := by
  unfold both
  rw [List.mem_append, List.mem_map]
theorem gates_nodup (K : Closed F N opp vert) : ∀ {G : List Nat}, Grown F opp G → (both opp G).Nodup
  | [], _ => by simp [both]
  | g :: G, h => by
    refine both_nodup_cons K (fun c hc => (gate_tris h.1 c hc).2.2) h.2.1 (gates_nodup K h.1) (fun hm => ?_)
    rcases both_mem.1 hm with hm | ⟨b, hb, e⟩
    · exact h.2.2.1 (gate_tris h.1 g hm).1
    · exact h.2.2.1 (by rw [← e]; exact (gate_tris h.1 b hb).2.1)
theorem vedges_nodup (K : Closed F N opp vert) : ∀ {H : List Nat}, VGrown F vert U H → (both opp H).Nodup
  | [], _ => by simp [both]
  | e :: H, h => by
    refine both_nodup_cons K (fun c hc => (vedge h.1 c hc).2.2.1) h.2.1 (vedges_nodup K h.1) (fun hm => ?_)
    rcases both_mem.1 hm with hm | ⟨b, hb, e'⟩
    · exact h.2.2.2.2 (vedge h.1 e hm).2.1
    · have hv := (vedge h.1 b hb)
      refine h.2.2.2.2 ?_
      rw [← e', K.vp b hv.2.2.1]
      exact hv.1
theorem both_length {l : List Nat} : (both opp l).length = 2 * l.length := by
  unfold both
  simp
  omega

/-- The parity of the edges at a vertex. -/
def par (F : Nat) (vert : Nat → Nat) (κ : Nat → Bool) (v : Nat) : Bool := xs (List.range (3 * F)) (fun c => vert (nx c) == v && κ c)
theorem par_xor {κ μ : Nat → Bool} {v : Nat} : par F vert (fun c => xor (κ c) (μ c)) v = xor (par F vert κ v) (par F vert μ v) := by
  unfold par
  rw [← xs_xor]
  refine xs_congr fun c _ => ?_
  cases (vert (nx c) == v) <;> simp
/-- Leaf by leaf: a cycle of edges of a tree is none. -/
theorem peel (K : Closed F N opp vert) {κ : Nat → Bool} (hs : ∀ c, c < 3 * F → κ (opp c) = κ c) (hp : ∀ v, v < N → par F vert κ v = false) : ∀ {H : List Nat}, VGrown F vert U H → (∀ c, c < 3 * F → κ c = true → c ∈ both opp H) → ∀ c, c < 3 * F → κ c = false
  | [], _, h, c, hc => by
    cases hk : κ c with
    | false => rfl
    | true => exact absurd (h c hc hk) (by simp [both])
  | e :: H, hH, h, c, hc => by
    obtain ⟨hH', e1, e2, e3, e4⟩ := hH
    have hoe := K.lt e e1
    have key : κ (opp e) = false := by
      have hpar := hp (vert (pv e)) (K.vlt _ (pv_lt e1))
      unfold par at hpar
      rw [xs_one (a := opp e) List.nodup_range (List.mem_range.2 hoe)] at hpar
      · rw [K.vn e e1] at hpar
        simpa using hpar
      · intro c hc hne
        rw [List.mem_range] at hc
        cases hk : κ c with
        | false => simp
        | true =>
          have hv : vert (nx c) ≠ vert (pv e) := by
            intro hv
            rcases both_mem.1 (h c hc hk) with hm | ⟨b, hb, rfl⟩
            · rcases List.mem_cons.1 hm with rfl | hm
              · have h5 := K.simple (nx c) (nx_lt hc)
                rw [nx_nx] at h5
                exact h5 hv.symm
              · exact e4 (by rw [← hv]; exact (vedge hH' c hm).1)
            · rcases List.mem_cons.1 hb with rfl | hb
              · exact hne rfl
              · have hv' := vedge hH' b hb
                rw [K.vn b hv'.2.2.1] at hv
                exact e4 (by rw [← hv]; exact hv'.2.1)
          simp [hv]
    refine peel K hs hp hH' (fun c hc hk => ?_) c hc
    rcases both_mem.1 (h c hc hk) with hm | ⟨b, hb, rfl⟩
    · rcases List.mem_cons.1 hm with rfl | hm
      · rw [hs c hc] at key
        rw [key] at hk
        cases hk
      · exact both_mem.2 (.inl hm)
    · rcases List.mem_cons.1 hb with rfl | hb
      · rw [key] at hk
        cases hk
      · exact both_mem.2 (.inr ⟨b, hb, rfl⟩)

/-- A colour, gate by gate. -/
def col (opp : Nat → Nat) (κ : Nat → Bool) : List Nat → Nat → Bool
  | [] => fun _ => false
  | g :: G => fun t => if t = g / 3 then xor (col opp κ G (opp g / 3)) (κ g) else col opp κ G t
theorem col_gate (K : Closed F N opp vert) {κ : Nat → Bool} : ∀ {G : List Nat}, Grown F opp G → ∀ g ∈ G, xor (col opp κ G (g / 3)) (col opp κ G (opp g / 3)) = κ g
  | g' :: G, h, g, hg => by
    rcases List.mem_cons.1 hg with rfl | hg
    · simp only [col, if_neg (K.apart g h.2.1), if_true]
      cases col opp κ G (opp g / 3) <;> cases κ g <;> rfl
    · have hm := gate_tris h.1 g hg
      simp only [col]
      rw [if_neg (fun e => h.2.2.1 (by rw [← e]; exact hm.1)), if_neg (fun e => h.2.2.1 (by rw [← e]; exact hm.2.1))]
      exact col_gate K h.1 g hg

/-- What differs across edges is a cycle. -/
theorem par_diff (K : Closed F N opp vert) (f : Nat → Bool) (v : Nat) : par F vert (fun c => xor (f (c / 3)) (f (opp c / 3))) v = false := by
  rw [par_xor (κ := fun c => f (c / 3)) (μ := fun c => f (opp c / 3))]
  have p1 : par F vert (fun c => f (c / 3)) v = xs (List.range (3 * F)) (fun c => vert c == v && f (c / 3)) := by
    unfold par
    rw [← xs_perm (perm_map_range nx pv (fun c h => nx_lt h) (fun c h => pv_lt h) (fun c _ => pv_nx c) (fun c _ => nx_pv c)) (p := fun c => vert c == v && f (c / 3)), xs_map]
    exact xs_congr fun c _ => by rw [nx_div]
  have p2 : par F vert (fun c => f (opp c / 3)) v = xs (List.range (3 * F)) (fun c => vert c == v && f (c / 3)) := by
    unfold par
    rw [← xs_perm (perm_map_range pv nx (fun c h => pv_lt h) (fun c h => nx_lt h) (fun c _ => nx_pv c) (fun c _ => pv_nx c)) (p := fun c => vert c == v && f (c / 3)), xs_map]
    rw [← xs_perm (perm_map_range opp opp K.lt K.lt K.inv K.inv) (p := fun c => vert (pv c) == v && f (pv c / 3)), xs_map]
    refine xs_congr fun c hc => ?_
    rw [pv_div, K.vp c (List.mem_range.1 hc)]
  rw [p1, p2]
  simp

/-- Jordan's law. -/
theorem jordan (K : Closed F N opp vert) (hF : 0 < F) (he : 2 * N = F + 4) {κ : Nat → Bool} (hs : ∀ c, c < 3 * F → κ (opp c) = κ c) (hp : ∀ v, v < N → par F vert κ v = false) :
    ∃ f : Nat → Bool, ∀ c, c < 3 * F → xor (f (c / 3)) (f (opp c / 3)) = κ c := by
  obtain ⟨G, hG, hGl⟩ := grown_exists K hF (F - 1) (by omega)
  have htl := tris_length G
  have hall : ∀ t, t < F → t ∈ tris G := nodup_all (tris_nodup hG) (tris_lt hF hG) (by omega)
  have hin : ∀ c, c < 3 * F → c / 3 ∈ tris G := fun c hc => hall _ (by omega)
  obtain ⟨H, hH, hHl⟩ := vgrown_exists (U := fun c => ¬ crossed opp G c) K hF (fun c hc hu h => hu (by
    rcases h with h | h
    · exact .inr h
    · rw [K.inv c hc] at h
      exact .inl h)) (fun S hx hS c hc => walkable K hG S (by obtain ⟨c, h1, h2⟩ := hx; exact ⟨c, h1, hin c h1, h2⟩) (fun c hc _ hn => hS c hc hn) c hc (hin c hc)) (N - 1) (by omega)
  have hnd : (both opp G ++ both opp H).Nodup := by
    rw [List.nodup_append]
    refine ⟨gates_nodup K hG, vedges_nodup K hH, fun a ha b hb e => ?_⟩
    subst e
    have hcr : crossed opp G a := by
      rcases both_mem.1 ha with h | ⟨g, hg, rfl⟩
      · exact .inl h
      · exact .inr (by rw [K.inv g (gate_tris hG g hg).2.2]; exact hg)
    rcases both_mem.1 hb with h | ⟨g, hg, rfl⟩
    · exact (vedge hH a h).2.2.2 hcr
    · have hg' := vedge hH g hg
      refine hg'.2.2.2 ?_
      rcases hcr with h | h
      · exact .inr h
      · rw [K.inv g hg'.2.2.1] at h
        exact .inl h
  have hlt : ∀ x ∈ both opp G ++ both opp H, x < 3 * F := by
    intro x hx
    rcases List.mem_append.1 hx with hx | hx
    · rcases both_mem.1 hx with h | ⟨g, hg, rfl⟩
      · exact (gate_tris hG x h).2.2
      · exact K.lt g (gate_tris hG g hg).2.2
    · rcases both_mem.1 hx with h | ⟨g, hg, rfl⟩
      · exact (vedge hH x h).2.2.1
      · exact K.lt g (vedge hH g hg).2.2.1
  have hcover := nodup_all hnd hlt (by
    rw [List.length_append, both_length, both_length, hGl, hHl]
    omega)
  refine ⟨col opp κ G, ?_⟩
  have hdiff : ∀ c, c < 3 * F → xor (xor (col opp κ G (c / 3)) (col opp κ G (opp c / 3))) (κ c) = false := by
    refine peel K (κ := fun c => xor (xor (col opp κ G (c / 3)) (col opp κ G (opp c / 3))) (κ c)) ?_ ?_ hH ?_
    · intro c hc
      simp only [K.inv c hc, hs c hc]
      cases col opp κ G (c / 3) <;> cases col opp κ G (opp c / 3) <;> rfl
    · intro v hv
      rw [par_xor (κ := fun c => xor (col opp κ G (c / 3)) (col opp κ G (opp c / 3))) (μ := κ), par_diff K, hp v hv]
      rfl
    · intro c hc hk
      rcases List.mem_append.1 (hcover c hc) with hm | hm
      · exfalso
        rcases both_mem.1 hm with h | ⟨g, hg, rfl⟩
        · simp only [col_gate K hG c h] at hk
          simp at hk
        · have hg' := gate_tris hG g hg
          have := col_gate K (κ := κ) hG g hg
          simp only [K.inv g hg'.2.2, hs g hg'.2.2] at hk
          rw [← this] at hk
          revert hk
          cases col opp κ G (g / 3) <;> cases col opp κ G (opp g / 3) <;> simp
      · exact hm
  intro c hc
  have := hdiff c hc
  revert this
  cases col opp κ G (c / 3) <;> cases col opp κ G (opp c / 3) <;> cases κ c <;> simp
end
end Jor
end Go.Proofs.YtghlnknncahkgaaGreat
/-
  A surface's table of corners, as it lies in memory; what its methods tell, by walking their texts.
-/
namespace Go.Proofs.YtghlnknncahkgaaGreat
open Go.RowKit Go.Maps

/-! What a table tells, in plain words. -/
def triAt (T : List Tr) (c : Nat) : Tr := T[c / 3]?.getD (0, 0, 0)
def vertN (T : List Tr) (c : Nat) : Int := if c % 3 = 0 then (triAt T c).1 else if c % 3 = 1 then (triAt T c).2.1 else (triAt T c).2.2
def hasC (T : List Tr) (c : Int) : Bool := decide (0 ≤ c ∧ c < 3 * T.length)
def vertI (T : List Tr) (c : Int) : Int := if hasC T c = true then vertN T c.toNat else -1
def nextI (T : List Tr) (c : Int) : Int := if hasC T c = true then (Jor.nx c.toNat : Nat) else -1
def prevI (T : List Tr) (c : Int) : Int := if hasC T c = true then (Jor.pv c.toNat : Nat) else -1
def edgeI (T : List Tr) (c : Int) : Int × Int := (vertI T (nextI T c), vertI T (prevI T c))
def edgeN (T : List Tr) (c : Nat) : Int × Int := (vertN T (Jor.nx c), vertN T (Jor.pv c))
/-- The first corner from c on that faces an edge; that has a vertex. -/
def facFrom (T : List Tr) (c : Nat) (e : Int × Int) : Option Nat := (List.range' c (3 * T.length - c)).find? fun d => edgeN T d == e
def fstFrom (T : List Tr) (c : Nat) (v : Int) : Option Nat := (List.range' c (3 * T.length - c)).find? fun d => vertN T d == v
def facI (T : List Tr) (e : Int × Int) : Int := match facFrom T 0 e with
  | some c => (c : Int)
  | none => -1
def oppI (T : List Tr) (c : Int) : Int := facI T ((edgeI T c).2, (edgeI T c).1)
open Classical in
/-- The faces as a map holds them. -/
noncomputable def facMap (T : List Tr) (c : Nat) : Value → Option Value := fun y => if h : ∃ e, y = pairV e then (facFrom T c h.choose).map (fun d : Nat => Value.int .i64 (d : Int)) else none
theorem pairV_inj {a b : Int × Int} (h : pairV a = pairV b) : a = b := by
  obtain ⟨a1, a2⟩ := a
  obtain ⟨b1, b2⟩ := b
  simpa [pairV] using h
theorem facMap_at (T : List Tr) (c : Nat) (e : Int × Int) : facMap T c (pairV e) = (facFrom T c e).map (fun d : Nat => Value.int .i64 (d : Int)) := by
  unfold facMap
  have h : ∃ e', pairV e = pairV e' := ⟨e, rfl⟩
  rw [dif_pos h]
  have := pairV_inj h.choose_spec
  rw [← this]
def fsts (N : Int) (T : List Tr) (c : Nat) : List Int := (List.range N.toNat).map fun v : Nat => ((fstFrom T c v).getD 0 : Int)

theorem arrEdge : WideMaps.ArrKey Tryz.prog 108 3 2 := ⟨Tryz.underlying108, by kernel_rfl, by kernel_rfl, by kernel_rfl⟩
/-- Block g is a table, its triangles can be read. -/
structure TabS (w : World) (g : Nat) (N : Int) (T : List Tr) : Prop where
  ex : ∃ vT m vF, Blk w g 118 #[.int .i64 N, vT, .map (some m), vF] ∧ TrisRd w vT T
  n0 : 0 ≤ N
  n1 : N ≤ 4096
  len : T.length ≤ 8192
  inr : ∀ t ∈ T, 0 ≤ t.1 ∧ t.1 < N ∧ 0 ≤ t.2.1 ∧ t.2.1 < N ∧ 0 ≤ t.2.2 ∧ t.2.2 < N
/-- Block g is the table of a surface. -/
structure Tab (w : World) (g : Nat) (N : Int) (T : List Tr) : Prop extends TabS w g N T where
  tx : ∃ vT m vF, Blk w g 118 #[.int .i64 N, vT, .map (some m), vF] ∧ TrisRd w vT T ∧ MapP Tryz.prog 108 w m (facMap T 0) ∧ IntsRd w vF (fsts N T 0)
theorem IntsRd.below {w w' : World} {v : Value} {xs : List Int} (h : IntsRd w v xs) (hb : Below w.heap.size w w') : IntsRd w' v xs := by
  obtain ⟨a, c, rfl, h1, h2⟩ := h
  refine ⟨a, c, rfl, h1, fun k x hk => ?_⟩
  obtain ⟨b, o, rfl, hl, hc⟩ := h2 k x hk
  exact ⟨b, o, rfl, Nat.lt_of_lt_of_le hl hb.size, (hb.cell (p := ⟨b, _, none⟩) hl).trans hc⟩
theorem TabS.below {w w' : World} {g : Nat} {N : Int} {T : List Tr} (h : TabS w g N T) (hb : Below w.heap.size w w') : TabS w' g N T := by
  obtain ⟨⟨vT, m, vF, h1, h2⟩, a, b, c, d⟩ := h
  exact ⟨⟨vT, m, vF, h1.below hb h1.lt, h2.below hb⟩, a, b, c, d⟩
theorem Tab.below {w w' : World} {g : Nat} {N : Int} {T : List Tr} (h : Tab w g N T) (hb : Below w.heap.size w w') : Tab w' g N T := by
  obtain ⟨hs, ⟨vT, m, vF, h1, h2, h3, h4⟩⟩ := h
  exact ⟨hs.below hb, ⟨vT, m, vF, h1.below hb h1.lt, h2.below hb, h3.below hb h3.lt, h4.below hb⟩⟩
theorem TabS.alloc {w : World} {g : Nat} {N : Int} {T : List Tr} (h : TabS w g N T) (o : Obj) : TabS (w.alloc o) g N T := h.below ((Below.refl _ _).alloc (Nat.le_refl _) _)
theorem Tab.alloc {w : World} {g : Nat} {N : Int} {T : List Tr} (h : Tab w g N T) (o : Obj) : Tab (w.alloc o) g N T := h.below ((Below.refl _ _).alloc (Nat.le_refl _) _)
theorem TabS.drew {w : World} {g : Nat} {N : Int} {T : List Tr} (h : TabS w g N T) : TabS w.drew g N T := h.below (Below.refl _ _).drew
theorem Tab.drew {w : World} {g : Nat} {N : Int} {T : List Tr} (h : Tab w g N T) : Tab w.drew g N T := h.below (Below.refl _ _).drew
theorem TabS.lt {w : World} {g : Nat} {N : Int} {T : List Tr} (h : TabS w g N T) : g < w.heap.size := by
  obtain ⟨vT, m, vF, h1, _⟩ := h.ex
  exact h1.lt
theorem vertN_in {T : List Tr} {N : Int} (h : ∀ t ∈ T, 0 ≤ t.1 ∧ t.1 < N ∧ 0 ≤ t.2.1 ∧ t.2.1 < N ∧ 0 ≤ t.2.2 ∧ t.2.2 < N) {c : Nat} (hc : c < 3 * T.length) : 0 ≤ vertN T c ∧ vertN T c < N := by
  have hk : c / 3 < T.length := by omega
  have := h T[c / 3] (List.getElem_mem _)
  unfold vertN triAt
  rw [List.getElem?_eq_getElem hk]
  simp only [Option.getD_some]
  split
  · exact ⟨this.1, this.2.1⟩
  · split
    · exact ⟨this.2.2.1, this.2.2.2.1⟩
    · exact ⟨this.2.2.2.2.1, this.2.2.2.2.2⟩
theorem vertI_bd {T : List Tr} {N : Int} (h : ∀ t ∈ T, 0 ≤ t.1 ∧ t.1 < N ∧ 0 ≤ t.2.1 ∧ t.2.1 < N ∧ 0 ≤ t.2.2 ∧ t.2.2 < N) (hN : 0 ≤ N) (c : Int) : -1 ≤ vertI T c ∧ vertI T c ≤ N := by
  unfold vertI hasC
  split
  · rename_i hc
    simp at hc
    have := vertN_in h (c := c.toNat) (by omega)
    omega
  · omega
theorem hasC_true {T : List Tr} {c : Int} (h0 : 0 ≤ c) (h1 : c < 3 * T.length) : hasC T c = true := by simp [hasC, h0, h1]
theorem hasC_false {T : List Tr} {c : Int} (h : ¬ (0 ≤ c ∧ c < 3 * T.length)) : hasC T c = false := by simpa [hasC] using h

set_option maxRecDepth 100000 in
theorem has_any (g : Nat) (N c : Int) (T : List Tr) (w : World) (h : TabS w g N T) : Calls Tryz.prog 69 #[.pointer (some ⟨g, 0, none⟩), .int .i64 c] w fun e w' => e = .returned (.bool (hasC T c)) ∧ w = w' := by
  obtain ⟨⟨vT, m, vF, h1, ⟨a, cT, rfl, hc1, hc2, _⟩⟩, _, _, hl, _⟩ := h
  obtain ⟨lg, x0, -, x1, -⟩ : g < w.heap.size ∧ w.cell? ⟨g, 0, none⟩ = some (.int .i64 N) ∧ w.frozen? ⟨g, 0, none⟩ = false ∧ w.cell? ⟨g, 1, none⟩ = some (.slice a T.length cT) ∧ w.frozen? ⟨g, 1, none⟩ = false := ⟨h1.lt, h1.cell 0, h1.frozen 0, h1.cell 1, h1.frozen 1⟩
  obtain ⟨n, hn⟩ : ∃ n, T.length = n := ⟨_, rfl⟩
  unfold hasC
  rw [hn] at x1 hl ⊢
  clear hn h1
  by_cases c0 : 0 ≤ c
  · by_cases c1 : c < 3 * n
    · have hp : decide (0 ≤ c ∧ c < 3 * (n : Int)) = true := by simp [c0, c1]
      rw [hp]
      clear hp
      go_enter Tryz.func69, Tryz.ntmps69
      go_wp2
      go_ret
      exact ⟨by simp, rfl⟩
    · have hp : decide (0 ≤ c ∧ c < 3 * (n : Int)) = false := by simp [c0]; omega
      have hd : decide (c < 3 * (n : Int)) = false := by simpa using c1
      rw [hp]
      clear hp c1
      go_enter Tryz.func69, Tryz.ntmps69
      go_wp2
      go_ret
      exact ⟨by simp, rfl⟩
  · have hp : decide (0 ≤ c ∧ c < 3 * (n : Int)) = false := by simp; omega
    have hd : decide (0 ≤ c) = false := by simpa using c0
    rw [hp]
    clear hp c0
    go_enter Tryz.func69, Tryz.ntmps69
    go_wp2
    go_ret
    exact ⟨by simp, rfl⟩
theorem hasC_nat {T : List Tr} {c : Int} (h : hasC T c = true) : ∃ n : Nat, c = n ∧ n < 3 * T.length := by
  simp [hasC] at h
  exact ⟨c.toNat, by omega, by omega⟩
set_option maxRecDepth 100000 in
set_option maxHeartbeats 1000000 in
theorem vertex_any (g : Nat) (N c : Int) (T : List Tr) (w : World) (h : TabS w g N T) : Calls Tryz.prog 36 #[.pointer (some ⟨g, 0, none⟩), .int .i64 c] w fun e w' => e = .returned (.int .i64 (vertI T c)) ∧ w = w' := by
  have H := Lib.hid (has_any g N c T w h)
  cases hc : hasC T c with
  | false =>
    have hv : vertI T c = -1 := by simp [vertI, hc]
    have Hc := Lib.hid hc
    rw [hv]
    clear hv hc h
    go_enter Tryz.func36, Tryz.ntmps36
    go_wp2_with fail
    refine H.out.mono ?_
    rw [Hc.out]
    rintro e w' ⟨rfl, rfl⟩
    go_wp2
    go_ret
    exact ⟨by simp, rfl⟩
  | true =>
    obtain ⟨n, rfl, hn⟩ := hasC_nat hc
    obtain ⟨⟨vT, m, vF, h1, ⟨a, cT, rfl, hc1, hc2, hr⟩⟩, _, _, hl, _⟩ := h
    obtain ⟨lg, x0, -, x1, -⟩ : g < w.heap.size ∧ w.cell? ⟨g, 0, none⟩ = some (.int .i64 N) ∧ w.frozen? ⟨g, 0, none⟩ = false ∧ w.cell? ⟨g, 1, none⟩ = some (.slice a T.length cT) ∧ w.frozen? ⟨g, 1, none⟩ = false := ⟨h1.lt, h1.cell 0, h1.frozen 0, h1.cell 1, h1.frozen 1⟩
    have hk : n / 3 < T.length := by omega
    obtain ⟨t, ht⟩ : ∃ t, T[n / 3]? = some t := ⟨T[n / 3], List.getElem?_eq_getElem _⟩
    obtain ⟨x, y, z⟩ := t
    obtain ⟨b, o, rfl, hbl, s0, s1, s2⟩ := hr _ x y z ht
    have hv : vertI T (n : Int) = if n % 3 = 0 then x else if n % 3 = 1 then y else z := by simp [vertI, hc, vertN, triAt, ht]
    have Hc := Lib.hid hc
    obtain ⟨L, hL⟩ : ∃ L, T.length = L := ⟨_, rfl⟩
    obtain ⟨k, hkk⟩ : ∃ k, n / 3 = k := ⟨_, rfl⟩
    rw [hL] at x1 hk
    rw [hkk] at hk s0 s1 s2
    rw [hv]
    have e1 : (n : Int) / 3 = (k : Int) := by omega
    have hb0 : (0 : Int) ≤ (n : Int) := by omega
    have hb1 : (n : Int) ≤ 100000 := by omega
    have hk3 : (k : Int) < (L : Int) := by omega
    have hi : n % 3 = 0 ∨ n % 3 = 1 ∨ n % 3 = 2 := by omega
    clear hv hc h1 hr ht hL
    rcases hi with hi | hi | hi
    · have e2 : (n : Int) % 3 = 0 := by omega
      rw [hi]
      clear hkk hi hn
      go_enter Tryz.func36, Tryz.ntmps36
      go_wp2_with fail
      refine H.out.mono ?_
      rw [Hc.out]
      rintro e w' ⟨rfl, rfl⟩
      go_wp2
      go_ret
      exact ⟨by simp, rfl⟩
    · have e2 : (n : Int) % 3 = 1 := by omega
      rw [hi]
      clear hkk hi hn
      go_enter Tryz.func36, Tryz.ntmps36
      go_wp2_with fail
      refine H.out.mono ?_
      rw [Hc.out]
      rintro e w' ⟨rfl, rfl⟩
      go_wp2
      go_ret
      exact ⟨by simp, rfl⟩
    · have e2 : (n : Int) % 3 = 2 := by omega
      rw [hi]
      clear hkk hi hn
      go_enter Tryz.func36, Tryz.ntmps36
      go_wp2_with fail
      refine H.out.mono ?_
      rw [Hc.out]
      rintro e w' ⟨rfl, rfl⟩
      go_wp2
      go_ret
      exact ⟨by simp, rfl⟩

set_option maxRecDepth 100000 in
theorem turned_any (c b : Int) (w : World) (hc : 0 ≤ c ∧ c ≤ 1000000) (hb : 0 ≤ b ∧ b ≤ 2) : Calls Tryz.prog 70 #[.int .i64 c, .int .i64 b] w fun e w' => e = .returned (.int .i64 (c - c % 3 + (c + b) % 3)) ∧ w = w' := by
  obtain ⟨c0, c1⟩ := hc
  obtain ⟨b0, b1⟩ := hb
  have m0 := Int.emod_nonneg c (show (3 : Int) ≠ 0 by decide)
  have m1 := Int.emod_lt_of_pos c (show (0 : Int) < 3 by decide)
  have m2 := Int.emod_nonneg (c + b) (show (3 : Int) ≠ 0 by decide)
  have m3 := Int.emod_lt_of_pos (c + b) (show (0 : Int) < 3 by decide)
  go_enter Tryz.func70, Tryz.ntmps70
  go_wp2
  go_ret
  exact ⟨rfl, rfl⟩
theorem nx_int (n : Nat) : ((n : Int) - (n : Int) % 3 + ((n : Int) + 1) % 3) = ((Jor.nx n : Nat) : Int) := by unfold Jor.nx; omega
theorem pv_int (n : Nat) : ((n : Int) - (n : Int) % 3 + ((n : Int) + 2) % 3) = ((Jor.pv n : Nat) : Int) := by unfold Jor.pv; omega
set_option maxRecDepth 100000 in
theorem next_any (g : Nat) (N c : Int) (T : List Tr) (w : World) (h : TabS w g N T) : Calls Tryz.prog 38 #[.pointer (some ⟨g, 0, none⟩), .int .i64 c] w fun e w' => e = .returned (.int .i64 (nextI T c)) ∧ w = w' := by
  have H := Lib.hid (has_any g N c T w h)
  have hl := h.len
  cases hc : hasC T c with
  | false =>
    have hv : nextI T c = -1 := by simp [nextI, hc]
    have Hc := Lib.hid hc
    rw [hv]
    clear hv hc h
    go_enter Tryz.func38, Tryz.ntmps38
    go_wp2_with fail
    refine H.out.mono ?_
    rw [Hc.out]
    rintro e w' ⟨rfl, rfl⟩
    go_wp2
    go_ret
    exact ⟨by simp, rfl⟩
  | true =>
    obtain ⟨n, rfl, hn⟩ := hasC_nat hc
    have hv : nextI T (n : Int) = ((Jor.nx n : Nat) : Int) := by simp [nextI, hc]
    have Hc := Lib.hid hc
    have HT := Lib.hid (turned_any (n : Int) 1 w ⟨by omega, by omega⟩ (by decide))
    rw [hv, ← nx_int]
    generalize hz : ((n : Int) - (n : Int) % 3 + ((n : Int) + 1) % 3) = z at HT
    clear hv hc h hl hn
    clear hz
    go_enter Tryz.func38, Tryz.ntmps38
    go_wp2_with fail
    refine H.out.mono ?_
    rw [Hc.out]
    rintro e w' ⟨rfl, rfl⟩
    go_wp2_with fail
    refine HT.out.mono ?_
    rintro e w' ⟨rfl, rfl⟩
    go_wp2
    go_ret
    exact ⟨rfl, rfl⟩
set_option maxRecDepth 100000 in
theorem prev_any (g : Nat) (N c : Int) (T : List Tr) (w : World) (h : TabS w g N T) : Calls Tryz.prog 39 #[.pointer (some ⟨g, 0, none⟩), .int .i64 c] w fun e w' => e = .returned (.int .i64 (prevI T c)) ∧ w = w' := by
  have H := Lib.hid (has_any g N c T w h)
  have hl := h.len
  cases hc : hasC T c with
  | false =>
    have hv : prevI T c = -1 := by simp [prevI, hc]
    have Hc := Lib.hid hc
    rw [hv]
    clear hv hc h
    go_enter Tryz.func39, Tryz.ntmps39
    go_wp2_with fail
    refine H.out.mono ?_
    rw [Hc.out]
    rintro e w' ⟨rfl, rfl⟩
    go_wp2
    go_ret
    exact ⟨by simp, rfl⟩
  | true =>
    obtain ⟨n, rfl, hn⟩ := hasC_nat hc
    have hv : prevI T (n : Int) = ((Jor.pv n : Nat) : Int) := by simp [prevI, hc]
    have Hc := Lib.hid hc
    have HT := Lib.hid (turned_any (n : Int) 2 w ⟨by omega, by omega⟩ (by decide))
    rw [hv, ← pv_int]
    generalize hz : ((n : Int) - (n : Int) % 3 + ((n : Int) + 2) % 3) = z at HT
    clear hv hc h hl hn
    clear hz
    go_enter Tryz.func39, Tryz.ntmps39
    go_wp2_with fail
    refine H.out.mono ?_
    rw [Hc.out]
    rintro e w' ⟨rfl, rfl⟩
    go_wp2_with fail
    refine HT.out.mono ?_
    rintro e w' ⟨rfl, rfl⟩
    go_wp2
    go_ret
    exact ⟨rfl, rfl⟩
theorem MapP.drewN {P : Program} {k : TypeId} {b : Nat} {w : World} {f : Value → Option Value} (h : MapP P k w b f) (n : Nat) : MapP P k (w.drewN n) b f := h
theorem below_drewN {B : Nat} {a w : World} (h : Below B a w) (n : Nat) : Below B a (w.drewN n) := ⟨h.os, h.tape, h.output, h.size, h.block⟩
theorem zero_int (w : World) : (zeroValue 3).run Tryz.prog w = .ok (.int .i64 0) w := by kernel_rfl
theorem wfV {x : Int} (h : -1 ≤ x ∧ x ≤ 10000) : (Lit.int .i64 x).wf = true := WalkArith.wf_i64 (by omega)
set_option maxRecDepth 100000 in
set_option maxHeartbeats 1000000 in
theorem edge_any (g : Nat) (N c : Int) (T : List Tr) (w : World) (h : TabS w g N T) : Calls Tryz.prog 61 #[.pointer (some ⟨g, 0, none⟩), .int .i64 c] w fun e w' => e = .returned (pairV (edgeI T c)) ∧ Below w.heap.size w w' := by
  have ht := h.alloc (.cells #[.int .i64 0, .int .i64 0] 108)
  have hB0 : Below w.heap.size w (w.alloc (.cells #[.int .i64 0, .int .i64 0] 108)) := (Below.refl _ _).alloc (Nat.le_refl _) _
  have HT := Lib.hid ht
  have HB0 := Lib.hid hB0
  unfold edgeI pairV
  simp only
  generalize hx : vertI T (nextI T c) = x
  generalize hy : vertI T (prevI T c) = y
  have HX := Lib.hid hx
  have HY := Lib.hid hy
  clear h ht hB0 hx hy
  go_enter Tryz.func61, Tryz.ntmps61
  go_wp2_with (first
    | (go_at_call 38; refine (next_any g N c T _ HT.out).mono ?_; rintro e w' ⟨rfl, rfl⟩)
    | (go_at_call 39; refine (prev_any g N c T _ HT.out).mono ?_; rintro e w' ⟨rfl, rfl⟩)
    | (go_at_call 36; refine (vertex_any g N _ T _ HT.out).mono ?_; rintro e w' ⟨rfl, rfl⟩))
  exact bodyPost_ret (v := .agg #[.int .i64 x, .int .i64 y]) (by simp [results, Tryz.results61, go_sem, HX.out, HY.out]) rfl ⟨rfl, (Below.refl _ _).alloc (Nat.le_refl _) _⟩
set_option maxRecDepth 100000 in
set_option maxHeartbeats 1000000 in
theorem facing_any (g : Nat) (N a b : Int) (T : List Tr) (w : World) (h : Tab w g N T) (ha : -1 ≤ a ∧ a ≤ 10000) (hb : -1 ≤ b ∧ b ≤ 10000) : Calls Tryz.prog 62 #[.pointer (some ⟨g, 0, none⟩), pairV (a, b)] w fun e w' => e = .returned (.int .i64 (facI T (a, b))) ∧ Below w.heap.size w w' := by
  obtain ⟨vT, m, vF, h1, _, h3, _⟩ := (h.alloc (.cells #[.int .i64 a, .int .i64 b] 108)).tx
  have hlk := fun nq => (h3.drewN nq).lookOk (t := 116) (Keyed.of_law arrEdge.law) Tryz.underlying116 (zero_int _) (WideMaps.keyOf_pair arrEdge Tryz.underlying3 types_succ (wfV ha) (wfV hb))
  have hg := h.lt
  rw [show (.agg #[.int .i64 a, .int .i64 b] : Value) = pairV (a, b) from rfl, facMap_at] at hlk
  unfold facI
  cases hf : facFrom T 0 (a, b) with
  | none =>
    rw [hf] at hlk
    simp only [Option.map_none, Option.getD_none, Option.isSome_none] at hlk
    have c1 := h1.cell 2
    clear h h1 h3 hf
    unfold pairV at hlk ⊢
    simp only at hlk ⊢
    go_enter Tryz.func62, Tryz.ntmps62
    go_wp2
    go_quiet (fail)
    go_wp2
    go_ret
    exact ⟨rfl, below_drewN (((Below.refl _ _).alloc (Nat.le_refl _) _)) _⟩
  | some d =>
    rw [hf] at hlk
    simp only [Option.map_some, Option.getD_some, Option.isSome_some] at hlk
    have c1 := h1.cell 2
    clear h h1 h3 hf
    unfold pairV at hlk ⊢
    simp only at hlk ⊢
    go_enter Tryz.func62, Tryz.ntmps62
    go_wp2
    go_quiet (fail)
    go_wp2
    go_ret
    exact ⟨rfl, below_drewN (((Below.refl _ _).alloc (Nat.le_refl _) _)) _⟩
theorem edgeI_bd {T : List Tr} {N : Int} (h : ∀ t ∈ T, 0 ≤ t.1 ∧ t.1 < N ∧ 0 ≤ t.2.1 ∧ t.2.1 < N ∧ 0 ≤ t.2.2 ∧ t.2.2 < N) (hN : 0 ≤ N) (h1 : N ≤ 4096) (c : Int) : (-1 ≤ (edgeI T c).1 ∧ (edgeI T c).1 ≤ 10000) ∧ -1 ≤ (edgeI T c).2 ∧ (edgeI T c).2 ≤ 10000 := by
  have a := vertI_bd h hN (nextI T c)
  have b := vertI_bd h hN (prevI T c)
  unfold edgeI
  simp only
  omega
set_option maxRecDepth 100000 in
set_option maxHeartbeats 1000000 in
theorem opp_any (g : Nat) (N c : Int) (T : List Tr) (w : World) (h : Tab w g N T) : Calls Tryz.prog 29 #[.pointer (some ⟨g, 0, none⟩), .int .i64 c] w fun e w' => e = .returned (.int .i64 (oppI T c)) ∧ Below w.heap.size w w' := by
  have H := Lib.hid (edge_any g N c T w h.toTabS)
  obtain ⟨⟨p0, p1⟩, p2, p3⟩ := edgeI_bd h.inr h.n0 h.n1 c
  unfold oppI
  generalize hx : edgeI T c = e at *
  obtain ⟨x, y⟩ := e
  simp only at p0 p1 p2 p3 ⊢
  have HF := Lib.hid (fun (W : World) (hw : Below w.heap.size w W) => facing_any g N y x T W (h.below hw) ⟨p2, p3⟩ ⟨p0, p1⟩)
  generalize facI T (y, x) = z at *
  clear h hx
  go_enter Tryz.func29, Tryz.ntmps29
  go_wp2_with fail
  refine H.out.mono ?_
  rintro e w1 ⟨rfl, hb1⟩
  have b1 := Blk.new w1 108 #[.int .i64 x, .int .i64 y]
  obtain ⟨l0, x0, -, x1, -⟩ := b1.two
  have hB1 := hb1.alloc hb1.size (.cells #[.int .i64 x, .int .i64 y] 108)
  have HB1 := Lib.hid hB1
  have H2 := Lib.hid (HF.out _ hB1)
  unfold pairV
  simp only
  clear b1 hB1 hb1 HF
  go_wp2_with fail
  refine H2.out.mono ?_
  rintro e w2 ⟨rfl, hb2⟩
  have HB2 := Lib.hid (HB1.out.trans (hb2.mono HB1.out.size))
  clear hb2 x0 x1 l0
  go_wp2
  go_ret
  exact ⟨rfl, HB2.out⟩
theorem oppI_bd (T : List Tr) (c : Int) : -1 ≤ oppI T c ∧ oppI T c < 3 * (T.length : Int) := by
  unfold oppI facI facFrom
  generalize ((edgeI T c).2, (edgeI T c).1) = e
  cases h : (List.range' 0 (3 * T.length - 0)).find? fun d => edgeN T d == e with
  | none => simp only; omega
  | some d =>
    have := List.mem_of_find?_eq_some h
    rw [List.mem_range'_1] at this
    simp only
    omega
/-- The least corner at a vertex, as the table tells it. -/
def cornI (N : Int) (T : List Tr) (v : Int) : Int := if 0 ≤ v ∧ v < N then ((fstFrom T 0 v).getD 0 : Nat) else -1
set_option maxRecDepth 100000 in
set_option maxHeartbeats 1000000 in
theorem corner_any (g : Nat) (N v : Int) (T : List Tr) (w : World) (h : Tab w g N T) : Calls Tryz.prog 108 #[.pointer (some ⟨g, 0, none⟩), .int .i64 v] w fun e w' => e = .returned (.int .i64 (cornI N T v)) ∧ w = w' := by
  have hn0 := h.n0
  have hn1 := h.n1
  obtain ⟨vT, m, vF, h1, _, _, ⟨a, cF, rfl, hl, hr⟩⟩ := h.tx
  obtain ⟨m, rfl⟩ : ∃ m : Nat, N = m := ⟨N.toNat, by omega⟩
  have hlen : (fsts (m : Int) T 0).length = m := by simp [fsts]
  rw [hlen] at h1 hl
  have x3 := h1.cell 3
  have lg := h1.lt
  unfold cornI
  by_cases v0 : 0 ≤ v
  · by_cases v1 : v < m
    · obtain ⟨u, rfl⟩ : ∃ u : Nat, v = u := ⟨v.toNat, by omega⟩
      have hu : (fsts (m : Int) T 0)[u]? = some (((fstFrom T 0 u).getD 0 : Nat) : Int) := by
        unfold fsts
        rw [List.getElem?_map, List.getElem?_range (by simpa using v1)]
        rfl
      obtain ⟨b, o, rfl, hbl, hc⟩ := hr u _ hu
      rw [if_pos ⟨v0, v1⟩]
      generalize ((fstFrom T 0 u).getD 0 : Nat) = z at *
      have hd : decide ((m : Int) ≤ (u : Int)) = false := by simp; omega
      have hd2 : decide ((u : Int) < 0) = false := by simp
      clear hr hlen hu h1
      go_enter Tryz.func108, Tryz.ntmps108
      go_wp2
      go_ret
      exact ⟨rfl, rfl⟩
    · have hd : decide ((m : Int) ≤ v) = true := by simp; omega
      have hd2 : decide (v < 0) = false := by simp; omega
      rw [if_neg (fun e => v1 e.2)]
      clear hr hlen h1 v1 v0
      go_enter Tryz.func108, Tryz.ntmps108
      go_wp2
      go_ret
      exact ⟨by simp, rfl⟩
  · have hd2 : decide (v < 0) = true := by simp; omega
    rw [if_neg (fun e => v0 e.1)]
    clear hr hlen h1 v0
    go_enter Tryz.func108, Tryz.ntmps108
    go_wp2
    go_ret
    exact ⟨by simp, rfl⟩
set_option maxRecDepth 100000 in
theorem vertices_any (g : Nat) (N : Int) (T : List Tr) (w : World) (h : TabS w g N T) : Calls Tryz.prog 85 #[.pointer (some ⟨g, 0, none⟩)] w fun e w' => e = .returned (.int .i64 N) ∧ w = w' := by
  obtain ⟨⟨vT, m, vF, h1, _⟩, _⟩ := h
  have x0 := h1.cell 0
  have lg := h1.lt
  clear h1
  go_enter Tryz.func85, Tryz.ntmps85
  go_wp2
  go_ret
  exact ⟨rfl, rfl⟩
set_option maxRecDepth 100000 in
theorem triangles_any (g : Nat) (N : Int) (T : List Tr) (w : World) (h : TabS w g N T) : Calls Tryz.prog 81 #[.pointer (some ⟨g, 0, none⟩)] w fun e w' => e = .returned (.int .i64 T.length) ∧ w = w' := by
  obtain ⟨⟨vT, m, vF, h1, ⟨a, cT, rfl, _⟩⟩, _, _, hl, _⟩ := h
  have x1 := h1.cell 1
  have lg := h1.lt
  clear h1
  go_enter Tryz.func81, Tryz.ntmps81
  go_wp2
  go_ret
  exact ⟨rfl, rfl⟩
end Go.Proofs.YtghlnknncahkgaaGreat
/-
  A set of keys that the call makes (a map of bools, all true), with its size; a queue of numbers (a slice that is cut at its head and appended to).
-/
namespace Go.Proofs.YtghlnknncahkgaaGreat
open Go.RowKit Go.Maps
open Go.MapKept (Stamped)

/-- Block b is a map of bools: it has just the keys ks, each once, and all are true. -/
def KSet (P : Program) (k : TypeId) (w : World) (b : Nat) (ks : List Value) : Prop :=
  ∃ es clock, w.heap[b]? = some (.map es clock) ∧ Stamped es clock ∧ (∀ x ∈ es.toList, ∃ l, keyOf P k x.key = some l) ∧ es.toList.map (·.key) = ks ∧ ∀ x ∈ es.toList, x.val = .bool true
def mapSize (w : World) (b : Nat) : Nat := match w.heap[b]? with | some (.map es _) => es.size | _ => 0
section
variable {P : Program} {k e : TypeId} {b : Nat} {w : World} {ks : List Value}
theorem KSet.made (w : World) (P : Program) (k : TypeId) : KSet P k (w.alloc (.map #[] 0)) w.heap.size [] := ⟨#[], 0, heap_alloc_new w _, MapKept.stamped_empty 0, by simp, rfl, by simp⟩
theorem KSet.obj (h : KSet P k w b ks) : ∃ es clock, w.heap[b]? = some (.map es clock) := by
  obtain ⟨es, clock, hb, _⟩ := h
  exact ⟨es, clock, hb⟩
theorem KSet.lt (h : KSet P k w b ks) : b < w.heap.size := by
  obtain ⟨es, clock, hb, _⟩ := h
  exact (Array.getElem?_eq_some_iff.1 hb).1
theorem KSet.size (h : KSet P k w b ks) : mapSize w b = ks.length := by
  obtain ⟨es, clock, hb, _, _, h3, _⟩ := h
  unfold mapSize
  rw [hb, ← h3]
  simp
theorem KSet.nodup (h : KSet P k w b ks) : ks.Nodup := by
  obtain ⟨es, clock, _, h1, _, h3, _⟩ := h
  obtain ⟨_, _, s3⟩ := (MapKept.stamped_iff es clock).1 h1
  rw [← h3, List.nodup_iff_pairwise_ne, List.pairwise_map]
  exact s3
theorem KSet.same {w' : World} (h : KSet P k w b ks) (hg : w'.heap[b]? = w.heap[b]?) : KSet P k w' b ks := by
  obtain ⟨es, clock, hb, h1⟩ := h
  exact ⟨es, clock, hg.trans hb, h1⟩
theorem KSet.kept {w' : World} {row : Option Nat} (h : KSet P k w b ks) (hg : w.grownBy w' row) (hne : some b ≠ row) : KSet P k w' b ks := h.same (hg.block b h.lt hne)
theorem KSet.alloc (h : KSet P k w b ks) (o : Obj) : KSet P k (w.alloc o) b ks := h.kept (World.grownBy_alloc w o none) (by simp)
theorem KSet.look {t : TypeId} (h : KSet P k w b ks) (K : Keyed P k) (ht : P.underlying t = some (.map k e)) (hz : (zeroValue e).run P w = .ok (.bool false) w) {key : Value} {kl : Lit} (hkey : keyOf P k key = some kl) :
    ∃ r : Bool, (Instr.lookup t (.map (some b)) key false).run P w = .ok (.bool r) w ∧ (r = true ↔ key ∈ ks) := by
  obtain ⟨es, clock, hb, h1, h2, h3, h4⟩ := h
  rcases K.find w hkey es.toList h2 with ⟨g1, g2⟩ | ⟨j, e0, g1, g2, g3⟩
  · refine ⟨false, by simp [Instr.lookup, run_underlying ht, MapKept.run_getObj_map hb, K.check w _ hkey, g1, hz, Result.andThen], ?_⟩
    rw [← h3]
    constructor
    · intro e0; cases e0
    · intro hm
      obtain ⟨x, hx, e0⟩ := List.mem_map.1 hm
      exact absurd e0 (g2 x hx)
  · have hm := List.mem_of_getElem? g2
    refine ⟨true, ?_, ?_⟩
    · rw [h4 e0 hm] at g1
      simp [Instr.lookup, run_underlying ht, MapKept.run_getObj_map hb, K.check w _ hkey, g1, Result.andThen]
    · rw [← h3]
      exact ⟨fun _ => List.mem_map.2 ⟨e0, hm, g3⟩, fun _ => rfl⟩
theorem KSet.store {t : TypeId} (h : KSet P k w b ks) (K : Keyed P k) (ht : P.underlying t = some (.map k e)) {key : Value} {kl : Lit} (hkey : keyOf P k key = some kl) (hn : key ∉ ks) :
    ∃ w', (Instr.mapUpdate t (.map (some b)) key (.bool true)).run P w = .ok () w' ∧ KSet P k w' b (ks ++ [key]) ∧ w.grownBy w' (some b) ∧ w'.heap.size = w.heap.size := by
  obtain ⟨es, clock, hb, h1, h2, h3, h4⟩ := h
  rcases K.find w hkey es.toList h2 with ⟨g1, g2⟩ | ⟨j, e0, g1, g2, g3⟩
  · refine ⟨_, by simp [Instr.mapUpdate, run_underlying ht, MapKept.run_getObj_map hb, K.check w _ hkey, g1, MapKept.run_setObj_map _ hb, Result.andThen]; rfl, ⟨es.push ⟨key, .bool true, clock⟩, clock + 1, ChangeMaps.heap_setBlock_same hb _, MapKept.stamped_push h1 g2, ?_, by simp [h3], ?_⟩, setBlock_grown hb _, by simp [ChangeMaps.setBlock]⟩
    · intro x hx
      simp only [Array.toList_push, List.mem_append, List.mem_singleton] at hx
      rcases hx with hx | rfl
      · exact h2 x hx
      · exact ⟨_, hkey⟩
    · intro x hx
      simp only [Array.toList_push, List.mem_append, List.mem_singleton] at hx
      rcases hx with hx | rfl
      · exact h4 x hx
      · rfl
  · exact absurd (by rw [← h3]; exact List.mem_map.2 ⟨e0, List.mem_of_getElem? g2, g3⟩) hn
theorem KSet.len {t : TypeId} (h : KSet P k w b ks) (ht : P.underlying t = some (.map k e)) (ty : TypeId) : (Builtin.len_ #[t] ty #[.map (some b)]).run P w = .ok (.int .i64 ks.length) w := by
  obtain ⟨es, clock, hb, h1, h2, h3, h4⟩ := h
  have : (ks.length : Int) = es.size := by rw [← h3]; simp
  rw [this]
  simp [Builtin.len_, run_underlying ht, MapKept.run_getObj_map hb, goInt, Result.andThen]
theorem wpList_lookupK {ops : Array Oper} {rest : List Oper} {o : Oper} {a : Act} {Q : Exit → Act → World → Prop} (h : KSet P k w b ks)
    (hg : o.guard = none) (m x : Operand) (t : TypeId) (hop : o.op = Op.lookup t m x false) (K : Keyed P k) (ht : P.underlying t = some (.map k e)) (hz : (zeroValue e).run P w = .ok (.bool false) w)
    (hm : a.eval m = .map (some b)) (key : Value) (hx : a.eval x = key) {kl : Lit} (hkey : keyOf P k key = some kl)
    (hK : ∀ r : Bool, (r = true ↔ key ∈ ks) → wpList P ops Q rest (a.put o.dst (.bool r)) w) : wpList P ops Q (o :: rest) a w := by
  refine wpList_plain hg fun K' hK' => ?_
  obtain ⟨r, hrun, hi⟩ := h.look K ht hz hkey
  unfold Oper.wp
  simp [execOp, hop, hm, hx, hrun, Result.andThen]
  exact hK' _ _ (hK r hi)
theorem wpList_storeK {ops : Array Oper} {rest : List Oper} {o : Oper} {a : Act} {Q : Exit → Act → World → Prop} (h : KSet P k w b ks)
    (hg : o.guard = none) (m x v : Operand) (t : TypeId) (hop : o.op = Op.mapUpdate t m x v ∨ o.op = Op.insert t m x v) (K : Keyed P k) (ht : P.underlying t = some (.map k e))
    (hm : a.eval m = .map (some b)) (key : Value) (hx : a.eval x = key) (hv : a.eval v = .bool true) {kl : Lit} (hkey : keyOf P k key = some kl) (hn : key ∉ ks)
    (hK : ∀ w', KSet P k w' b (ks ++ [key]) → w.grownBy w' (some b) → w'.heap.size = w.heap.size → wpList P ops Q rest (a.put o.dst undef) w') : wpList P ops Q (o :: rest) a w := by
  refine wpList_plain hg fun K' hK' => ?_
  obtain ⟨w', hrun, r1, r2, r3⟩ := h.store K ht hkey hn
  unfold Oper.wp
  rcases hop with hop | hop <;> simp [execOp, hop, hm, hx, hv, hrun, Result.andThen] <;> exact hK' _ _ (hK w' r1 r2 r3)
theorem wpList_lenK {ops : Array Oper} {rest : List Oper} {o : Oper} {a : Act} {Q : Exit → Act → World → Prop} (h : KSet P k w b ks)
    (hg : o.guard = none) (m : Operand) (t : TypeId) (hop : o.op = Op.call { callee := Callee.builtin Builtin.len, args := #[m], argTypes := #[t] }) (ht : P.underlying t = some (.map k e)) (hm : a.eval m = .map (some b))
    (hK : wpList P ops Q rest (a.put o.dst (.int .i64 ks.length)) w) : wpList P ops Q (o :: rest) a w := by
  refine wpList_plain hg fun K' hK' => ?_
  have hrun := h.len ht o.type
  unfold Oper.wp execOp
  simp only [hop, resolve, invoke, builtin, Sem.run_bind, Sem.run_pure, Result.andThen_ok, List.map_toArray, List.map_cons, List.map_nil, hm, hrun]
  exact hK' _ _ hK
end

/-- A queue of numbers: what its cells hold; from block 'base' on; room behind it. -/
def IQ (w : World) (base : Nat) (v : Value) (zs : List Int) : Prop :=
  ∃ ao b off cap cur, v = .slice ao zs.length cap ∧ zs.length ≤ cap ∧ cap ≤ maxLen ∧ (0 < cap → ao = some ⟨b, off, none⟩ ∧ base ≤ b ∧ w.heap[b]? = some (.cells cur 3 (0, 0)) ∧ off + cap ≤ cur.size ∧ ∀ j, j < zs.length → cur[off + j]? = (intsV zs)[j]?)
theorem IQ.kept {w w' : World} {base : Nat} {v : Value} {zs : List Int} {row : Option Nat} (h : IQ w base v zs) (hg : w.grownBy w' row) (hr : ∀ j, row = some j → j < base ∨ ∃ es clock, w.heap[j]? = some (.map es clock)) : IQ w' base v zs := by
  obtain ⟨ao, b, off, cap, cur, h1, h2, h3, h4⟩ := h
  refine ⟨ao, b, off, cap, cur, h1, h2, h3, fun hc => ?_⟩
  obtain ⟨g1, g2, g3, g4, g5⟩ := h4 hc
  refine ⟨g1, g2, (hg.block b (Array.getElem?_eq_some_iff.1 g3).1 (fun e0 => ?_)).trans g3, g4, g5⟩
  rcases hr b e0.symm with hlt | ⟨es, clock, ho⟩
  · omega
  · rw [g3] at ho
    cases ho
theorem IQ.alloc {w : World} {base : Nat} {v : Value} {zs : List Int} (h : IQ w base v zs) (o : Obj) : IQ (w.alloc o) base v zs := h.kept (World.grownBy_alloc w o none) (fun j e => by cases e)
theorem IQ.form {w : World} {base : Nat} {v : Value} {zs : List Int} (h : IQ w base v zs) : ∃ ao c, v = .slice ao zs.length c := by
  obtain ⟨ao, b, off, cap, cur, h1, _⟩ := h
  exact ⟨ao, cap, h1⟩
end Go.Proofs.YtghlnknncahkgaaGreat
