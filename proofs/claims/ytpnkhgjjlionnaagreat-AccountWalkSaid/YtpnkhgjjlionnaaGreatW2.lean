/-
  Texts joined by program, what the law uses alone: CertL Grp PairM SetQ Jor TogM Pairs Rws.
-/
import Derived.Laws.OwnMore
import Derived.WideKeyEntry
import Derived.Deep.AppendSrc
import Derived.Laws.IdiomCopy
import Derived.Deep.MidRow
import Derived.Test.YtpnkhgjjlionnaaGreatW1
namespace Go.Proofs.YtpnkhgjjlionnaaGreat
open Go.RowKit

/-- Which numbers are marked. -/
def BitsOf (bs : List Bool) (m : Nat) (S : List Int) : Prop := bs.length = m ∧ ∀ v, v < m → (bs[v]? = some true ↔ (v : Int) ∈ S)
def bools (bs : List Bool) : List Value := bs.map Value.bool
theorem BitsOf.none_ (m : Nat) : BitsOf (List.replicate m false) m [] := ⟨by simp, fun v hv => by simp [hv]⟩
theorem BitsOf.mark {bs : List Bool} {m : Nat} {S : List Int} (h : BitsOf bs m S) {v : Nat} (hv : v < m) : BitsOf (bs.set v true) m (S ++ [(v : Int)]) := by
  obtain ⟨h1, h2⟩ := h
  refine ⟨by simp [h1], fun u hu => ?_⟩
  rw [List.getElem?_set]
  by_cases e : v = u
  · subst e
    simp [h1, hv]
  · rw [if_neg e, h2 u hu]
    simp
    omega
theorem bools_set (bs : List Bool) (v : Nat) (b : Bool) : (bools bs).set v (.bool b) = bools (bs.set v b) := by simp [bools, List.map_set]
theorem infoBool : (Tryz.prog.info? 4).map (fun i => (i.zero, i.size, i.bytes)) = some (some (.bool false), 1, 1) := by kernel_rfl
theorem made_bools (m : Nat) : (madeCells (Value.bool false).cells (m * 1)).toList = bools (List.replicate m false) := by
  rw [Nat.mul_one]
  show (madeCells #[Value.bool false] m).toList = _
  rw [toList_madeCells_one]
  simp [bools]

set_option maxRecDepth 100000 in
set_option maxHeartbeats 2000000 in
theorem lonely_any (N : Int) (v : Value) (T : List Tr) (w : World) (h : TrisRd w v T) (hN : 0 ≤ N ∧ N ≤ 4096) (hl : T.length ≤ 8192) (hin : ∀ t ∈ T, in3 N t) : Calls Tryz.prog 89 #[.agg #[.int .i64 N, v]] w fun e w' => ∃ v', e = .returned v' ∧ WitsIs w' w.heap.size v' 5 (∀ u : Int, inR N u → u ∈ flatT T) ∧ Below w.heap.size w w' := by
  obtain ⟨i1, hi', hy0, hy1, hy2⟩ := info_parts infoWit
  obtain ⟨i2, hj', hz0, hz1, hz2⟩ := info_parts infoBool
  obtain ⟨a, c, rfl, hc1, hc2, hr⟩ := h
  have HR := Lib.hid hr
  obtain ⟨hN0, hN1⟩ := hN
  obtain ⟨m, rfl⟩ : ∃ m : Nat, N = m := ⟨N.toNat, by omega⟩
  have b1 := Blk.new w 24 #[.int .i64 m, .slice a T.length c]
  obtain ⟨l0, x0, -, x1, -⟩ := b1.two
  have hB0 : Below w.heap.size w (w.alloc (.cells #[.int .i64 m, .slice a T.length c] 24)) := (Below.refl _ _).alloc (Nat.le_refl _) _
  have HIN := Lib.hid hin
  obtain ⟨n, hn⟩ : ∃ n, T.length = n := ⟨_, rfl⟩
  rw [hn] at hl hc1 x0 x1 hB0 b1 l0 ⊢
  have HN := Lib.hid hn
  have ix0 := @index_t0
  have ix1 := @index_t1
  have ix2 := @index_t2
  clear hr hn hin
  go_enter Tryz.func89, Tryz.ntmps89
  go_wp2_with (at_make; refine wpList_make_full _ rfl (.tmp 12) (.tmp 12) 66 rfl w.heap.size 4 i2 _ 1 Tryz.underlying66 hj' hz0 hz1 .i64 .i64 _ _ m rfl rfl rfl rfl (by rw [hz2]; omega) (by unfold maxLen; omega) (by rw [size_alloc']; omega) ?_; intro w1 hr1 hg1; have k1 := b1.grown hg1 (by simp); obtain ⟨l1, y0, -, y1, -⟩ := k1.two)
  rw [made_bools, size_alloc'] at hr1
  have hB1 : Below w.heap.size w w1 := hB0.grown hg1 (by rw [size_alloc']; omega) (fun j e => by cases e)
  clear b1 x0 x1 l0 hg1 hB0
  go_loopw [17] (fun i wr => ∃ (k : Nat) (bs : List Bool), k ≤ n ∧ i = .int .i64 k ∧ wr.ownsRow w.heap.size 4 1 (.slice (some ⟨w.heap.size + 1, 0, none⟩) m m) m (bools bs) ∧ BitsOf bs m (flatT (T.take k)) ∧ Below w.heap.size w wr) (fun i _ => n - (intOf i).toNat)
  case atStart => exact ⟨0, _, Nat.zero_le _, rfl, hr1, BitsOf.none_ m, hB1⟩
  case round =>
    clear hr1 hB1 k1 l1 y0 y1
    obtain ⟨k, bs, hk, rfl, hrow, hbs, hB⟩ := hrel
    by_cases hlt : k < n
    · obtain ⟨t, ht⟩ : ∃ t, T[k]? = some t := ⟨T[k]'(by have := HN.out; omega), List.getElem?_eq_getElem _⟩
      obtain ⟨x, y, z⟩ := t
      obtain ⟨⟨ix1', ix2'⟩, ⟨iy1, iy2⟩, ⟨iz1, iz2⟩⟩ := HIN.out _ (List.mem_of_getElem? ht)
      simp only at ix1' ix2' iy1 iy2 iz1 iz2
      obtain ⟨x, rfl⟩ : ∃ q : Nat, x = q := ⟨x.toNat, by omega⟩
      obtain ⟨y, rfl⟩ : ∃ q : Nat, y = q := ⟨y.toNat, by omega⟩
      obtain ⟨z, rfl⟩ : ∃ q : Nat, z = q := ⟨z.toNat, by omega⟩
      obtain ⟨b, o, rfl, hbl, s0, s1, s2⟩ := HR.out k x y z ht
      have s0' := (hB.cell (p := ⟨b, _, none⟩) hbl).trans s0
      have s1' := (hB.cell (p := ⟨b, _, none⟩) hbl).trans s1
      have s2' := (hB.cell (p := ⟨b, _, none⟩) hbl).trans s2
      have Hts : Hid (flatT (T.take (k + 1)) = flatT (T.take k) ++ [(x : Int), (y : Int), (z : Int)]) := by
        refine Lib.hid ?_
        obtain ⟨hk', he⟩ := List.getElem?_eq_some_iff.1 ht
        rw [List.take_succ_eq_append_getElem hk', he]
        simp [flatT]
      have hsz := hB.size
      have hk3 : (k : Int) < (n : Int) := by omega
      have hk0 : (0 : Int) ≤ (k : Int) := by omega
      clear ht s0 s1 s2
      go_wp2
      rename World => wA
      go_loopw [22] (fun i wq => ∃ (j : Nat) (bs : List Bool), j ≤ 3 ∧ i = .int .i64 j ∧ wq.ownsRow w.heap.size 4 1 (.slice (some ⟨w.heap.size + 1, 0, none⟩) m m) m (bools bs) ∧ BitsOf bs m (flatT (T.take k) ++ [(x : Int), (y : Int), (z : Int)].take j) ∧ Below w.heap.size w wq) (fun i _ => 3 - (intOf i).toNat)
      case atStart => exact ⟨0, _, by omega, rfl, hrow.alloc _, by simpa using hbs, hB.alloc hB.size _⟩
      case round =>
        clear hrow hbs hB
        rename World => hrelW
        obtain ⟨j, cs, hj, rfl, hrow, hbs, hB⟩ := hrel
        have hj4 : j = 0 ∨ j = 1 ∨ j = 2 ∨ j = 3 := by omega
        have hfr := fun i => hrow.frozenAt i
        have hsz' := hB.size
        rcases hj4 with rfl | rfl | rfl | rfl
        · obtain ⟨cb, hcb⟩ : ∃ cb, cs[x]? = some cb := ⟨cs[x]'(by rw [hbs.1]; omega), List.getElem?_eq_getElem _⟩
          have hc : hrelW.cell? ⟨w.heap.size + 1, x, none⟩ = some (.bool cb) := by rw [hrow.cellAt x (by omega), bools, List.getElem?_map, hcb]; rfl
          have hf := hrow.frozenAt x
          have hv3 : (x : Int) < (m : Int) := by omega
          clear hfr hcb
          go_wp2
          go_roundw
          case measure => simp [intOf]
          case rel => exact ⟨1, cs.set x true, by omega, by simp, by rw [← bools_set]; exact (hrow.stored x _).1, by simpa using hbs.mark (v := x) (by omega), hB.grown (hrow.stored x _).2 hsz' (fun j e => by cases e; omega)⟩
        · obtain ⟨cb, hcb⟩ : ∃ cb, cs[y]? = some cb := ⟨cs[y]'(by rw [hbs.1]; omega), List.getElem?_eq_getElem _⟩
          have hc : hrelW.cell? ⟨w.heap.size + 1, y, none⟩ = some (.bool cb) := by rw [hrow.cellAt y (by omega), bools, List.getElem?_map, hcb]; rfl
          have hf := hrow.frozenAt y
          have hv3 : (y : Int) < (m : Int) := by omega
          clear hfr hcb
          go_wp2
          go_roundw
          case measure => simp [intOf]
          case rel => exact ⟨2, cs.set y true, by omega, by simp, by rw [← bools_set]; exact (hrow.stored y _).1, by simpa using hbs.mark (v := y) (by omega), hB.grown (hrow.stored y _).2 hsz' (fun j e => by cases e; omega)⟩
        · obtain ⟨cb, hcb⟩ : ∃ cb, cs[z]? = some cb := ⟨cs[z]'(by rw [hbs.1]; omega), List.getElem?_eq_getElem _⟩
          have hc : hrelW.cell? ⟨w.heap.size + 1, z, none⟩ = some (.bool cb) := by rw [hrow.cellAt z (by omega), bools, List.getElem?_map, hcb]; rfl
          have hf := hrow.frozenAt z
          have hv3 : (z : Int) < (m : Int) := by omega
          clear hfr hcb
          go_wp2
          go_roundw
          case measure => simp [intOf]
          case rel => exact ⟨3, cs.set z true, by omega, by simp, by rw [← bools_set]; exact (hrow.stored z _).1, by simpa using hbs.mark (v := z) (by omega), hB.grown (hrow.stored z _).2 hsz' (fun j e => by cases e; omega)⟩
        · have hbs' : BitsOf cs m (flatT (T.take (k + 1))) := by rw [Hts.out]; exact hbs
          go_wp2
          go_roundw
          case measure => simp [intOf]; omega
          case rel => exact ⟨k + 1, cs, by omega, by go_num, hrow, hbs', hB⟩
    · obtain rfl : k = n := by omega
      have hnn := HN.out
      rw [List.take_of_length_le (by omega)] at hbs
      have hb1 := Lib.hid hbs
      go_wp2
      clear ix0 ix1 ix2
      rename World => wB
      go_loopw [8, 32] (fun v3 i wr => ∃ (j : Nat) (v' : Value) (ws : List Tr), v' = v3 ∧ j ≤ m ∧ i = .int .i64 j ∧ wr.ownsRow w.heap.size 35 3 v' ws.length (ws3 ws) ∧ ws.length ≤ j ∧ (ws = [] ↔ ∀ u : Nat, u < j → (u : Int) ∈ flatT T) ∧ (∀ x ∈ ws, x.1 = 5) ∧ wr.ownsRow w.heap.size 4 1 (.slice (some ⟨w.heap.size + 1, 0, none⟩) m m) m (bools bs) ∧ Below w.heap.size w wr) (fun _ i _ => m - (intOf i).toNat)
      case atStart => exact ⟨0, _, [], rfl, Nat.zero_le _, rfl, World.ownsRow_nil _ _ _ _, Nat.le_refl _, by simp, by simp, hrow, hB⟩
      case round =>
        clear hrow hB
        obtain ⟨j, v', ws, rfl, hj, rfl, hrw, hwl, hws, hkd, hrow, hB⟩ := hrel
        rename World => wC
        have Hws := Lib.hid hws
        have hsz := hB.size
        clear hws
        by_cases hjm : j < m
        · obtain ⟨cb, hcb⟩ : ∃ cb, bs[j]? = some cb := ⟨bs[j]'(by rw [hb1.out.1]; omega), List.getElem?_eq_getElem _⟩
          have hc : wC.cell? ⟨w.heap.size + 1, j, none⟩ = some (.bool cb) := by rw [hrow.cellAt j (by omega), bools, List.getElem?_map, hcb]; rfl
          have Hcb := Lib.hid (hb1.out.2 j hjm)
          have hv3 : (j : Int) < (m : Int) := by omega
          have hv0 : (0 : Int) ≤ (j : Int) := by omega
          have c3 : ws.length + 1 ≤ maxLen := by unfold maxLen; omega
          have c4 : (ws.length + 1) * 24 ≤ 140737488355328 := by omega
          have HNE := Lib.hid (own_own_ne hrow hrw (by decide))
          cases cb
          · have hn' : Hid (¬ (j : Int) ∈ flatT T) := Lib.hid (fun e => by have := Hcb.out.2 e; rw [hcb] at this; cases this)
            clear hcb
            go_wp2_with (at_builtin; refine wpList_append_lies _ rfl (.tmp 39) (.tmp 42) 113 rfl w.heap.size 35 i1 _ 3 24 Tryz.underlying113 hi' hy0 hy1 hy2 rfl (by decide) _ _ _ rfl (hrw.alloc _) ⟨wC.heap.size, 0, none⟩ 1 1 [.int .i64 5, .int .i64 j, .int .i64 0] rfl rfl (World.news_of_block (heap_alloc_new _ _)) (by simp [Value.oneCell']) (by decide) c3 c4 (by rw [size_alloc']; omega) (wC.heap.size + 1) (by simp) ?_; intro g4 cap4 W4 hr4 hg4 _ _)
            go_roundw
            case measure => simp [intOf]; omega
            case rel =>
              refine ⟨j + 1, _, ws ++ [(5, (j : Int), 0)], rfl, by omega, by go_num, by rw [ws3_snoc]; simpa using hr4, by simp; omega, ?_, snoc_kind hkd rfl, (hrow.alloc _).kept hg4 HNE.out, hB.grown (gGrown (World.grownBy_alloc _ _ _) hg4 (row := v'.ownBlock) (fun _ e => .inl e)) hsz (fun j e => (hrw.lt j e).1)⟩
              constructor
              · intro h; simp at h
              · intro h; exact absurd (h j (by omega)) hn'.out
          · have hn' : Hid ((j : Int) ∈ flatT T) := Lib.hid (Hcb.out.1 hcb)
            clear hcb
            go_wp2
            go_roundw
            case measure => simp [intOf]; omega
            case rel =>
              refine ⟨j + 1, _, ws, rfl, by omega, by go_num, hrw, by omega, ?_, hkd, hrow, hB⟩
              rw [Hws.out]
              constructor
              · intro h u hu
                by_cases e : u = j
                · rw [e]; exact hn'.out
                · exact h u (by omega)
              · intro h u hu
                exact h u (by omega)
        · obtain rfl : j = m := by omega
          have Hrow := Lib.hid hrw
          have HB := Lib.hid hB
          clear hrow hB hrw
          go_wp2
          go_ret
          refine ⟨_, rfl, ⟨ws, Hrow.out, ?_, hkd, by omega⟩, HB.out⟩
          rw [Hws.out]
          constructor
          · intro h u hu
            obtain ⟨q, rfl⟩ : ∃ q : Nat, u = q := ⟨u.toNat, by have := hu.1; omega⟩
            exact h q (by have := hu.2; omega)
          · intro h u hu
            exact h u ⟨by omega, by omega⟩
end Go.Proofs.YtpnkhgjjlionnaaGreat
namespace Go.Proofs.YtpnkhgjjlionnaaGreat
open Go.RowKit Go.Maps
open Go.MapKept (Stamped)

def intsV (zs : List Int) : List Value := zs.map (Value.int .i64)
open Classical in
noncomputable def upd (f : Value → List Int) (key : Value) (zs : List Int) : Value → List Int := fun y => if y = key then zs else f y
theorem upd_same (f : Value → List Int) (key : Value) (zs : List Int) : upd f key zs key = zs := by simp [upd]
theorem upd_other {f : Value → List Int} {key y : Value} {zs : List Int} (h : y ≠ key) : upd f key zs y = f y := by simp [upd, h]
/-- Block b is a map from keys of type k to rows (of one-cell elements e, from block 'base' on, apart from each other): at a key the numbers f says. -/
def Grp (P : Program) (k : TypeId) (base : Nat) (e : TypeId) (w : World) (b : Nat) (f : Value → List Int) : Prop :=
  ∃ es clock, w.heap[b]? = some (.map es clock) ∧ Stamped es clock ∧ (∀ x ∈ es.toList, ∃ l, keyOf P k x.key = some l) ∧
    (∀ x ∈ es.toList, w.ownsRow base e 1 x.val (f x.key).length (intsV (f x.key))) ∧
    (∀ x ∈ es.toList, ∀ y ∈ es.toList, x.key ≠ y.key → x.val.ownBlock = none ∨ x.val.ownBlock ≠ y.val.ownBlock) ∧
    (∀ key, (∀ x ∈ es.toList, x.key ≠ key) → f key = []) ∧ b < base
section
variable {P : Program} {k e : TypeId} {base b : Nat} {w : World} {f : Value → List Int}
theorem Grp.made (w : World) (P : Program) (k e : TypeId) {base : Nat} (h : w.heap.size < base) : Grp P k base e (w.alloc (.map #[] 0)) w.heap.size (fun _ => []) :=
  ⟨#[], 0, heap_alloc_new w _, MapKept.stamped_empty 0, by simp, by simp, by simp, fun _ _ => rfl, h⟩
theorem Grp.lt (h : Grp P k base e w b f) : b < w.heap.size := by
  obtain ⟨es, clock, hb, _⟩ := h
  exact (Array.getElem?_eq_some_iff.1 hb).1
theorem Grp.notRow (h : Grp P k base e w b f) {base' : Nat} {e' : TypeId} {s n : Nat} {v : Value} {xs : List Value} (hr : w.ownsRow base' e' s v n xs) : v.ownBlock ≠ some b := by
  obtain ⟨es, clock, hb, _⟩ := h
  intro e0
  rcases hr.2 with ⟨rfl, _⟩ | ⟨g, cap, cur, rfl, _, hh, _⟩
  · cases e0
  · have : g = b := by simpa [Value.ownBlock] using e0
    subst this
    rw [hh] at hb
    cases hb
theorem Grp.kept {w' : World} {row : Option Nat} (h : Grp P k base e w b f) (hg : w.grownBy w' row) (hne : some b ≠ row) (hr : ∀ v n xs, w.ownsRow base e 1 v n xs → v.ownBlock = none ∨ v.ownBlock ≠ row) : Grp P k base e w' b f := by
  have hlt := h.lt
  obtain ⟨es, clock, hb, h1, h2, h3, h4, h5, h6⟩ := h
  exact ⟨es, clock, (hg.block b hlt hne).trans hb, h1, h2, fun x hx => (h3 x hx).kept hg (hr _ _ _ (h3 x hx)), h4, h5, h6⟩
theorem Grp.alloc (h : Grp P k base e w b f) (o : Obj) : Grp P k base e (w.alloc o) b f := h.kept (World.grownBy_alloc w o none) (by simp) (fun v _ _ hv => by
  cases hb : v.ownBlock
  · exact .inl rfl
  · exact .inr (by simp))
theorem Grp.grown {w' : World} (h : Grp P k base e w b f) (hg : w.grownBy w' none) : Grp P k base e w' b f := h.kept hg (by simp) (fun v _ _ hv => by
  cases hb : v.ownBlock
  · exact .inl rfl
  · exact .inr (by simp))
/-- A row of elements of another type is written. -/
theorem Grp.row {w' : World} {base' : Nat} {e' : TypeId} {s n : Nat} {v : Value} {xs : List Value} (h : Grp P k base e w b f) (hr : w.ownsRow base' e' s v n xs) (hne : e ≠ e') (hg : w.grownBy w' v.ownBlock) : Grp P k base e w' b f :=
  h.kept hg (fun e0 => h.notRow hr e0.symm) (fun _ _ _ hv => own_own_ne hv hr hne)
/-- Another map is written. -/
theorem Grp.map {w' : World} {b' : Nat} {es : Array MapEntry} {clock : Nat} (h : Grp P k base e w b f) (hm : w.heap[b']? = some (.map es clock)) (hne : b ≠ b') (hg : w.grownBy w' (some b')) : Grp P k base e w' b f :=
  h.kept hg (by simpa using hne) (fun v _ _ hv => by
    rcases hv.2 with ⟨rfl, _⟩ | ⟨g, cap, cur, rfl, _, hh, _⟩
    · exact .inl rfl
    · refine .inr (fun e0 => ?_)
      have : g = b' := by simpa [Value.ownBlock] using e0
      subst this
      rw [hh] at hm
      cases hm)
theorem Grp.look {t E : TypeId} (h : Grp P k base e w b f) (K : Keyed P k) (ht : P.underlying t = some (.map k E)) (hz : (zeroValue E).run P w = .ok (.slice none 0 0) w) {key : Value} {kl : Lit} (hkey : keyOf P k key = some kl) :
    ∃ v, (Instr.lookup t (.map (some b)) key false).run P w = .ok v w ∧ w.ownsRow base e 1 v (f key).length (intsV (f key)) := by
  obtain ⟨es, clock, hb, h1, h2, h3, h4, h5, h6⟩ := h
  rcases K.find w hkey es.toList h2 with ⟨g1, g2⟩ | ⟨j, e0, g1, g2, g3⟩
  · refine ⟨.slice none 0 0, by simp [Instr.lookup, run_underlying ht, MapKept.run_getObj_map hb, K.check w _ hkey, g1, hz, Result.andThen], ?_⟩
    rw [h5 key g2]
    exact World.ownsRow_nil _ _ _ _
  · refine ⟨e0.val, by simp [Instr.lookup, run_underlying ht, MapKept.run_getObj_map hb, K.check w _ hkey, g1, Result.andThen], ?_⟩
    have := h3 e0 (List.mem_of_getElem? g2)
    rw [g3] at this
    exact this
theorem setBlock_grown {w : World} {es : Array MapEntry} {clock : Nat} (hb : w.heap[b]? = some (.map es clock)) (o : Obj) : w.grownBy (ChangeMaps.setBlock w b o) (some b) :=
  ⟨rfl, rfl, rfl, by simp [ChangeMaps.setBlock], fun i _ hi => ChangeMaps.heap_setBlock_other hb _ (fun e1 => hi (by rw [e1]))⟩
theorem mem_set_apart {l : List MapEntry} (hd : l.Pairwise (fun x y => x.key ≠ y.key)) {j : Nat} {e0 a : MapEntry} (h : l[j]? = some e0) {x : MapEntry} (hx : x ∈ l.set j a) : x = a ∨ (x ∈ l ∧ x.key ≠ e0.key) := by
  obtain ⟨i, hi⟩ := List.mem_iff_getElem?.1 hx
  rw [List.getElem?_set] at hi
  by_cases hij : j = i
  · subst hij
    have hlt := (List.getElem?_eq_some_iff.1 h).1
    rw [if_pos rfl, if_pos hlt] at hi
    exact .inl (Option.some.inj hi).symm
  · rw [if_neg hij] at hi
    refine .inr ⟨List.mem_of_getElem? hi, ?_⟩
    obtain ⟨h1, e1⟩ := List.getElem?_eq_some_iff.1 hi
    obtain ⟨h2, e2⟩ := List.getElem?_eq_some_iff.1 h
    have hp := List.pairwise_iff_getElem.1 hd
    rcases Nat.lt_or_gt_of_ne hij with hlt | hlt
    · have := hp j i h2 h1 hlt
      rw [e1, e2] at this
      exact fun e3 => this e3.symm
    · have := hp i j h1 h2 hlt
      rw [e1, e2] at this
      exact this
/-- Entered at a key: what is there, and the way back: what is stored at the stamp. -/
theorem Grp.entry {t E : TypeId} (h : Grp P k base e w b f) (K : Keyed P k) (ht : P.underlying t = some (.map k E)) (hz : ∀ u : World, (zeroValue E).run P u = .ok (.slice none 0 0) u) {key : Value} {kl : Lit} (hkey : keyOf P k key = some kl) :
    ∃ v st W1, (Instr.mapEntry t (.map (some b)) key).run P w = .ok (.tuple #[v, .int .i64 st]) W1 ∧ w.grownBy W1 (some b) ∧ W1.heap.size = w.heap.size ∧ Grp P k base e W1 b f ∧ W1.ownsRow base e 1 v (f key).length (intsV (f key)) ∧
      ∀ (W2 : World) (v' : Value) (zs' : List Int), W1.grownBy W2 v.ownBlock → W2.ownsRow base e 1 v' zs'.length (intsV zs') → (v'.ownBlock = v.ownBlock ∨ ∃ g, v'.ownBlock = some g ∧ W1.heap.size ≤ g) →
        ∃ W3, (Instr.entryStore t (.map (some b)) (.int .i64 st) v').run P W2 = .ok () W3 ∧ Grp P k base e W3 b (upd f key zs') ∧ W2.grownBy W3 (some b) := by
  have hblt := h.lt
  obtain ⟨es, clock, hb, h1, h2, h3, h4, h5, h6⟩ := h
  -- what is behind the entry: the key stands somewhere
  have claim : ∃ (es1 : Array MapEntry) (clock1 j : Nat) (e1 : MapEntry), (Instr.mapEntry t (.map (some b)) key).run P w = .ok (.tuple #[e1.val, goInt e1.born]) (ChangeMaps.setBlock w b (.map es1 clock1)) ∧ Stamped es1 clock1 ∧
      es1.toList[j]? = some e1 ∧ e1.key = key ∧ (∀ x ∈ es1.toList, ∃ l, keyOf P k x.key = some l) ∧ (∀ x ∈ es1.toList, w.ownsRow base e 1 x.val (f x.key).length (intsV (f x.key))) ∧
      (∀ x ∈ es1.toList, ∀ y ∈ es1.toList, x.key ≠ y.key → x.val.ownBlock = none ∨ x.val.ownBlock ≠ y.val.ownBlock) ∧ (∀ key, (∀ x ∈ es1.toList, x.key ≠ key) → f key = []) := by
    rcases K.find w hkey es.toList h2 with ⟨g1, g2⟩ | ⟨j, e0, g1, g2, g3⟩
    · refine ⟨es.push ⟨key, .slice none 0 0, clock⟩, clock + 1, es.size, ⟨key, .slice none 0 0, clock⟩, ?_, MapKept.stamped_push h1 g2, by simp, rfl, ?_, ?_, ?_, ?_⟩
      · simp [Instr.mapEntry, run_underlying ht, MapKept.run_getObj_map hb, K.check w false hkey, g1, hz, MapKept.run_setObj_map _ hb, Result.andThen, ChangeMaps.setBlock]
      · intro x hx
        simp only [Array.toList_push, List.mem_append, List.mem_singleton] at hx
        rcases hx with hx | rfl
        · exact h2 x hx
        · exact ⟨_, hkey⟩
      · intro x hx
        simp only [Array.toList_push, List.mem_append, List.mem_singleton] at hx
        rcases hx with hx | rfl
        · exact h3 x hx
        · rw [h5 key g2]
          exact World.ownsRow_nil _ _ _ _
      · intro x hx y hy hne
        simp only [Array.toList_push, List.mem_append, List.mem_singleton] at hx hy
        rcases hx with hx | rfl
        · rcases hy with hy | rfl
          · exact h4 x hx y hy hne
          · cases hv : x.val.ownBlock
            · exact .inl rfl
            · exact .inr (by simp [Value.ownBlock])
        · exact .inl rfl
      · intro u hu
        exact h5 u (fun x hx => hu x (by simp [hx]))
    · have hj : es[j]? = some e0 := by simpa using g2
      have hsame : es.modify j (fun e => { e with key := key }) = es := by
        apply Array.ext'
        rw [Array.toList_modify, ChangeMaps.modify_eq_set _ _ _ _ g2]
        have : ({ e0 with key := key } : MapEntry) = e0 := by rw [← g3]
        rw [this]
        exact WideElems.set_self _ _ _ g2
      refine ⟨es, clock, j, e0, ?_, h1, g2, g3, h2, h3, h4, h5⟩
      simp [Instr.mapEntry, run_underlying ht, MapKept.run_getObj_map hb, K.check w false hkey, g1, hj, g3, K.stays w hkey, hsame, MapKept.run_setObj_map _ hb, Result.andThen, ChangeMaps.setBlock]
  obtain ⟨es1, clock1, j, e1, c0, c1, c2, c3, c4, c5, c6, c7⟩ := claim
  have hgw := setBlock_grown hb (.map es1 clock1)
  have hne_b : ∀ {u : World} {v : Value} {n : Nat} {xs : List Value}, u.ownsRow base e 1 v n xs → v.ownBlock = none ∨ v.ownBlock ≠ some b := fun {u v n xs} hv => by
    cases hb' : v.ownBlock
    · exact .inl rfl
    · refine .inr (fun e2 => ?_)
      have := (hv.lt _ hb').1
      cases e2
      omega
  have hrows : ∀ x ∈ es1.toList, (ChangeMaps.setBlock w b (.map es1 clock1)).ownsRow base e 1 x.val (f x.key).length (intsV (f x.key)) := fun x hx => (c5 x hx).kept hgw (hne_b (c5 x hx))
  have hm1 : (ChangeMaps.setBlock w b (.map es1 clock1)).heap[b]? = some (.map es1 clock1) := ChangeMaps.heap_setBlock_same hb _
  have m1 := List.mem_of_getElem? c2
  refine ⟨e1.val, e1.born, _, c0, hgw, by simp [ChangeMaps.setBlock], ⟨es1, clock1, hm1, c1, c4, hrows, c6, c7, h6⟩, by have := hrows e1 m1; rw [c3] at this; exact this, ?_⟩
  intro W2 v' zs' hg hown hloc
  have hbW : (ChangeMaps.setBlock w b (.map es1 clock1)).heap.size = w.heap.size := by simp [ChangeMaps.setBlock]
  have hvb : some b ≠ e1.val.ownBlock := fun e2 => by
    rcases hne_b (hrows e1 m1) with h | h
    · rw [h] at e2; cases e2
    · exact h e2.symm
  have hm2 : W2.heap[b]? = some (.map es1 clock1) := (hg.block b (by rw [hbW]; exact hblt) hvb).trans hm1
  obtain ⟨s1, s2, s3⟩ := (MapKept.stamped_iff es1 clock1).1 c1
  have hidx : es1.findIdx? (fun e => ((e.born : Nat) : Int) == ((e1.born : Nat) : Int)) = some j := by
    rw [WideElems.findIdx_arr]
    exact WideElems.findIdx_born s2 c2
  have hset : (es1.modify j (fun e => { e with val := v' })).toList = es1.toList.set j { e1 with val := v' } := by
    rw [Array.toList_modify, ChangeMaps.modify_eq_set _ _ _ _ c2]
  have hgw2 := setBlock_grown hm2 (.map (es1.modify j (fun e => { e with val := v' })) clock1)
  have hmem : ∀ x ∈ (es1.modify j (fun e => { e with val := v' })).toList, x = { e1 with val := v' } ∨ (x ∈ es1.toList ∧ x.key ≠ key) := by
    intro x hx
    rw [hset] at hx
    rcases mem_set_apart s3 c2 hx with h | ⟨h, h'⟩
    · exact .inl h
    · exact .inr ⟨h, by rw [← c3]; exact h'⟩
  have old : ∀ x ∈ es1.toList, x.key ≠ key → x.val.ownBlock = none ∨ x.val.ownBlock ≠ e1.val.ownBlock := fun x hx hne => c6 x hx e1 m1 (by rw [c3]; exact hne)
  have old_new : ∀ x ∈ es1.toList, x.key ≠ key → x.val.ownBlock = none ∨ x.val.ownBlock ≠ v'.ownBlock := by
    intro x hx hne
    rcases hloc with g1 | ⟨g, g1, g2⟩
    · rw [g1]
      exact old x hx hne
    · cases hx' : x.val.ownBlock
      · exact .inl rfl
      · refine .inr (fun e2 => ?_)
        have := ((hrows x hx).lt _ hx').2
        rw [g1] at e2
        cases e2
        omega
  refine ⟨ChangeMaps.setBlock W2 b (.map (es1.modify j (fun e => { e with val := v' })) clock1), ?_, ⟨_, clock1, ChangeMaps.heap_setBlock_same hm2 _, ?_, ?_, ?_, ?_, ?_, h6⟩, hgw2⟩
  · have hidx' : es1.findIdx? (fun e => ((e.born : Nat) : Int) == ((e1.born : Nat) : Int)) = some j := hidx
    simp [Instr.entryStore, MapKept.run_getObj_map hm2, asInt, asIntOf, hidx', MapKept.run_setObj_map _ hm2, Result.andThen, ChangeMaps.setBlock]
  · exact MapKept.stamped_modify c1 j _ (fun _ _ => rfl) (fun _ _ _ => rfl)
  · intro x hx
    rcases hmem x hx with rfl | ⟨hx, _⟩
    · exact c4 e1 m1
    · exact c4 x hx
  · intro x hx
    rcases hmem x hx with rfl | ⟨hx, hne⟩
    · simp only [c3, upd_same]
      exact hown.kept hgw2 (hne_b hown)
    · simp only [upd_other hne]
      have r2 := (hrows x hx).kept hg (old x hx hne)
      exact r2.kept hgw2 (hne_b r2)
  · intro x hx y hy hne
    rcases hmem x hx with rfl | ⟨hx, hxk⟩ <;> rcases hmem y hy with rfl | ⟨hy, hyk⟩
    · exact absurd rfl hne
    · show v'.ownBlock = none ∨ v'.ownBlock ≠ y.val.ownBlock
      cases hv : v'.ownBlock
      · exact .inl rfl
      · refine .inr (fun e2 => ?_)
        rcases old_new y hy hyk with h | h
        · rw [h] at e2; cases e2
        · exact h (by rw [hv, e2])
    · exact old_new x hx hxk
    · exact c6 x hx y hy hne
  · intro u hu
    have huk : u ≠ key := fun e2 => hu { e1 with val := v' } (by rw [hset]; exact List.mem_iff_getElem?.2 ⟨j, by rw [List.getElem?_set, if_pos rfl, if_pos (List.getElem?_eq_some_iff.1 c2).1]⟩) (by rw [e2]; exact c3)
    rw [upd_other huk]
    refine c7 u (fun x hx e2 => ?_)
    obtain ⟨i, hi⟩ := List.mem_iff_getElem?.1 hx
    have hij : j ≠ i := fun e3 => by
      subst e3
      rw [c2] at hi
      cases hi
      exact huk (e2.symm.trans c3)
    exact hu x (by rw [hset]; exact List.mem_iff_getElem?.2 ⟨i, by rw [List.getElem?_set, if_neg hij]; exact hi⟩) e2
theorem wpList_lookupG {ops : Array Oper} {rest : List Oper} {o : Oper} {a : Act} {Q : Exit → Act → World → Prop} (h : Grp P k base e w b f)
    (hg : o.guard = none) (m x : Operand) (t E : TypeId) (hop : o.op = Op.lookup t m x false) (K : Keyed P k) (ht : P.underlying t = some (.map k E)) (hz : (zeroValue E).run P w = .ok (.slice none 0 0) w)
    (hm : a.eval m = .map (some b)) (key : Value) (hx : a.eval x = key) {kl : Lit} (hkey : keyOf P k key = some kl)
    (hK : ∀ v, w.ownsRow base e 1 v (f key).length (intsV (f key)) → wpList P ops Q rest (a.put o.dst v) w) : wpList P ops Q (o :: rest) a w := by
  refine wpList_plain hg fun K' hK' => ?_
  obtain ⟨v, hrun, r1⟩ := h.look K ht hz hkey
  unfold Oper.wp
  simp [execOp, hop, hm, hx, hrun, Result.andThen]
  exact hK' _ _ (hK v r1)
theorem wpList_entryG {ops : Array Oper} {rest : List Oper} {o : Oper} {a : Act} {Q : Exit → Act → World → Prop} (h : Grp P k base e w b f)
    (hg : o.guard = none) (m x : Operand) (t E : TypeId) (hop : o.op = Op.mapEntry t m x) (K : Keyed P k) (ht : P.underlying t = some (.map k E)) (hz : ∀ u : World, (zeroValue E).run P u = .ok (.slice none 0 0) u)
    (hm : a.eval m = .map (some b)) (key : Value) (hx : a.eval x = key) {kl : Lit} (hkey : keyOf P k key = some kl)
    (hK : ∀ v st W1, w.grownBy W1 (some b) → W1.heap.size = w.heap.size → Grp P k base e W1 b f → W1.ownsRow base e 1 v (f key).length (intsV (f key)) →
      (∀ (W2 : World) (v' : Value) (zs' : List Int), W1.grownBy W2 v.ownBlock → W2.ownsRow base e 1 v' zs'.length (intsV zs') → (v'.ownBlock = v.ownBlock ∨ ∃ g, v'.ownBlock = some g ∧ W1.heap.size ≤ g) →
        ∃ W3, (Instr.entryStore t (.map (some b)) (.int .i64 st) v').run P W2 = .ok () W3 ∧ Grp P k base e W3 b (upd f key zs') ∧ W2.grownBy W3 (some b)) →
      wpList P ops Q rest (a.put o.dst (.tuple #[v, .int .i64 st])) W1) : wpList P ops Q (o :: rest) a w := by
  refine wpList_plain hg fun K' hK' => ?_
  obtain ⟨v, st, W1, hrun, r1, r2, r3, r4, r5⟩ := h.entry K ht hz hkey
  unfold Oper.wp
  simp [execOp, hop, hm, hx, hrun, Result.andThen]
  exact hK' _ _ (hK v st W1 r1 r2 r3 r4 r5)
end
end Go.Proofs.YtpnkhgjjlionnaaGreat
namespace Go.Proofs.YtpnkhgjjlionnaaGreat
open Go.RowKit Go.Maps

theorem arrPair : WideMaps.ArrKey Tryz.prog 74 3 2 := ⟨Tryz.underlying74, by kernel_rfl, by kernel_rfl, by kernel_rfl⟩
theorem arrThree : WideMaps.ArrKey Tryz.prog 59 3 3 := ⟨Tryz.underlying59, by kernel_rfl, by kernel_rfl, by kernel_rfl⟩
theorem types_succ : ∃ m, Tryz.prog.types.size = m + 1 := ⟨Tryz.prog.types.size - 1, by kernel_rfl⟩
theorem zero_bool (w : World) : (zeroValue 4).run Tryz.prog w = .ok (.bool false) w := by kernel_rfl
theorem zero_ints (w : World) : (zeroValue 30).run Tryz.prog w = .ok (.slice none 0 0) w := by kernel_rfl
def triV (t : Tr) : Value := .agg #[.int .i64 t.1, .int .i64 t.2.1, .int .i64 t.2.2]
def pairV (e : Int × Int) : Value := .agg #[.int .i64 e.1, .int .i64 e.2]
theorem triV_inj {a b : Tr} (h : triV a = triV b) : a = b := by
  obtain ⟨a1, a2, a3⟩ := a
  obtain ⟨b1, b2, b3⟩ := b
  simpa [triV] using h

section
variable {P : Program} {k e : TypeId} {w : World} {b n : Nat} {seen : List Value}
theorem MapB.obj (h : MapB P k e w b n seen) : ∃ es clock, w.heap[b]? = some (.map es clock) := by
  obtain ⟨D, ⟨es, clock, hb, _⟩, _⟩ := h
  exact ⟨es, clock, hb⟩
theorem Grp.obj {base : Nat} {f : Value → List Int} (h : Grp P k base e w b f) : ∃ es clock, w.heap[b]? = some (.map es clock) := by
  obtain ⟨es, clock, hb, _⟩ := h
  exact ⟨es, clock, hb⟩
theorem row_map_ne {base' n' s : Nat} {e' : TypeId} {v : Value} {xs : List Value} (hr : w.ownsRow base' e' s v n' xs) (hm : ∃ es clock, w.heap[b]? = some (.map es clock)) : v.ownBlock = none ∨ v.ownBlock ≠ some b := by
  obtain ⟨es, clock, hb⟩ := hm
  rcases hr.2 with ⟨rfl, _⟩ | ⟨g, cap, cur, rfl, _, hh, _⟩
  · exact .inl rfl
  · refine .inr (fun e0 => ?_)
    have : g = b := by simpa [Value.ownBlock] using e0
    subst this
    rw [hh] at hb
    cases hb
theorem map_row_ne {base' n' s : Nat} {e' : TypeId} {v : Value} {xs : List Value} (hr : w.ownsRow base' e' s v n' xs) (hm : ∃ es clock, w.heap[b]? = some (.map es clock)) : some b ≠ v.ownBlock := by
  rcases row_map_ne hr hm with h | h
  · rw [h]; simp
  · exact fun e0 => h e0.symm
theorem wpList_lookupB {ops : Array Oper} {rest : List Oper} {o : Oper} {a : Act} {Q : Exit → Act → World → Prop} (h : MapB P k e w b n seen)
    (hg : o.guard = none) (m x : Operand) (t : TypeId) (hop : o.op = Op.lookup t m x false) (K : Keyed P k) (ht : P.underlying t = some (.map k e)) (he : P.underlying e = some .bool) (hz : (zeroValue e).run P w = .ok (.bool false) w)
    (hm : a.eval m = .map (some b)) (key : Value) (hx : a.eval x = key) {kl : Lit} (hkey : keyOf P k key = some kl)
    (hK : ∀ r : Bool, (r = true ↔ key ∈ seen) → wpList P ops Q rest (a.put o.dst (.bool r)) w) : wpList P ops Q (o :: rest) a w := by
  refine wpList_plain hg fun K' hK' => ?_
  obtain ⟨r, hrun, hi⟩ := h.look K ht he hz hkey
  unfold Oper.wp
  simp [execOp, hop, hm, hx, hrun, Result.andThen]
  exact hK' _ _ (hK r hi)
theorem wpList_storeB {ops : Array Oper} {rest : List Oper} {o : Oper} {a : Act} {Q : Exit → Act → World → Prop} (h : MapB P k e w b n seen)
    (hg : o.guard = none) (m x v : Operand) (t : TypeId) (hop : o.op = Op.mapUpdate t m x v) (K : Keyed P k) (ht : P.underlying t = some (.map k e)) (he : P.underlying e = some .bool) (hn : n < maxLen)
    (hm : a.eval m = .map (some b)) (key : Value) (hx : a.eval x = key) (hv : a.eval v = .bool true) {kl : Lit} (hkey : keyOf P k key = some kl)
    (hK : ∀ w', MapB P k e w' b (n + 1) (key :: seen) → w.grownBy w' (some b) → wpList P ops Q rest (a.put o.dst undef) w') : wpList P ops Q (o :: rest) a w := by
  refine wpList_plain hg fun K' hK' => ?_
  obtain ⟨w', hrun, r1, r2⟩ := h.store K ht he hn hkey
  unfold Oper.wp
  simp [execOp, hop, hm, hx, hv, hrun, Result.andThen]
  exact hK' _ _ (hK w' r1 r2)
theorem wpList_entryStore {ops : Array Oper} {rest : List Oper} {o : Oper} {a : Act} {Q : Exit → Act → World → Prop}
    (hg : o.guard = none) (m s v : Operand) (t : TypeId) (hop : o.op = Op.entryStore t m s v) {vm vs vv : Value} (hm : a.eval m = vm) (hs : a.eval s = vs) (hv : a.eval v = vv) {w' : World}
    (hrun : (Instr.entryStore t vm vs vv).run P w = .ok () w') (hK : wpList P ops Q rest (a.put o.dst undef) w') : wpList P ops Q (o :: rest) a w := by
  refine wpList_plain hg fun K' hK' => ?_
  unfold Oper.wp
  simp [execOp, hop, hm, hs, hv, hrun, Result.andThen]
  exact hK' _ _ hK
end

/-- What is held. H: the world's size at the start; f: the rows at each key; S: the pairs seen. -/
structure PairSt (w W : World) (kind : Int) (f : Value → List Int) (S : List Value) (v : Value) (ws : List Tr) : Prop where
  g : Grp Tryz.prog 59 (w.heap.size + 3) 3 W (w.heap.size + 1) f
  s : MapB Tryz.prog 74 4 W (w.heap.size + 2) ws.length S
  r : W.ownsRow w.heap.size 35 3 v ws.length (ws3 ws)
  b : Below w.heap.size w W
  c : ws = [] → S = []
  k : ∀ x ∈ ws, x.1 = kind
section
variable {w W : World} {kind : Int} {f : Value → List Int} {S : List Value} {v : Value} {ws : List Tr}
theorem PairSt.alloc (h : PairSt w W kind f S v ws) (o : Obj) : PairSt w (W.alloc o) kind f S v ws :=
  ⟨h.g.alloc o, h.s.kept (World.grownBy_alloc W o none) (by simp), h.r.alloc o, h.b.alloc h.b.size o, h.c, h.k⟩
theorem PairSt.below {W' : World} (h : PairSt w W kind f S v ws) (hb : Below W.heap.size W W') : PairSt w W' kind f S v ws :=
  ⟨h.g.grown (grown_of_below hb none), h.s.kept (grown_of_below hb none) (by simp), h.r.kept (grown_of_below hb none) (by cases e0 : v.ownBlock <;> simp), h.b.trans (hb.mono h.b.size), h.c, h.k⟩
/-- A pair is marked, and its witness written. -/
theorem PairSt.mark {W1 W2 : World} {o : Obj} {x : Tr} {v' p : Value} (h : PairSt w W kind f S v ws) (hm : MapB Tryz.prog 74 4 W1 (w.heap.size + 2) (ws.length + 1) (p :: S)) (hg : W.grownBy W1 (some (w.heap.size + 2)))
    (hr : W2.ownsRow w.heap.size 35 3 v' (ws.length + 1) (ws3 (ws ++ [x]))) (hg2 : (W1.alloc o).grownBy W2 v.ownBlock) (hx : x.1 = kind) : PairSt w W2 kind f (p :: S) v' (ws ++ [x]) := by
  have hr1 := h.r.kept hg (row_map_ne h.r h.s.obj)
  obtain ⟨es, clock, hob⟩ := h.s.obj
  have g1 := h.g.map hob (by omega) hg
  have hall := gGrown (World.grownBy_alloc W1 o v.ownBlock) hg2 (row := v.ownBlock) (fun _ e => .inl e)
  exact ⟨g1.row hr1 (by decide) hall, by rw [List.length_append]; exact hm.kept hall (map_row_ne hr1 hm.obj), by rw [List.length_append]; exact hr, (h.b.grown hg h.b.size (fun j e => by cases e; omega)).grown hall (Nat.le_trans h.b.size hg.size) (fun j e => (hr1.lt j e).1), by simp, snoc_kind h.k hx⟩
theorem PairSt.markRow {W1 W2 : World} {o : Obj} {base' s' n' : Nat} {e' : TypeId} {u : Value} {xs : List Value} (h : PairSt w W kind f S v ws) (hg : W.grownBy W1 (some (w.heap.size + 2)))
    (hg2 : (W1.alloc o).grownBy W2 v.ownBlock) (hne : e' ≠ 35) (hu : W.ownsRow base' e' s' u n' xs) : W2.ownsRow base' e' s' u n' xs := by
  have hr1 := h.r.kept hg (row_map_ne h.r h.s.obj)
  have hall := gGrown (World.grownBy_alloc W1 o v.ownBlock) hg2 (row := v.ownBlock) (fun _ e => .inl e)
  have u1 := hu.kept hg (row_map_ne hu h.s.obj)
  exact u1.kept hall (own_own_ne u1 hr1 hne)
theorem PairSt.markBlk {W1 W2 : World} {o : Obj} {g : Nat} {t : TypeId} {cs : Array Value} (h : PairSt w W kind f S v ws) (hg : W.grownBy W1 (some (w.heap.size + 2)))
    (hg2 : (W1.alloc o).grownBy W2 v.ownBlock) (hne : 35 ≠ t) (hb : Blk W g t cs) : Blk W2 g t cs := by
  have hr1 := h.r.kept hg (row_map_ne h.r h.s.obj)
  have hall := gGrown (World.grownBy_alloc W1 o v.ownBlock) hg2 (row := v.ownBlock) (fun _ e => .inl e)
  have b1 := hb.grown hg (fun e0 => by
    obtain ⟨es, clock, ho⟩ := h.s.obj
    cases e0
    rw [show W.heap[w.heap.size + 2]? = _ from hb] at ho
    cases ho)
  exact b1.grown hall (fun e0 => own_blk_ne hr1 b1 hne e0.symm)
/-- A number is put at a key. -/
theorem PairSt.put {W1 W2 W3 : World} {v0 : Value} {f' : Value → List Int} (h : PairSt w W kind f S v ws) (h1 : W.grownBy W1 (some (w.heap.size + 1))) (hg1 : Grp Tryz.prog 59 (w.heap.size + 3) 3 W1 (w.heap.size + 1) f) {n0 : Nat} {xs0 : List Value} (hr0 : W1.ownsRow (w.heap.size + 3) 3 1 v0 n0 xs0) (h2 : W1.grownBy W2 v0.ownBlock) (h3 : W2.grownBy W3 (some (w.heap.size + 1))) (hg : Grp Tryz.prog 59 (w.heap.size + 3) 3 W3 (w.heap.size + 1) f') : PairSt w W3 kind f' S v ws := by
  have s1 := h.s.kept h1 (by simp)
  have r1 := h.r.kept h1 (row_map_ne h.r h.g.obj)
  have s2 := s1.kept h2 (map_row_ne hr0 s1.obj)
  have r2 := r1.kept h2 (own_own_ne r1 hr0 (by decide))
  have hm1 : ∃ es clock, W2.heap[w.heap.size + 1]? = some (.map es clock) := by
    obtain ⟨es, clock, ho⟩ := hg1.obj
    exact ⟨es, clock, (h2.block _ hg1.lt (map_row_ne hr0 hg1.obj)).trans ho⟩
  exact ⟨hg, s2.kept h3 (by simp), r2.kept h3 (row_map_ne r2 hm1), ((h.b.grown h1 h.b.size (fun j e => by cases e; omega)).grown h2 (Nat.le_trans h.b.size h1.size) (fun j e => by have := (hr0.lt j e).1; omega)).grown h3 (Nat.le_trans h.b.size (Nat.le_trans h1.size h2.size)) (fun j e => by cases e; omega), h.c, h.k⟩
theorem PairSt.putRow {W1 W2 W3 : World} {v0 u : Value} {base' s' n' : Nat} {e' : TypeId} {xs : List Value} (h : PairSt w W kind f S v ws) (h1 : W.grownBy W1 (some (w.heap.size + 1))) (hg1 : Grp Tryz.prog 59 (w.heap.size + 3) 3 W1 (w.heap.size + 1) f) {n0 : Nat} {xs0 : List Value} (hr0 : W1.ownsRow (w.heap.size + 3) 3 1 v0 n0 xs0) (h2 : W1.grownBy W2 v0.ownBlock) (h3 : W2.grownBy W3 (some (w.heap.size + 1))) (hne : e' ≠ 3) (hu : W.ownsRow base' e' s' u n' xs) : W3.ownsRow base' e' s' u n' xs := by
  have u1 := hu.kept h1 (row_map_ne hu h.g.obj)
  have u2 := u1.kept h2 (own_own_ne u1 hr0 hne)
  have hm1 : ∃ es clock, W2.heap[w.heap.size + 1]? = some (.map es clock) := by
    obtain ⟨es, clock, ho⟩ := hg1.obj
    exact ⟨es, clock, (h2.block _ hg1.lt (map_row_ne hr0 hg1.obj)).trans ho⟩
  exact u2.kept h3 (row_map_ne u2 hm1)
end
end Go.Proofs.YtpnkhgjjlionnaaGreat
namespace Go.Proofs.YtpnkhgjjlionnaaGreat
open Go.RowKit Go.Maps
open Go.MapKept (Stamped)

/-- Block b is a map of bools: it has just the keys ks, each once, and all are true. -/
def KSet (P : Program) (k : TypeId) (w : World) (b : Nat) (ks : List Value) : Prop :=
  ∃ es clock, w.heap[b]? = some (.map es clock) ∧ Stamped es clock ∧ (∀ x ∈ es.toList, ∃ l, keyOf P k x.key = some l) ∧ es.toList.map (·.key) = ks ∧ ∀ x ∈ es.toList, x.val = .bool true
def mapSize (w : World) (b : Nat) : Nat := match w.heap[b]? with | some (.map es _) => es.size | _ => 0
section
variable {P : Program} {k e : TypeId} {b : Nat} {w : World} {ks : List Value}
theorem KSet.made (w : World) (P : Program) (k : TypeId) : KSet P k (w.alloc (.map #[] 0)) w.heap.size [] := ⟨#[], 0, heap_alloc_new w _, MapKept.stamped_empty 0, by simp, rfl, by simp⟩
theorem KSet.lt (h : KSet P k w b ks) : b < w.heap.size := by
  obtain ⟨es, clock, hb, _⟩ := h
  exact (Array.getElem?_eq_some_iff.1 hb).1
theorem KSet.size (h : KSet P k w b ks) : mapSize w b = ks.length := by
  obtain ⟨es, clock, hb, _, _, h3, _⟩ := h
  unfold mapSize
  rw [hb, ← h3]
  simp
theorem KSet.same {w' : World} (h : KSet P k w b ks) (hg : w'.heap[b]? = w.heap[b]?) : KSet P k w' b ks := by
  obtain ⟨es, clock, hb, h1⟩ := h
  exact ⟨es, clock, hg.trans hb, h1⟩
theorem KSet.kept {w' : World} {row : Option Nat} (h : KSet P k w b ks) (hg : w.grownBy w' row) (hne : some b ≠ row) : KSet P k w' b ks := h.same (hg.block b h.lt hne)
theorem KSet.alloc (h : KSet P k w b ks) (o : Obj) : KSet P k (w.alloc o) b ks := h.kept (World.grownBy_alloc w o none) (by simp)
theorem KSet.look {t : TypeId} (h : KSet P k w b ks) (K : Keyed P k) (ht : P.underlying t = some (.map k e)) (hz : (zeroValue e).run P w = .ok (.bool false) w) {key : Value} {kl : Lit} (hkey : keyOf P k key = some kl) :
    ∃ r : Bool, (Instr.lookup t (.map (some b)) key false).run P w = .ok (.bool r) w ∧ (r = true ↔ key ∈ ks) := by
  obtain ⟨es, clock, hb, h1, h2, h3, h4⟩ := h
  rcases K.find w hkey es.toList h2 with ⟨g1, g2⟩ | ⟨j, e0, g1, g2, g3⟩
  · refine ⟨false, by simp [Instr.lookup, run_underlying ht, MapKept.run_getObj_map hb, K.check w _ hkey, g1, hz, Result.andThen], ?_⟩
    rw [← h3]
    constructor
    · intro e0; cases e0
    · intro hm
      obtain ⟨x, hx, e0⟩ := List.mem_map.1 hm
      exact absurd e0 (g2 x hx)
  · have hm := List.mem_of_getElem? g2
    refine ⟨true, ?_, ?_⟩
    · rw [h4 e0 hm] at g1
      simp [Instr.lookup, run_underlying ht, MapKept.run_getObj_map hb, K.check w _ hkey, g1, Result.andThen]
    · rw [← h3]
      exact ⟨fun _ => List.mem_map.2 ⟨e0, hm, g3⟩, fun _ => rfl⟩
theorem KSet.store {t : TypeId} (h : KSet P k w b ks) (K : Keyed P k) (ht : P.underlying t = some (.map k e)) {key : Value} {kl : Lit} (hkey : keyOf P k key = some kl) (hn : key ∉ ks) :
    ∃ w', (Instr.mapUpdate t (.map (some b)) key (.bool true)).run P w = .ok () w' ∧ KSet P k w' b (ks ++ [key]) ∧ w.grownBy w' (some b) ∧ w'.heap.size = w.heap.size := by
  obtain ⟨es, clock, hb, h1, h2, h3, h4⟩ := h
  rcases K.find w hkey es.toList h2 with ⟨g1, g2⟩ | ⟨j, e0, g1, g2, g3⟩
  · refine ⟨_, by simp [Instr.mapUpdate, run_underlying ht, MapKept.run_getObj_map hb, K.check w _ hkey, g1, MapKept.run_setObj_map _ hb, Result.andThen]; rfl, ⟨es.push ⟨key, .bool true, clock⟩, clock + 1, ChangeMaps.heap_setBlock_same hb _, MapKept.stamped_push h1 g2, ?_, by simp [h3], ?_⟩, setBlock_grown hb _, by simp [ChangeMaps.setBlock]⟩
    · intro x hx
      simp only [Array.toList_push, List.mem_append, List.mem_singleton] at hx
      rcases hx with hx | rfl
      · exact h2 x hx
      · exact ⟨_, hkey⟩
    · intro x hx
      simp only [Array.toList_push, List.mem_append, List.mem_singleton] at hx
      rcases hx with hx | rfl
      · exact h4 x hx
      · rfl
  · exact absurd (by rw [← h3]; exact List.mem_map.2 ⟨e0, List.mem_of_getElem? g2, g3⟩) hn
theorem KSet.len {t : TypeId} (h : KSet P k w b ks) (ht : P.underlying t = some (.map k e)) (ty : TypeId) : (Builtin.len_ #[t] ty #[.map (some b)]).run P w = .ok (.int .i64 ks.length) w := by
  obtain ⟨es, clock, hb, h1, h2, h3, h4⟩ := h
  have : (ks.length : Int) = es.size := by rw [← h3]; simp
  rw [this]
  simp [Builtin.len_, run_underlying ht, MapKept.run_getObj_map hb, goInt, Result.andThen]
theorem wpList_lookupK {ops : Array Oper} {rest : List Oper} {o : Oper} {a : Act} {Q : Exit → Act → World → Prop} (h : KSet P k w b ks)
    (hg : o.guard = none) (m x : Operand) (t : TypeId) (hop : o.op = Op.lookup t m x false) (K : Keyed P k) (ht : P.underlying t = some (.map k e)) (hz : (zeroValue e).run P w = .ok (.bool false) w)
    (hm : a.eval m = .map (some b)) (key : Value) (hx : a.eval x = key) {kl : Lit} (hkey : keyOf P k key = some kl)
    (hK : ∀ r : Bool, (r = true ↔ key ∈ ks) → wpList P ops Q rest (a.put o.dst (.bool r)) w) : wpList P ops Q (o :: rest) a w := by
  refine wpList_plain hg fun K' hK' => ?_
  obtain ⟨r, hrun, hi⟩ := h.look K ht hz hkey
  unfold Oper.wp
  simp [execOp, hop, hm, hx, hrun, Result.andThen]
  exact hK' _ _ (hK r hi)
theorem wpList_storeK {ops : Array Oper} {rest : List Oper} {o : Oper} {a : Act} {Q : Exit → Act → World → Prop} (h : KSet P k w b ks)
    (hg : o.guard = none) (m x v : Operand) (t : TypeId) (hop : o.op = Op.mapUpdate t m x v ∨ o.op = Op.insert t m x v) (K : Keyed P k) (ht : P.underlying t = some (.map k e))
    (hm : a.eval m = .map (some b)) (key : Value) (hx : a.eval x = key) (hv : a.eval v = .bool true) {kl : Lit} (hkey : keyOf P k key = some kl) (hn : key ∉ ks)
    (hK : ∀ w', KSet P k w' b (ks ++ [key]) → w.grownBy w' (some b) → w'.heap.size = w.heap.size → wpList P ops Q rest (a.put o.dst undef) w') : wpList P ops Q (o :: rest) a w := by
  refine wpList_plain hg fun K' hK' => ?_
  obtain ⟨w', hrun, r1, r2, r3⟩ := h.store K ht hkey hn
  unfold Oper.wp
  rcases hop with hop | hop <;> simp [execOp, hop, hm, hx, hv, hrun, Result.andThen] <;> exact hK' _ _ (hK w' r1 r2 r3)
theorem wpList_lenK {ops : Array Oper} {rest : List Oper} {o : Oper} {a : Act} {Q : Exit → Act → World → Prop} (h : KSet P k w b ks)
    (hg : o.guard = none) (m : Operand) (t : TypeId) (hop : o.op = Op.call { callee := Callee.builtin Builtin.len, args := #[m], argTypes := #[t] }) (ht : P.underlying t = some (.map k e)) (hm : a.eval m = .map (some b))
    (hK : wpList P ops Q rest (a.put o.dst (.int .i64 ks.length)) w) : wpList P ops Q (o :: rest) a w := by
  refine wpList_plain hg fun K' hK' => ?_
  have hrun := h.len ht o.type
  unfold Oper.wp execOp
  simp only [hop, resolve, invoke, builtin, Sem.run_bind, Sem.run_pure, Result.andThen_ok, List.map_toArray, List.map_cons, List.map_nil, hm, hrun]
  exact hK' _ _ hK
end

/-- A queue of numbers: what its cells hold; from block 'base' on; room behind it. -/
def IQ (w : World) (base : Nat) (v : Value) (zs : List Int) : Prop :=
  ∃ ao b off cap cur, v = .slice ao zs.length cap ∧ zs.length ≤ cap ∧ cap ≤ maxLen ∧ (0 < cap → ao = some ⟨b, off, none⟩ ∧ base ≤ b ∧ w.heap[b]? = some (.cells cur 3 (0, 0)) ∧ off + cap ≤ cur.size ∧ ∀ j, j < zs.length → cur[off + j]? = (intsV zs)[j]?)
theorem IQ.kept {w w' : World} {base : Nat} {v : Value} {zs : List Int} {row : Option Nat} (h : IQ w base v zs) (hg : w.grownBy w' row) (hr : ∀ j, row = some j → j < base ∨ ∃ es clock, w.heap[j]? = some (.map es clock)) : IQ w' base v zs := by
  obtain ⟨ao, b, off, cap, cur, h1, h2, h3, h4⟩ := h
  refine ⟨ao, b, off, cap, cur, h1, h2, h3, fun hc => ?_⟩
  obtain ⟨g1, g2, g3, g4, g5⟩ := h4 hc
  refine ⟨g1, g2, (hg.block b (Array.getElem?_eq_some_iff.1 g3).1 (fun e0 => ?_)).trans g3, g4, g5⟩
  rcases hr b e0.symm with hlt | ⟨es, clock, ho⟩
  · omega
  · rw [g3] at ho
    cases ho
theorem IQ.alloc {w : World} {base : Nat} {v : Value} {zs : List Int} (h : IQ w base v zs) (o : Obj) : IQ (w.alloc o) base v zs := h.kept (World.grownBy_alloc w o none) (fun j e => by cases e)
theorem IQ.form {w : World} {base : Nat} {v : Value} {zs : List Int} (h : IQ w base v zs) : ∃ ao c, v = .slice ao zs.length c := by
  obtain ⟨ao, b, off, cap, cur, h1, _⟩ := h
  exact ⟨ao, cap, h1⟩
end Go.Proofs.YtpnkhgjjlionnaaGreat
namespace Go.Proofs.YtpnkhgjjlionnaaGreat
namespace Jor

/-! The exclusive or of a test over a list. -/
def xs (l : List Nat) (p : Nat → Bool) : Bool := l.foldr (fun c b => xor (p c) b) false
section
variable {l m : List Nat} {p q : Nat → Bool}
theorem xs_nil : xs [] p = false := rfl
theorem xs_cons {a : Nat} : xs (a :: l) p = xor (p a) (xs l p) := rfl
theorem xs_perm (h : l.Perm m) : xs l p = xs m p := by
  induction h with
  | nil => rfl
  | cons x _ ih => rw [xs_cons, xs_cons, ih]
  | swap x y l =>
    simp only [xs_cons]
    cases p x <;> cases p y <;> simp
  | trans _ _ ih1 ih2 => exact ih1.trans ih2
theorem xs_xor : xs l (fun c => xor (p c) (q c)) = xor (xs l p) (xs l q) := by
  induction l with
  | nil => rfl
  | cons a l ih =>
    rw [xs_cons, xs_cons, xs_cons, ih]
    cases p a <;> cases q a <;> cases xs l p <;> cases xs l q <;> rfl
theorem xs_map (h : Nat → Nat) : xs (l.map h) p = xs l (fun c => p (h c)) := by
  induction l with
  | nil => rfl
  | cons a l ih => rw [List.map_cons, xs_cons, xs_cons, ih]
theorem xs_congr (h : ∀ c ∈ l, p c = q c) : xs l p = xs l q := by
  induction l with
  | nil => rfl
  | cons a l ih =>
    rw [xs_cons, xs_cons, ih (fun c hc => h c (List.mem_cons_of_mem _ hc)), h a (List.mem_cons_self ..)]
theorem xs_false (h : ∀ c ∈ l, p c = false) : xs l p = false := by
  induction l with
  | nil => rfl
  | cons a l ih =>
    rw [xs_cons, ih (fun c hc => h c (List.mem_cons_of_mem _ hc)), h a (List.mem_cons_self ..)]
    rfl
theorem xs_one {a : Nat} (hn : l.Nodup) (ha : a ∈ l) (h : ∀ c ∈ l, c ≠ a → p c = false) : xs l p = p a := by
  induction l with
  | nil => cases ha
  | cons b l ih =>
    rw [List.nodup_cons] at hn
    rw [xs_cons]
    by_cases e : b = a
    · subst e
      rw [xs_false (fun c hc => h c (List.mem_cons_of_mem _ hc) (fun e => hn.1 (by rw [← e]; exact hc)))]
      simp
    · rw [h b (List.mem_cons_self ..) e, ih hn.2 (by rcases List.mem_cons.1 ha with h1 | h1; exact absurd h1.symm e; exact h1) (fun c hc => h c (List.mem_cons_of_mem _ hc))]
      simp
end

/-! Lists without doubles. -/
theorem nodup_le {l m : List Nat} (hn : l.Nodup) (hs : ∀ x ∈ l, x ∈ m) : l.length ≤ m.length := by
  induction l generalizing m with
  | nil => exact Nat.zero_le _
  | cons a l ih =>
    rw [List.nodup_cons] at hn
    have ha := hs a (List.mem_cons_self ..)
    have h1 := ih (m := m.erase a) hn.2 (fun x hx => (List.mem_erase_of_ne (fun e => hn.1 (by rw [← e]; exact hx))).2 (hs x (List.mem_cons_of_mem _ hx)))
    have h2 := List.length_erase_of_mem ha
    have h3 := List.length_pos_of_mem ha
    simp only [List.length_cons]
    omega
theorem nodup_all {l : List Nat} {n : Nat} (hn : l.Nodup) (hs : ∀ x ∈ l, x < n) (hl : n ≤ l.length) : ∀ x, x < n → x ∈ l := by
  intro x hx
  refine Classical.byContradiction fun hne => ?_
  have h1 : (x :: l).Nodup := List.nodup_cons.2 ⟨hne, hn⟩
  have h2 := nodup_le (m := List.range n) h1 (fun y hy => by
    rw [List.mem_range]
    rcases List.mem_cons.1 hy with rfl | hy
    · exact hx
    · exact hs y hy)
  simp only [List.length_cons, List.length_range] at h2
  omega
theorem missing {l : List Nat} {n : Nat} (hl : l.length < n) : ∃ x, x < n ∧ x ∉ l := by
  refine Classical.byContradiction fun hne => ?_
  have h1 := nodup_le (l := List.range n) (m := l) List.nodup_range (fun x hx => Classical.byContradiction fun h => hne ⟨x, List.mem_range.1 hx, h⟩)
  simp only [List.length_range] at h1
  omega
theorem perm_map_range {n : Nat} (h k : Nat → Nat) (h1 : ∀ c, c < n → h c < n) (h2 : ∀ c, c < n → k c < n) (h3 : ∀ c, c < n → k (h c) = c) (h4 : ∀ c, c < n → h (k c) = c) : ((List.range n).map h).Perm (List.range n) := by
  have hn : ((List.range n).map h).Nodup := by
    rw [List.nodup_iff_pairwise_ne, List.pairwise_map]
    refine List.Pairwise.imp_of_mem ?_ (List.nodup_iff_pairwise_ne.1 (List.nodup_range (n := n)))
    intro a b ha hb hab e
    rw [List.mem_range] at ha hb
    exact hab (by rw [← h3 a ha, ← h3 b hb, e])
  rw [List.perm_iff_count]
  intro a
  rw [hn.count, (List.nodup_range (n := n)).count]
  have : a ∈ (List.range n).map h ↔ a ∈ List.range n := by
    rw [List.mem_map, List.mem_range]
    constructor
    · rintro ⟨b, hb, rfl⟩
      exact h1 b (List.mem_range.1 hb)
    · intro ha
      exact ⟨k a, List.mem_range.2 (h2 a ha), h4 a ha⟩
  simp only [this]

/-! Corners -/
def nx (c : Nat) : Nat := c - c % 3 + (c + 1) % 3
def pv (c : Nat) : Nat := c - c % 3 + (c + 2) % 3
theorem nx_div (c : Nat) : nx c / 3 = c / 3 := by unfold nx; omega
theorem pv_div (c : Nat) : pv c / 3 = c / 3 := by unfold pv; omega
theorem pv_nx (c : Nat) : pv (nx c) = c := by unfold nx pv; omega
theorem nx_pv (c : Nat) : nx (pv c) = c := by unfold nx pv; omega
theorem nx_nx (c : Nat) : nx (nx c) = pv c := by unfold nx pv; omega
theorem pv_pv (c : Nat) : pv (pv c) = nx c := by unfold nx pv; omega
theorem nx_ne (c : Nat) : nx c ≠ c := by unfold nx; omega
theorem pv_ne (c : Nat) : pv c ≠ c := by unfold pv; omega
theorem nx_lt {F c : Nat} (h : c < 3 * F) : nx c < 3 * F := by unfold nx; omega
theorem pv_lt {F c : Nat} (h : c < 3 * F) : pv c < 3 * F := by unfold pv; omega

/-- A closed surface of F triangles and N vertices; across each corner is one. -/
structure Closed (F N : Nat) (opp vert : Nat → Nat) : Prop where
  lt : ∀ c, c < 3 * F → opp c < 3 * F
  inv : ∀ c, c < 3 * F → opp (opp c) = c
  apart : ∀ c, c < 3 * F → opp c / 3 ≠ c / 3
  vn : ∀ c, c < 3 * F → vert (nx (opp c)) = vert (pv c)
  vp : ∀ c, c < 3 * F → vert (pv (opp c)) = vert (nx c)
  simple : ∀ c, c < 3 * F → vert (nx c) ≠ vert c
  vlt : ∀ c, c < 3 * F → vert c < N
  all : ∀ v, v < N → ∃ c, c < 3 * F ∧ vert c = v
  conn : ∀ S : Nat → Prop, S 0 → (∀ c, c < 3 * F → S (c / 3) → S (opp c / 3)) → ∀ t, t < F → S t
section
variable {F N : Nat} {opp vert : Nat → Nat}

/-- What a tree of gates goes over. -/
def tris : List Nat → List Nat
  | [] => [0]
  | g :: G => g / 3 :: tris G
def Grown (F : Nat) (opp : Nat → Nat) : List Nat → Prop
  | [] => True
  | g :: G => Grown F opp G ∧ g < 3 * F ∧ g / 3 ∉ tris G ∧ opp g / 3 ∈ tris G
theorem tris_length (G : List Nat) : (tris G).length = G.length + 1 := by
  induction G with
  | nil => rfl
  | cons g G ih => simp only [tris, List.length_cons, ih]
theorem tris_nodup : ∀ {G : List Nat}, Grown F opp G → (tris G).Nodup
  | [], _ => by simp [tris]
  | g :: G, h => List.nodup_cons.2 ⟨h.2.2.1, tris_nodup h.1⟩
theorem tris_zero : ∀ (G : List Nat), 0 ∈ tris G
  | [] => by simp [tris]
  | g :: G => List.mem_cons_of_mem _ (tris_zero G)
theorem tris_lt (hF : 0 < F) : ∀ {G : List Nat}, Grown F opp G → ∀ t ∈ tris G, t < F
  | [], _, t, ht => by
    simp only [tris, List.mem_singleton] at ht
    omega
  | g :: G, h, t, ht => by
    rcases List.mem_cons.1 ht with rfl | ht
    · have := h.2.1
      omega
    · exact tris_lt hF h.1 t ht
theorem gate_tris : ∀ {G : List Nat}, Grown F opp G → ∀ g ∈ G, g / 3 ∈ tris G ∧ opp g / 3 ∈ tris G ∧ g < 3 * F
  | g' :: G, h, g, hg => by
    rcases List.mem_cons.1 hg with rfl | hg
    · exact ⟨List.mem_cons_self .., List.mem_cons_of_mem _ h.2.2.2, h.2.1⟩
    · obtain ⟨a, b, c⟩ := gate_tris h.1 g hg
      exact ⟨List.mem_cons_of_mem _ a, List.mem_cons_of_mem _ b, c⟩
theorem grown_exists (K : Closed F N opp vert) (hF : 0 < F) : ∀ k, k < F → ∃ G, Grown F opp G ∧ G.length = k
  | 0, _ => ⟨[], trivial, rfl⟩
  | k + 1, hk => by
    obtain ⟨G, hG, hl⟩ := grown_exists K hF k (by omega)
    have hlen := tris_length G
    obtain ⟨x, hx, hxn⟩ := missing (l := tris G) (n := F) (by omega)
    have : ∃ c, c < 3 * F ∧ c / 3 ∈ tris G ∧ opp c / 3 ∉ tris G := by
      refine Classical.byContradiction fun hne => hxn ?_
      exact K.conn (fun t => t ∈ tris G) (tris_zero G) (fun c hc hm => Classical.byContradiction fun h => hne ⟨c, hc, hm, h⟩) x hx
    obtain ⟨c, h1, h2, h3⟩ := this
    exact ⟨opp c :: G, ⟨hG, K.lt c h1, h3, by rw [K.inv c h1]; exact h2⟩, by simp [hl]⟩

def crossed (opp : Nat → Nat) (G : List Nat) (c : Nat) : Prop := c ∈ G ∨ opp c ∈ G
/-- Along the edges that no gate crosses one comes to all vertices. -/
theorem walkable (K : Closed F N opp vert) : ∀ {G : List Nat}, Grown F opp G → ∀ S : Nat → Prop, (∃ c, c < 3 * F ∧ c / 3 ∈ tris G ∧ S (vert c)) →
    (∀ c, c < 3 * F → c / 3 ∈ tris G → ¬ crossed opp G c → (S (vert (nx c)) ↔ S (vert (pv c)))) → ∀ c, c < 3 * F → c / 3 ∈ tris G → S (vert c)
  | [], _, S, ⟨c0, h0, h1, h2⟩, hS, c, hc, hm => by
    have nc : ∀ c, ¬ crossed opp [] c := fun c h => by rcases h with h | h <;> cases h
    simp only [tris, List.mem_singleton] at h1 hm
    have e1 := hS c0 h0 (by simp [tris, h1]) (nc _)
    have e2 := hS (nx c0) (nx_lt h0) (by simp [tris, nx_div, h1]) (nc _)
    rw [nx_nx, pv_nx] at e2
    have : c = c0 ∨ c = nx c0 ∨ c = pv c0 := by unfold nx pv; omega
    rcases this with rfl | rfl | rfl
    · exact h2
    · exact e1.2 (e2.2 h2)
    · exact e2.2 h2
  | g :: G, hG, S, hx, hS, c, hc, hm => by
    obtain ⟨hG', g1, g2, g3⟩ := hG
    have u1 : ¬ crossed opp (g :: G) (nx g) := fun h => by
      rcases h with h | h
      · rcases List.mem_cons.1 h with h | h
        · exact nx_ne g h
        · exact g2 (by have := (gate_tris hG' _ h).1; rwa [nx_div] at this)
      · rcases List.mem_cons.1 h with h | h
        · have h5 := K.apart _ (nx_lt g1)
          rw [h, nx_div] at h5
          exact h5 rfl
        · have := (gate_tris hG' _ h).2.1
          rw [K.inv _ (nx_lt g1), nx_div] at this
          exact g2 this
    have u2 : ¬ crossed opp (g :: G) (pv g) := fun h => by
      rcases h with h | h
      · rcases List.mem_cons.1 h with h | h
        · exact pv_ne g h
        · exact g2 (by have := (gate_tris hG' _ h).1; rwa [pv_div] at this)
      · rcases List.mem_cons.1 h with h | h
        · have h5 := K.apart _ (pv_lt g1)
          rw [h, pv_div] at h5
          exact h5 rfl
        · have := (gate_tris hG' _ h).2.1
          rw [K.inv _ (pv_lt g1), pv_div] at this
          exact g2 this
    have e1 := hS (nx g) (nx_lt g1) (by rw [nx_div]; exact List.mem_cons_self ..) u1
    have e2 := hS (pv g) (pv_lt g1) (by rw [pv_div]; exact List.mem_cons_self ..) u2
    rw [nx_nx, pv_nx] at e1
    rw [nx_pv, pv_pv] at e2
    -- the edges of what was gone over ahead
    have hS' : ∀ c, c < 3 * F → c / 3 ∈ tris G → ¬ crossed opp G c → (S (vert (nx c)) ↔ S (vert (pv c))) := by
      intro c hc hm hn
      by_cases hcg : c = opp g
      · subst hcg
        rw [K.vn g g1, K.vp g g1]
        exact e1.trans e2
      · refine hS c hc (List.mem_cons_of_mem _ hm) (fun h => ?_)
        rcases h with h | h
        · rcases List.mem_cons.1 h with h | h
          · exact g2 (by rw [← h]; exact hm)
          · exact hn (.inl h)
        · rcases List.mem_cons.1 h with h | h
          · exact hcg (by rw [← h, K.inv c hc])
          · exact hn (.inr h)
    have hog : opp g < 3 * F := K.lt g g1
    -- something of what was gone over ahead is in S
    have hx' : ∃ c, c < 3 * F ∧ c / 3 ∈ tris G ∧ S (vert c) := by
      obtain ⟨c0, h0, h1, h2⟩ := hx
      rcases List.mem_cons.1 h1 with h1 | h1
      · have hh : S (vert (nx g)) ∧ S (vert (pv g)) := by
          have : c0 = g ∨ c0 = nx g ∨ c0 = pv g := by unfold nx pv; omega
          rcases this with rfl | rfl | rfl
          · exact ⟨e2.1 h2, e1.2 h2⟩
          · exact ⟨h2, e1.2 (e2.2 h2)⟩
          · exact ⟨e2.1 (e1.1 h2), h2⟩
        exact ⟨nx (opp g), nx_lt hog, by rw [nx_div]; exact g3, by rw [K.vn g g1]; exact hh.2⟩
      · exact ⟨c0, h0, h1, h2⟩
    have ih := walkable K hG' S hx' hS'
    rcases List.mem_cons.1 hm with hm | hm
    · have s1 : S (vert (pv g)) := by
        have := ih (nx (opp g)) (nx_lt hog) (by rw [nx_div]; exact g3)
        rwa [K.vn g g1] at this
      have : c = g ∨ c = nx g ∨ c = pv g := by unfold nx pv; omega
      rcases this with rfl | rfl | rfl
      · exact e1.1 s1
      · exact e2.1 (e1.1 s1)
      · exact s1
    · exact ih c hc hm

/-! A tree of vertices, along edges U. -/
def vs (vert : Nat → Nat) : List Nat → List Nat
  | [] => [vert 0]
  | e :: H => vert (pv e) :: vs vert H
def VGrown (F : Nat) (vert : Nat → Nat) (U : Nat → Prop) : List Nat → Prop
  | [] => True
  | e :: H => VGrown F vert U H ∧ e < 3 * F ∧ U e ∧ vert (nx e) ∈ vs vert H ∧ vert (pv e) ∉ vs vert H
variable {U : Nat → Prop}
theorem vs_length (H : List Nat) : (vs vert H).length = H.length + 1 := by
  induction H with
  | nil => rfl
  | cons g G ih => simp only [vs, List.length_cons, ih]
theorem vs_zero : ∀ (H : List Nat), vert 0 ∈ vs vert H
  | [] => by simp [vs]
  | e :: H => List.mem_cons_of_mem _ (vs_zero H)
theorem vedge : ∀ {H : List Nat}, VGrown F vert U H → ∀ e ∈ H, vert (nx e) ∈ vs vert H ∧ vert (pv e) ∈ vs vert H ∧ e < 3 * F ∧ U e
  | e' :: H, h, e, he => by
    rcases List.mem_cons.1 he with rfl | he
    · exact ⟨List.mem_cons_of_mem _ h.2.2.2.1, List.mem_cons_self .., h.2.1, h.2.2.1⟩
    · obtain ⟨a, b, c⟩ := vedge h.1 e he
      exact ⟨List.mem_cons_of_mem _ a, List.mem_cons_of_mem _ b, c⟩
theorem vgrown_exists (K : Closed F N opp vert) (hF : 0 < F) (hU : ∀ c, c < 3 * F → U c → U (opp c))
    (hw : ∀ S : Nat → Prop, (∃ c, c < 3 * F ∧ S (vert c)) → (∀ c, c < 3 * F → U c → (S (vert (nx c)) ↔ S (vert (pv c)))) → ∀ c, c < 3 * F → S (vert c)) : ∀ k, k < N → ∃ H, VGrown F vert U H ∧ H.length = k
  | 0, _ => ⟨[], trivial, rfl⟩
  | k + 1, hk => by
    obtain ⟨H, hH, hl⟩ := vgrown_exists K hF hU hw k (by omega)
    have hlen := vs_length (vert := vert) H
    obtain ⟨x, hx, hxn⟩ := missing (l := vs vert H) (n := N) (by omega)
    have : ∃ c, c < 3 * F ∧ U c ∧ vert (nx c) ∈ vs vert H ∧ vert (pv c) ∉ vs vert H := by
      refine Classical.byContradiction fun hne => hxn ?_
      obtain ⟨c, hc, rfl⟩ := K.all x hx
      refine hw (fun t => t ∈ vs vert H) ⟨0, by omega, vs_zero H⟩ (fun c hc hu => ?_) c hc
      constructor
      · exact fun hm => Classical.byContradiction fun h => hne ⟨c, hc, hu, hm, h⟩
      · intro hm
        refine Classical.byContradiction fun h => hne ⟨opp c, K.lt c hc, hU c hc hu, ?_, ?_⟩
        · rw [K.vn c hc]; exact hm
        · rw [K.vp c hc]; exact h
    obtain ⟨c, h1, h2, h3, h4⟩ := this
    exact ⟨c :: H, ⟨hH, h1, h2, h3, h4⟩, by simp [hl]⟩

/-- The edges of a list of corners, both ways. -/
def both (opp : Nat → Nat) (l : List Nat) : List Nat := l ++ l.map opp
theorem both_nodup_cons (K : Closed F N opp vert) {l : List Nat} {a : Nat} (hl : ∀ c ∈ l, c < 3 * F) (ha : a < 3 * F) (h : (both opp l).Nodup) (h1 : a ∉ both opp l) : (both opp (a :: l)).Nodup := by
  unfold both at h h1 ⊢
  have hoa : opp a ≠ a := fun e => K.apart a ha (by rw [e])
  have h2 : opp a ∉ l ++ l.map opp := fun hm => by
    apply h1
    rcases List.mem_append.1 hm with hm | hm
    · exact List.mem_append_right _ (List.mem_map.2 ⟨_, hm, K.inv a ha⟩)
    · obtain ⟨b, hb, e⟩ := List.mem_map.1 hm
      have : b = a := by rw [← K.inv b (hl b hb), e, K.inv a ha]
      subst this
      exact List.mem_append_left _ hb
  have hp : ((a :: l) ++ (a :: l).map opp).Perm (a :: opp a :: (l ++ l.map opp)) := by
    simp only [List.cons_append, List.map_cons]
    exact List.Perm.cons a List.perm_middle
  rw [hp.nodup_iff, List.nodup_cons, List.nodup_cons]
  refine ⟨fun hm => ?_, h2, h⟩
  rcases List.mem_cons.1 hm with e | hm
  · exact hoa e.symm
  · exact h1 hm
theorem both_mem {l : List Nat} {c : Nat} : c ∈ both opp l ↔ c ∈ l ∨ ∃ b ∈ l, opp b = c := by
  unfold both
  rw [List.mem_append, List.mem_map]
theorem gates_nodup (K : Closed F N opp vert) : ∀ {G : List Nat}, Grown F opp G → (both opp G).Nodup
  | [], _ => by simp [both]
  | g :: G, h => by
    refine both_nodup_cons K (fun c hc => (gate_tris h.1 c hc).2.2) h.2.1 (gates_nodup K h.1) (fun hm => ?_)
    rcases both_mem.1 hm with hm | ⟨b, hb, e⟩
    · exact h.2.2.1 (gate_tris h.1 g hm).1
    · exact h.2.2.1 (by rw [← e]; exact (gate_tris h.1 b hb).2.1)
theorem vedges_nodup (K : Closed F N opp vert) : ∀ {H : List Nat}, VGrown F vert U H → (both opp H).Nodup
  | [], _ => by simp [both]
  | e :: H, h => by
    refine both_nodup_cons K (fun c hc => (vedge h.1 c hc).2.2.1) h.2.1 (vedges_nodup K h.1) (fun hm => ?_)
    rcases both_mem.1 hm with hm | ⟨b, hb, e'⟩
    · exact h.2.2.2.2 (vedge h.1 e hm).2.1
    · have hv := (vedge h.1 b hb)
      refine h.2.2.2.2 ?_
      rw [← e', K.vp b hv.2.2.1]
      exact hv.1
theorem both_length {l : List Nat} : (both opp l).length = 2 * l.length := by
  unfold both
  simp
  omega

/-- The parity of the edges at a vertex. -/
def par (F : Nat) (vert : Nat → Nat) (κ : Nat → Bool) (v : Nat) : Bool := xs (List.range (3 * F)) (fun c => vert (nx c) == v && κ c)
theorem par_xor {κ μ : Nat → Bool} {v : Nat} : par F vert (fun c => xor (κ c) (μ c)) v = xor (par F vert κ v) (par F vert μ v) := by
  unfold par
  rw [← xs_xor]
  refine xs_congr fun c _ => ?_
  cases (vert (nx c) == v) <;> simp
/-- Leaf by leaf: a cycle of edges of a tree is none. -/
theorem peel (K : Closed F N opp vert) {κ : Nat → Bool} (hs : ∀ c, c < 3 * F → κ (opp c) = κ c) (hp : ∀ v, v < N → par F vert κ v = false) : ∀ {H : List Nat}, VGrown F vert U H → (∀ c, c < 3 * F → κ c = true → c ∈ both opp H) → ∀ c, c < 3 * F → κ c = false
  | [], _, h, c, hc => by
    cases hk : κ c with
    | false => rfl
    | true => exact absurd (h c hc hk) (by simp [both])
  | e :: H, hH, h, c, hc => by
    obtain ⟨hH', e1, e2, e3, e4⟩ := hH
    have hoe := K.lt e e1
    have key : κ (opp e) = false := by
      have hpar := hp (vert (pv e)) (K.vlt _ (pv_lt e1))
      unfold par at hpar
      rw [xs_one (a := opp e) List.nodup_range (List.mem_range.2 hoe)] at hpar
      · rw [K.vn e e1] at hpar
        simpa using hpar
      · intro c hc hne
        rw [List.mem_range] at hc
        cases hk : κ c with
        | false => simp
        | true =>
          have hv : vert (nx c) ≠ vert (pv e) := by
            intro hv
            rcases both_mem.1 (h c hc hk) with hm | ⟨b, hb, rfl⟩
            · rcases List.mem_cons.1 hm with rfl | hm
              · have h5 := K.simple (nx c) (nx_lt hc)
                rw [nx_nx] at h5
                exact h5 hv.symm
              · exact e4 (by rw [← hv]; exact (vedge hH' c hm).1)
            · rcases List.mem_cons.1 hb with rfl | hb
              · exact hne rfl
              · have hv' := vedge hH' b hb
                rw [K.vn b hv'.2.2.1] at hv
                exact e4 (by rw [← hv]; exact hv'.2.1)
          simp [hv]
    refine peel K hs hp hH' (fun c hc hk => ?_) c hc
    rcases both_mem.1 (h c hc hk) with hm | ⟨b, hb, rfl⟩
    · rcases List.mem_cons.1 hm with rfl | hm
      · rw [hs c hc] at key
        rw [key] at hk
        cases hk
      · exact both_mem.2 (.inl hm)
    · rcases List.mem_cons.1 hb with rfl | hb
      · rw [key] at hk
        cases hk
      · exact both_mem.2 (.inr ⟨b, hb, rfl⟩)

/-- A colour, gate by gate. -/
def col (opp : Nat → Nat) (κ : Nat → Bool) : List Nat → Nat → Bool
  | [] => fun _ => false
  | g :: G => fun t => if t = g / 3 then xor (col opp κ G (opp g / 3)) (κ g) else col opp κ G t
theorem col_gate (K : Closed F N opp vert) {κ : Nat → Bool} : ∀ {G : List Nat}, Grown F opp G → ∀ g ∈ G, xor (col opp κ G (g / 3)) (col opp κ G (opp g / 3)) = κ g
  | g' :: G, h, g, hg => by
    rcases List.mem_cons.1 hg with rfl | hg
    · simp only [col, if_neg (K.apart g h.2.1), if_true]
      cases col opp κ G (opp g / 3) <;> cases κ g <;> rfl
    · have hm := gate_tris h.1 g hg
      simp only [col]
      rw [if_neg (fun e => h.2.2.1 (by rw [← e]; exact hm.1)), if_neg (fun e => h.2.2.1 (by rw [← e]; exact hm.2.1))]
      exact col_gate K h.1 g hg

/-- What differs across edges is a cycle. -/
theorem par_diff (K : Closed F N opp vert) (f : Nat → Bool) (v : Nat) : par F vert (fun c => xor (f (c / 3)) (f (opp c / 3))) v = false := by
  rw [par_xor (κ := fun c => f (c / 3)) (μ := fun c => f (opp c / 3))]
  have p1 : par F vert (fun c => f (c / 3)) v = xs (List.range (3 * F)) (fun c => vert c == v && f (c / 3)) := by
    unfold par
    rw [← xs_perm (perm_map_range nx pv (fun c h => nx_lt h) (fun c h => pv_lt h) (fun c _ => pv_nx c) (fun c _ => nx_pv c)) (p := fun c => vert c == v && f (c / 3)), xs_map]
    exact xs_congr fun c _ => by rw [nx_div]
  have p2 : par F vert (fun c => f (opp c / 3)) v = xs (List.range (3 * F)) (fun c => vert c == v && f (c / 3)) := by
    unfold par
    rw [← xs_perm (perm_map_range pv nx (fun c h => pv_lt h) (fun c h => nx_lt h) (fun c _ => nx_pv c) (fun c _ => pv_nx c)) (p := fun c => vert c == v && f (c / 3)), xs_map]
    rw [← xs_perm (perm_map_range opp opp K.lt K.lt K.inv K.inv) (p := fun c => vert (pv c) == v && f (pv c / 3)), xs_map]
    refine xs_congr fun c hc => ?_
    rw [pv_div, K.vp c (List.mem_range.1 hc)]
  rw [p1, p2]
  simp

/-- Jordan's law. -/
theorem jordan (K : Closed F N opp vert) (hF : 0 < F) (he : 2 * N = F + 4) {κ : Nat → Bool} (hs : ∀ c, c < 3 * F → κ (opp c) = κ c) (hp : ∀ v, v < N → par F vert κ v = false) :
    ∃ f : Nat → Bool, ∀ c, c < 3 * F → xor (f (c / 3)) (f (opp c / 3)) = κ c := by
  obtain ⟨G, hG, hGl⟩ := grown_exists K hF (F - 1) (by omega)
  have htl := tris_length G
  have hall : ∀ t, t < F → t ∈ tris G := nodup_all (tris_nodup hG) (tris_lt hF hG) (by omega)
  have hin : ∀ c, c < 3 * F → c / 3 ∈ tris G := fun c hc => hall _ (by omega)
  obtain ⟨H, hH, hHl⟩ := vgrown_exists (U := fun c => ¬ crossed opp G c) K hF (fun c hc hu h => hu (by
    rcases h with h | h
    · exact .inr h
    · rw [K.inv c hc] at h
      exact .inl h)) (fun S hx hS c hc => walkable K hG S (by obtain ⟨c, h1, h2⟩ := hx; exact ⟨c, h1, hin c h1, h2⟩) (fun c hc _ hn => hS c hc hn) c hc (hin c hc)) (N - 1) (by omega)
  have hnd : (both opp G ++ both opp H).Nodup := by
    rw [List.nodup_append]
    refine ⟨gates_nodup K hG, vedges_nodup K hH, fun a ha b hb e => ?_⟩
    subst e
    have hcr : crossed opp G a := by
      rcases both_mem.1 ha with h | ⟨g, hg, rfl⟩
      · exact .inl h
      · exact .inr (by rw [K.inv g (gate_tris hG g hg).2.2]; exact hg)
    rcases both_mem.1 hb with h | ⟨g, hg, rfl⟩
    · exact (vedge hH a h).2.2.2 hcr
    · have hg' := vedge hH g hg
      refine hg'.2.2.2 ?_
      rcases hcr with h | h
      · exact .inr h
      · rw [K.inv g hg'.2.2.1] at h
        exact .inl h
  have hlt : ∀ x ∈ both opp G ++ both opp H, x < 3 * F := by
    intro x hx
    rcases List.mem_append.1 hx with hx | hx
    · rcases both_mem.1 hx with h | ⟨g, hg, rfl⟩
      · exact (gate_tris hG x h).2.2
      · exact K.lt g (gate_tris hG g hg).2.2
    · rcases both_mem.1 hx with h | ⟨g, hg, rfl⟩
      · exact (vedge hH x h).2.2.1
      · exact K.lt g (vedge hH g hg).2.2.1
  have hcover := nodup_all hnd hlt (by
    rw [List.length_append, both_length, both_length, hGl, hHl]
    omega)
  refine ⟨col opp κ G, ?_⟩
  have hdiff : ∀ c, c < 3 * F → xor (xor (col opp κ G (c / 3)) (col opp κ G (opp c / 3))) (κ c) = false := by
    refine peel K (κ := fun c => xor (xor (col opp κ G (c / 3)) (col opp κ G (opp c / 3))) (κ c)) ?_ ?_ hH ?_
    · intro c hc
      simp only [K.inv c hc, hs c hc]
      cases col opp κ G (c / 3) <;> cases col opp κ G (opp c / 3) <;> rfl
    · intro v hv
      rw [par_xor (κ := fun c => xor (col opp κ G (c / 3)) (col opp κ G (opp c / 3))) (μ := κ), par_diff K, hp v hv]
      rfl
    · intro c hc hk
      rcases List.mem_append.1 (hcover c hc) with hm | hm
      · exfalso
        rcases both_mem.1 hm with h | ⟨g, hg, rfl⟩
        · simp only [col_gate K hG c h] at hk
          simp at hk
        · have hg' := gate_tris hG g hg
          have := col_gate K (κ := κ) hG g hg
          simp only [K.inv g hg'.2.2, hs g hg'.2.2] at hk
          rw [← this] at hk
          revert hk
          cases col opp κ G (g / 3) <;> cases col opp κ G (opp g / 3) <;> simp
      · exact hm
  intro c hc
  have := hdiff c hc
  revert this
  cases col opp κ G (c / 3) <;> cases col opp κ G (opp c / 3) <;> cases κ c <;> simp
end
end Jor
end Go.Proofs.YtpnkhgjjlionnaaGreat
namespace Go.Proofs.YtpnkhgjjlionnaaGreat
open Go.RowKit Go.Maps
open Go.MapKept (Stamped)

section
variable {P : Program} {w : World} {base : Nat} {v : Value} {zs : List Int}
theorem IQ.append (h : IQ w base v zs) (t ty : TypeId) (i : TypeInfo) (ht : P.underlying t = some (.slice 3)) (hi : P.info? 3 = some i) (hz : i.zero = some (.int .i64 0)) (h1 : i.size = 1) (h8 : i.bytes = 8)
    (B c : Nat) (z : Int) (hB : w.cell? ⟨B, 0, none⟩ = some (.int .i64 z)) (hn : zs.length + 1 ≤ 1000000000) (hb : base ≤ w.heap.size) :
    ∃ v' w' row, (Builtin.append_ #[t, t] ty #[v, .slice (some ⟨B, 0, none⟩) 1 c]).run P w = .ok v' w' ∧ IQ w' base v' (zs ++ [z]) ∧ w.grownBy w' row ∧ ∀ j, row = some j → base ≤ j ∧ ∃ C, w.heap[j]? = some (.cells C 3 (0, 0)) := by
  obtain ⟨ao, b, off, cap, cur, rfl, hnc, hcm, hpos⟩ := h
  have src : Src P i.size t (.slice (some ⟨B, 0, none⟩) 1 c) 1 [.int .i64 z] w := Src.ofSlice w ht ⟨B, 0, none⟩ 1 c [.int .i64 z] (by simp [h1]) (by
    intro j u hj
    cases j with
    | zero =>
      simp at hj
      subst hj
      rw [Addr.add_lit]
      exact hB
    | succ j => simp at hj) (by simp [Value.oneCell'])
  by_cases hroom : zs.length + 1 ≤ cap
  · obtain ⟨rfl, hbb, hcur, hsz, hcs⟩ := hpos (by omega)
    have hblk : Blk w b 3 cur := hcur
    have hin : off + zs.length < cur.size := by omega
    have hr := run_append_room_src (P := P) w t t ty 3 i ht hi b off zs.length cap _ 1 _ src hroom (by
      intro j hj
      simp only [List.length_singleton] at hj
      obtain rfl : j = 0 := by omega
      rw [hblk.cell, h1]
      simp
      omega) (fun j _ => hblk.frozen _)
    rw [h1, Nat.mul_one] at hr
    refine ⟨_, _, some b, hr, ?_, gSet (World.grownBy.refl _ _) ⟨b, off + zs.length, none⟩ (.int .i64 z) (.inl rfl), fun j e => by cases e; exact ⟨hbb, cur, hcur⟩⟩
    refine ⟨some ⟨b, off, none⟩, b, off, cap, _, by simp, by simpa using hroom, hcm, fun _ => ⟨rfl, hbb, hblk.set_ (off + zs.length) (.int .i64 z), by simpa using hsz, fun j hj => ?_⟩⟩
    simp only [List.length_append, List.length_singleton] at hj
    by_cases e : j = zs.length
    · subst e
      simp [intsV, hin]
    · have h2 : j < zs.length := by omega
      rw [Array.getElem?_setIfInBounds_ne (by omega), hcs j h2]
      simp [intsV, List.getElem?_append_left, h2]
  · have hc : cap = zs.length := by omega
    have hold : (Builtin.firstCells i.size zs.length (.slice ao zs.length cap)).run P w.drew = .ok (intsV zs).toArray w.drew := by
      rcases Nat.eq_zero_or_pos cap with h0 | h0
      · have : zs = [] := List.eq_nil_of_length_eq_zero (by omega)
        subst this
        cases ao with
        | none => exact run_firstCells_none w.drew i.size 0 0 cap
        | some a => exact run_firstCells_some w.drew i.size 0 a 0 cap [] (by simp) (by simp)
      · obtain ⟨rfl, hbb, hcur, hsz, hcs⟩ := hpos h0
        refine run_firstCells_some w.drew i.size zs.length ⟨b, off, none⟩ zs.length cap (intsV zs) (by simp [intsV, h1]) (fun j u hj => ?_)
        have hj' : j < zs.length := by have := (List.getElem?_eq_some_iff.1 hj).1; simpa [intsV] using this
        have hblk : Blk w.drew b 3 cur := hcur
        rw [Addr.add_lit, hblk.cell, hcs j hj', hj]
    have hr := run_append_grow_src (P := P) w t t ty 3 i (.int .i64 0) ht hi hz ao zs.length cap (intsV zs) hold _ 1 _ src (by omega) (by omega) (by
      have := growslice_fits (need := zs.length + 1) (old := cap) (bytes := i.bytes) (by omega) (by rw [h8]; omega)
      exact this)
    have hge := grownCap_ge w (zs.length + 1) cap 3
    have hmx := grownCap_le_maxLen w (zs.length + 1) cap 3 (by unfold maxLen; omega)
    refine ⟨_, _, none, hr, ?_, ⟨rfl, rfl, rfl, by simp, fun k hk _ => (Below.heap_alloc w.drew _ k hk)⟩, fun j e => by cases e⟩
    refine ⟨some ⟨w.heap.size, 0, none⟩, w.heap.size, 0, _, _, by simp, by simpa using hge, hmx, fun _ => ⟨rfl, hb, heap_alloc_new w.drew _, ?_, fun j hj => ?_⟩⟩
    · rw [Array.size_append, size_zeroCells]
      simp [intsV, Value.cells]
      omega
    · have e1 : (intsV zs ++ [Value.int .i64 z]) = intsV (zs ++ [z]) := by simp [intsV]
      rw [Nat.zero_add, Array.getElem?_append_left (by simp [intsV]; simpa using hj), e1]
      simp
theorem wpList_pushQ {ops : Array Oper} {rest : List Oper} {o : Oper} {a : Act} {Q : Exit → Act → World → Prop} (h : IQ w base v zs) (hg : o.guard = none) (s x : Operand) (t : TypeId)
    (hop : o.op = .call { callee := .builtin .append, args := #[s, x], argTypes := #[t, t] }) (i : TypeInfo) (ht : P.underlying t = some (.slice 3)) (hi : P.info? 3 = some i) (hz : i.zero = some (.int .i64 0)) (h1 : i.size = 1) (h8 : i.bytes = 8)
    (hs : a.eval s = v) (B c : Nat) (z : Int) (hx : a.eval x = .slice (some ⟨B, 0, none⟩) 1 c) (hB : w.cell? ⟨B, 0, none⟩ = some (.int .i64 z)) (hn : zs.length + 1 ≤ 1000000000) (hb : base ≤ w.heap.size)
    (hK : ∀ v' w' row, IQ w' base v' (zs ++ [z]) → w.grownBy w' row → (∀ j, row = some j → base ≤ j ∧ ∃ C, w.heap[j]? = some (.cells C 3 (0, 0))) → wpList P ops Q rest (a.put o.dst v') w') : wpList P ops Q (o :: rest) a w := by
  refine wpList_plain hg fun K' hK' => ?_
  obtain ⟨v', w', row, hrun, r1, r2, r3⟩ := h.append t o.type i ht hi hz h1 h8 B c z hB hn hb
  unfold Oper.wp execOp
  simp only [hop, resolve, invoke, builtin, Sem.run_bind, Sem.run_pure, Result.andThen_ok, List.map_toArray, List.map_cons, List.map_nil, hs, hx, hrun]
  exact hK' _ _ (hK v' w' row r1 r2 r3)
/-- The first one, and the others. -/
theorem IQ.cons {z : Int} (h : IQ w base v (z :: zs)) : ∃ b off cap, v = .slice (some ⟨b, off, none⟩) (zs.length + 1) cap ∧ zs.length + 1 ≤ cap ∧ b < w.heap.size ∧ base ≤ b ∧ w.cell? ⟨b, off, none⟩ = some (.int .i64 z) ∧
    IQ w base (.slice (some (if cap = 1 then ⟨b, off, none⟩ else ⟨b, off + 1, none⟩)) zs.length (cap - 1)) zs := by
  obtain ⟨ao, b, off, cap, cur, rfl, hnc, hcm, hpos⟩ := h
  simp only [List.length_cons] at hnc hpos
  obtain ⟨rfl, hbb, hcur, hsz, hcs⟩ := hpos (by omega)
  have hblk : Blk w b 3 cur := hcur
  refine ⟨b, off, cap, rfl, hnc, hblk.lt, hbb, ?_, ?_⟩
  · have := hcs 0 (by omega)
    rw [hblk.cell]
    simpa [intsV] using this
  · refine ⟨some _, b, off + 1, cap - 1, cur, rfl, by omega, by omega, fun hc => ⟨by rw [if_neg (by omega)], hbb, hcur, by omega, fun j hj => ?_⟩⟩
    have := hcs (j + 1) (by omega)
    rw [show off + 1 + j = off + (j + 1) from by omega, this]
    simp [intsV]
/-- A row that was made with one number. -/
theorem IQ.one {B : Nat} {z : Int} (hB : Blk w B 3 #[.int .i64 z]) (hb : base ≤ B) : IQ w base (.slice (some ⟨B, 0, none⟩) 1 1) [z] :=
  ⟨some ⟨B, 0, none⟩, B, 0, 1, _, rfl, Nat.le_refl _, by decide, fun _ => ⟨rfl, hb, hB, by simp, fun j hj => by
    simp only [List.length_singleton] at hj
    obtain rfl : j = 0 := by omega
    simp [intsV]⟩⟩
end

section
variable {P : Program} {k e : TypeId} {base b : Nat} {w : World} {f : Value → List Int}
/-- A row is stored at its key. -/
theorem Grp.update {t E : TypeId} (h : Grp P k base e w b f) (K : Keyed P k) (ht : P.underlying t = some (.map k E)) {key : Value} {kl : Lit} (hkey : keyOf P k key = some kl) {v : Value}
    (hv : w.ownsRow base e 1 v (f key).length (intsV (f key))) (hvk : ∀ es clock, w.heap[b]? = some (.map es clock) → ∀ x ∈ es.toList, x.key = key → x.val = v) (hvn : ∀ es clock, w.heap[b]? = some (.map es clock) → (∀ x ∈ es.toList, x.key ≠ key) → v = .slice none 0 0)
    (W2 : World) (v' : Value) (zs' : List Int) (hg : w.grownBy W2 v.ownBlock) (hown : W2.ownsRow base e 1 v' zs'.length (intsV zs')) (hloc : v'.ownBlock = v.ownBlock ∨ ∃ g, v'.ownBlock = some g ∧ w.heap.size ≤ g) :
    ∃ W3, (Instr.mapUpdate t (.map (some b)) key v').run P W2 = .ok () W3 ∧ Grp P k base e W3 b (upd f key zs') ∧ W2.grownBy W3 (some b) ∧ W3.heap.size = W2.heap.size := by
  have hblt := h.lt
  obtain ⟨es, clock, hb, h1, h2, h3, h4, h5, h6⟩ := h
  have hne_b : ∀ {u : World} {v : Value} {n : Nat} {xs : List Value}, u.ownsRow base e 1 v n xs → v.ownBlock = none ∨ v.ownBlock ≠ some b := fun {u v n xs} hv => by
    cases hb' : v.ownBlock
    · exact .inl rfl
    · refine .inr (fun e2 => ?_)
      have := (hv.lt _ hb').1
      cases e2
      omega
  have hvb : some b ≠ v.ownBlock := fun e2 => by
    rcases hne_b hv with h | h
    · rw [h] at e2; cases e2
    · exact h e2.symm
  have hm2 : W2.heap[b]? = some (.map es clock) := (hg.block b hblt hvb).trans hb
  obtain ⟨s1, s2, s3⟩ := (MapKept.stamped_iff es clock).1 h1
  have old : ∀ x ∈ es.toList, x.key ≠ key → x.val.ownBlock = none ∨ x.val.ownBlock ≠ v.ownBlock := by
    intro x hx hne
    by_cases hex : ∃ y ∈ es.toList, y.key = key
    · obtain ⟨y, hy, hyk⟩ := hex
      rw [← hvk es clock hb y hy hyk]
      exact h4 x hx y hy (by rw [hyk]; exact hne)
    · rw [hvn es clock hb (fun y hy e2 => hex ⟨y, hy, e2⟩)]
      cases hx' : x.val.ownBlock
      · exact .inl rfl
      · exact .inr (by simp [Value.ownBlock])
  have old_new : ∀ x ∈ es.toList, x.key ≠ key → x.val.ownBlock = none ∨ x.val.ownBlock ≠ v'.ownBlock := by
    intro x hx hne
    rcases hloc with g1 | ⟨g, g1, g2⟩
    · rw [g1]
      exact old x hx hne
    · cases hx' : x.val.ownBlock
      · exact .inl rfl
      · refine .inr (fun e2 => ?_)
        have := ((h3 x hx).lt _ hx').2
        rw [g1] at e2
        cases e2
        omega
  rcases K.find W2 hkey es.toList h2 with ⟨g1, g2⟩ | ⟨j, e0, g1, g2, g3⟩
  · have hgw := setBlock_grown hm2 (.map (es.push ⟨key, v', clock⟩) (clock + 1))
    refine ⟨ChangeMaps.setBlock W2 b (.map (es.push ⟨key, v', clock⟩) (clock + 1)), by simp [Instr.mapUpdate, run_underlying ht, MapKept.run_getObj_map hm2, K.check W2 _ hkey, g1, MapKept.run_setObj_map _ hm2, Result.andThen, ChangeMaps.setBlock],
      ⟨_, _, ChangeMaps.heap_setBlock_same hm2 _, MapKept.stamped_push h1 g2, ?_, ?_, ?_, ?_, h6⟩, hgw, by simp [ChangeMaps.setBlock]⟩
    · intro x hx
      simp only [Array.toList_push, List.mem_append, List.mem_singleton] at hx
      rcases hx with hx | rfl
      · exact h2 x hx
      · exact ⟨_, hkey⟩
    · intro x hx
      simp only [Array.toList_push, List.mem_append, List.mem_singleton] at hx
      rcases hx with hx | rfl
      · rw [upd_other (g2 x hx)]
        exact ((h3 x hx).kept hg (old x hx (g2 x hx))).kept hgw (hne_b (h3 x hx))
      · simp only [upd_same]
        exact hown.kept hgw (hne_b hown)
    · intro x hx y hy hne
      simp only [Array.toList_push, List.mem_append, List.mem_singleton] at hx hy
      rcases hx with hx | rfl <;> rcases hy with hy | rfl
      · exact h4 x hx y hy hne
      · exact old_new x hx (g2 x hx)
      · show v'.ownBlock = none ∨ v'.ownBlock ≠ y.val.ownBlock
        cases hv' : v'.ownBlock
        · exact .inl rfl
        · refine .inr (fun e2 => ?_)
          rcases old_new y hy (g2 y hy) with h | h
          · rw [h] at e2; cases e2
          · exact h (by rw [hv', e2])
      · exact absurd rfl hne
    · intro u hu
      have huk : u ≠ key := fun e2 => hu ⟨key, v', clock⟩ (by simp) e2.symm
      rw [upd_other huk]
      exact h5 u (fun x hx => hu x (by simp [hx]))
  · have hset : (es.modify j (fun e => { e with key := key, val := v' })).toList = es.toList.set j { e0 with val := v' } := by
      rw [Array.toList_modify, ChangeMaps.modify_eq_set _ _ _ _ g2, ← g3]
    have hset' : (es.modify j (fun e => { e with val := v' })).toList = es.toList.set j { e0 with val := v' } := by
      rw [Array.toList_modify, ChangeMaps.modify_eq_set _ _ _ _ g2]
    have hsame : es.modify j (fun e => { e with key := key, val := v' }) = es.modify j (fun e => { e with val := v' }) := by
      apply Array.ext'
      rw [hset, hset']
    have hj : es[j]? = some e0 := by simpa using g2
    have hgw := setBlock_grown hm2 (.map (es.modify j (fun e => { e with val := v' })) clock)
    have hmem : ∀ x ∈ (es.modify j (fun e => { e with val := v' })).toList, x = { e0 with val := v' } ∨ (x ∈ es.toList ∧ x.key ≠ key) := by
      intro x hx
      rw [hset'] at hx
      rcases mem_set_apart s3 g2 hx with h | ⟨h, h'⟩
      · exact .inl h
      · exact .inr ⟨h, by rw [← g3]; exact h'⟩
    have m0 := List.mem_of_getElem? g2
    refine ⟨ChangeMaps.setBlock W2 b (.map (es.modify j (fun e => { e with val := v' })) clock), ?_,
      ⟨_, _, ChangeMaps.heap_setBlock_same hm2 _, MapKept.stamped_modify h1 j _ (fun _ _ => rfl) (fun _ _ _ => rfl), ?_, ?_, ?_, ?_, h6⟩, hgw, by simp [ChangeMaps.setBlock]⟩
    · simp [Instr.mapUpdate, run_underlying ht, MapKept.run_getObj_map hm2, K.check W2 _ hkey, g1, hj, g3, K.stays W2 hkey, hsame, MapKept.run_setObj_map _ hm2, Result.andThen, ChangeMaps.setBlock]
    · intro x hx
      rcases hmem x hx with rfl | ⟨hx, _⟩
      · exact h2 e0 m0
      · exact h2 x hx
    · intro x hx
      rcases hmem x hx with rfl | ⟨hx, hne⟩
      · simp only [g3, upd_same]
        exact hown.kept hgw (hne_b hown)
      · simp only [upd_other hne]
        exact ((h3 x hx).kept hg (old x hx hne)).kept hgw (hne_b (h3 x hx))
    · intro x hx y hy hne
      rcases hmem x hx with rfl | ⟨hx, hxk⟩ <;> rcases hmem y hy with rfl | ⟨hy, hyk⟩
      · exact absurd rfl hne
      · show v'.ownBlock = none ∨ v'.ownBlock ≠ y.val.ownBlock
        cases hv' : v'.ownBlock
        · exact .inl rfl
        · refine .inr (fun e2 => ?_)
          rcases old_new y hy hyk with h | h
          · rw [h] at e2; cases e2
          · exact h (by rw [hv', e2])
      · exact old_new x hx hxk
      · exact h4 x hx y hy hne
    · intro u hu
      have huk : u ≠ key := fun e2 => hu { e0 with val := v' } (by rw [hset']; exact List.mem_iff_getElem?.2 ⟨j, by rw [List.getElem?_set, if_pos rfl, if_pos (List.getElem?_eq_some_iff.1 g2).1]⟩) (by rw [e2]; exact g3)
      rw [upd_other huk]
      refine h5 u (fun x hx e2 => ?_)
      obtain ⟨i, hi⟩ := List.mem_iff_getElem?.1 hx
      have hij : j ≠ i := fun e3 => by
        subst e3
        rw [g2] at hi
        cases hi
        exact huk (e2.symm.trans g3)
      exact hu x (by rw [hset']; exact List.mem_iff_getElem?.2 ⟨i, by rw [List.getElem?_set, if_neg hij]; exact hi⟩) e2
/-- Looked up, with what a later store wants to know. -/
theorem Grp.look2 {t E : TypeId} (h : Grp P k base e w b f) (K : Keyed P k) (ht : P.underlying t = some (.map k E)) (hz : (zeroValue E).run P w = .ok (.slice none 0 0) w) {key : Value} {kl : Lit} (hkey : keyOf P k key = some kl) :
    ∃ v, (Instr.lookup t (.map (some b)) key false).run P w = .ok v w ∧ w.ownsRow base e 1 v (f key).length (intsV (f key)) ∧
      ∀ (W2 : World) (v' : Value) (zs' : List Int), w.grownBy W2 v.ownBlock → W2.ownsRow base e 1 v' zs'.length (intsV zs') → (v'.ownBlock = v.ownBlock ∨ ∃ g, v'.ownBlock = some g ∧ w.heap.size ≤ g) →
        ∃ W3, (Instr.mapUpdate t (.map (some b)) key v').run P W2 = .ok () W3 ∧ Grp P k base e W3 b (upd f key zs') ∧ W2.grownBy W3 (some b) ∧ W3.heap.size = W2.heap.size := by
  have h0 := h
  obtain ⟨es, clock, hb, h1, h2, h3, h4, h5, h6⟩ := h
  obtain ⟨s1, s2, s3⟩ := (MapKept.stamped_iff es clock).1 h1
  rcases K.find w hkey es.toList h2 with ⟨g1, g2⟩ | ⟨j, e0, g1, g2, g3⟩
  · have hr : w.ownsRow base e 1 (.slice none 0 0) (f key).length (intsV (f key)) := by
      rw [h5 key g2]
      exact World.ownsRow_nil _ _ _ _
    refine ⟨.slice none 0 0, by simp [Instr.lookup, run_underlying ht, MapKept.run_getObj_map hb, K.check w _ hkey, g1, hz, Result.andThen], hr, fun W2 v' zs' a b' c => h0.update K ht hkey hr ?_ ?_ W2 v' zs' a b' c⟩
    · intro es' clock' hb' x hx hxk
      rw [hb] at hb'
      cases hb'
      exact absurd hxk (g2 x hx)
    · intro es' clock' hb' _
      rfl
  · have hr : w.ownsRow base e 1 e0.val (f key).length (intsV (f key)) := by
      have := h3 e0 (List.mem_of_getElem? g2)
      rw [g3] at this
      exact this
    refine ⟨e0.val, by simp [Instr.lookup, run_underlying ht, MapKept.run_getObj_map hb, K.check w _ hkey, g1, Result.andThen], hr, fun W2 v' zs' a b' c => h0.update K ht hkey hr ?_ ?_ W2 v' zs' a b' c⟩
    · intro es' clock' hb' x hx hxk
      rw [hb] at hb'
      cases hb'
      obtain ⟨i, hi⟩ := List.mem_iff_getElem?.1 hx
      by_cases hij : j = i
      · subst hij
        rw [g2] at hi
        cases hi
        rfl
      · exfalso
        obtain ⟨q1, e1⟩ := List.getElem?_eq_some_iff.1 hi
        obtain ⟨q2, e2⟩ := List.getElem?_eq_some_iff.1 g2
        have hp := List.pairwise_iff_getElem.1 s3
        rcases Nat.lt_or_gt_of_ne hij with hlt | hlt
        · have := hp j i q2 q1 hlt
          rw [e1, e2, g3, hxk] at this
          exact this rfl
        · have := hp i j q1 q2 hlt
          rw [e1, e2, g3, hxk] at this
          exact this rfl
    · intro es' clock' hb' hall
      rw [hb] at hb'
      cases hb'
      exact absurd g3 (hall e0 (List.mem_of_getElem? g2))
theorem wpList_lookupG2 {ops : Array Oper} {rest : List Oper} {o : Oper} {a : Act} {Q : Exit → Act → World → Prop} (h : Grp P k base e w b f)
    (hg : o.guard = none) (m x : Operand) (t E : TypeId) (hop : o.op = Op.lookup t m x false) (K : Keyed P k) (ht : P.underlying t = some (.map k E)) (hz : (zeroValue E).run P w = .ok (.slice none 0 0) w)
    (hm : a.eval m = .map (some b)) (key : Value) (hx : a.eval x = key) {kl : Lit} (hkey : keyOf P k key = some kl)
    (hK : ∀ v, w.ownsRow base e 1 v (f key).length (intsV (f key)) → (∀ (W2 : World) (v' : Value) (zs' : List Int), w.grownBy W2 v.ownBlock → W2.ownsRow base e 1 v' zs'.length (intsV zs') → (v'.ownBlock = v.ownBlock ∨ ∃ g, v'.ownBlock = some g ∧ w.heap.size ≤ g) →
        ∃ W3, (Instr.mapUpdate t (.map (some b)) key v').run P W2 = .ok () W3 ∧ Grp P k base e W3 b (upd f key zs') ∧ W2.grownBy W3 (some b) ∧ W3.heap.size = W2.heap.size) → wpList P ops Q rest (a.put o.dst v) w) : wpList P ops Q (o :: rest) a w := by
  refine wpList_plain hg fun K' hK' => ?_
  obtain ⟨v, hrun, r1, r2⟩ := h.look2 K ht hz hkey
  unfold Oper.wp
  simp [execOp, hop, hm, hx, hrun, Result.andThen]
  exact hK' _ _ (hK v r1 r2)
theorem wpList_mapUpdate {ops : Array Oper} {rest : List Oper} {o : Oper} {a : Act} {Q : Exit → Act → World → Prop}
    (hg : o.guard = none) (m s v : Operand) (t : TypeId) (hop : o.op = Op.mapUpdate t m s v) {vm vs vv : Value} (hm : a.eval m = vm) (hs : a.eval s = vs) (hv : a.eval v = vv) {w' : World}
    (hrun : (Instr.mapUpdate t vm vs vv).run P w = .ok () w') (hK : wpList P ops Q rest (a.put o.dst undef) w') : wpList P ops Q (o :: rest) a w := by
  refine wpList_plain hg fun K' hK' => ?_
  unfold Oper.wp
  simp [execOp, hop, hm, hs, hv, hrun, Result.andThen]
  exact hK' _ _ hK

theorem Grp.look_at {w0 : World} {t E : TypeId} (h : Grp P k base e w0 b f) (hb : Below w0.heap.size w0 w) (K : Keyed P k) (ht : P.underlying t = some (.map k E)) (hz : (zeroValue E).run P w = .ok (.slice none 0 0) w) {key : Value} {kl : Lit} (hkey : keyOf P k key = some kl) :
    ∃ v, (Instr.lookup t (.map (some b)) key false).run P w = .ok v w ∧ w0.ownsRow base e 1 v (f key).length (intsV (f key)) := by
  have hlt := h.lt
  obtain ⟨es, clock, hb0, h1, h2, h3, h4, h5, h6⟩ := h
  have hb := (hb.block b hlt).trans hb0
  rcases K.find w hkey es.toList h2 with ⟨g1, g2⟩ | ⟨j, e0, g1, g2, g3⟩
  · refine ⟨.slice none 0 0, by simp [Instr.lookup, run_underlying ht, MapKept.run_getObj_map hb, K.check w _ hkey, g1, hz, Result.andThen], ?_⟩
    rw [h5 key g2]
    exact World.ownsRow_nil _ _ _ _
  · refine ⟨e0.val, by simp [Instr.lookup, run_underlying ht, MapKept.run_getObj_map hb, K.check w _ hkey, g1, Result.andThen], ?_⟩
    have := h3 e0 (List.mem_of_getElem? g2)
    rw [g3] at this
    exact this
theorem wpList_lookupGB {w0 : World} {ops : Array Oper} {rest : List Oper} {o : Oper} {a : Act} {Q : Exit → Act → World → Prop} (h : Grp P k base e w0 b f) (hb : Below w0.heap.size w0 w)
    (hg : o.guard = none) (m x : Operand) (t E : TypeId) (hop : o.op = Op.lookup t m x false) (K : Keyed P k) (ht : P.underlying t = some (.map k E)) (hz : (zeroValue E).run P w = .ok (.slice none 0 0) w)
    (hm : a.eval m = .map (some b)) (key : Value) (hx : a.eval x = key) {kl : Lit} (hkey : keyOf P k key = some kl)
    (hK : ∀ v, w0.ownsRow base e 1 v (f key).length (intsV (f key)) → wpList P ops Q rest (a.put o.dst v) w) : wpList P ops Q (o :: rest) a w := by
  refine wpList_plain hg fun K' hK' => ?_
  obtain ⟨v, hrun, r1⟩ := h.look_at hb K ht hz hkey
  unfold Oper.wp
  simp [execOp, hop, hm, hx, hrun, Result.andThen]
  exact hK' _ _ (hK v r1)
theorem wpList_tailQ {v : Value} {z : Int} {zs : List Int} {ops : Array Oper} {rest : List Oper} {o : Oper} {a : Act} {Q : Exit → Act → World → Prop} (h : IQ w base v (z :: zs)) (hg : o.guard = none) (x : Operand) (t : TypeId)
    (hop : o.op = Op.slice t x (some (.const (.int .i64 1))) none none) (ht : P.underlying t = some (.slice 3)) {i : TypeInfo} (hi : P.info? 3 = some i) (h1 : i.size = 1) (hx : a.eval x = v)
    (hK : ∀ v', IQ w base v' zs → wpList P ops Q rest (a.put o.dst v') w) : wpList P ops Q (o :: rest) a w := by
  refine wpList_plain hg fun K' hK' => ?_
  obtain ⟨b, off, cap, rfl, hc1, _, _, _, hq⟩ := h.cons
  have hel : P.elem t = 3 := by simp [Program.elem, ht]
  have ht' : P.underlying t = some (.slice (P.elem t)) := by rw [hel]; exact ht
  have hrun : (Instr.sliceAt t (.slice (some ⟨b, off, none⟩) (zs.length + 1) cap) (some (.int .i64 1)) none none).run P w = .ok (.slice (some (if cap = 1 then ⟨b, off, none⟩ else ⟨b, off + 1, none⟩)) zs.length (cap - 1)) w := by
    rw [run_sliceAt_slice (w := w) t _ _ _ _ ht', run_slice_l (w := w) t (some ⟨b, off, none⟩) (zs.length + 1) cap ht' .i64 1 (by omega) (by omega), hel]
    have hs : (sizeOf 3).run P w = .ok 1 w := by simp [sizeOf, typeInfo, hi, h1]
    rw [hs]
    simp only [Result.andThen, sliced]
    by_cases e : cap = 1
    · simp [e]
    · have : ¬ cap = (1 : Int).toNat := e
      simp only [Option.map, if_neg e, Addr.add_mid, if_neg this]
      rfl
  have e1 : a.eval (.const (.int .i64 1)) = .int .i64 1 := rfl
  unfold Oper.wp
  simp only [execOp, hop, hx, Option.map, e1, Sem.run_bind, hrun, Result.andThen]
  exact hK' _ _ (hK _ hq)
end
section
variable {w : World} {base : Nat} {v : Value} {zs : List Int}
theorem IQ.len (h : IQ w base v zs) : (match v with | .slice _ n _ => n | _ => 0) = zs.length := by
  obtain ⟨ao, c, rfl⟩ := h.form
  rfl
end

/-! Which triangles of a vertex are connected. -/
def hasV (t : Tr) (x : Int) : Prop := x = t.1 ∨ x = t.2.1 ∨ x = t.2.2
def adjV (T : List Tr) (v : Int) (i k : Nat) : Prop := ∃ a b x, T[i]? = some a ∧ T[k]? = some b ∧ x ≠ v ∧ hasV a x ∧ hasV b x
def ConnV (T : List Tr) (v : Int) (l : List Nat) : Prop := ∀ S : Nat → Prop, (∀ i, l.head? = some i → S i) → (∀ i ∈ l, ∀ k ∈ l, S i → adjV T v i k → S k) → ∀ k ∈ l, S k
theorem mem_keys {R : List Nat} {k : Nat} : (Value.int .i64 (k : Int)) ∈ intsV (R.map fun i : Nat => (i : Int)) ↔ k ∈ R := by
  simp only [intsV, List.mem_map, Value.int.injEq, true_and]
  constructor
  · rintro ⟨a, ⟨b, hb, rfl⟩, e⟩
    have : b = k := by omega
    rw [← this]
    exact hb
  · intro h
    exact ⟨_, ⟨k, h, rfl⟩, rfl⟩
def nats (l : List Nat) : List Int := l.map fun i : Nat => (i : Int)
theorem nats_length (l : List Nat) : (nats l).length = l.length := by simp [nats]
/-- What the ends know: at a vertex the triangles that have it. -/
def Ends (f : Value → List Int) (pre : List (Int × Nat)) : Prop := ∀ x : Int, ∃ l : List Nat, f (.int .i64 x) = nats l ∧ (∀ k, k ∈ l ↔ (x, k) ∈ pre) ∧ l.length ≤ pre.length
theorem Ends.nil : Ends (fun _ => []) [] := fun x => ⟨[], rfl, by simp, by simp⟩
theorem Ends.put {f : Value → List Int} {pre : List (Int × Nat)} (h : Ends f pre) (x : Int) (i : Nat) : Ends (upd f (.int .i64 x) (f (.int .i64 x) ++ [(i : Int)])) (pre ++ [(x, i)]) := by
  intro y
  obtain ⟨l, h1, h2, h3⟩ := h y
  by_cases e : y = x
  · subst e
    rw [upd_same]
    refine ⟨l ++ [i], by rw [h1]; simp [nats], fun k => ?_, by simp; exact h3⟩
    simp only [List.mem_append, h2, List.mem_singleton, Prod.mk.injEq, true_and]
  · rw [upd_other (by simpa using e)]
    refine ⟨l, h1, fun k => ?_, by simp; omega⟩
    simp only [List.mem_append, h2, List.mem_singleton, Prod.mk.injEq, e, false_and, or_false]
/-- What one triangle adds. -/
def tells (v : Int) (t : Tr) (i : Nat) : List (Int × Nat) := ([t.1, t.2.1, t.2.2].filter (· != v)).map fun x => (x, i)
def told (T : List Tr) (v : Int) (l : List Nat) : List (Int × Nat) := l.flatMap fun i => tells v (T[i]?.getD (0, 0, 0)) i
theorem told_snoc (T : List Tr) (v : Int) (l : List Nat) (i : Nat) : told T v (l ++ [i]) = told T v l ++ tells v (T[i]?.getD (0, 0, 0)) i := by simp [told]
theorem tells_length (v : Int) (t : Tr) (i : Nat) : (tells v t i).length ≤ 3 := by
  unfold tells
  rw [List.length_map]
  have := List.length_filter_le (· != v) [t.1, t.2.1, t.2.2]
  simpa using this
theorem told_mem {T : List Tr} {v : Int} {l : List Nat} {x : Int} {k : Nat} : (x, k) ∈ told T v l ↔ k ∈ l ∧ x ≠ v ∧ hasV (T[k]?.getD (0, 0, 0)) x := by
  simp only [told, tells, List.mem_flatMap, List.mem_map, List.mem_filter, List.mem_cons, List.not_mem_nil, or_false, Prod.mk.injEq, bne_iff_ne, hasV]
  constructor
  · rintro ⟨i, hi, y, ⟨hy, hn⟩, rfl, rfl⟩
    exact ⟨hi, hn, hy⟩
  · rintro ⟨hk, hn, hx⟩
    exact ⟨k, hk, x, ⟨hx, hn⟩, rfl, rfl⟩

/-- The search: what was reached, and what of it waits. -/
structure Bfs (T : List Tr) (v : Int) (l R Q : List Nat) : Prop where
  le : Q.length ≤ R.length
  nd : R.Nodup
  sub : ∀ k ∈ R, k ∈ l
  wait : ∀ k ∈ Q, k ∈ R
  head : ∀ i, l.head? = some i → i ∈ R
  done : ∀ i ∈ R, i ∉ Q → ∀ k ∈ l, adjV T v i k → k ∈ R
  reach : ∀ S : Nat → Prop, (∀ i, l.head? = some i → S i) → (∀ i ∈ l, ∀ k ∈ l, S i → adjV T v i k → S k) → ∀ k ∈ R, S k
theorem Bfs.start {T : List Tr} {v : Int} {l : List Nat} {i : Nat} (h : l.head? = some i) : Bfs T v l [i] [i] where
  le := by simp
  nd := by simp
  sub := by
    intro k hk
    rw [List.mem_singleton.1 hk]
    exact List.mem_of_mem_head? h
  wait := fun k hk => hk
  head := by
    intro j hj
    rw [h] at hj
    cases hj
    simp
  done := fun j hj hn => absurd hj hn
  reach := by
    intro S h1 _ k hk
    rw [List.mem_singleton.1 hk]
    exact h1 i h
theorem nodup_full {R l : List Nat} (hn : R.Nodup) (hs : ∀ x ∈ R, x ∈ l) (hl : l.length ≤ R.length) : ∀ x ∈ l, x ∈ R := by
  intro x hx
  refine Classical.byContradiction fun hne => ?_
  have h2 := Jor.nodup_le (l := x :: R) (m := l) (List.nodup_cons.2 ⟨hne, hn⟩) (fun y hy => by
    rcases List.mem_cons.1 hy with rfl | hy
    · exact hx
    · exact hs y hy)
  simp only [List.length_cons] at h2
  omega
theorem Bfs.finish {T : List Tr} {v : Int} {l R : List Nat} (h : Bfs T v l R []) (hl : l.Nodup) : R.length = l.length ↔ ConnV T v l := by
  have hle : R.length ≤ l.length := Jor.nodup_le h.nd h.sub
  constructor
  · intro he S h1 h2 k hk
    exact h.reach S h1 h2 k (nodup_full h.nd h.sub (by omega) k hk)
  · intro hc
    have hall := hc (fun k => k ∈ R) h.head (fun i _ k hk hiR ha => h.done i hiR (by simp) k hk ha)
    have := Jor.nodup_le hl hall
    omega
/-- In the midst of one triangle: its vertices C are done. -/
structure BfsAt (T : List Tr) (v : Int) (l R Q : List Nat) (i : Nat) (C : List Int) : Prop where
  le : Q.length ≤ R.length
  nd : R.Nodup
  sub : ∀ k ∈ R, k ∈ l
  wait : ∀ k ∈ Q, k ∈ R
  head : ∀ i, l.head? = some i → i ∈ R
  cur : i ∈ R
  done : ∀ j ∈ R, j ∉ Q → j ≠ i → ∀ k ∈ l, adjV T v j k → k ∈ R
  part : ∀ k ∈ l, ∀ b, T[k]? = some b → ∀ x ∈ C, x ≠ v → hasV b x → k ∈ R
  reach : ∀ S : Nat → Prop, (∀ i, l.head? = some i → S i) → (∀ i ∈ l, ∀ k ∈ l, S i → adjV T v i k → S k) → ∀ k ∈ R, S k
theorem Bfs.pop {T : List Tr} {v : Int} {l R Q : List Nat} {i : Nat} (h : Bfs T v l R (i :: Q)) : BfsAt T v l R Q i [] where
  le := by have := h.le; simp at this; omega
  nd := h.nd
  sub := h.sub
  wait := fun k hk => h.wait k (List.mem_cons_of_mem _ hk)
  head := h.head
  cur := h.wait i (List.mem_cons_self ..)
  done := fun j hj hn hne k hk ha => h.done j hj (fun hm => by rcases List.mem_cons.1 hm with e | hm; exact hne e; exact hn hm) k hk ha
  part := fun k _ b _ x hx => by cases hx
  reach := h.reach
theorem BfsAt.add {T : List Tr} {v : Int} {l R Q : List Nat} {i k : Nat} {C : List Int} (h : BfsAt T v l R Q i C) (hk : k ∈ l) (hn : k ∉ R) (ha : adjV T v i k) : BfsAt T v l (R ++ [k]) (Q ++ [k]) i C where
  le := by have := h.le; simp; exact this
  nd := by
    rw [List.nodup_append]
    exact ⟨h.nd, by simp, fun a ha b hb e => by rw [List.mem_singleton.1 hb] at e; exact hn (by rw [← e]; exact ha)⟩
  sub := fun x hx => by
    rcases List.mem_append.1 hx with hx | hx
    · exact h.sub x hx
    · rw [List.mem_singleton.1 hx]; exact hk
  wait := fun x hx => by
    rcases List.mem_append.1 hx with hx | hx
    · exact List.mem_append_left _ (h.wait x hx)
    · exact List.mem_append_right _ hx
  head := fun j hj => List.mem_append_left _ (h.head j hj)
  cur := List.mem_append_left _ h.cur
  done := fun j hj hq hne x hx hax => by
    rcases List.mem_append.1 hj with hj | hj
    · exact List.mem_append_left _ (h.done j hj (fun hm => hq (List.mem_append_left _ hm)) hne x hx hax)
    · exact absurd (List.mem_append_right _ hj) hq
  part := fun x hx b hb y hy hyv hyb => List.mem_append_left _ (h.part x hx b hb y hy hyv hyb)
  reach := fun S h1 h2 x hx => by
    rcases List.mem_append.1 hx with hx | hx
    · exact h.reach S h1 h2 x hx
    · rw [List.mem_singleton.1 hx]
      exact h2 i (h.sub i h.cur) k hk (h.reach S h1 h2 i h.cur) ha
theorem BfsAt.skip {T : List Tr} {v : Int} {l R Q : List Nat} {i : Nat} {C : List Int} (h : BfsAt T v l R Q i C) : BfsAt T v l R Q i (C ++ [v]) := ⟨h.le, h.nd, h.sub, h.wait, h.head, h.cur, h.done, fun k hk b hb x hx hxv hxb => by
  rcases List.mem_append.1 hx with hx | hx
  · exact h.part k hk b hb x hx hxv hxb
  · exact absurd (List.mem_singleton.1 hx) hxv, h.reach⟩
theorem BfsAt.over {T : List Tr} {v : Int} {l R Q : List Nat} {i : Nat} {C : List Int} {y : Int} (h : BfsAt T v l R Q i C) (hy : ∀ k ∈ l, ∀ b, T[k]? = some b → hasV b y → k ∈ R) : BfsAt T v l R Q i (C ++ [y]) := ⟨h.le, h.nd, h.sub, h.wait, h.head, h.cur, h.done, fun k hk b hb x hx hxv hxb => by
  rcases List.mem_append.1 hx with hx | hx
  · exact h.part k hk b hb x hx hxv hxb
  · rw [List.mem_singleton.1 hx] at hxb
    exact hy k hk b hb hxb, h.reach⟩
theorem BfsAt.finish {T : List Tr} {v : Int} {l R Q : List Nat} {i : Nat} {x y z : Int} (h : BfsAt T v l R Q i [x, y, z]) (ht : T[i]? = some (x, y, z)) : Bfs T v l R Q where
  le := h.le
  nd := h.nd
  sub := h.sub
  wait := h.wait
  head := h.head
  done := fun j hj hq k hk ha => by
    by_cases e : j = i
    · subst e
      obtain ⟨a, b, u, h1, h2, h3, h4, h5⟩ := ha
      rw [ht] at h1
      cases h1
      refine h.part k hk b h2 u ?_ h3 h5
      rcases h4 with rfl | rfl | rfl <;> simp
    · exact h.done j hj hq e k hk ha
  reach := h.reach
def sliceLen : Value → Nat
  | .slice _ n _ => n
  | _ => 0
end Go.Proofs.YtpnkhgjjlionnaaGreat
namespace Go.Proofs.YtpnkhgjjlionnaaGreat
open Go.RowKit Go.Maps

def keyOk (κ : Tr) : Prop := (0 ≤ κ.1 ∧ κ.1 ≤ 8192) ∧ (0 ≤ κ.2.1 ∧ κ.2.1 ≤ 8192) ∧ (0 ≤ κ.2.2 ∧ κ.2.2 ≤ 8192)
/-- What the rows know: of each key whether it was, how many there are at most, and that the numbers are small. -/
def Had (f : Value → List Int) (P : List Tr) : Prop := (∀ κ, f (triV κ) = [] ↔ κ ∉ P) ∧ ∀ key, (f key).length ≤ P.length ∧ ∀ a ∈ f key, 0 ≤ a ∧ a ≤ 8192
theorem Had.nil : Had (fun _ => []) [] := ⟨by simp, by simp⟩
theorem Had.put {f : Value → List Int} {P : List Tr} (h : Had f P) (κ : Tr) {i : Int} (hi : 0 ≤ i ∧ i ≤ 8192) : Had (upd f (triV κ) (f (triV κ) ++ [i])) (P ++ [κ]) := by
  obtain ⟨h1, h2⟩ := h
  constructor
  · intro κ'
    by_cases e : triV κ' = triV κ
    · have e' := triV_inj e
      subst e'
      rw [upd_same]
      simp
    · rw [upd_other e, h1]
      have : κ' ≠ κ := fun e' => e (by rw [e'])
      simp [this]
  · intro key
    by_cases e : key = triV κ
    · subst e
      rw [upd_same]
      obtain ⟨a, b⟩ := h2 (triV κ)
      refine ⟨by simp; exact a, fun x hx => ?_⟩
      rcases List.mem_append.1 hx with hx | hx
      · exact b x hx
      · simp only [List.mem_singleton] at hx
        rw [hx]
        exact hi
    · rw [upd_other e]
      obtain ⟨a, b⟩ := h2 key
      exact ⟨by simp; omega, b⟩
theorem nodup_snoc {P : List Tr} {κ : Tr} : (P ++ [κ]).Nodup ↔ P.Nodup ∧ κ ∉ P := by
  rw [List.nodup_append]
  simp only [List.nodup_cons, List.not_mem_nil, not_false_eq_true, List.nodup_nil, true_and, List.mem_singleton]
  constructor
  · rintro ⟨h1, h3⟩
    exact ⟨h1, fun hm => h3 κ hm κ rfl rfl⟩
  · rintro ⟨h1, h2⟩
    refine ⟨h1, fun a ha b hb e => ?_⟩
    rw [hb] at e
    rw [e] at ha
    exact h2 ha
theorem rowSlice {w : World} {base n : Nat} {v : Value} {zs : List Int} (h : w.ownsRow base 3 1 v zs.length (intsV zs)) (hn : zs.length = n) : ∃ a c, v = .slice a n c ∧ ∀ (k : Nat) (x : Int), zs[k]? = some x → ∃ g, a = some ⟨g, 0, none⟩ ∧ g < w.heap.size ∧ w.cell? ⟨g, k, none⟩ = some (.int .i64 x) := by
  subst hn
  rcases Nat.eq_zero_or_pos zs.length with h0 | hpos
  · rcases h.2 with ⟨rfl, e0⟩ | ⟨g, cap, cur, rfl, _⟩
    · exact ⟨none, 0, by rw [h0], fun k x hk => by
        have := (List.getElem?_eq_some_iff.1 hk).1
        omega⟩
    · exact ⟨some ⟨g, 0, none⟩, cap, rfl, fun k x hk => by
        have := (List.getElem?_eq_some_iff.1 hk).1
        omega⟩
  · obtain ⟨g, cap, rfl, hb, hg⟩ := h.form hpos
    refine ⟨some ⟨g, 0, none⟩, cap, rfl, fun k x hk => ⟨g, rfl, hg, ?_⟩⟩
    have := (List.getElem?_eq_some_iff.1 hk).1
    rw [h.cellAt k (by omega), intsV, List.getElem?_map, hk]
    rfl

theorem ws3_at {ws : List Tr} {j : Nat} {a b c : Int} (h : ws[j]? = some (a, b, c)) : (ws3 ws)[j * 3]? = some (.int .i64 a) ∧ (ws3 ws)[j * 3 + 1]? = some (.int .i64 b) ∧ (ws3 ws)[j * 3 + 2]? = some (.int .i64 c) := by
  induction ws generalizing j with
  | nil => simp at h
  | cons t r ih =>
    have e : ws3 (t :: r) = [.int .i64 t.1, .int .i64 t.2.1, .int .i64 t.2.2] ++ ws3 r := by simp [ws3, flatT]
    cases j with
    | zero =>
      simp at h
      subst h
      rw [e]
      simp
    | succ j =>
      have := ih (j := j) (by simpa using h)
      rw [e]
      have h1 : (j + 1) * 3 = j * 3 + 3 := by omega
      rw [h1]
      simpa using this
theorem wfS {x : Int} (h : 0 ≤ x ∧ x ≤ 8192) : (Lit.int .i64 x).wf = true := WalkArith.wf_i64 (by omega)
theorem infoInt : (Tryz.prog.info? 3).map (fun i => (i.zero, i.size, i.bytes)) = some (some (.int .i64 0), 1, 8) := by kernel_rfl

set_option maxRecDepth 100000 in
set_option maxHeartbeats 4000000 in
theorem pairsTwice_any (kind : Int) (K : Tr → List Tr) (N : Int) (v : Value) (T : List Tr) (w : World) (h : TrisRd w v T) (hl : T.length ≤ 8192)
    (hK : ∀ (t : Tr) (W : World), t ∈ T → Calls Tryz.prog 111 #[triV t] W fun e W' => ∃ v', e = .returned v' ∧ W'.ownsRow W.heap.size 59 3 v' (K t).length (ws3 (K t)) ∧ Below W.heap.size W W')
    (hKl : ∀ t ∈ T, 0 < (K t).length ∧ (K t).length ≤ 3) (hKo : ∀ t ∈ T, ∀ κ ∈ K t, keyOk κ) :
    Calls Tryz.prog 110 #[.agg #[.int .i64 N, v], .int .i64 kind, .func (.func 111) #[] #[]] w fun e w' => ∃ v', e = .returned v' ∧ WitsIs w' w.heap.size v' kind (T.flatMap K).Nodup ∧ Below w.heap.size w w' := by
  obtain ⟨i1, hi', hy0, hy1, hy2⟩ := info_parts infoWit
  obtain ⟨i2, hj', hz0, hz1, hz2⟩ := info_parts infoInt
  obtain ⟨a, c, rfl, hc1, hc2, hr⟩ := h
  have HR := Lib.hid hr
  have HKc := Lib.hid hK
  have HKl := Lib.hid hKl
  have HKo := Lib.hid hKo
  have b1 := Blk.new w 24 #[.int .i64 N, .slice a T.length c]
  have hB0 : Below w.heap.size w (w.alloc (.cells #[.int .i64 N, .slice a T.length c] 24)) := (Below.refl _ _).alloc (Nat.le_refl _) _
  obtain ⟨n, hn⟩ : ∃ n, T.length = n := ⟨_, rfl⟩
  rw [hn] at hl hc1 hB0 b1 ⊢
  have HN := Lib.hid hn
  have st0 : PairSt w ((((w.alloc (.cells #[.int .i64 N, .slice a n c] 24)).alloc (.map #[] 0))).alloc (.map #[] 0)) kind (fun _ => []) [] (.slice none 0 0) [] := by
    have hm1 := Grp.made (w.alloc (.cells #[.int .i64 N, .slice a n c] 24)) Tryz.prog 59 3 (base := w.heap.size + 3) (by rw [size_alloc']; omega)
    have hm2 := MapB.made ((w.alloc (.cells #[.int .i64 N, .slice a n c] 24)).alloc (.map #[] 0)) Tryz.prog 74 4
    rw [size_alloc'] at hm1
    rw [size_alloc', size_alloc'] at hm2
    exact ⟨hm1.alloc _, hm2, World.ownsRow_nil _ _ _ _, (hB0.alloc (by rw [size_alloc']; omega) _).alloc (by rw [size_alloc', size_alloc']; omega) _, fun _ => rfl, by simp⟩
  obtain ⟨l0, x0, -, x1, -⟩ := ((b1.alloc (.map #[] 0)).alloc (.map #[] 0)).two
  have hmm := @run_makeMap Tryz.prog
  clear hr hn hK hKl hKo b1 hB0
  go_enter Tryz.func110, Tryz.ntmps110
  go_wp2
  clear hmm x0 x1 l0
  go_loopw [7, 22] (fun v7 i wr => ∃ (k : Nat) (v' : Value) (ws : List Tr) (f : Value → List Int) (S : List Value), v' = v7 ∧ k ≤ n ∧ i = .int .i64 k ∧ PairSt w wr kind f S v' ws ∧ Had f ((T.take k).flatMap K) ∧ ((T.take k).flatMap K).length ≤ 3 * k ∧ ws.length ≤ 3 * k * 24576 ∧ (ws = [] ↔ ((T.take k).flatMap K).Nodup)) (fun _ i _ => n - (intOf i).toNat)
  case atStart => exact ⟨0, _, [], _, _, rfl, Nat.zero_le _, rfl, st0, by simpa using Had.nil, by simp, by simp, by simp⟩
  case round =>
    clear st0
    obtain ⟨k, v', ws, f, S, rfl, hk, rfl, hst, hhad, hPl, hwl, hws⟩ := hrel
    rename World => wr
    by_cases hlt : k < n
    · obtain ⟨t, ht⟩ : ∃ t, T[k]? = some t := ⟨T[k]'(by have := HN.out; omega), List.getElem?_eq_getElem _⟩
      obtain ⟨x, y, z⟩ := t
      have hmem := List.mem_of_getElem? ht
      obtain ⟨b, o, rfl, hbl, s0, s1, s2⟩ := HR.out k x y z ht
      have s0' := (hst.b.cell (p := ⟨b, _, none⟩) hbl).trans s0
      have s1' := (hst.b.cell (p := ⟨b, _, none⟩) hbl).trans s1
      have s2' := (hst.b.cell (p := ⟨b, _, none⟩) hbl).trans s2
      have Hts : Hid ((T.take (k + 1)).flatMap K = (T.take k).flatMap K ++ K (x, y, z)) := by
        refine Lib.hid ?_
        obtain ⟨hk', he⟩ := List.getElem?_eq_some_iff.1 ht
        rw [List.take_succ_eq_append_getElem hk', he]
        simp
      have HkO := Lib.hid (HKo.out _ hmem)
      have HkC := Lib.hid (fun W => HKc.out (x, y, z) W hmem)
      obtain ⟨hL0, hL3⟩ := HKl.out _ hmem
      generalize hKt : K (x, y, z) = Kt at *
      obtain ⟨P, hP⟩ : ∃ P, (T.take k).flatMap K = P := ⟨_, rfl⟩
      rw [hP] at hhad hPl hws Hts
      have Hws := Lib.hid hws
      have Hhad := Lib.hid hhad
      have hk3 : (k : Int) < (n : Int) := by omega
      have hk0 : (0 : Int) ≤ (k : Int) := by omega
      have Hst := Lib.hid (hst.alloc (.cells #[.int .i64 x, .int .i64 y, .int .i64 z] 60))
      clear ht s0 s1 s2 hws hhad hst hmem hP hKt
      go_wp2_with fail
      refine (HkC.out _).mono ?_
      rintro e w2 ⟨vk, rfl, hrK, hbK⟩
      have Hst2 := Lib.hid (Hst.out.below hbK)
      obtain ⟨L, hL⟩ : ∃ L, Kt.length = L := ⟨_, rfl⟩
      rw [hL] at hrK hL0 hL3
      obtain ⟨gk, ck, rfl, hgk1, hgk2⟩ := hrK.form hL0
      rw [size_alloc'] at hgk1 hrK
      have Hr := Lib.hid hrK
      have HL := Lib.hid hL
      clear Hst hbK hrK hL HkC
      go_wp2
      rename World => wA
      go_loopw [7, 31] (fun v7 i wq => ∃ (j : Nat) (v' : Value) (ws : List Tr) (f : Value → List Int) (S : List Value), v' = v7 ∧ j ≤ L ∧ i = .int .i64 j ∧ PairSt w wq kind f S v' ws ∧ wq.ownsRow (wr.heap.size + 1) 59 3 (.slice (some ⟨gk, 0, none⟩) L ck) L (ws3 Kt) ∧ Had f (P ++ Kt.take j) ∧ ws.length ≤ (3 * k + j) * 24576 ∧ (ws = [] ↔ (P ++ Kt.take j).Nodup)) (fun _ i _ => L - (intOf i).toNat)
      case atStart => exact ⟨0, _, ws, f, S, rfl, Nat.zero_le _, rfl, Hst2.out, Hr.out, by simpa using Hhad.out, by omega, by simpa using Hws.out⟩
      case round =>
        clear Hst2 Hr Hws Hhad hwl
        clear ws f S
        obtain ⟨j, v', ws, f, S, rfl, hj, rfl, hst, hrK, hhad, hwl, hws⟩ := hrel
        rename World => wq
        by_cases hjl : j < L
        · obtain ⟨κ, hκ⟩ : ∃ κ, Kt[j]? = some κ := ⟨Kt[j]'(by have := HL.out; omega), List.getElem?_eq_getElem _⟩
          obtain ⟨κ1, κ2, κ3⟩ := κ
          obtain ⟨⟨o1, o2⟩, ⟨o3, o4⟩, ⟨o5, o6⟩⟩ := HkO.out _ (List.mem_of_getElem? hκ)
          simp only at o1 o2 o3 o4 o5 o6
          obtain ⟨d0, d1, d2⟩ := ws3_at hκ
          have c0 := hrK.cellAt (j * 3) (by omega)
          have c1 := hrK.cellAt (j * 3 + 1) (by omega)
          have c2 := hrK.cellAt (j * 3 + 2) (by omega)
          rw [d0] at c0
          rw [d1] at c1
          rw [d2] at c2
          have Hts2 : Hid (P ++ Kt.take (j + 1) = P ++ Kt.take j ++ [(κ1, κ2, κ3)]) := by
            refine Lib.hid ?_
            obtain ⟨hk', he⟩ := List.getElem?_eq_some_iff.1 hκ
            rw [List.take_succ_eq_append_getElem hk', he, List.append_assoc]
          have hj3 : (j : Int) < (L : Int) := by omega
          have hj0 : (0 : Int) ≤ (j : Int) := by omega
          have hPj : (P ++ Kt.take j).length ≤ 3 * k + j := by simp; omega
          have Hhad := Lib.hid hhad
          have Hws := Lib.hid hws
          have hgq := hrK.lt gk (by rfl)
          have hst1 := hst.alloc (.cells #[.int .i64 κ1, .int .i64 κ2, .int .i64 κ3] 59)
          have hrK1 := Lib.hid (hrK.alloc (.cells #[.int .i64 κ1, .int .i64 κ2, .int .i64 κ3] 59))
          have hkey := keyOf_three arrThree Tryz.underlying3 types_succ (wfS ⟨o1, o2⟩) (wfS ⟨o3, o4⟩) (wfS ⟨o5, o6⟩)
          have hbq := Blk.new wq 59 #[.int .i64 κ1, .int .i64 κ2, .int .i64 κ3]
          have hwq := hst.b.size
          obtain ⟨m, hm⟩ : ∃ m, (f (triV (κ1, κ2, κ3))).length = m := ⟨_, rfl⟩
          have hm1 : m ≤ 3 * k + j := by
            have := (hhad.2 (triV (κ1, κ2, κ3))).1
            omega
          have HM := Lib.hid hm
          have HMo := Lib.hid (hhad.2 (triV (κ1, κ2, κ3))).2
          clear d0 d1 d2 hws hhad hst hrK hm
          go_wp2_with (at_lookup; refine wpList_lookupG hst1.g rfl _ _ 187 30 rfl (Keyed.of_law arrThree.law) Tryz.underlying187 (zero_ints _) rfl _ rfl hkey ?_; intro v0 hr0; have hr0' := hr0; rw [show (.agg #[.int .i64 κ1, .int .i64 κ2, .int .i64 κ3] : Value) = triV (κ1, κ2, κ3) from rfl] at hr0'; obtain ⟨a0, c0', rfl, hc0⟩ := rowSlice hr0' HM.out)
          have Hst1 := Lib.hid hst1
          have Hr0 := Lib.hid hr0
          have hbq' := Lib.hid hbq
          clear hst1 hr0 hr0' hbq hc0 c0 c1 c2 hgq
          go_loopw [7, 39] (fun v7 i wz => ∃ (q : Nat) (v' : Value) (ws' : List Tr) (S' : List Value), v' = v7 ∧ q ≤ m ∧ i = .int .i64 q ∧ PairSt w wz kind f S' v' ws' ∧ wz.ownsRow (wr.heap.size + 1) 59 3 (.slice (some ⟨gk, 0, none⟩) L ck) L (ws3 Kt) ∧ wz.ownsRow (w.heap.size + 3) 3 1 (.slice a0 m c0') (f (triV (κ1, κ2, κ3))).length (intsV (f (triV (κ1, κ2, κ3)))) ∧ Blk wz wq.heap.size 59 #[.int .i64 κ1, .int .i64 κ2, .int .i64 κ3] ∧ ws'.length ≤ ws.length + q ∧ (ws' = [] ↔ ws = [] ∧ q = 0)) (fun _ i _ => m - (intOf i).toNat)
          case atStart => exact ⟨0, _, ws, S, rfl, Nat.zero_le _, rfl, Hst1.out, hrK1.out, Hr0.out, hbq'.out, by omega, by simp⟩
          case round =>
            clear Hst1 hrK1 Hr0 hbq'
            obtain ⟨q, v', ws', S', rfl, hq, rfl, hst, hrK, hr0, hbq, hwl', hws'⟩ := hrel
            rename World => wz
            have Hws' := Lib.hid hws'
            clear hws'
            by_cases hqm : q < m
            · obtain ⟨d, hd⟩ : ∃ d, (f (triV (κ1, κ2, κ3)))[q]? = some d := ⟨(f (triV (κ1, κ2, κ3)))[q]'(by have := HM.out; omega), List.getElem?_eq_getElem _⟩
              obtain ⟨d1, d2⟩ := HMo.out d (List.mem_of_getElem? hd)
              obtain ⟨a1, c1', e1, hcc⟩ := rowSlice hr0 HM.out
              cases e1
              obtain ⟨g0, rfl, hg0, hcell⟩ := hcc q d hd
              have hst2 := hst.alloc (.cells #[.int .i64 d, .int .i64 k] 74)
              have hkey2 := WideMaps.keyOf_pair arrPair Tryz.underlying3 types_succ (wfS ⟨d1, d2⟩) (wfS (x := (k : Int)) ⟨by omega, by omega⟩)
              have hq3 : (q : Int) < (m : Int) := by omega
              have hq0 : (0 : Int) ≤ (q : Int) := by omega
              have c3 : ws'.length + 1 ≤ maxLen := by unfold maxLen; omega
              have c4 : (ws'.length + 1) * 24 ≤ 140737488355328 := by omega
              have c5 : ws'.length < maxLen := by unfold maxLen; omega
              have hwz := hst.b.size
              clear hcc hd
              by_cases hp : (.agg #[.int .i64 d, .int .i64 k] : Value) ∈ S'
              · have hne : ws' ≠ [] := fun e0 => by
                  have := hst.c e0
                  rw [this] at hp
                  cases hp
                go_wp2_with (at_lookup; refine wpList_lookupB hst2.s rfl _ _ 188 rfl (Keyed.of_law arrPair.law) Tryz.underlying188 Tryz.underlying4 (zero_bool _) rfl _ rfl hkey2 ?_; intro r hir; obtain rfl : r = true := hir.2 hp)
                go_roundw
                case measure => simp [intOf]; omega
                case rel => exact ⟨q + 1, _, ws', S', rfl, by omega, by go_num, hst2, hrK.alloc _, hr0.alloc _, hbq.alloc _, by omega, ⟨fun e => absurd e hne, fun e => absurd e.2 (by omega)⟩⟩
              · go_wp2_with (first
                  | (at_lookup; refine wpList_lookupB hst2.s rfl _ _ 188 rfl (Keyed.of_law arrPair.law) Tryz.underlying188 Tryz.underlying4 (zero_bool _) rfl _ rfl hkey2 ?_; intro r hir; obtain rfl : r = false := (by cases r; rfl; exact absurd (hir.1 rfl) hp))
                  | (at_mapUpdate; refine wpList_storeB hst2.s rfl _ _ _ 188 rfl (Keyed.of_law arrPair.law) Tryz.underlying188 Tryz.underlying4 c5 rfl _ rfl rfl hkey2 ?_; intro w5 hm5 hg5; have hsz5 := hg5.size; rw [size_alloc'] at hsz5)
                  | (at_builtin; refine wpList_append_lies _ rfl (.tmp 52) (.tmp 57) 113 rfl w.heap.size 35 i1 _ 3 24 Tryz.underlying113 hi' hy0 hy1 hy2 rfl (by decide) _ _ _ rfl ((hst2.r.kept hg5 (row_map_ne hst2.r hst2.s.obj)).alloc _) ⟨w5.heap.size, 0, none⟩ 1 1 [.int .i64 kind, .int .i64 d, .int .i64 k] rfl rfl (World.news_of_block (heap_alloc_new _ _)) (by simp [Value.oneCell']) (by decide) c3 c4 (by rw [size_alloc']; omega) (w5.heap.size + 1) (by simp) ?_; intro g4 cap4 W4 hr4 hg4 _ _))
                go_roundw
                case measure => simp [intOf]; omega
                case rel => exact ⟨q + 1, _, ws' ++ [(kind, d, (k : Int))], _, rfl, by omega, by go_num, hst2.mark hm5 hg5 (by rw [ws3_snoc]; simpa using hr4) hg4 rfl, hst2.markRow hg5 hg4 (by decide) (hrK.alloc _), hst2.markRow hg5 hg4 (by decide) (hr0.alloc _), hst2.markBlk hg5 hg4 (by decide) (hbq.alloc _), by simp; omega, by simp⟩
            · obtain rfl : q = m := by omega
              have hst3 := hst.alloc (.cells #[.int .i64 k] 3)
              have hnb := Blk.new wz 3 #[.int .i64 k]
              have hglt := hst.g.lt
              have hrK3 := Lib.hid (hrK.alloc (.cells #[.int .i64 k] 3))
              have hmm := HM.out
              obtain ⟨bq0, bq1, -, bq2, -, bq3, -⟩ := hbq.three
              have hwz := hst.b.size
              have c6 : (f (triV (κ1, κ2, κ3))).length + 1 ≤ maxLen := by unfold maxLen; omega
              have c7 : ((f (triV (κ1, κ2, κ3))).length + 1) * 8 ≤ 140737488355328 := by omega
              clear hmm hst hrK hr0
              go_wp2_with (first
                | (refine wpList_entryG hst3.g rfl _ _ 187 30 rfl (Keyed.of_law arrThree.law) Tryz.underlying187 zero_ints rfl (triV (κ1, κ2, κ3)) rfl hkey ?_; intro v1 st W1 e1 e1s e1g e1r e1b; rw [size_alloc'] at e1s)
                | (at_builtin; refine wpList_append_lies _ rfl (.tmp 62) (.tmp 64) 30 rfl (w.heap.size + 3) 3 i2 _ 1 8 Tryz.underlying30 hj' hz0 hz1 hz2 rfl (by decide) v1 (f (triV (κ1, κ2, κ3))).length (intsV (f (triV (κ1, κ2, κ3)))) rfl e1r ⟨wz.heap.size, 0, none⟩ 1 1 [.int .i64 k] rfl rfl (World.news_of_block (hnb.grown e1 (by simp; omega))) (by simp [Value.oneCell']) (by decide) c6 c7 (by omega) (W1.heap.size) rfl ?_; intro g6 cap6 W6 hr6 hg6 hat6 _; obtain ⟨W7, hrun7, hG7, hg7⟩ := e1b W6 (.slice (some ⟨g6, 0, none⟩) ((f (triV (κ1, κ2, κ3))).length + 1) cap6) (f (triV (κ1, κ2, κ3)) ++ [(k : Int)]) hg6 (by simpa [intsV] using hr6) (hat6.imp (fun e => e.symm) (fun e => ⟨g6, rfl, by omega⟩)))
                | (refine wpList_entryStore rfl _ _ _ 187 rfl rfl rfl rfl hrun7 ?_))
              go_roundw
              case measure => simp [intOf]; omega
              case rel => exact ⟨j + 1, _, ws', _, S', rfl, by omega, by go_num, hst3.put e1 e1g e1r hg6 hg7 hG7, hst3.putRow e1 e1g e1r hg6 hg7 (by decide) hrK3.out, by rw [Hts2.out]; exact Hhad.out.put (κ1, κ2, κ3) ⟨by omega, by omega⟩, by omega, by
                rw [Hts2.out, nodup_snoc, Hws'.out, Hws.out, ← Hhad.out.1, ← HM.out, List.length_eq_zero_iff]⟩
        · obtain rfl : j = L := by omega
          have hll := HL.out
          rw [List.take_of_length_le (by omega)] at hhad hws
          have Hst := Lib.hid hst
          have Hws := Lib.hid hws
          have Hhad := Lib.hid hhad
          clear hst hws hhad hrK hll
          go_wp2
          go_roundw
          case measure => simp [intOf]; omega
          case rel => exact ⟨k + 1, _, ws, f, S, rfl, by omega, by go_num, Hst.out, by rw [Hts.out]; exact Hhad.out, by rw [Hts.out, List.length_append, HL.out]; omega, by omega, by rw [Hts.out]; exact Hws.out⟩
    · obtain rfl : k = n := by omega
      have hnn := HN.out
      rw [List.take_of_length_le (by omega)] at hws
      have Hst := Lib.hid hst
      have Hws := Lib.hid hws
      clear hst hnn hws hhad hPl
      go_wp2
      go_ret
      exact ⟨_, rfl, ⟨ws, Hst.out.r, Hws.out, Hst.out.k, by omega⟩, Hst.out.b⟩
end Go.Proofs.YtpnkhgjjlionnaaGreat
namespace Go.Proofs.YtpnkhgjjlionnaaGreat
open Go.RowKit

/-- Block g holds m slices vs, each owning its row. -/
structure Rws (w : World) (base g m : Nat) (vs : List Value) (rows : List (List Int)) : Prop where
  own : w.ownsRow base 30 1 (.slice (some ⟨g, 0, none⟩) m m) m vs
  len : rows.length = m
  row : ∀ (i : Nat) (v : Value) (r : List Int), vs[i]? = some v → rows[i]? = some r → w.ownsRow base 3 1 v r.length (intsV r)
  apart : ∀ (i j : Nat) (vi vj : Value), i ≠ j → vs[i]? = some vi → vs[j]? = some vj → vi.ownBlock = none ∨ vi.ownBlock ≠ vj.ownBlock
section
variable {w w' : World} {base g m : Nat} {vs : List Value} {rows : List (List Int)}
theorem Rws.vlen (h : Rws w base g m vs rows) : vs.length = m := by
  have := h.own.1
  omega
theorem Rws.kept {row : Option Nat} (h : Rws w base g m vs rows) (hg : w.grownBy w' row) (h1 : some g ≠ row) (h2 : ∀ v n xs, w.ownsRow base 3 1 v n xs → v.ownBlock = none ∨ v.ownBlock ≠ row) : Rws w' base g m vs rows :=
  ⟨h.own.kept hg (.inr h1), h.len, fun i v r hv hr => (h.row i v r hv hr).kept hg (h2 _ _ _ (h.row i v r hv hr)), h.apart⟩
theorem Rws.grown (h : Rws w base g m vs rows) (hg : w.grownBy w' none) : Rws w' base g m vs rows := h.kept hg (by simp) (fun v _ _ _ => by
  cases hb : v.ownBlock
  · exact .inl rfl
  · exact .inr (by simp))
theorem Rws.alloc (h : Rws w base g m vs rows) (o : Obj) : Rws (w.alloc o) base g m vs rows := h.grown (World.grownBy_alloc w o none)
/-- One row is longer. -/
theorem Rws.push (h : Rws w base g m vs rows) {u : Nat} {v v' : Value} {r : List Int} {i : Int} (hv : vs[u]? = some v) (hr : rows[u]? = some r) {W2 : World} (hg : w.grownBy W2 v.ownBlock) (hown : W2.ownsRow base 3 1 v' (r.length + 1) (intsV (r ++ [i])))
    (hloc : v'.ownBlock = v.ownBlock ∨ ∃ g, v'.ownBlock = some g ∧ w.heap.size ≤ g) : Rws (W2.setCell ⟨g, u, none⟩ v') base g m (vs.set u v') (rows.set u (r ++ [i])) ∧ W2.grownBy (W2.setCell ⟨g, u, none⟩ v') (some g) := by
  have hvlen := h.vlen
  have hu := (List.getElem?_eq_some_iff.1 hv).1
  have hne : (Value.slice (some ⟨g, 0, none⟩) m m).ownBlock = none ∨ (Value.slice (some ⟨g, 0, none⟩) m m).ownBlock ≠ v.ownBlock := own_own_ne h.own (h.row u v r hv hr) (by decide)
  have ho2 := h.own.kept hg hne
  obtain ⟨ho3, hg3⟩ := ho2.stored u v'
  have hgl : g < w.heap.size := (h.own.lt g rfl).2
  have nb : ∀ {x : Value} {n : Nat} {xs : List Value}, W2.ownsRow base 3 1 x n xs → x.ownBlock = none ∨ x.ownBlock ≠ some g := fun {x n xs} hx => own_own_ne hx ho2 (by decide)
  have old_new : ∀ (k : Nat) (x : Value), k ≠ u → vs[k]? = some x → x.ownBlock = none ∨ x.ownBlock ≠ v'.ownBlock := by
    intro k x hk hx
    rcases hloc with e | ⟨b, e, hb⟩
    · rw [e]
      exact h.apart k u x v hk hx hv
    · cases hx' : x.ownBlock with
      | none => exact .inl rfl
      | some b' =>
        refine .inr (fun e2 => ?_)
        have hk' : k < rows.length := by rw [h.len, ← hvlen]; exact (List.getElem?_eq_some_iff.1 hx).1
        have := ((h.row k x _ hx (List.getElem?_eq_getElem hk')).lt _ hx').2
        rw [e] at e2
        cases e2
        omega
  refine ⟨⟨ho3, by simp [h.len], ?_, ?_⟩, hg3⟩
  · intro k x q hx hq
    by_cases e : u = k
    · subst e
      rw [List.getElem?_set_self hu] at hx
      rw [List.getElem?_set_self (by rw [h.len, ← hvlen]; exact hu)] at hq
      cases hx
      cases hq
      rw [List.length_append]
      exact hown.kept hg3 (nb hown)
    · rw [List.getElem?_set_ne e] at hx hq
      have := (h.row k x q hx hq).kept hg (h.apart k u x v (fun e' => e e'.symm) hx hv)
      exact this.kept hg3 (nb this)
  · intro k j x y hkj hx hy
    by_cases e : u = k
    · subst e
      rw [List.getElem?_set_self hu] at hx
      cases hx
      rw [List.getElem?_set_ne hkj] at hy
      have := old_new j y (fun e => hkj e.symm) hy
      cases hv' : v'.ownBlock with
      | none => exact .inl rfl
      | some b =>
        refine .inr (fun e2 => ?_)
        rcases this with h | h
        · rw [h] at e2; cases e2
        · exact h (by rw [hv', e2])
    · rw [List.getElem?_set_ne e] at hx
      by_cases e' : u = j
      · subst e'
        rw [List.getElem?_set_self hu] at hy
        cases hy
        exact old_new k x (fun e => hkj e) hx
      · rw [List.getElem?_set_ne e'] at hy
        exact h.apart k j x y hkj hx hy
/-- Made: all nil. -/
theorem Rws.made (hown : w.ownsRow base 30 1 (.slice (some ⟨g, 0, none⟩) m m) m (List.replicate m (.slice none 0 0))) : Rws w base g m (List.replicate m (.slice none 0 0)) (List.replicate m []) where
  own := hown
  len := by simp
  row := by
    intro i v r hv hr
    rw [List.getElem?_replicate] at hv hr
    by_cases hi : i < m
    · rw [if_pos hi] at hv hr
      cases hv
      cases hr
      exact World.ownsRow_nil _ _ _ _
    · rw [if_neg hi] at hv
      cases hv
  apart := by
    intro i j vi vj _ hi _
    rw [List.getElem?_replicate] at hi
    split at hi <;> simp at hi
    subst hi
    exact .inl rfl
end
theorem made_rows (m : Nat) : (madeCells (Value.slice none 0 0).cells (m * 1)).toList = List.replicate m (.slice none 0 0) := by
  rw [Nat.mul_one]
  show (madeCells #[Value.slice none 0 0] m).toList = _
  rw [toList_madeCells_one]
theorem infoInts : (Tryz.prog.info? 30).map (fun i => (i.zero, i.size, i.bytes)) = some (some (.slice none 0 0), 1, 24) := by kernel_rfl

/-! Which triangles stand at a vertex. -/
def three (t : Tr) (i : Nat) : List (Int × Nat) := [(t.1, i), (t.2.1, i), (t.2.2, i)]
def preT (T : List Tr) (k : Nat) : List (Int × Nat) := (List.range k).flatMap fun i => three (T[i]?.getD (0, 0, 0)) i
def sieve (pre : List (Int × Nat)) (u : Int) : List Nat := (pre.filter fun p => p.1 == u).map (·.2)
def rowsOf (pre : List (Int × Nat)) (m : Nat) : List (List Int) := (List.range m).map fun u : Nat => nats (sieve pre u)
def atV (T : List Tr) (u : Int) : List Nat := sieve (preT T T.length) u
theorem preT_succ {T : List Tr} {k : Nat} {t : Tr} (h : T[k]? = some t) : preT T (k + 1) = preT T k ++ three t k := by
  unfold preT
  rw [List.range_succ, List.flatMap_append]
  simp [h]
theorem rowsOf_at {pre : List (Int × Nat)} {m u : Nat} (h : u < m) : (rowsOf pre m)[u]? = some (nats (sieve pre u)) := by simp [rowsOf, h]
theorem rowsOf_snoc {pre : List (Int × Nat)} {m u i : Nat} : rowsOf (pre ++ [((u : Int), i)]) m = (rowsOf pre m).set u (nats (sieve pre u) ++ [(i : Int)]) := by
  apply List.ext_getElem?
  intro k
  rw [List.getElem?_set]
  by_cases hk : k < m
  · rw [rowsOf_at hk]
    by_cases e : u = k
    · subst e
      rw [if_pos rfl, if_pos (by simp [rowsOf]; exact hk)]
      simp [sieve, nats]
    · rw [if_neg e, rowsOf_at hk]
      have : ((u : Int) == (k : Int)) = false := by simp; omega
      simp [sieve, this]
  · rw [List.getElem?_eq_none (by simp [rowsOf]; omega)]
    by_cases e : u = k
    · subst e
      rw [if_pos rfl, if_neg (by simp [rowsOf]; omega)]
    · rw [if_neg e, List.getElem?_eq_none (by simp [rowsOf]; omega)]
theorem rowsOf_nil (m : Nat) : rowsOf [] m = List.replicate m [] := by
  apply List.ext_getElem?
  intro k
  by_cases hk : k < m
  · rw [rowsOf_at hk, List.getElem?_replicate, if_pos hk]
    rfl
  · rw [List.getElem?_eq_none (by simp [rowsOf]; omega), List.getElem?_eq_none (by simp; omega)]
theorem sieve_length (pre : List (Int × Nat)) (u : Int) : (sieve pre u).length ≤ pre.length := by
  unfold sieve
  rw [List.length_map]
  exact List.length_filter_le _ _
theorem preT_length (T : List Tr) (k : Nat) : (preT T k).length = 3 * k := by
  induction k with
  | zero => rfl
  | succ k ih =>
    unfold preT at ih ⊢
    rw [List.range_succ, List.flatMap_append, List.length_append, ih]
    simp [three]
    omega
theorem preT_mem {T : List Tr} {k : Nat} {u : Int} {i : Nat} : (u, i) ∈ preT T k ↔ i < k ∧ hasV (T[i]?.getD (0, 0, 0)) u := by
  simp only [preT, three, List.mem_flatMap, List.mem_range, List.mem_cons, List.not_mem_nil, or_false, Prod.mk.injEq, hasV]
  constructor
  · rintro ⟨j, hj, h⟩
    rcases h with ⟨rfl, rfl⟩ | ⟨rfl, rfl⟩ | ⟨rfl, rfl⟩
    · exact ⟨hj, .inl rfl⟩
    · exact ⟨hj, .inr (.inl rfl)⟩
    · exact ⟨hj, .inr (.inr rfl)⟩
  · rintro ⟨hi, h⟩
    refine ⟨i, hi, ?_⟩
    rcases h with rfl | rfl | rfl
    · exact .inl ⟨rfl, rfl⟩
    · exact .inr (.inl ⟨rfl, rfl⟩)
    · exact .inr (.inr ⟨rfl, rfl⟩)
theorem sieve_mem {pre : List (Int × Nat)} {u : Int} {i : Nat} : i ∈ sieve pre u ↔ (u, i) ∈ pre := by
  simp only [sieve, List.mem_map, List.mem_filter, beq_iff_eq]
  constructor
  · rintro ⟨⟨a, b⟩, ⟨h1, h2⟩, h3⟩
    simp only at h2 h3
    subst h2
    subst h3
    exact h1
  · intro h
    exact ⟨(u, i), ⟨h, rfl⟩, rfl⟩
theorem atV_mem {T : List Tr} {u : Int} {i : Nat} : i ∈ atV T u ↔ ∃ t, T[i]? = some t ∧ hasV t u := by
  unfold atV
  rw [sieve_mem, preT_mem]
  constructor
  · rintro ⟨h1, h2⟩
    rw [List.getElem?_eq_getElem h1] at h2
    exact ⟨_, List.getElem?_eq_getElem h1, h2⟩
  · rintro ⟨t, h1, h2⟩
    refine ⟨(List.getElem?_eq_some_iff.1 h1).1, ?_⟩
    rw [h1]
    exact h2
theorem sieve_three (t : Tr) (i : Nat) (u : Int) (h : simple3 t) : sieve (three t i) u = [] ∨ sieve (three t i) u = [i] := by
  obtain ⟨x, y, z⟩ := t
  obtain ⟨h1, h2, h3⟩ := h
  simp only at h1 h2 h3
  by_cases a : x = u
  · subst a
    have b : (y == x) = false := by simpa using fun e => h1 e.symm
    have c : (z == x) = false := by simpa using h3
    right
    simp [sieve, three, b, c]
  · have a' : (x == u) = false := by simpa using a
    by_cases b : y = u
    · subst b
      have c : (z == y) = false := by simpa using fun e => h2 e.symm
      right
      simp [sieve, three, a', c]
    · have b' : (y == u) = false := by simpa using b
      by_cases c : z = u
      · subst c
        right
        simp [sieve, three, a', b']
      · have c' : (z == u) = false := by simpa using c
        left
        simp [sieve, three, a', b', c']
theorem sieve_nodup {T : List Tr} (h : ∀ t ∈ T, simple3 t) (u : Int) : ∀ k, k ≤ T.length → (sieve (preT T k) u).Nodup
  | 0, _ => by simp [preT, sieve]
  | k + 1, hk => by
    have ht : T[k]? = some T[k] := List.getElem?_eq_getElem (by omega)
    rw [preT_succ ht]
    have e : sieve (preT T k ++ three T[k] k) u = sieve (preT T k) u ++ sieve (three T[k] k) u := by simp [sieve]
    rw [e, List.nodup_append]
    refine ⟨sieve_nodup h u k (by omega), ?_, ?_⟩
    · rcases sieve_three T[k] k u (h _ (List.getElem_mem _)) with e | e <;> simp [e]
    · intro a ha b hb e2
      subst e2
      rw [sieve_mem, preT_mem] at ha
      rcases sieve_three T[k] k u (h _ (List.getElem_mem _)) with e | e
      · rw [e] at hb; cases hb
      · rw [e, List.mem_singleton] at hb
        omega
theorem atV_nodup {T : List Tr} (h : ∀ t ∈ T, simple3 t) (u : Int) : (atV T u).Nodup := sieve_nodup h u _ (Nat.le_refl _)
theorem atV_some {T : List Tr} {u : Int} (h : u ∈ flatT T) : atV T u ≠ [] := by
  simp only [flatT, List.mem_flatMap] at h
  obtain ⟨t, ht, hu⟩ := h
  obtain ⟨i, hi⟩ := List.mem_iff_getElem?.1 ht
  have : i ∈ atV T u := atV_mem.2 ⟨t, hi, by simpa [hasV] using hu⟩
  intro e
  rw [e] at this
  cases this
theorem atV_lt {T : List Tr} {u : Int} : ∀ i ∈ atV T u, i < T.length := fun i hi => by
  obtain ⟨t, ht, _⟩ := atV_mem.1 hi
  exact (List.getElem?_eq_some_iff.1 ht).1
theorem atV_length {T : List Tr} (h : ∀ t ∈ T, simple3 t) (u : Int) : (atV T u).length ≤ T.length := by
  have := Jor.nodup_le (m := List.range T.length) (atV_nodup h u) (fun i hi => List.mem_range.2 (atV_lt i hi))
  simpa using this
end Go.Proofs.YtpnkhgjjlionnaaGreat
