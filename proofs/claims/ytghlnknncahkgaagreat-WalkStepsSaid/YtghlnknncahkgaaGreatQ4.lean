/-
  Texts joined by program: New OfM WkJ WkK WkE Eul EulB WkT WkM Insert Kept.
-/
import Derived.Test.YtghlnknncahkgaaGreatQ2
import Derived.Test.YtghlnknncahkgaaGreatQ3
import Derived.Deep.DeepCutAuto
import Derived.BigRegion
import Derived.RegionTactic
import Derived.Test.YtghlnknncahkgaaGreatQ1
import Derived.Lib.Slices
import Derived.Lib.Hide
import Derived.Shelf.Spec.SlicesInsert
import Derived.Shelf.Spec.SlicesInsertGrow
/-
  slices.Clone of triangles; corner.New, by walking their texts.
-/
namespace Go.Proofs.YtghlnknncahkgaaGreat
open Go.RowKit Go.Maps

theorem infoTri : (Tryz.prog.info? 72).map (fun i => (i.zero, i.size, i.bytes)) = some (some (.agg #[.int .i64 0, .int .i64 0, .int .i64 0]), 3, 24) := by kernel_rfl
theorem ws3_len (T : List Tr) : (ws3 T).length = T.length * 3 := by simp [ws3, flatT_length]; omega
theorem TrisRd.of_row {w : World} {base : Nat} {v : Value} {T : List Tr} (h : w.ownsRow base 72 3 v T.length (ws3 T)) : TrisRd w v T := by
  rcases h.2 with ⟨rfl, h0⟩ | ⟨g, cap, cur, rfl, hb, hg, h1, h2, _⟩
  · rw [List.eq_nil_of_length_eq_zero h0]
    exact ⟨none, 0, rfl, by simp, by simp, fun k x y z hk => by simp at hk⟩
  · unfold maxLen at h2
    refine ⟨some ⟨g, 0, none⟩, cap, rfl, h1, by omega, fun k x y z hk => ?_⟩
    obtain ⟨d0, d1, d2⟩ := ws3_at hk
    have hk' := (List.getElem?_eq_some_iff.1 hk).1
    have hl := h.1
    refine ⟨g, 0, rfl, (Array.getElem?_eq_some_iff.1 hg).1, ?_, ?_, ?_⟩
    · rw [Nat.zero_add, h.cellAt _ (by omega)]; exact d0
    · rw [Nat.zero_add, h.cellAt _ (by omega)]; exact d1
    · rw [Nat.zero_add, h.cellAt _ (by omega)]; exact d2
theorem ws3_get {T : List Tr} {j : Nat} {u : Value} (h : (ws3 T)[j]? = some u) : ∃ k x y z, T[k]? = some (x, y, z) ∧ ((j = k * 3 ∧ u = .int .i64 x) ∨ (j = k * 3 + 1 ∧ u = .int .i64 y) ∨ (j = k * 3 + 2 ∧ u = .int .i64 z)) := by
  have hj := (List.getElem?_eq_some_iff.1 h).1
  rw [ws3_len] at hj
  have hk : j / 3 < T.length := by omega
  obtain ⟨t, ht⟩ : ∃ t, T[j / 3]? = some t := ⟨T[j / 3], List.getElem?_eq_getElem _⟩
  obtain ⟨x, y, z⟩ := t
  obtain ⟨d0, d1, d2⟩ := ws3_at ht
  refine ⟨j / 3, x, y, z, ht, ?_⟩
  have : j % 3 = 0 ∨ j % 3 = 1 ∨ j % 3 = 2 := by omega
  rcases this with e | e | e
  · have e1 : j = j / 3 * 3 := by omega
    rw [e1, d0] at h
    exact .inl ⟨e1, by cases h; rfl⟩
  · have e1 : j = j / 3 * 3 + 1 := by omega
    rw [e1, d1] at h
    exact .inr (.inl ⟨e1, by cases h; rfl⟩)
  · have e1 : j = j / 3 * 3 + 2 := by omega
    rw [e1, d2] at h
    exact .inr (.inr ⟨e1, by cases h; rfl⟩)
/-- The cells behind an address that triangles are read from. -/
theorem TrisRd.cells {w : World} {ad : Addr} {n c : Nat} {T : List Tr} (h : TrisRd w (.slice (some ad) n c) T) : ∀ j u, (ws3 T)[j]? = some u → w.cell? (ad.add j) = some u := by
  intro j u hu
  obtain ⟨a, c', e0, h1, h2, h3⟩ := h
  cases e0
  obtain ⟨k, x, y, z, hk, hj⟩ := ws3_get hu
  obtain ⟨b, o, e1, hl, s0, s1, s2⟩ := h3 k x y z hk
  cases e1
  rw [Addr.add_lit]
  rcases hj with ⟨rfl, rfl⟩ | ⟨rfl, rfl⟩ | ⟨rfl, rfl⟩
  · exact s0
  · exact s1
  · exact s2
set_option maxRecDepth 100000 in
set_option maxHeartbeats 1000000 in
theorem cloneT_any (v : Value) (T : List Tr) (w : World) (h : TrisRd w v T) (hl : T.length ≤ 100000) : Calls Tryz.prog 65 #[v] w fun e w' => ∃ v', e = .returned v' ∧ w'.ownsRow w.heap.size 72 3 v' T.length (ws3 T) ∧ Below w.heap.size w w' := by
  obtain ⟨i1, hi', hy0, hy1, hy2⟩ := info_parts infoTri
  have h0 := h
  obtain ⟨a, c, rfl, hc1, hc2, hr⟩ := h
  cases a with
  | none =>
    have hT : T = [] := by
      cases T with
      | nil => rfl
      | cons t r =>
        obtain ⟨x, y, z⟩ := t
        obtain ⟨b, o, e, _⟩ := hr 0 x y z rfl
        cases e
    subst hT
    have q := fun (W : World) => Lib.run_eql_slice_nil (P := Tryz.prog) W 22 72 none 0 c 0 0 Tryz.underlying22
    clear h0 hr
    go_enter Tryz.func65, Tryz.ntmps65
    go_wp2
    go_ret
    exact ⟨_, rfl, World.ownsRow_nil _ _ _ _, Below.refl _ _⟩
  | some ad =>
    have hcell := (h0.alloc (.cells #[] 72)).cells
    have HC := Lib.hid hcell
    have hrow := World.ownsRow_lit w (base := w.heap.size) (e := 72) (size := 3) #[] 0 (Nat.le_refl _) (by decide) rfl
    have HL := Lib.hid (ws3_len T)
    obtain ⟨n, hn⟩ : ∃ n, T.length = n := ⟨_, rfl⟩
    rw [hn] at hl hc1 HL ⊢
    have hb : Below w.heap.size w (w.alloc (.cells #[] 72)) := (Below.refl _ _).alloc (Nat.le_refl _) _
    have c3 : 0 + n ≤ maxLen := by unfold maxLen; omega
    have c4 : (0 + n) * 24 ≤ 140737488355328 := by omega
    have q := fun (W : World) => Lib.run_eql_slice_nil (P := Tryz.prog) W 22 72 (some ad) n c 0 0 Tryz.underlying22
    clear h0 hr hcell hn
    go_enter Tryz.func65, Tryz.ntmps65
    go_wp2_with (at_builtin; refine wpList_append_own _ rfl (.tmp 5) (.tmp 6) 22 rfl w.heap.size 72 i1 _ 3 24 Tryz.underlying22 hi' hy0 hy1 hy2 rfl (by decide) _ 0 [] rfl hrow ad n c (ws3 T) rfl HL.out HC.out (by intro u hu; simp only [ws3, List.mem_map] at hu; obtain ⟨x, _, rfl⟩ := hu; rfl) c3 c4 (by rw [size_alloc']; omega) ?_; intro v' w' h1' h2' _; have HW := Lib.hid h1')
    go_ret
    exact ⟨_, rfl, by have := HW.out; simpa using this, hb.grown h2' hb.size (fun j e => by have := (hrow.lt j e).1; omega)⟩

theorem blk_new_at {w : World} {g : Nat} {t : TypeId} {cs : Array Value} (h : w.heap.size = g) : Blk (w.alloc (.cells cs t)) g t cs := by
  subst h
  exact Blk.new w t cs
theorem mapP_new_at {P : Program} {k : TypeId} {w : World} {b : Nat} (h : w.heap.size = b) : MapP P k (w.alloc (.map #[] 0)) b (fun _ => none) := by
  subst h
  exact MapP.made w P k
theorem row_new_at {w : World} {base g m : Nat} (h : w.heap.size = g) (hb : base ≤ g) (hm : m ≤ maxLen) : (w.alloc (.cells (madeCells #[.int .i64 0] m) 3)).ownsRow base 3 1 (.slice (some ⟨g, 0, none⟩) m m) m (List.replicate m (.int .i64 0)) := by
  subst h
  refine ⟨by simp, .inr ⟨w.heap.size, m, _, rfl, hb, heap_alloc_new w _, Nat.le_refl _, hm, ?_, ?_⟩⟩
  · have := size_madeCells #[Value.int .i64 0] m
    simpa using this
  · rw [toList_madeCells_one]
    simp
theorem own_drew {w : World} {base n s : Nat} {e : TypeId} {v : Value} {xs : List Value} (h : w.ownsRow base e s v n xs) : w.drew.ownsRow base e s v n xs := h
theorem own_below {w w' : World} {base n s : Nat} {e : TypeId} {v : Value} {xs : List Value} (h : w.ownsRow base e s v n xs) (hb : Below w.heap.size w w') : w'.ownsRow base e s v n xs :=
  h.kept (grown_of_below hb none) (by cases e : v.ownBlock; exact .inl rfl; exact .inr (by simp))
/-- The table as it is made: no face yet, no first corner. -/
def NewSt (w : World) (m : Nat) (v : Value) (T : List Tr) (s5 : Value) (W : World) : Prop :=
  ∃ g av cv mb fb, s5 = .pointer (some ⟨g, 0, none⟩) ∧ Blk W g 118 #[.int .i64 (m : Int), .slice av T.length cv, .map (some mb), .slice (some ⟨fb, 0, none⟩) m m] ∧ W.ownsRow w.heap.size 72 3 (.slice av T.length cv) T.length (ws3 T) ∧
    MapP Tryz.prog 108 W mb (fun _ => none) ∧ W.ownsRow w.heap.size 3 1 (.slice (some ⟨fb, 0, none⟩) m m) m (List.replicate m (.int .i64 0)) ∧ w.heap.size ≤ g ∧ w.heap.size ≤ mb ∧
    Blk W w.heap.size 24 #[.int .i64 (m : Int), v] ∧ Blk W (w.heap.size + 1) 74 #[.int .i64 0, .int .i64 0, .int .i64 0] ∧ Below w.heap.size w W
theorem facFrom_step {T : List Tr} {k : Nat} (hk : k < 3 * T.length) (e : Int × Int) : facFrom T k e = if edgeN T k = e then some k else facFrom T (k + 1) e := by
  unfold facFrom
  rw [show 3 * T.length - k = (3 * T.length - (k + 1)) + 1 from by omega, List.range'_succ, List.find?_cons]
  by_cases h : edgeN T k = e
  · simp [h]
  · have : (edgeN T k == e) = false := by simpa using h
    simp [h, this]
theorem fstFrom_step {T : List Tr} {k : Nat} (hk : k < 3 * T.length) (v : Int) : fstFrom T k v = if vertN T k = v then some k else fstFrom T (k + 1) v := by
  unfold fstFrom
  rw [show 3 * T.length - k = (3 * T.length - (k + 1)) + 1 from by omega, List.range'_succ, List.find?_cons]
  by_cases h : vertN T k = v
  · simp [h]
  · have : (vertN T k == v) = false := by simpa using h
    simp [h, this]
theorem facMap_step {T : List Tr} {k : Nat} (hk : k < 3 * T.length) (y : Value) : updP (facMap T (k + 1)) (pairV (edgeN T k)) (.int .i64 (k : Int)) y = facMap T k y := by
  by_cases hy : ∃ e, y = pairV e
  · obtain ⟨e, rfl⟩ := hy
    rw [facMap_at, facFrom_step hk]
    by_cases h : edgeN T k = e
    · rw [if_pos h, h, updP_same]
      rfl
    · rw [if_neg h, updP_other (fun e' => h (pairV_inj e').symm), facMap_at]
  · have h1 : facMap T k y = none := by
      unfold facMap
      rw [dif_neg hy]
    have h2 : facMap T (k + 1) y = none := by
      unfold facMap
      rw [dif_neg hy]
    rw [h1, updP_other (fun e' => hy ⟨_, e'⟩), h2]
theorem facMap_end (T : List Tr) (y : Value) : (none : Option Value) = facMap T (3 * T.length) y := by
  unfold facMap
  split
  · simp [facFrom]
  · rfl
theorem fsts_end (m : Nat) (T : List Tr) : fsts (m : Int) T (3 * T.length) = List.replicate m 0 := by
  apply List.ext_getElem?
  intro i
  unfold fsts
  by_cases hi : i < m
  · rw [List.getElem?_map, List.getElem?_range (by simpa using hi), List.getElem?_replicate, if_pos hi]
    simp [fstFrom]
  · rw [List.getElem?_eq_none (by simp; omega), List.getElem?_eq_none (by simp; omega)]
theorem fsts_step {m : Nat} {T : List Tr} {k u : Nat} (hk : k < 3 * T.length) (hu : vertN T k = (u : Int)) : (fsts (m : Int) T (k + 1)).set u (k : Int) = fsts (m : Int) T k := by
  apply List.ext_getElem?
  intro i
  unfold fsts
  rw [List.getElem?_set]
  by_cases hi : i < m
  · have h1 : ((List.range (m : Int).toNat).map fun v : Nat => (((fstFrom T k v).getD 0 : Nat) : Int))[i]? = some (((fstFrom T k i).getD 0 : Nat) : Int) := by
      rw [List.getElem?_map, List.getElem?_range (by simpa using hi)]
      rfl
    have h2 : ((List.range (m : Int).toNat).map fun v : Nat => (((fstFrom T (k + 1) v).getD 0 : Nat) : Int))[i]? = some (((fstFrom T (k + 1) i).getD 0 : Nat) : Int) := by
      rw [List.getElem?_map, List.getElem?_range (by simpa using hi)]
      rfl
    rw [h1, h2, fstFrom_step hk, hu]
    by_cases e : u = i
    · subst e
      rw [if_pos rfl, if_pos (by simpa using hi), if_pos rfl]
      rfl
    · rw [if_neg e, if_neg (by omega)]
  · have h1 : ((List.range (m : Int).toNat).map fun v : Nat => (((fstFrom T k v).getD 0 : Nat) : Int))[i]? = none := List.getElem?_eq_none (by simp; omega)
    have h2 : ((List.range (m : Int).toNat).map fun v : Nat => (((fstFrom T (k + 1) v).getD 0 : Nat) : Int))[i]? = none := List.getElem?_eq_none (by simp; omega)
    rw [h1, h2]
    split
    · rw [if_neg (by simp; omega)]
    · rfl
theorem fsts_len (m : Nat) (T : List Tr) (k : Nat) : (fsts (m : Int) T k).length = m := by simp [fsts]
theorem edgeI_nat {T : List Tr} {k : Nat} (hk : k < 3 * T.length) : edgeI T (k : Int) = edgeN T k := by
  have h1 : hasC T (k : Int) = true := hasC_true (by omega) (by omega)
  have h2 : hasC T ((Jor.nx k : Nat) : Int) = true := hasC_true (by omega) (by have := Jor.nx_lt hk; omega)
  have h3 : hasC T ((Jor.pv k : Nat) : Int) = true := hasC_true (by omega) (by have := Jor.pv_lt hk; omega)
  simp [edgeI, edgeN, nextI, prevI, vertI, h1, h2, h3]
theorem vertI_nat {T : List Tr} {k : Nat} (hk : k < 3 * T.length) : vertI T (k : Int) = vertN T k := by
  have h1 : hasC T (k : Int) = true := hasC_true (by omega) (by omega)
  simp [vertI, h1]
set_option maxRecDepth 100000 in
set_option maxHeartbeats 4000000 in
theorem new_any (N : Int) (v : Value) (T : List Tr) (w : World) (h : TrisRd w v T) (hl : T.length ≤ 8192) : Calls Tryz.prog 33 #[.agg #[.int .i64 N, v]] w fun e w' =>
    ((Surf N T ∧ ∃ g, e = .returned (.tuple #[.pointer (some ⟨g, 0, none⟩), witV 0 0 0]) ∧ Tab w' g N T ∧ w.heap.size ≤ g) ∨ (¬ Surf N T ∧ ∃ k a b : Int, 1 ≤ k ∧ e = .returned (.tuple #[.pointer none, witV k a b]))) ∧ Below w.heap.size w w' := by
  obtain ⟨i1, hi', hy0, hy1, hy2⟩ := info_parts infoInt
  have b1 := (Blk.new w 24 #[.int .i64 N, v]).alloc (.cells #[.int .i64 0, .int .i64 0, .int .i64 0] 74)
  have b2 := Blk.new (w.alloc (.cells #[.int .i64 N, v] 24)) 74 #[.int .i64 0, .int .i64 0, .int .i64 0]
  rw [size_alloc'] at b2
  have hB0 : Below w.heap.size w ((w.alloc (.cells #[.int .i64 N, v] 24)).alloc (.cells #[.int .i64 0, .int .i64 0, .int .i64 0] 74)) := ((Below.refl _ _).alloc (Nat.le_refl _) _).alloc (by rw [size_alloc']; omega) _
  obtain ⟨l0, x0, -, x1, -⟩ := b1.two
  have hC := check_any N v T ((w.alloc (.cells #[.int .i64 N, v] 24)).alloc (.cells #[.int .i64 0, .int .i64 0, .int .i64 0] 74)) (h.below hB0) hl
  have HC := Lib.hid hC
  have HT := Lib.hid h
  clear h hC
  go_enter Tryz.func33, Tryz.ntmps33
  go_wp2_with fail
  refine HC.out.mono ?_
  rintro e w2 ⟨k, a, b, rfl, hS, hb⟩
  have hB2 := hB0.trans (hb.mono hB0.size)
  have b3 := b2.below hb b2.lt
  have b4 := b1.below hb b1.lt
  unfold witV
  clear hb b1 b2 x0 x1 l0 HC
  obtain ⟨l3, y0, f0, y1, f1, y2, f2⟩ := b3.three
  obtain ⟨l4, z0, -, z1, -⟩ := b4.two
  have hsz := hB2.size
  rcases hS with ⟨hS, rfl, rfl, rfl⟩ | ⟨hS, hk⟩
  · have HS := Lib.hid hS
    have hNm : ∃ m : Nat, N = m := ⟨N.toNat, by have := hS.n0; omega⟩
    have hN1 := hS.n1
    obtain ⟨m, rfl⟩ := hNm
    clear hS
    go_upto_region 4 with fail
    have hmm := @run_makeMap Tryz.prog
    have hmk := fun (W : World) => run_make (P := Tryz.prog) W 28 3 i1 (.int .i64 0) Tryz.underlying28 hi' hy0 .i64 .i64 (m : Int) (m : Int) (by omega) (by omega) (by rw [hy2]; omega) (by omega)
    have HB2 := Lib.hid hB2
    have hB3 : Below w.heap.size w (w2.alloc (.cells #[.int .i64 0, .int .i64 0, .int .i64 0] 74)).drew := (hB2.alloc hsz _).drew
    have HB3 := Lib.hid hB3
    have HCl := Lib.hid (fun (W : World) (hW : Below w.heap.size w W) => cloneT_any v T W (HT.out.below hW) (by omega))
    have HB4 := Lib.hid b4
    have HB5 := Lib.hid b3
    obtain ⟨l5, zz0, -, zz1, -⟩ := (b4.alloc (.cells #[.int .i64 0, .int .i64 0, .int .i64 0] 74)).two
    clear hB3 b4 b3
    go_cut [5] (fun s5 W => NewSt w m v T s5 W)
    case first =>
      go_region_held3 (fun w' => w'.cell? ⟨w.heap.size, 0, none⟩ = some (.int .i64 (m : Int)) ∧ w'.cell? ⟨w.heap.size, 1, none⟩ = some v) (go_keep)
        (first
          | (go_at_call 65; refine (HCl.out _ (by repeat (first | exact HB2.out | refine Below.drew ?_ | refine Below.alloc ?_ (by first | exact hsz | (simp; omega)) _))).mono ?_; rintro e w3 ⟨vT, rfl, hrT, hb3⟩; obtain ⟨av, cv, rfl⟩ := ownsRow_slice hrT; obtain ⟨q0, q1, -, q2, -⟩ := (Blk.below (g := w.heap.size) (t := 24) (cs := #[.int .i64 (m : Int), v]) (by repeat (first | exact HB4.out | refine Blk.drew ?_ | refine Blk.alloc ?_ _)) hb3 (by simp [World.drew]; omega)).two))
      all_goals
        go_wp2_with fail
        go_meet
        have hsz3 := hb3.size
        refine ⟨_, av, cv, _, _, rfl, blk_new_at (by simp), ?_, ?_, ?_, ?_, ?_, ?_, ?_, ?_⟩
        · repeat (first | with_reducible exact hrT.mono (by first | exact hsz | (simp [World.drew]; omega) | omega) | with_reducible refine World.ownsRow.alloc ?_ _ | with_reducible refine own_drew ?_)
        · repeat (first | with_reducible exact mapP_new_at (by simp) | with_reducible refine MapP.alloc ?_ _ | with_reducible refine MapP.drew ?_ | with_reducible refine MapP.below ?_ hb3 (by first | (simp [World.drew]; done) | (simp [World.drew]; omega)))
        · repeat (first | with_reducible exact row_new_at (by simp) (by first | exact hsz | (simp [World.drew]; omega) | omega) (by unfold maxLen; omega) | with_reducible refine World.ownsRow.alloc ?_ _ | with_reducible refine own_drew ?_ | with_reducible refine own_below ?_ hb3)
        · simp [World.drew] at hsz3 ⊢; omega
        · simp [World.drew] at hsz3 ⊢; omega
        · repeat (first | with_reducible exact HB4.out | with_reducible refine Blk.alloc ?_ _ | with_reducible refine Blk.drew ?_ | with_reducible refine Blk.below ?_ hb3 (by simp [World.drew]; omega))
        · repeat (first | with_reducible exact HB5.out | with_reducible refine Blk.alloc ?_ _ | with_reducible refine Blk.drew ?_ | with_reducible refine Blk.below ?_ hb3 (by simp [World.drew]; omega))
        · repeat (first | with_reducible exact HB2.out | with_reducible refine Below.alloc ?_ (by simp [World.drew] at hsz3 ⊢; omega) _ | with_reducible refine Below.drew ?_ | with_reducible refine Below.trans ?_ (hb3.mono (by simp [World.drew]; omega)))
    case rest =>
      obtain ⟨g, av, cv, mb, fb, rfl, hbt, htr, hmp, hrow, hg0, hm0, hbs, hbw, hB⟩ := hcut
      obtain ⟨n, hn⟩ : ∃ n, T.length = n := ⟨_, rfl⟩
      have hlen := hl
      rw [hn] at hbt htr hlen
      have HN := Lib.hid hn
      have hmp0 : MapP Tryz.prog 108 wc mb (facMap T (3 * n)) := by rw [← hn]; exact hmp.congr (facMap_end T)
      have hrow0 : wc.ownsRow w.heap.size 3 1 (.slice (some ⟨fb, 0, none⟩) m m) m (intsV (fsts (m : Int) T (3 * n))) := by
        rw [← hn, fsts_end]
        simpa [intsV] using hrow
      have hin : ∀ t ∈ T, 0 ≤ t.1 ∧ t.1 < (m : Int) ∧ 0 ≤ t.2.1 ∧ t.2.1 < (m : Int) ∧ 0 ≤ t.2.2 ∧ t.2.2 < (m : Int) := fun t ht => by
        obtain ⟨⟨a1, a2⟩, ⟨a3, a4⟩, ⟨a5, a6⟩⟩ := HS.out.inr t ht
        exact ⟨a1, a2, a3, a4, a5, a6⟩
      have HIN := Lib.hid hin
      have HTR := Lib.hid htr
      obtain ⟨l6, p0, -, p1, -⟩ := hbs.two
      have hTl : ∃ vv : Option Addr × Nat, v = .slice vv.1 n vv.2 := by
        obtain ⟨a, c, e, _⟩ := HT.out
        exact ⟨(a, c), by rw [← hn]; exact e⟩
      obtain ⟨⟨a0, c0⟩, rfl⟩ := hTl
      have HM0 := Lib.hid hmp0
      have HR0 := Lib.hid hrow0
      have HBT := Lib.hid hbt
      have HBW := Lib.hid hbw
      have HB := Lib.hid hB
      clear hn hmp hrow hmp0 hrow0 hin htr hbt hbw hB zz0 zz1 l5 hbs
      go_wp2
      go_loopw [6] (fun c wr => ∃ k : Nat, k ≤ 3 * n ∧ c = .int .i64 ((k : Int) - 1) ∧ MapP Tryz.prog 108 wr mb (facMap T k) ∧ wr.ownsRow w.heap.size 3 1 (.slice (some ⟨fb, 0, none⟩) m m) m (intsV (fsts (m : Int) T k)) ∧
        Blk wr g 118 #[.int .i64 (m : Int), .slice av n cv, .map (some mb), .slice (some ⟨fb, 0, none⟩) m m] ∧ wr.ownsRow w.heap.size 72 3 (.slice av n cv) n (ws3 T) ∧ Blk wr (w.heap.size + 1) 74 #[.int .i64 0, .int .i64 0, .int .i64 0] ∧ Below w.heap.size w wr) (fun c _ => (intOf c + 1).toNat)
      case atStart => exact ⟨3 * n, Nat.le_refl _, by simp, HM0.out, HR0.out, HBT.out, HTR.out, HBW.out, HB.out⟩
      case round =>
        clear HM0 HR0 HBT HTR HBW HB p0 p1 l6
        obtain ⟨k, hk, rfl, hmp, hrow, hbt, htr, hbw, hB⟩ := hrel
        rename World => wr
        cases k with
        | zero =>
          have hTab : ∀ u0 u1 u2 : Value, Tab (((wr.setCell ⟨w.heap.size + 1, 0, none⟩ u0).setCell ⟨w.heap.size + 1, 1, none⟩ u1).setCell ⟨w.heap.size + 1, 2, none⟩ u2) g (m : Int) T := by
            intro u0 u1 u2
            have hgS : wr.grownBy (((wr.setCell ⟨w.heap.size + 1, 0, none⟩ u0).setCell ⟨w.heap.size + 1, 1, none⟩ u1).setCell ⟨w.heap.size + 1, 2, none⟩ u2) (some (w.heap.size + 1)) := gStR (gStR (gStR (World.grownBy.refl _ _)))
            have hbt' := hbt.grown hgS (by simpa using Blk.ne_ hbt hbw (by decide))
            have htr' := htr.kept hgS (.inr (own_blk_ne htr hbw (by decide)))
            have hrow' := hrow.kept hgS (.inr (own_blk_ne hrow hbw (by decide)))
            have hmp' := hmp.kept hgS (fun e => by
              cases e
              obtain ⟨es, ck, ho⟩ := hmp.obj
              rw [show wr.heap[w.heap.size + 1]? = _ from hbw] at ho
              cases ho)
            have htd := TrisRd.of_row (T := T) (by rw [HN.out]; exact htr')
            have hrd : IntsRd _ (.slice (some ⟨fb, 0, none⟩) m m) (fsts (m : Int) T 0) := IntsRd.of_row hrow' (fsts_len m T 0)
            exact { ex := ⟨_, _, _, hbt', htd⟩, n0 := by omega, n1 := hN1, len := hl, inr := HIN.out, tx := ⟨_, _, _, hbt', htd, hmp', hrd⟩ }
          have HTab := Lib.hid hTab
          have hcells := fun (u0 u1 u2 : Value) => (((hbw.set_ 0 u0).set_ 1 u1).set_ 2 u2)
          have HCE := Lib.hid hcells
          have hBx := fun (u0 u1 u2 : Value) => ((hB.setCell (p := ⟨w.heap.size + 1, 0, none⟩) (by simp) u0).setCell (p := ⟨w.heap.size + 1, 1, none⟩) (by simp) u1).setCell (p := ⟨w.heap.size + 1, 2, none⟩) (by simp) u2
          have HBX := Lib.hid hBx
          obtain ⟨lw, y0', f0', y1', f1', y2', f2'⟩ := hbw.three
          clear hTab hcells hBx hbt hmp hrow htr hbw hB
          go_wp2
          obtain ⟨z, r0, -, r1, -, r2, -⟩ : _ ∧ _ ∧ _ ∧ _ ∧ _ ∧ _ ∧ _ := Blk.three (a := .int .i64 0) (b := .int .i64 0) (c := .int .i64 0) (by simpa using HCE.out (.int .i64 0) (.int .i64 0) (.int .i64 0))
          exact bodyPost_ret (v := .tuple #[.pointer (some ⟨g, 0, none⟩), .agg #[.int .i64 0, .int .i64 0, .int .i64 0]]) (by simp [results, Tryz.results33, go_sem, r0, r1, r2]) rfl ⟨.inl ⟨HS.out, g, rfl, HTab.out _ _ _, hg0⟩, HBX.out _ _ _⟩
        | succ k =>
          have hkT : k < 3 * T.length := by have := HN.out; omega
          have htd : TrisRd wr (.slice av n cv) T := TrisRd.of_row (by rw [HN.out]; exact htr)
          have hts : TabS wr g (m : Int) T := ⟨⟨_, _, _, hbt, htd⟩, by omega, hN1, hl, HIN.out⟩
          have hgm : g ≠ mb := fun e => by
            subst e
            obtain ⟨es, c, ho⟩ := hmp.obj
            rw [show wr.heap[g]? = _ from hbt] at ho
            cases ho
          obtain ⟨x, hx⟩ : ∃ x : Int × Int, edgeN T k = x := ⟨_, rfl⟩
          obtain ⟨⟨q0, q1⟩, q2, q3⟩ := edgeI_bd HIN.out (by omega) hN1 (k : Int)
          rw [edgeI_nat hkT, hx] at q0 q1 q2 q3
          obtain ⟨x, y⟩ := x
          simp only at q0 q1 q2 q3
          have HE := Lib.hid (fun (W : World) (hW : Below wr.heap.size wr W) => (by have := edge_any g (m : Int) (k : Int) T W (hts.below hW); rw [edgeI_nat hkT, hx] at this; exact this : Calls Tryz.prog 61 #[.pointer (some ⟨g, 0, none⟩), .int .i64 (k : Int)] W fun e w' => e = .returned (pairV (x, y)) ∧ Below W.heap.size W w'))
          have hkey := WideMaps.keyOf_pair arrEdge Tryz.underlying3 types_succ (wfV ⟨q0, q1⟩) (wfV ⟨q2, q3⟩)
          have HST := Lib.hid (fun (W : World) (hW : Below wr.heap.size wr W) => (hmp.below hW hmp.lt).store (t := 116) (Keyed.of_law arrEdge.law) Tryz.underlying116 hkey (.int .i64 (k : Int)))
          have lg := hbt.lt
          have lm := hmp.lt
          have t2 := hbt.cell 2
          have t3 := hbt.cell 3
          have HBT := Lib.hid hbt
          have Hstep : Hid (∀ W, MapP Tryz.prog 108 W mb (updP (facMap T (k + 1)) (pairV (x, y)) (.int .i64 (k : Int))) → MapP Tryz.prog 108 W mb (facMap T k)) := Lib.hid (fun W h => h.congr (fun y' => by rw [← hx]; exact facMap_step hkT y'))
          have Hrow := Lib.hid hrow
          have Htr := Lib.hid htr
          have Hbw := Lib.hid hbw
          have HBr := Lib.hid hB
          have HX := Lib.hid hx
          have HTS := Lib.hid hts
          have hlen2 : (k : Int) + 1 - 1 = (k : Int) := by omega
          have hk0 : (0 : Int) ≤ (k : Int) := by omega
          have hk1 : (k : Int) ≤ 100000 := by omega
          unfold pairV at HST hkey HE
          simp only at HST hkey HE
          have hmo := Lib.hid hmp.obj
          clear hbt hmp hrow htr hbw hB hx hts htd
          go_wp2
          go_region_held3 (fun w' => w'.cell? ⟨g, 2, none⟩ = some (.map (some mb))) (go_keep)
            (first
              | (go_at_call 61; refine (HE.out _ (by exact (Below.refl _ _).drew)).mono ?_; rintro e w5 ⟨rfl, hb5⟩; have hb5' := ((Below.refl wr.heap.size wr).drew).trans hb5; have c5 := (hb5'.cell (p := ⟨g, 2, none⟩) lg).trans t2; obtain ⟨w6, hrun6, hm6, hg6, -⟩ := HST.out w5 hb5'; have c6 := hg6.cell c5 (by simpa using hgm)))
          have hbt6 := (HBT.out.below hb5' lg).grown hg6 (by simpa using hgm)
          have hgr5 := grown_of_below hb5' none
          obtain ⟨es0, ck0, hmo0⟩ := hmo.out
          have hmo5 : ∃ es clock, w5.heap[mb]? = some (.map es clock) := ⟨es0, ck0, (hb5'.block mb lm).trans hmo0⟩
          have nn : ∀ v : Value, v.ownBlock = none ∨ v.ownBlock ≠ none := fun v => by cases v.ownBlock <;> simp
          have htr5 := own_below Htr.out hb5'
          have htr6 := htr5.kept hg6 (row_map_ne htr5 hmo5)
          have hrow5 := own_below Hrow.out hb5'
          have hrow6 := hrow5.kept hg6 (row_map_ne hrow5 hmo5)
          have hbw6 := (Hbw.out.below hb5' Hbw.out.lt).grown hg6 (fun e => by cases e; have := Hbw.out; obtain ⟨es, ck, ho⟩ := hmo.out; rw [show wr.heap[w.heap.size + 1]? = _ from this] at ho; cases ho)
          have hB6 := (HBr.out.trans (hb5'.mono HBr.out.size)).grown hg6 (Nat.le_trans HBr.out.size hb5'.size) (fun j e => by cases e; exact hm0)
          have hts6 : TabS w6 g (m : Int) T := ⟨⟨_, _, _, hbt6, TrisRd.of_row (by rw [HN.out]; exact htr6)⟩, by omega, hN1, hl, HIN.out⟩
          obtain ⟨v0, v1⟩ := vertN_in HIN.out hkT
          obtain ⟨u, hu⟩ : ∃ u : Nat, vertN T k = u := ⟨(vertN T k).toNat, by omega⟩
          rw [hu] at v1
          have hum : u < m := by omega
          have HV := Lib.hid (fun (W : World) (hW : TabS W g (m : Int) T) => (by have := vertex_any g (m : Int) (k : Int) T W hW; rw [vertI_nat hkT, hu] at this; exact this : Calls Tryz.prog 36 #[.pointer (some ⟨g, 0, none⟩), .int .i64 (k : Int)] W fun e w' => e = .returned (.int .i64 (u : Int)) ∧ W = w'))
          have Hfs := Lib.hid (fsts_step (m := m) hkT hu)
          obtain ⟨z, hz⟩ : ∃ z, (intsV (fsts (m : Int) T (k + 1)))[u]? = some z := ⟨(intsV (fsts (m : Int) T (k + 1)))[u]'(by simp [intsV, fsts_len]; exact hum), List.getElem?_eq_getElem _⟩
          have hcu : w6.cell? ⟨fb, u, none⟩ = some z := by rw [hrow6.cellAt u (by omega)]; exact hz
          have hfu := hrow6.frozenAt u
          have lg6 := hbt6.lt
          have t6 := hbt6.cell 3
          have lf6 := (hrow6.lt fb rfl).2
          have HM6 := Lib.hid (Hstep.out w6 hm6)
          have hgf : g ≠ fb := fun e => own_blk_ne hrow6 hbt6 (by decide) (by rw [e]; rfl)
          have hfg : fb ≠ g := fun e => hgf e.symm
          have hgs := (hrow6.stored u (.int .i64 (k : Int)))
          have HGS := Lib.hid hgs
          have HBT6 := Lib.hid hbt6
          have HTR6 := Lib.hid htr6
          have HR6 := Lib.hid hrow6
          have HBW6 := Lib.hid hbw6
          have HB6 := Lib.hid hB6
          have HTS6 := Lib.hid hts6
          clear hbt6 htr6 hrow6 hbw6 hB6 hts6 hgs hm6 hg6 hrun6 c6 c5 hb5 hb5' htr5 hrow5 hmo5 hmo0 hgr5 nn HST HE hkey t2 t3 hu v0 hz
          go_wp2
          go_region_held3 (fun w' => w'.cell? ⟨g, 3, none⟩ = some (.slice (some ⟨fb, 0, none⟩) m m)) (go_keep)
            (first
              | (go_at_call 36; refine (HV.out _ (by exact HTS6.out.drew)).mono ?_; rintro e w7 ⟨rfl, rfl⟩))
          go_wp2
          go_roundw
          case measure => simp [intOf]
          case rel =>
            obtain ⟨hr7, hg7⟩ := HGS.out
            have hg8 := gDrew hg7
            have hsz6 := HB6.out.size
            have hfb := (HR6.out.lt fb rfl).1
            refine ⟨k, by omega, by simp, HM6.out.kept hg8 (map_row_ne HR6.out HM6.out.obj), ?_, (HBT6.out.grown hg8 (by simpa using hgf)), HTR6.out.kept hg8 (own_own_ne HTR6.out HR6.out (by decide)), HBW6.out.grown hg8 (fun e => own_blk_ne HR6.out HBW6.out (by decide) e.symm), HB6.out.grown hg8 hsz6 (fun j e => by cases e; exact hfb)⟩
            have := own_drew hr7
            rw [← Hfs.out]
            simpa [intsV, List.map_set] using this
  · have HS := Lib.hid hS
    have hk0 : (k != 0) = true := by simp; omega
    clear hS
    have hcells := fun (u0 u1 u2 : Value) => (((b3.set_ 0 u0).set_ 1 u1).set_ 2 u2)
    have HCE := Lib.hid hcells
    have hBx := fun (u0 u1 u2 : Value) => ((hB2.setCell (p := ⟨w.heap.size + 1, 0, none⟩) (by simp) u0).setCell (p := ⟨w.heap.size + 1, 1, none⟩) (by simp) u1).setCell (p := ⟨w.heap.size + 1, 2, none⟩) (by simp) u2
    have HBX := Lib.hid hBx
    clear hcells hBx b3 b4
    go_wp2
    go_region
    all_goals
      go_wp2
      have b6 := ((HCE.out (.int .i64 k) (.int .i64 a) (.int .i64 b)).alloc (.cells #[.int .i64 k, .int .i64 a, .int .i64 b] 74)).drew
      obtain ⟨z, r0, -, r1, -, r2, -⟩ : _ ∧ _ ∧ _ ∧ _ ∧ _ ∧ _ ∧ _ := Blk.three (a := .int .i64 k) (b := .int .i64 a) (c := .int .i64 b) (by simpa using b6)
      exact bodyPost_ret (v := .tuple #[.pointer none, .agg #[.int .i64 k, .int .i64 a, .int .i64 b]]) (by simp [results, Tryz.results33, go_sem, r0, r1, r2]) rfl ⟨.inr ⟨HS.out, k, a, b, hk, rfl⟩, ((HBX.out _ _ _).alloc (by simp; exact hsz) _).drew⟩
end Go.Proofs.YtghlnknncahkgaaGreat
/-
  The connected parts of a surface, numbered: what shell.Of keeps while it goes over them; there is one such numbering alone.
-/
namespace Go.Proofs.YtghlnknncahkgaaGreat
open Go.RowKit

/-! Across and back. -/
theorem edgeN_mem {T : List Tr} {c : Nat} (hc : c < 3 * T.length) : ∃ j t, T[j]? = some t ∧ j = c / 3 ∧ ((c % 3 = 0 ∧ edgeN T c = (t.2.1, t.2.2)) ∨ (c % 3 = 1 ∧ edgeN T c = (t.2.2, t.1)) ∨ (c % 3 = 2 ∧ edgeN T c = (t.1, t.2.1))) := by
  have hk : c / 3 < T.length := by omega
  refine ⟨c / 3, T[c / 3], List.getElem?_eq_getElem hk, rfl, ?_⟩
  have h1 : Jor.nx c / 3 = c / 3 := Jor.nx_div c
  have h2 : Jor.pv c / 3 = c / 3 := Jor.pv_div c
  have m1 : Jor.nx c % 3 = (c + 1) % 3 := by unfold Jor.nx; omega
  have m2 : Jor.pv c % 3 = (c + 2) % 3 := by unfold Jor.pv; omega
  have ht : T[c / 3]? = some T[c / 3] := List.getElem?_eq_getElem hk
  have : c % 3 = 0 ∨ c % 3 = 1 ∨ c % 3 = 2 := by omega
  rcases this with e | e | e
  · exact .inl ⟨e, by simp [edgeN, vertN, triAt, h1, h2, ht, show Jor.nx c % 3 = 1 from by omega, show Jor.pv c % 3 = 2 from by omega]⟩
  · exact .inr (.inl ⟨e, by simp [edgeN, vertN, triAt, h1, h2, ht, show Jor.nx c % 3 = 2 from by omega, show Jor.pv c % 3 = 0 from by omega]⟩)
  · exact .inr (.inr ⟨e, by simp [edgeN, vertN, triAt, h1, h2, ht, show Jor.nx c % 3 = 0 from by omega, show Jor.pv c % 3 = 1 from by omega]⟩)
theorem flat3_at {β : Type} [Inhabited β] {enc : Tr → List β} {k : Nat} (hk : ∀ x, (enc x).length = k) (h0 : 0 < k) : ∀ (l : List Tr) (t : Nat), t < l.length * k → (l.flatMap enc)[t]? = some ((enc (l[t / k]!))[t % k]!)
  | [], t, h => by simp at h
  | a :: l, t, h => by
    rw [List.flatMap_cons]
    by_cases ht : t < k
    · rw [List.getElem?_append_left (by rw [hk]; exact ht), Nat.div_eq_of_lt ht, Nat.mod_eq_of_lt ht]
      have : t < (enc a).length := by rw [hk]; exact ht
      simp [this]
    · rw [List.getElem?_append_right (by rw [hk]; omega), hk]
      have h1 : t - k < l.length * k := by
        simp only [List.length_cons, Nat.add_mul, Nat.one_mul] at h
        omega
      rw [flat3_at hk h0 l (t - k) h1]
      have e1 : t / k = (t - k) / k + 1 := by rw [Nat.div_eq t k, if_pos ⟨h0, by omega⟩]
      have e2 : t % k = (t - k) % k := Nat.mod_eq_sub_mod (by omega)
      rw [e1, e2]
      simp
/-- Which of a triangle's edges faces a corner. -/
def spotE : Nat → Nat := fun k => if k = 0 then 1 else if k = 1 then 2 else 0
theorem edges_at {T : List Tr} {c : Nat} (hc : c < 3 * T.length) : (T.flatMap edges3)[c / 3 * 3 + spotE (c % 3)]? = some ((edgeN T c).1, (edgeN T c).2, 0) := by
  obtain ⟨j, t, ht, rfl, h⟩ := edgeN_mem hc
  have hlen : ∀ x : Tr, (edges3 x).length = 3 := fun _ => rfl
  have hs : spotE (c % 3) < 3 := by unfold spotE; split <;> (try split) <;> omega
  have hk := (List.getElem?_eq_some_iff.1 ht).1
  rw [flat3_at (k := 3) hlen (by decide) T (c / 3 * 3 + spotE (c % 3)) (by omega)]
  have e1 : (c / 3 * 3 + spotE (c % 3)) / 3 = c / 3 := by omega
  have e2 : (c / 3 * 3 + spotE (c % 3)) % 3 = spotE (c % 3) := by omega
  rw [e1, e2, getElem!_pos T (c / 3) hk]
  have e3 : T[c / 3] = t := by rw [List.getElem?_eq_getElem hk] at ht; exact Option.some.inj ht
  rw [e3]
  rcases h with ⟨h0, h⟩ | ⟨h0, h⟩ | ⟨h0, h⟩ <;> rw [h0, h] <;> rfl
theorem edge_inj {T : List Tr} (hu : (T.flatMap edges3).Nodup) {c d : Nat} (hc : c < 3 * T.length) (hd : d < 3 * T.length) (h : edgeN T c = edgeN T d) : c = d := by
  have a := edges_at hc
  have b := edges_at hd
  rw [h] at a
  obtain ⟨h1, e1⟩ := List.getElem?_eq_some_iff.1 a
  obtain ⟨h2, e2⟩ := List.getElem?_eq_some_iff.1 b
  have hp := List.pairwise_iff_getElem.1 (List.nodup_iff_pairwise_ne.1 hu)
  have : c / 3 * 3 + spotE (c % 3) = d / 3 * 3 + spotE (d % 3) := by
    rcases Nat.lt_trichotomy (c / 3 * 3 + spotE (c % 3)) (d / 3 * 3 + spotE (d % 3)) with hlt | e | hlt
    · exact absurd (e1.trans e2.symm) (hp _ _ h1 h2 hlt)
    · exact e
    · exact absurd (e2.trans e1.symm) (hp _ _ h2 h1 hlt)
  unfold spotE at this
  split at this <;> split at this <;> (try split at this) <;> (try split at this) <;> omega
theorem facI_some {T : List Tr} {e : Int × Int} {o : Nat} (h : facI T e = (o : Int)) : o < 3 * T.length ∧ edgeN T o = e := by
  unfold facI at h
  cases hf : facFrom T 0 e with
  | none => rw [hf] at h; simp only at h; omega
  | some d =>
    rw [hf] at h
    simp only at h
    have hd : d = o := by omega
    subst hd
    unfold facFrom at hf
    have h1 := List.mem_of_find?_eq_some hf
    have h2 := List.find?_some hf
    rw [List.mem_range'_1] at h1
    exact ⟨by omega, by simpa using h2⟩
theorem facI_of {T : List Tr} (hu : (T.flatMap edges3).Nodup) {o : Nat} (ho : o < 3 * T.length) : facI T (edgeN T o) = (o : Int) := by
  unfold facI
  cases hf : facFrom T 0 (edgeN T o) with
  | none =>
    unfold facFrom at hf
    have := List.find?_eq_none.1 hf o (by rw [List.mem_range'_1]; omega)
    simp at this
  | some d =>
    unfold facFrom at hf
    have h1 := List.mem_of_find?_eq_some hf
    have h2 := List.find?_some hf
    rw [List.mem_range'_1] at h1
    have := edge_inj hu (c := d) (d := o) (by omega) ho (by simpa using h2)
    rw [this]
theorem opp_some {T : List Tr} {c o : Nat} (hc : c < 3 * T.length) (h : oppI T (c : Int) = (o : Int)) : o < 3 * T.length ∧ edgeN T o = ((edgeN T c).2, (edgeN T c).1) := by
  unfold oppI at h
  rw [edgeI_nat hc] at h
  exact facI_some h
theorem opp_back {T : List Tr} (hu : (T.flatMap edges3).Nodup) {c o : Nat} (hc : c < 3 * T.length) (h : oppI T (c : Int) = (o : Int)) : oppI T (o : Int) = (c : Int) := by
  obtain ⟨ho, he⟩ := opp_some hc h
  unfold oppI
  rw [edgeI_nat ho, he]
  exact facI_of hu hc
theorem opp_cases (T : List Tr) (c : Int) : oppI T c = -1 ∨ ∃ o : Nat, oppI T c = (o : Int) ∧ o < 3 * T.length := by
  obtain ⟨h1, h2⟩ := oppI_bd T c
  by_cases h : 0 ≤ oppI T c
  · exact .inr ⟨(oppI T c).toNat, by omega, by omega⟩
  · exact .inl (by omega)

/-! Numbered parts. -/
def Reach (T : List Tr) (i j : Nat) : Prop := ∀ S : Nat → Prop, S i → (∀ c o : Nat, c < 3 * T.length → oppI T (c : Int) = (o : Int) → S (c / 3) → S (o / 3)) → S j
theorem Reach.refl (T : List Tr) (i : Nat) : Reach T i i := fun _ h _ => h
theorem Reach.step {T : List Tr} {i c o : Nat} (h : Reach T i (c / 3)) (hc : c < 3 * T.length) (ho : oppI T (c : Int) = (o : Int)) : Reach T i (o / 3) := fun S h1 h2 => h2 c o hc ho (h S h1 h2)
def at_ (out : List Int) (j : Nat) : Int := out.getD j (-1)
/-- Each triangle has the number of its part; the parts are numbered by their least triangles. -/
structure Shl (T : List Tr) (out : List Int) : Prop where
  len : out.length = T.length
  nn : ∀ j, j < T.length → 0 ≤ at_ out j
  adj : ∀ c o : Nat, c < 3 * T.length → oppI T (c : Int) = (o : Int) → at_ out (o / 3) = at_ out (c / 3)
  new : ∀ j, j < T.length → (∃ i, i < j ∧ at_ out i = at_ out j ∧ Reach T i j) ∨ ((∀ i, i < j → at_ out i < at_ out j) ∧ (at_ out j = 0 ∨ ∃ i, i < j ∧ at_ out i + 1 = at_ out j))
theorem Shl.reach {T : List Tr} {out : List Int} (h : Shl T out) {i j : Nat} (hr : Reach T i j) : at_ out i = at_ out j :=
  hr (fun x => at_ out i = at_ out x) rfl (fun c o hc ho e => e.trans (h.adj c o hc ho).symm)
theorem Shl.one {T : List Tr} {a b : List Int} (ha : Shl T a) (hb : Shl T b) : a = b := by
  have key : ∀ j, j < T.length → at_ a j = at_ b j := by
    intro j
    induction j using Nat.strongRecOn with
    | ind j ih =>
      intro hj
      rcases ha.new j hj with ⟨i, hi, e, hr⟩ | ⟨a1, a2⟩
      · rw [← e, ← hb.reach hr]
        exact ih i hi (by omega)
      · rcases hb.new j hj with ⟨i, hi, e, hr⟩ | ⟨b1, b2⟩
        · rw [← e, ← ha.reach hr]
          exact ih i hi (by omega)
        · rcases Int.lt_trichotomy (at_ a j) (at_ b j) with hlt | e | hlt
          · have h0 := ha.nn j hj
            rcases b2 with e | ⟨i, hi, e⟩
            · omega
            · have := a1 i hi
              rw [ih i hi (by omega)] at this
              omega
          · exact e
          · have h0 := hb.nn j hj
            rcases a2 with e | ⟨i, hi, e⟩
            · omega
            · have := b1 i hi
              rw [← ih i hi (by omega)] at this
              omega
  apply List.ext_getElem?
  intro j
  by_cases hj : j < T.length
  · have h1 : j < a.length := by rw [ha.len]; exact hj
    have h2 : j < b.length := by rw [hb.len]; exact hj
    have := key j hj
    simp only [at_, List.getD, List.getElem?_eq_getElem h1, List.getElem?_eq_getElem h2, Option.getD_some] at this
    rw [List.getElem?_eq_getElem h1, List.getElem?_eq_getElem h2, this]
  · rw [List.getElem?_eq_none (by rw [ha.len]; omega), List.getElem?_eq_none (by rw [hb.len]; omega)]

/-- While the parts are gone over: f triangles are looked at, n parts are there. -/
structure OfInv (T : List Tr) (f n : Nat) (out : List Int) : Prop where
  len : out.length = T.length
  lo : ∀ j, j < T.length → -1 ≤ at_ out j ∧ at_ out j < n
  done : ∀ j, j < f → 0 ≤ at_ out j
  adj : ∀ c o : Nat, c < 3 * T.length → oppI T (c : Int) = (o : Int) → 0 ≤ at_ out (c / 3) → at_ out (o / 3) = at_ out (c / 3)
  new : ∀ j, j < T.length → 0 ≤ at_ out j → (∃ i, i < j ∧ i < f ∧ at_ out i = at_ out j ∧ Reach T i j) ∨ (j < f ∧ (∀ i, i < j → at_ out i < at_ out j) ∧ (at_ out j = 0 ∨ ∃ i, i < j ∧ at_ out i + 1 = at_ out j))
  top : n = 0 ∨ ∃ j, j < f ∧ at_ out j + 1 = n
theorem at_replicate {m j : Nat} (h : j < m) : at_ (List.replicate m (-1)) j = -1 := by simp [at_, List.getD, h]
theorem OfInv.start (T : List Tr) : OfInv T 0 0 (List.replicate T.length (-1)) where
  len := by simp
  lo := fun j hj => by rw [at_replicate hj]; omega
  done := fun j hj => by omega
  adj := fun c o hc _ h => by rw [at_replicate (by omega)] at h; omega
  new := fun j hj h => by rw [at_replicate hj] at h; omega
  top := .inl rfl
theorem OfInv.skip {T : List Tr} {f n : Nat} {out : List Int} (h : OfInv T f n out) (h0 : 0 ≤ at_ out f) : OfInv T (f + 1) n out where
  len := h.len
  lo := h.lo
  done := fun j hj => by
    by_cases e : j = f
    · rw [e]; exact h0
    · exact h.done j (by omega)
  adj := h.adj
  new := fun j hj hn => by
    rcases h.new j hj hn with ⟨i, a, b, c⟩ | ⟨a, b⟩
    · exact .inl ⟨i, a, by omega, c⟩
    · exact .inr ⟨by omega, b⟩
  top := by
    rcases h.top with e | ⟨j, hj, e⟩
    · exact .inl e
    · exact .inr ⟨j, by omega, e⟩
theorem OfInv.finish {T : List Tr} {n : Nat} {out : List Int} (h : OfInv T T.length n out) : Shl T out ∧ (n = 0 ∨ ∃ j, j < T.length ∧ at_ out j + 1 = n) ∧ ∀ j, j < T.length → at_ out j < n :=
  ⟨⟨h.len, h.done, fun c o hc ho => h.adj c o hc ho (h.done _ (by omega)), fun j hj => by
    rcases h.new j hj (h.done j hj) with ⟨i, a, _, c⟩ | ⟨_, b⟩
    · exact .inl ⟨i, a, c⟩
    · exact .inr b⟩, h.top, fun j hj => (h.lo j hj).2⟩
/-- In the midst of part n, begun at f: W wait, or were gone over; of the i-th k corners are looked at. -/
structure OfBfs (T : List Tr) (f n : Nat) (out : List Int) (W : List Nat) (out' : List Int) (i k : Nat) : Prop where
  len : out'.length = T.length
  nd : W.Nodup
  lt : ∀ u ∈ W, u < T.length
  free : ∀ u ∈ W, at_ out u = -1
  lab : ∀ u ∈ W, at_ out' u = n
  old : ∀ j, j ∉ W → at_ out' j = at_ out j
  fin : f ∈ W
  reach : ∀ u ∈ W, Reach T f u
  closed : ∀ p k' u, (p < i ∨ (p = i ∧ k' < k)) → W[p]? = some u → k' < 3 → ∀ o : Nat, oppI T ((3 * u + k' : Nat) : Int) = (o : Int) → o / 3 ∈ W
theorem at_set {out : List Int} {j i : Nat} {x : Int} (hi : i < out.length) : at_ (out.set i x) j = if j = i then x else at_ out j := by
  unfold at_
  by_cases e : j = i
  · subst e
    simp [List.getD, hi]
  · rw [if_neg e, List.getD, List.getD, List.getElem?_set_ne (fun e' => e e'.symm)]
theorem OfInv.begin_ {T : List Tr} {f n : Nat} {out : List Int} (h : OfInv T f n out) (hf : f < T.length) (h0 : at_ out f < 0) : OfBfs T f n out [f] (out.set f (n : Int)) 0 0 where
  len := by simp [h.len]
  nd := by simp
  lt := fun u hu => by rw [List.mem_singleton.1 hu]; exact hf
  free := fun u hu => by
    rw [List.mem_singleton.1 hu]
    have := (h.lo f hf).1
    omega
  lab := fun u hu => by rw [List.mem_singleton.1 hu, at_set (by rw [h.len]; exact hf), if_pos rfl]
  old := fun j hj => by rw [at_set (by rw [h.len]; exact hf), if_neg (fun e => hj (by simp [e]))]
  fin := by simp
  reach := fun u hu => by rw [List.mem_singleton.1 hu]; exact Reach.refl T f
  closed := fun p k' u hp => by omega
theorem OfBfs.step0 {T : List Tr} {f n : Nat} {out : List Int} {W : List Nat} {out' : List Int} {i k u : Nat} (h : OfBfs T f n out W out' i k) (hu : W[i]? = some u) (hn : ∀ o : Nat, oppI T ((3 * u + k : Nat) : Int) = (o : Int) → o / 3 ∈ W) : OfBfs T f n out W out' i (k + 1) :=
  ⟨h.len, h.nd, h.lt, h.free, h.lab, h.old, h.fin, h.reach, fun p k' u' hp hu' hk' o ho => by
      by_cases e : p = i ∧ k' = k
      · obtain ⟨rfl, rfl⟩ := e
        rw [hu] at hu'
        cases hu'
        exact hn o ho
      · exact h.closed p k' u' (by omega) hu' hk' o ho⟩
theorem OfBfs.next {T : List Tr} {f n : Nat} {out : List Int} {W : List Nat} {out' : List Int} {i : Nat} (h : OfBfs T f n out W out' i 3) : OfBfs T f n out W out' (i + 1) 0 :=
  ⟨h.len, h.nd, h.lt, h.free, h.lab, h.old, h.fin, h.reach, fun p k' u' hp hu' hk' o ho => h.closed p k' u' (by omega) hu' hk' o ho⟩
theorem OfBfs.old_in {T : List Tr} (hE : (T.flatMap edges3).Nodup) {f n : Nat} {out : List Int} {W : List Nat} {out' : List Int} {i k u o : Nat} (hI : OfInv T f n out) (h : OfBfs T f n out W out' i k) (hu : W[i]? = some u) (hk : k < 3) (ho : oppI T ((3 * u + k : Nat) : Int) = (o : Int)) (h0 : 0 ≤ at_ out' (o / 3)) : o / 3 ∈ W := by
  refine Classical.byContradiction fun hne => ?_
  have hm := List.mem_of_getElem? hu
  have hul := h.lt u hm
  have hc : 3 * u + k < 3 * T.length := by omega
  rw [h.old _ hne] at h0
  have := hI.adj o (3 * u + k) (opp_some hc ho).1 (opp_back hE hc ho) h0
  rw [show (3 * u + k) / 3 = u from by omega, h.free u hm] at this
  omega
theorem OfBfs.add {T : List Tr} {f n : Nat} {out : List Int} {W : List Nat} {out' : List Int} {i k u o : Nat} (hI : OfInv T f n out) (h : OfBfs T f n out W out' i k) (hu : W[i]? = some u) (hk : k < 3) (ho : oppI T ((3 * u + k : Nat) : Int) = (o : Int)) (h0 : at_ out' (o / 3) < 0) : OfBfs T f n out (W ++ [o / 3]) (out'.set (o / 3) (n : Int)) i (k + 1) := by
  have hm := List.mem_of_getElem? hu
  have hul := h.lt u hm
  have hc : 3 * u + k < 3 * T.length := by omega
  have hol := (opp_some hc ho).1
  have hot : o / 3 < T.length := by omega
  have hne : o / 3 ∉ W := fun e => by
    rw [h.lab _ e] at h0
    omega
  have hli : i < W.length := (List.getElem?_eq_some_iff.1 hu).1
  refine ⟨by simp [h.len], ?_, ?_, ?_, ?_, ?_, List.mem_append_left _ h.fin, ?_, ?_⟩
  · rw [List.nodup_append]
    exact ⟨h.nd, by simp, fun a ha b hb e => by rw [List.mem_singleton.1 hb] at e; exact hne (by rw [← e]; exact ha)⟩
  · intro x hx
    rcases List.mem_append.1 hx with hx | hx
    · exact h.lt x hx
    · rw [List.mem_singleton.1 hx]; exact hot
  · intro x hx
    rcases List.mem_append.1 hx with hx | hx
    · exact h.free x hx
    · rw [List.mem_singleton.1 hx, ← h.old _ hne]
      have := (hI.lo (o / 3) hot).1
      rw [← h.old _ hne] at this
      omega
  · intro x hx
    rw [at_set (by rw [h.len]; exact hot)]
    rcases List.mem_append.1 hx with hx | hx
    · rw [if_neg (fun e => hne (by rw [← e]; exact hx))]
      exact h.lab x hx
    · rw [List.mem_singleton.1 hx, if_pos rfl]
  · intro j hj
    rw [at_set (by rw [h.len]; exact hot), if_neg (fun e => hj (by simp [e]))]
    exact h.old j (fun e => hj (List.mem_append_left _ e))
  · intro x hx
    rcases List.mem_append.1 hx with hx | hx
    · exact h.reach x hx
    · rw [List.mem_singleton.1 hx]
      exact Reach.step (c := 3 * u + k) (by rw [show (3 * u + k) / 3 = u from by omega]; exact h.reach u hm) hc ho
  · intro p k' u' hp hu' hk' o' ho'
    have hpl : p < W.length := by omega
    rw [List.getElem?_append_left hpl] at hu'
    by_cases e : p = i ∧ k' = k
    · obtain ⟨rfl, rfl⟩ := e
      rw [hu] at hu'
      cases hu'
      rw [ho] at ho'
      have : o = o' := by omega
      rw [← this]
      simp
    · exact List.mem_append_left _ (h.closed p k' u' (by omega) hu' hk' o' ho')
theorem OfBfs.finish {T : List Tr} {f n : Nat} {out : List Int} {W : List Nat} {out' : List Int} (hI : OfInv T f n out) (hf : f < T.length) (h : OfBfs T f n out W out' W.length 0) : OfInv T (f + 1) (n + 1) out' where
  len := h.len
  lo := fun j hj => by
    by_cases e : j ∈ W
    · rw [h.lab j e]; omega
    · rw [h.old j e]
      have := hI.lo j hj
      omega
  done := fun j hj => by
    by_cases e : j ∈ W
    · rw [h.lab j e]; omega
    · rw [h.old j e]
      exact hI.done j (by
        have : j ≠ f := fun e' => e (by rw [e']; exact h.fin)
        omega)
  adj := fun c o hc ho h0 => by
    by_cases e : c / 3 ∈ W
    · obtain ⟨p, hp⟩ := List.mem_iff_getElem?.1 e
      have := h.closed p (c % 3) (c / 3) (.inl (List.getElem?_eq_some_iff.1 hp).1) hp (by omega) o (by rw [show 3 * (c / 3) + c % 3 = c from by omega]; exact ho)
      rw [h.lab _ e, h.lab _ this]
    · rw [h.old _ e] at h0
      have := hI.adj c o hc ho h0
      have hne : o / 3 ∉ W := fun e' => by
        rw [h.free _ e'] at this
        omega
      rw [h.old _ e, h.old _ hne, this]
  new := fun j hj h0 => by
    have hfree : ∀ u ∈ W, f ≤ u := fun u hu => by
      rcases Nat.lt_or_ge u f with hlt | hge
      · have := hI.done u hlt
        rw [h.free u hu] at this
        omega
      · exact hge
    by_cases e : j ∈ W
    · by_cases ef : j = f
      · right
        subst ef
        refine ⟨by omega, fun i hi => ?_, ?_⟩
        · have hni : i ∉ W := fun e' => by have := hfree i e'; omega
          rw [h.old i hni, h.lab _ e]
          exact (hI.lo i (by omega)).2
        · rw [h.lab _ e]
          rcases hI.top with e0 | ⟨i, hi, e0⟩
          · left; omega
          · right
            have hni : i ∉ W := fun e' => by have := hfree i e'; omega
            exact ⟨i, hi, by rw [h.old i hni]; exact e0⟩
      · left
        have := hfree j e
        exact ⟨f, by omega, by omega, by rw [h.lab _ e, h.lab _ h.fin], h.reach j e⟩
    · rw [h.old j e] at h0 ⊢
      rcases hI.new j hj h0 with ⟨i, a, b, c, d⟩ | ⟨a, b, c⟩
      · left
        have hni : i ∉ W := fun e' => by have := hfree i e'; omega
        exact ⟨i, a, by omega, by rw [h.old i hni]; exact c, d⟩
      · right
        have hni : ∀ i, i < j → i ∉ W := fun i hi e' => by have := hfree i e'; omega
        refine ⟨by omega, fun i hi => by rw [h.old i (hni i hi)]; exact b i hi, ?_⟩
        rcases c with c | ⟨i, hi, c⟩
        · exact .inl c
        · exact .inr ⟨i, hi, by rw [h.old i (hni i hi)]; exact c⟩
  top := .inr ⟨f, by omega, by rw [h.lab _ h.fin]; omega⟩
theorem OfBfs.wl {T : List Tr} {f n : Nat} {out : List Int} {W : List Nat} {out' : List Int} {i k : Nat} (h : OfBfs T f n out W out' i k) : W.length ≤ T.length := by
  have := Jor.nodup_le (m := List.range T.length) h.nd (fun x hx => List.mem_range.2 (h.lt x hx))
  simpa using this
end Go.Proofs.YtghlnknncahkgaaGreat
/-
  A walk over a closed surface of Euler number 2, in plain words: loops of corners round what was gone over.
-/
namespace Go.Proofs.YtghlnknncahkgaaGreat
namespace Jor
section
variable {F N : Nat} {opp vert : Nat → Nat}

theorem xs_mem {n : Nat} {p : Nat → Bool} : ∀ {X : List Nat}, X.Nodup → (∀ c ∈ X, c < n) → xs (List.range n) (fun c => p c && decide (c ∈ X)) = xs X p
  | [], _, _ => by
    rw [xs_nil]
    exact xs_false fun c _ => by simp
  | a :: r, hn, hl => by
    obtain ⟨h1, h2⟩ := List.nodup_cons.1 hn
    have ih := xs_mem (p := p) h2 (fun c hc => hl c (List.mem_cons_of_mem _ hc))
    have e : xs (List.range n) (fun c => p c && decide (c ∈ a :: r)) = xs (List.range n) (fun c => xor (p c && decide (c = a)) (p c && decide (c ∈ r))) := by
      refine xs_congr fun c _ => ?_
      by_cases h : c = a
      · subst h
        simp [h1]
      · simp [h]
    rw [e, xs_xor, ih, xs_cons]
    congr 1
    rw [xs_one (a := a) List.nodup_range (List.mem_range.2 (hl a (List.mem_cons_self ..))) (fun c _ hc => by simp [hc])]
    simp

/-- Where the edge across from a corner begins, and ends. -/
def hd (vert : Nat → Nat) (c : Nat) : Nat := vert (nx c)
def tl (vert : Nat → Nat) (c : Nat) : Nat := vert (pv c)
/-- A corner whose triangle was not gone over, and the one across was. -/
def Bd (F : Nat) (opp : Nat → Nat) (D : List Nat) (c : Nat) : Prop := c < 3 * F ∧ c / 3 ∉ D ∧ opp c / 3 ∈ D
def Come (F : Nat) (vert : Nat → Nat) (D : List Nat) (v : Nat) : Prop := ∃ d, d < 3 * F ∧ d / 3 ∈ D ∧ vert d = v
/-- Round and round. -/
def Cyc (vert : Nat → Nat) (X : List Nat) : Prop := ∃ c r, X = c :: r ∧ X.map (tl vert) = r.map (hd vert) ++ [hd vert c]
theorem Cyc.perm {X : List Nat} (h : Cyc vert X) : (X.map (tl vert)).Perm (X.map (hd vert)) := by
  obtain ⟨c, r, rfl, e⟩ := h
  rw [e, List.map_cons]
  exact List.perm_append_singleton ..
/-- What a surface is, besides, that is walked over. -/
structure Walks (F N : Nat) (opp vert : Nat → Nat) : Prop extends Closed F N opp vert where
  euler : 2 * N = F + 4
  pos : 0 < F
  ei : ∀ c d, c < 3 * F → d < 3 * F → hd vert c = hd vert d → tl vert c = tl vert d → c = d
  ar : ∀ (v : Nat) (S : Nat → Prop), (∃ c, c < 3 * F ∧ vert c = v ∧ S (c / 3)) → (∀ c, c < 3 * F → vert c = v → S (c / 3) → S (opp (nx c) / 3) ∧ S (opp (pv c) / 3)) → ∀ c, c < 3 * F → vert c = v → S (c / 3)
/-- While a walk is on its way: D are the triangles gone over, Xs the loops. -/
structure WInv (F : Nat) (opp vert : Nat → Nat) (d0 : Nat) (D : List Nat) (Xs : List (List Nat)) : Prop where
  dnd : D.Nodup
  dlt : ∀ t ∈ D, t < F
  root : d0 ∈ D
  conn : ∀ S : Nat → Prop, S d0 → (∀ c, c < 3 * F → c / 3 ∈ D → opp c / 3 ∈ D → S (c / 3) → S (opp c / 3)) → ∀ t ∈ D, S t
  len : ∀ X ∈ Xs, 3 ≤ X.length
  cyc : ∀ X ∈ Xs, Cyc vert X
  vnd : ∀ X ∈ Xs, (X.map (hd vert)).Nodup
  nd : Xs.flatten.Nodup
  bd : ∀ c, c ∈ Xs.flatten ↔ Bd F opp D c
variable {d0 : Nat} {D : List Nat} {Xs : List (List Nat)}
theorem WInv.mem (h : WInv F opp vert d0 D Xs) {X : List Nat} (hX : X ∈ Xs) {c : Nat} (hc : c ∈ X) : Bd F opp D c := (h.bd c).1 (List.mem_flatten.2 ⟨X, hX, hc⟩)
theorem nodup_of_map {f : Nat → Nat} {l : List Nat} (h : (l.map f).Nodup) : l.Nodup := List.Pairwise.of_map f (fun a b hab e => hab (by rw [e])) h
theorem WInv.colour (K : Walks F N opp vert) (h : WInv F opp vert d0 D Xs) {X : List Nat} (hX : X ∈ Xs) :
    ∃ f : Nat → Bool, (∀ t ∈ D, f t = f d0) ∧ ∀ c, c < 3 * F → xor (f (c / 3)) (f (opp c / 3)) = (decide (c ∈ X) || decide (opp c ∈ X)) := by
  have hnd : X.Nodup := nodup_of_map (h.vnd X hX)
  have hlt : ∀ c ∈ X, c < 3 * F := fun c hc => (h.mem hX hc).1
  have hx : ∀ c, c < 3 * F → c ∈ X → opp c ∉ X := fun c hc h1 h2 => (h.mem hX h2).2.1 (h.mem hX h1).2.2
  obtain ⟨f, hf⟩ := jordan K.toClosed K.pos K.euler (κ := fun c => decide (c ∈ X) || decide (opp c ∈ X))
    (fun c hc => by simp only [K.inv c hc]; exact Bool.or_comm ..) (fun v hv => by
      have e1 : par F vert (fun c => decide (c ∈ X) || decide (opp c ∈ X)) v = xs (List.range (3 * F)) (fun c => xor (hd vert c == v && decide (c ∈ X)) (hd vert c == v && decide (opp c ∈ X))) := by
        unfold par
        refine xs_congr fun c hc => ?_
        have := hx c (List.mem_range.1 hc)
        unfold hd
        by_cases m1 : c ∈ X
        · simp [m1, this m1]
        · simp [m1]
      have e2 : xs (List.range (3 * F)) (fun c => hd vert c == v && decide (opp c ∈ X)) = xs (List.range (3 * F)) (fun c => tl vert c == v && decide (c ∈ X)) := by
        rw [← xs_perm (perm_map_range opp opp K.lt K.lt K.inv K.inv) (p := fun c => hd vert c == v && decide (opp c ∈ X)), xs_map]
        refine xs_congr fun c hc => ?_
        have hc := List.mem_range.1 hc
        unfold hd tl
        rw [K.vn c hc, K.inv c hc]
      rw [e1, xs_xor, e2, xs_mem hnd hlt, xs_mem hnd hlt]
      have e3 : xs X (fun c => hd vert c == v) = xs X (fun c => tl vert c == v) := by
        rw [← xs_map (hd vert) (p := fun c => c == v), ← xs_map (tl vert) (p := fun c => c == v)]
        exact xs_perm (h.cyc X hX).perm.symm
      rw [e3]
      simp)
  refine ⟨f, ?_, hf⟩
  refine h.conn (fun t => f t = f d0) rfl ?_
  intro c hc h1 h2 e
  have := hf c hc
  have m1 : c ∉ X := fun m => (h.mem hX m).2.1 h1
  have m2 : opp c ∉ X := fun m => (h.mem hX m).2.1 h2
  simp only [m1, m2, decide_false, Bool.or_false] at this
  rw [← e]
  revert this
  cases f (c / 3) <;> cases f (opp c / 3) <;> simp
/-- Two open gates of one triangle lie in one loop. -/
theorem WInv.only (K : Walks F N opp vert) (h : WInv F opp vert d0 D Xs) {X : List Nat} (hX : X ∈ Xs) {c0 c1 : Nat} (h0 : c0 ∈ X) (h1 : Bd F opp D c1) (e : c1 / 3 = c0 / 3) : c1 ∈ X := by
  obtain ⟨f, fD, hf⟩ := h.colour K hX
  have b0 := h.mem hX h0
  have k0 := hf c0 b0.1
  have k1 := hf c1 h1.1
  rw [fD _ b0.2.2] at k0
  rw [fD _ h1.2.2, e] at k1
  have m2 : opp c1 ∉ X := fun m => (h.mem hX m).2.1 h1.2.2
  rw [k0] at k1
  simp only [h0, m2, decide_true, Bool.true_or, decide_false, Bool.or_false] at k1
  simpa using k1.symm
theorem Cyc.tl_mem {X : List Nat} (h : Cyc vert X) {c : Nat} (hc : c ∈ X) : tl vert c ∈ X.map (hd vert) := h.perm.mem_iff.1 (List.mem_map_of_mem hc)
/-- A vertex that was come to, of a triangle at a loop, lies in that loop. -/
theorem WInv.touch (K : Walks F N opp vert) (h : WInv F opp vert d0 D Xs) {X : List Nat} (hX : X ∈ Xs) {c0 c : Nat} (h0 : c0 ∈ X) (hc : c < 3 * F) (e : c / 3 = c0 / 3) (hv : Come F vert D (vert c)) : vert c ∈ X.map (hd vert) := by
  refine Classical.byContradiction fun hne => ?_
  obtain ⟨f, fD, hf⟩ := h.colour K hX
  have b0 := h.mem hX h0
  have k0 := hf c0 b0.1
  rw [fD _ b0.2.2] at k0
  obtain ⟨d, hd1, hd2, hd3⟩ := hv
  have key : ∀ g, g < 3 * F → (hd vert g = vert c ∨ tl vert g = vert c) → f (g / 3) = f (opp g / 3) := by
    intro g hg hgv
    have m1 : g ∉ X := fun m => by
      rcases hgv with e | e
      · exact hne (by rw [← e]; exact List.mem_map_of_mem m)
      · exact hne (by rw [← e]; exact (h.cyc X hX).tl_mem m)
    have m2 : opp g ∉ X := fun m => by
      rcases hgv with e | e
      · have := (h.cyc X hX).tl_mem m
        unfold tl at this
        rw [K.vp g hg] at this
        exact hne (by rw [← e]; exact this)
      · have : hd vert (opp g) ∈ X.map (hd vert) := List.mem_map_of_mem m
        unfold hd at this
        rw [K.vn g hg] at this
        exact hne (by rw [← e]; exact this)
    have := hf g hg
    simp only [m1, m2, decide_false, Bool.or_false] at this
    revert this
    cases f (g / 3) <;> cases f (opp g / 3) <;> simp
  have hS := K.ar (vert c) (fun t => f t = f d0) ⟨d, hd1, hd3, fD _ hd2⟩ (fun g hg hgv hS => by
    refine ⟨?_, ?_⟩
    · rw [← key (nx g) (nx_lt hg) (.inr (by unfold tl; rw [pv_nx]; exact hgv)), nx_div]
      exact hS
    · rw [← key (pv g) (pv_lt hg) (.inl (by unfold hd; rw [nx_pv]; exact hgv)), pv_div]
      exact hS) c hc rfl
  rw [e] at hS
  have hS' : f (c0 / 3) = f d0 := hS
  rw [hS'] at k0
  simp [h0] at k0

/-! One triangle more. -/
theorem bd_step (K : Walks F N opp vert) {c0 : Nat} (h0 : Bd F opp D c0) (c : Nat) :
    Bd F opp (c0 / 3 :: D) c ↔ (Bd F opp D c ∧ c ≠ c0 ∧ c ≠ pv c0 ∧ c ≠ nx c0) ∨ (c = opp (pv c0) ∧ ¬ Bd F opp D (pv c0)) ∨ (c = opp (nx c0) ∧ ¬ Bd F opp D (nx c0)) := by
  obtain ⟨hl, hn, hi⟩ := h0
  have same : ∀ g, g / 3 = c0 / 3 ↔ g = c0 ∨ g = pv c0 ∨ g = nx c0 := fun g => by unfold nx pv; omega
  have ha : pv c0 < 3 * F := pv_lt hl
  have hb : nx c0 < 3 * F := nx_lt hl
  constructor
  · rintro ⟨c1, c2, c3⟩
    have c2' : c / 3 ≠ c0 / 3 ∧ c / 3 ∉ D := by simpa using c2
    have hne := fun e => c2'.1 ((same c).2 e)
    rcases List.mem_cons.1 c3 with c3 | c3
    · rcases (same _).1 c3 with e | e | e
      · exact absurd (show c / 3 ∈ D by rw [← K.inv c c1, e]; exact hi) c2'.2
      · have e2 : c = opp (pv c0) := by rw [← e, K.inv c c1]
        exact .inr (.inl ⟨e2, fun hbd => c2'.2 (by rw [e2]; exact hbd.2.2)⟩)
      · have e2 : c = opp (nx c0) := by rw [← e, K.inv c c1]
        exact .inr (.inr ⟨e2, fun hbd => c2'.2 (by rw [e2]; exact hbd.2.2)⟩)
    · exact .inl ⟨⟨c1, c2'.2, c3⟩, fun e => hne (.inl e), fun e => hne (.inr (.inl e)), fun e => hne (.inr (.inr e))⟩
  · rintro (⟨⟨c1, c2, c3⟩, e1, e2, e3⟩ | ⟨rfl, hbd⟩ | ⟨rfl, hbd⟩)
    · refine ⟨c1, ?_, List.mem_cons_of_mem _ c3⟩
      rw [List.mem_cons, not_or]
      exact ⟨fun e => by rcases (same c).1 e with e | e | e; exact e1 e; exact e2 e; exact e3 e, c2⟩
    · refine ⟨K.lt _ ha, ?_, ?_⟩
      · rw [List.mem_cons, not_or]
        exact ⟨fun e => K.apart _ ha (by rw [e, pv_div]), fun hm => hbd ⟨ha, by rw [pv_div]; exact hn, hm⟩⟩
      · rw [K.inv _ ha, pv_div]
        exact List.mem_cons_self ..
    · refine ⟨K.lt _ hb, ?_, ?_⟩
      · rw [List.mem_cons, not_or]
        exact ⟨fun e => K.apart _ hb (by rw [e, nx_div]), fun hm => hbd ⟨hb, by rw [nx_div]; exact hn, hm⟩⟩
      · rw [K.inv _ hb, nx_div]
        exact List.mem_cons_self ..
/-- .. and what the loops must be then. -/
theorem WInv.step (K : Walks F N opp vert) (h : WInv F opp vert d0 D Xs) {c0 : Nat} (h0 : Bd F opp D c0) {Ys : List (List Nat)}
    (len : ∀ X ∈ Ys, 3 ≤ X.length) (cyc : ∀ X ∈ Ys, Cyc vert X) (vnd : ∀ X ∈ Ys, (X.map (hd vert)).Nodup) (nd : Ys.flatten.Nodup)
    (bd : ∀ c, c ∈ Ys.flatten ↔ (Bd F opp D c ∧ c ≠ c0 ∧ c ≠ pv c0 ∧ c ≠ nx c0) ∨ (c = opp (pv c0) ∧ ¬ Bd F opp D (pv c0)) ∨ (c = opp (nx c0) ∧ ¬ Bd F opp D (nx c0))) : WInv F opp vert d0 (c0 / 3 :: D) Ys where
  dnd := List.nodup_cons.2 ⟨h0.2.1, h.dnd⟩
  dlt := fun t ht => by
    rcases List.mem_cons.1 ht with rfl | ht
    · have := h0.1
      omega
    · exact h.dlt t ht
  root := List.mem_cons_of_mem _ h.root
  conn := fun S s0 sc t ht => by
    have hD := h.conn S s0 (fun c c1 c2 c3 => sc c c1 (List.mem_cons_of_mem _ c2) (List.mem_cons_of_mem _ c3))
    rcases List.mem_cons.1 ht with rfl | ht
    · have := sc (opp c0) (K.lt _ h0.1) (List.mem_cons_of_mem _ h0.2.2) (by rw [K.inv _ h0.1]; exact List.mem_cons_self ..) (hD _ h0.2.2)
      rwa [K.inv _ h0.1] at this
    · exact hD t ht
  len := len
  cyc := cyc
  vnd := vnd
  nd := nd
  bd := fun c => (bd c).trans (bd_step K h0 c).symm
end
end Jor
end Go.Proofs.YtghlnknncahkgaaGreat
/-
  A walk over a closed surface of Euler number 2, in plain words: its beginning, its steps, its end.
-/
namespace Go.Proofs.YtghlnknncahkgaaGreat
namespace Jor
section
variable {F N : Nat} {opp vert : Nat → Nat} {d0 : Nat} {D : List Nat}

/-- What a step makes of the loops: the vertex was come to, and stands at e. -/
def parted (opp : Nat → Nat) (c0 : Nat) (r1 : List Nat) (e : Nat) (r2 : List Nat) (W : List (List Nat)) : List (List Nat) :=
  (if r2 = [] then [] else [opp (pv c0) :: e :: r2]) ++ ((if r1.length = 1 then [] else [opp (nx c0) :: r1]) ++ W)
theorem bd_not_opp (K : Walks F N opp vert) {c0 g : Nat} (h0 : c0 / 3 ∉ D) (hg : g < 3 * F) (e : g / 3 = c0 / 3) : ¬ Bd F opp D (opp g) := fun h => h0 (by rw [← e, ← K.inv g hg]; exact h.2.2)
theorem map_inj_nodup {f : Nat → Nat} {l : List Nat} (h : (l.map f).Nodup) {a b : Nat} (ha : a ∈ l) (hb : b ∈ l) (e : f a = f b) : a = b := by
  induction l with
  | nil => cases ha
  | cons x l ih =>
    rw [List.map_cons, List.nodup_cons] at h
    rcases List.mem_cons.1 ha with ea | ha1
    · rcases List.mem_cons.1 hb with eb | hb1
      · rw [ea, eb]
      · exact absurd (by rw [← ea, e]; exact List.mem_map_of_mem hb1) h.1
    · rcases List.mem_cons.1 hb with eb | hb1
      · exact absurd (by rw [← eb, ← e]; exact List.mem_map_of_mem ha1) h.1
      · exact ih h.2 ha1 hb1
theorem parted_nodup {oa ob c0 e : Nat} {r1 r2 : List Nat} {W : List (List Nat)} (h : ((c0 :: (r1 ++ e :: r2)) ++ W.flatten).Nodup) (ha : oa ∉ (c0 :: (r1 ++ e :: r2)) ++ W.flatten) (hb : ob ∉ (c0 :: (r1 ++ e :: r2)) ++ W.flatten) (hab : oa ≠ ob) :
    ((if r2 = [] then [] else [oa :: e :: r2]) ++ ((if r1.length = 1 then [] else [ob :: r1]) ++ W)).flatten.Nodup := by
  have full : ((oa :: e :: r2) ++ ((ob :: r1) ++ W.flatten)).Nodup := by
    have h1 : (oa :: ob :: ((r1 ++ e :: r2) ++ W.flatten)).Nodup := by
      simp only [List.cons_append, List.mem_cons, List.nodup_cons, not_or] at h ha hb ⊢
      exact ⟨⟨hab, ha.2⟩, hb.2, h.2⟩
    refine (List.Perm.nodup_iff ?_).1 h1
    refine List.Perm.cons _ ?_
    have p1 : ((r1 ++ e :: r2) ++ W.flatten).Perm ((e :: r2) ++ (r1 ++ W.flatten)) := by
      rw [← List.append_assoc]
      exact List.Perm.append_right _ List.perm_append_comm
    refine (List.Perm.cons ob p1).trans ?_
    exact (List.perm_middle (l₁ := e :: r2) (l₂ := r1 ++ W.flatten) (a := ob)).symm
  refine List.Sublist.nodup ?_ full
  simp only [List.flatten_append]
  refine List.Sublist.append ?_ (List.Sublist.append ?_ (List.Sublist.refl _))
  · split
    · exact List.nil_sublist _
    · simp
  · split
    · exact List.nil_sublist _
    · simp
theorem opp_ne (K : Walks F N opp vert) {a b : Nat} (ha : a < 3 * F) (hb : b < 3 * F) (h : a ≠ b) : opp a ≠ opp b := fun e => h (by rw [← K.inv a ha, e, K.inv b hb])

theorem WInv.next (K : Walks F N opp vert) {c0 : Nat} {r : List Nat} {W : List (List Nat)} (h : WInv F opp vert d0 D ((c0 :: r) :: W)) :
    (¬ Come F vert D (vert c0) ∧ WInv F opp vert d0 (c0 / 3 :: D) ((opp (pv c0) :: opp (nx c0) :: r) :: W)) ∨
    (Come F vert D (vert c0) ∧ ∃ r1 e r2, r = r1 ++ e :: r2 ∧ hd vert e = vert c0 ∧ r1 ≠ [] ∧ WInv F opp vert d0 (c0 / 3 :: D) (parted opp c0 r1 e r2 W)) := by
  have hX : (c0 :: r) ∈ (c0 :: r) :: W := List.mem_cons_self ..
  have h0 : Bd F opp D c0 := h.mem hX (List.mem_cons_self ..)
  have hl0 := h0.1
  have ha : pv c0 < 3 * F := pv_lt hl0
  have hb : nx c0 < 3 * F := nx_lt hl0
  have hlen := h.len _ hX
  have hvnd := h.vnd _ hX
  obtain ⟨c', r', e', hcyc⟩ := h.cyc _ hX
  cases e'
  have hda : hd vert (opp (pv c0)) = hd vert c0 := by unfold hd; rw [K.vn _ ha, pv_pv]
  have hta : tl vert (opp (pv c0)) = vert c0 := by unfold tl; rw [K.vp _ ha, nx_pv]
  have hdb : hd vert (opp (nx c0)) = vert c0 := by unfold hd; rw [K.vn _ hb, pv_nx]
  have htb : tl vert (opp (nx c0)) = tl vert c0 := by unfold tl; rw [K.vp _ hb, nx_nx]
  have hab : opp (pv c0) ≠ opp (nx c0) := opp_ne K ha hb (by unfold nx pv; omega)
  have oa := bd_not_opp K h0.2.1 ha (pv_div c0)
  have ob := bd_not_opp K h0.2.1 hb (nx_div c0)
  have hnd := h.nd
  have hbd := h.bd
  simp only [List.flatten_cons, List.cons_append, List.nodup_cons] at hnd
  by_cases hcome : Come F vert D (vert c0)
  · refine .inr ⟨hcome, ?_⟩
    have ht := h.touch K hX (List.mem_cons_self ..) hl0 rfl hcome
    have hne : hd vert c0 ≠ vert c0 := K.simple c0 hl0
    have hne2 : tl vert c0 ≠ vert c0 := fun e => K.simple (pv c0) ha (by rw [nx_pv]; exact e.symm)
    rw [List.map_cons, List.mem_cons] at ht
    rcases ht with ht | ht
    · exact absurd ht.symm hne
    obtain ⟨e, he, hev⟩ := List.mem_map.1 ht
    obtain ⟨r1, r2, rfl⟩ := List.append_of_mem he
    have hr1 : r1 ≠ [] := by
      rintro rfl
      simp only [List.nil_append, List.map_cons, List.cons_append, List.cons.injEq] at hcyc
      exact hne2 (hcyc.1.trans hev)
    obtain ⟨b, r1', rfl⟩ := List.exists_cons_of_ne_nil hr1
    simp only [List.map_cons, List.map_append, List.cons_append, List.cons.injEq] at hcyc
    obtain ⟨cy1, cy2⟩ := hcyc
    have cy2' : (tl vert b :: r1'.map (tl vert)) ++ (tl vert e :: r2.map (tl vert)) = (r1'.map (hd vert) ++ [hd vert e]) ++ (r2.map (hd vert) ++ [hd vert c0]) := by
      simpa using cy2
    obtain ⟨cy3, cy4⟩ := List.append_inj cy2' (by simp)
    have hbm : b ∈ c0 :: ((b :: r1') ++ e :: r2) := by simp
    have hem : e ∈ c0 :: ((b :: r1') ++ e :: r2) := by simp
    have hv' := hvnd
    simp only [List.map_cons, List.map_append, List.cons_append, List.nodup_cons, List.nodup_append, List.mem_cons, List.mem_append, not_or] at hv'
    have hB : Bd F opp D (nx c0) ↔ r1' = [] := by
      constructor
      · intro hbB
        have m := h.only K hX (List.mem_cons_self ..) hbB (nx_div c0)
        have e1 : nx c0 = b := map_inj_nodup hvnd m hbm (by rw [← cy1]; unfold hd tl; rw [nx_nx])
        have e2 : tl vert b = hd vert e := by rw [← e1, hev]; unfold tl; rw [pv_nx]
        cases r1' with
        | nil => rfl
        | cons b2 r1'' =>
          simp only [List.map_cons, List.cons_append, List.cons.injEq] at cy3
          have : hd vert b2 = hd vert e := cy3.1.symm.trans e2
          have := map_inj_nodup hvnd (a := b2) (b := e) (by simp) hem this
          subst this
          grind
      · rintro rfl
        simp only [List.map_nil, List.nil_append, List.cons.injEq, and_true] at cy3
        have e1 := K.ei b (nx c0) (h.mem hX hbm).1 hb (by rw [← cy1]; unfold hd tl; rw [nx_nx]) (by rw [cy3, hev]; unfold tl; rw [pv_nx])
        rw [← e1]
        exact h.mem hX hbm
    have hA : Bd F opp D (pv c0) ↔ r2 = [] := by
      constructor
      · intro hbA
        have m := h.only K hX (List.mem_cons_self ..) hbA (pv_div c0)
        have e1 : pv c0 = e := map_inj_nodup hvnd m hem (by rw [hev]; unfold hd; rw [nx_pv])
        have e2 : tl vert e = hd vert c0 := by rw [← e1]; unfold tl hd; rw [pv_pv]
        cases r2 with
        | nil => rfl
        | cons b2 r2' =>
          simp only [List.map_cons, List.cons_append, List.cons.injEq] at cy4
          have : hd vert b2 = hd vert c0 := cy4.1.symm.trans e2
          have := map_inj_nodup hvnd (a := b2) (b := c0) (by simp) (by simp) this
          subst this
          grind
      · rintro rfl
        simp only [List.map_nil, List.nil_append, List.cons.injEq, and_true] at cy4
        have e1 := K.ei e (pv c0) (h.mem hX hem).1 ha (by rw [hev]; unfold hd; rw [nx_pv]) (by rw [cy4]; unfold tl hd; rw [pv_pv])
        rw [← e1]
        exact h.mem hX hem
    have hB' : r1' = [] → b = nx c0 := fun e0 => by
      have m := h.only K hX (List.mem_cons_self ..) (hB.2 e0) (nx_div c0)
      exact (map_inj_nodup hvnd m hbm (by rw [← cy1]; unfold hd tl; rw [nx_nx])).symm
    have hA' : r2 = [] → e = pv c0 := fun e0 => by
      have m := h.only K hX (List.mem_cons_self ..) (hA.2 e0) (pv_div c0)
      exact (map_inj_nodup hvnd m hem (by rw [hev]; unfold hd; rw [nx_pv])).symm
    refine ⟨b :: r1', e, r2, rfl, hev, hr1, h.step K h0 ?_ ?_ ?_ ?_ ?_⟩
    · intro X hX'
      unfold parted at hX'
      rw [List.mem_append, List.mem_append] at hX'
      rcases hX' with hX' | hX' | hX'
      · split at hX'
        · cases hX'
        · rw [List.mem_singleton] at hX'
          subst hX'
          rename_i h2
          have := List.length_pos_iff.2 h2
          simp only [List.length_cons]
          omega
      · split at hX'
        · cases hX'
        · rw [List.mem_singleton] at hX'
          subst hX'
          rename_i h2
          simp only [List.length_cons] at h2 ⊢
          omega
      · exact h.len X (List.mem_cons_of_mem _ hX')
    · intro X hX'
      unfold parted at hX'
      rw [List.mem_append, List.mem_append] at hX'
      rcases hX' with hX' | hX' | hX'
      · split at hX'
        · cases hX'
        · rw [List.mem_singleton] at hX'
          subst hX'
          exact ⟨_, _, rfl, by simp only [List.map_cons, List.cons_append, hta, hev, hda, cy4]⟩
      · split at hX'
        · cases hX'
        · rw [List.mem_singleton] at hX'
          subst hX'
          exact ⟨_, _, rfl, by simp only [List.map_cons, List.cons_append, htb, cy1, hdb, cy3, hev]⟩
      · exact h.cyc X (List.mem_cons_of_mem _ hX')
    · intro X hX'
      unfold parted at hX'
      rw [List.mem_append, List.mem_append] at hX'
      rcases hX' with hX' | hX' | hX'
      · split at hX'
        · cases hX'
        · rw [List.mem_singleton] at hX'
          subst hX'
          simp only [List.map_cons, hda, List.nodup_cons, List.mem_cons, not_or]
          grind
      · split at hX'
        · cases hX'
        · rw [List.mem_singleton] at hX'
          subst hX'
          simp only [List.map_cons, hdb, List.nodup_cons, List.mem_cons, not_or]
          grind
      · exact h.vnd X (List.mem_cons_of_mem _ hX')
    · have e1 : ((c0 :: ((b :: r1') ++ e :: r2)) :: W).flatten = (c0 :: ((b :: r1') ++ e :: r2)) ++ W.flatten := List.flatten_cons
      have nn := h.nd
      rw [e1] at nn hbd
      exact parted_nodup nn (fun m => oa ((hbd _).1 m)) (fun m => ob ((hbd _).1 m)) hab
    · intro c
      have hc := hbd c
      have hbdA := hbd (pv c0)
      have hbdB := hbd (nx c0)
      simp only [List.flatten_cons, List.cons_append, List.append_assoc, List.mem_cons, List.mem_append] at hc
      simp only [List.cons_append, List.append_assoc, List.mem_cons, List.mem_append, not_or, List.nodup_cons, List.nodup_append] at hnd
      unfold parted
      rw [hA, hB, ← hc]
      have hc1 : (r1'.length + 1 = 1) ↔ r1' = [] := by
        constructor
        · intro e0
          exact List.eq_nil_of_length_eq_zero (by omega)
        · rintro rfl
          rfl
      have hnA : r2 ≠ [] → ∀ x, Bd F opp D x → x ≠ pv c0 := fun e0 x hx e1 => e0 (hA.1 (by rw [← e1]; exact hx))
      have hnB : r1' ≠ [] → ∀ x, Bd F opp D x → x ≠ nx c0 := fun e0 x hx e1 => e0 (hB.1 (by rw [← e1]; exact hx))
      have hcb := hc
      simp only [List.flatten_append, List.mem_append, List.length_cons]
      by_cases z1 : r1' = [] <;> by_cases z2 : r2 = [] <;> simp only [z1, z2, if_true, if_false, List.flatten_nil, List.flatten_cons, List.append_nil, List.mem_cons, List.not_mem_nil, false_or, List.cons_append, List.length_nil, hc1] at * <;> grind
  · refine .inl ⟨hcome, h.step K h0 ?_ ?_ ?_ ?_ ?_⟩
    · intro X hX'
      rcases List.mem_cons.1 hX' with rfl | hX'
      · simp only [List.length_cons] at hlen ⊢
        omega
      · exact h.len X (List.mem_cons_of_mem _ hX')
    · intro X hX'
      rcases List.mem_cons.1 hX' with rfl | hX'
      · refine ⟨_, _, rfl, ?_⟩
        rw [List.map_cons] at hcyc
        simp only [List.map_cons, hta, htb, hda, hdb, List.cons_append]
        rw [hcyc]
      · exact h.cyc X (List.mem_cons_of_mem _ hX')
    · intro X hX'
      rcases List.mem_cons.1 hX' with rfl | hX'
      · have hnv : ∀ c ∈ c0 :: r, hd vert c ≠ vert c0 := fun c hc e => hcome ⟨pv (opp c), pv_lt (K.lt _ (h.mem hX hc).1), by rw [pv_div]; exact (h.mem hX hc).2.2, by rw [K.vp _ (h.mem hX hc).1]; exact e⟩
        have h1 := hnv c0 (List.mem_cons_self ..)
        have h2 : vert c0 ∉ r.map (hd vert) := fun hm => by
          obtain ⟨c, hc, e⟩ := List.mem_map.1 hm
          exact hnv c (List.mem_cons_of_mem _ hc) e
        simp only [List.map_cons, List.nodup_cons, hda, hdb, List.mem_cons, not_or] at hvnd ⊢
        exact ⟨⟨h1, hvnd.1⟩, h2, hvnd.2⟩
      · exact h.vnd X (List.mem_cons_of_mem _ hX')
    · have na : ∀ c, Bd F opp D c → c ≠ opp (pv c0) := fun c hc e => oa (by rw [← e]; exact hc)
      have nb : ∀ c, Bd F opp D c → c ≠ opp (nx c0) := fun c hc e => ob (by rw [← e]; exact hc)
      simp only [List.flatten_cons, List.cons_append, List.mem_cons, List.mem_append] at hbd
      simp only [List.flatten_cons, List.cons_append, List.nodup_cons, List.mem_cons, List.mem_append] at hnd ⊢
      grind
    · intro c
      have hc := hbd c
      have hnA : ¬ Bd F opp D (pv c0) := fun hb' => hcome ⟨pv (opp (pv c0)), pv_lt (K.lt _ ha), by rw [pv_div]; exact hb'.2.2, hta⟩
      have hnB : ¬ Bd F opp D (nx c0) := fun hb' => hcome ⟨nx (opp (nx c0)), nx_lt (K.lt _ hb), by rw [nx_div]; exact hb'.2.2, hdb⟩
      have e1 : ∀ x, Bd F opp D x → x ≠ pv c0 := fun x hx e => hnA (by rw [← e]; exact hx)
      have e2 : ∀ x, Bd F opp D x → x ≠ nx c0 := fun x hx e => hnB (by rw [← e]; exact hx)
      simp only [List.flatten_cons, List.cons_append, List.mem_cons, List.mem_append] at hc ⊢
      simp only [List.mem_append, not_or] at hnd
      grind
end
end Jor
end Go.Proofs.YtghlnknncahkgaaGreat
/-
  A walk over a closed surface of Euler number 2, in plain words: its beginning and its end; the vertices that it came to.
-/
namespace Go.Proofs.YtghlnknncahkgaaGreat
namespace Jor
section
variable {F N : Nat} {opp vert : Nat → Nat} {d0 : Nat} {D : List Nat}

theorem WInv.start (K : Walks F N opp vert) {c : Nat} (hc : c < 3 * F) : WInv F opp vert (c / 3) [c / 3] [[opp (pv c), opp (nx c), opp c]] := by
  have ha : pv c < 3 * F := pv_lt hc
  have hb : nx c < 3 * F := nx_lt hc
  have hda : hd vert (opp (pv c)) = vert (nx c) := by unfold hd; rw [K.vn _ ha, pv_pv]
  have hta : tl vert (opp (pv c)) = vert c := by unfold tl; rw [K.vp _ ha, nx_pv]
  have hdb : hd vert (opp (nx c)) = vert c := by unfold hd; rw [K.vn _ hb, pv_nx]
  have htb : tl vert (opp (nx c)) = vert (pv c) := by unfold tl; rw [K.vp _ hb, nx_nx]
  have hdc : hd vert (opp c) = vert (pv c) := by unfold hd; rw [K.vn _ hc]
  have htc : tl vert (opp c) = vert (nx c) := by unfold tl; rw [K.vp _ hc]
  have s0 := K.simple c hc
  have s1 := K.simple (nx c) hb
  have s2 := K.simple (pv c) ha
  rw [nx_nx] at s1
  rw [nx_pv] at s2
  refine ⟨by simp, fun t ht => by rw [List.mem_singleton.1 ht]; omega, by simp, ?_, ?_, ?_, ?_, ?_, ?_⟩
  · intro S s0 _ t ht
    rw [List.mem_singleton.1 ht]
    exact s0
  · intro X hX
    rw [List.mem_singleton.1 hX]
    simp
  · intro X hX
    rw [List.mem_singleton.1 hX]
    exact ⟨_, _, rfl, by simp [hda, hdb, hta, htb, hdc, htc]⟩
  · intro X hX
    rw [List.mem_singleton.1 hX]
    simp only [List.map_cons, List.map_nil, hda, hdb, hdc]
    simp [s0, s2, Ne.symm s1]
  · have e1 : opp (pv c) ≠ opp (nx c) := opp_ne K ha hb (by unfold nx pv; omega)
    have e2 : opp (pv c) ≠ opp c := opp_ne K ha hc (pv_ne c)
    have e3 : opp (nx c) ≠ opp c := opp_ne K hb hc (nx_ne c)
    simp [e1, e2, e3]
  · intro x
    simp only [List.flatten_cons, List.flatten_nil, List.append_nil, List.mem_cons, List.not_mem_nil, or_false]
    constructor
    · rintro (rfl | rfl | rfl)
      · exact ⟨K.lt _ ha, by rw [List.mem_singleton]; exact fun e => K.apart _ ha (by rw [e, pv_div]), by rw [K.inv _ ha, pv_div]; simp⟩
      · exact ⟨K.lt _ hb, by rw [List.mem_singleton]; exact fun e => K.apart _ hb (by rw [e, nx_div]), by rw [K.inv _ hb, nx_div]; simp⟩
      · exact ⟨K.lt _ hc, by rw [List.mem_singleton]; exact fun e => K.apart _ hc e, by rw [K.inv _ hc]; simp⟩
    · rintro ⟨h1, h2, h3⟩
      rw [List.mem_singleton] at h3
      have : opp x = pv c ∨ opp x = nx c ∨ opp x = c := by unfold nx pv; omega
      rw [← K.inv x h1]
      rcases this with e | e | e <;> rw [e] <;> simp
/-- Where no loop is left, all was gone over. -/
theorem WInv.finish (K : Walks F N opp vert) (h : WInv F opp vert d0 D []) : ∀ t, t < F → t ∈ D := by
  have key : ∀ c, c < 3 * F → ¬ (c / 3 ∉ D ∧ opp c / 3 ∈ D) := fun c hc hn => by
    have := (h.bd c).2 ⟨hc, hn.1, hn.2⟩
    simp at this
  by_cases z : 0 ∈ D
  · refine K.conn (fun t => t ∈ D) z ?_
    intro c hc hm
    refine Classical.byContradiction fun hn => key (opp c) (K.lt c hc) ⟨hn, by rw [K.inv c hc]; exact hm⟩
  · exfalso
    have := K.conn (fun t => t ∉ D) z (fun c hc hm hn => key c hc ⟨hm, hn⟩) d0 (h.dlt _ h.root)
    exact this h.root
theorem WInv.finish_len (K : Walks F N opp vert) (h : WInv F opp vert d0 D []) : D.length = F := by
  have h1 := nodup_le (m := List.range F) h.dnd (fun x hx => List.mem_range.2 (h.dlt x hx))
  have h2 := nodup_le (l := List.range F) (m := D) List.nodup_range (fun x hx => h.finish K x (List.mem_range.1 hx))
  simp at h1 h2
  omega
theorem WInv.len_le {Xs : List (List Nat)} (h : WInv F opp vert d0 D Xs) : D.length ≤ F := by
  have h1 := nodup_le (m := List.range F) h.dnd (fun x hx => List.mem_range.2 (h.dlt x hx))
  simpa using h1
/-- Where a loop is left, not all was gone over. -/
theorem WInv.len_lt {X : List Nat} {W : List (List Nat)} (h : WInv F opp vert d0 D (X :: W)) : D.length < F := by
  have hl := h.len X (List.mem_cons_self ..)
  cases X with
  | nil => simp at hl
  | cons c r =>
    have hb := h.mem (List.mem_cons_self ..) (List.mem_cons_self ..)
    have h1 := nodup_le (l := c / 3 :: D) (m := List.range F) (List.nodup_cons.2 ⟨hb.2.1, h.dnd⟩) (fun x hx => by
      rcases List.mem_cons.1 hx with rfl | hx
      · have := hb.1
        rw [List.mem_range]
        omega
      · exact List.mem_range.2 (h.dlt x hx))
    simp at h1
    omega
/-- Who was come to, one triangle later. -/
theorem come_step (K : Walks F N opp vert) {c0 : Nat} (h0 : Bd F opp D c0) (u : Nat) : Come F vert (c0 / 3 :: D) u ↔ Come F vert D u ∨ u = vert c0 := by
  have hl := h0.1
  constructor
  · rintro ⟨d, h1, h2, rfl⟩
    rcases List.mem_cons.1 h2 with h2 | h2
    · have : d = c0 ∨ d = nx c0 ∨ d = pv c0 := by unfold nx pv; omega
      rcases this with rfl | rfl | rfl
      · exact .inr rfl
      · exact .inl ⟨pv (opp c0), pv_lt (K.lt _ hl), by rw [pv_div]; exact h0.2.2, K.vp _ hl⟩
      · exact .inl ⟨nx (opp c0), nx_lt (K.lt _ hl), by rw [nx_div]; exact h0.2.2, K.vn _ hl⟩
    · exact .inl ⟨d, h1, h2, rfl⟩
  · rintro (⟨d, h1, h2, h3⟩ | rfl)
    · exact ⟨d, h1, List.mem_cons_of_mem _ h2, h3⟩
    · exact ⟨c0, hl, List.mem_cons_self .., rfl⟩
theorem come_start {c : Nat} (hc : c < 3 * F) (u : Nat) : Come F vert [c / 3] u ↔ u = vert c ∨ u = vert (nx c) ∨ u = vert (pv c) := by
  constructor
  · rintro ⟨d, h1, h2, rfl⟩
    rw [List.mem_singleton] at h2
    have : d = c ∨ d = nx c ∨ d = pv c := by unfold nx pv; omega
    rcases this with rfl | rfl | rfl
    · exact .inl rfl
    · exact .inr (.inl rfl)
    · exact .inr (.inr rfl)
  · rintro (rfl | rfl | rfl)
    · exact ⟨c, hc, by simp, rfl⟩
    · exact ⟨nx c, nx_lt hc, by simp [nx_div], rfl⟩
    · exact ⟨pv c, pv_lt hc, by simp [pv_div], rfl⟩
theorem come_all (K : Walks F N opp vert) (h : WInv F opp vert d0 D []) {v : Nat} (hv : v < N) : Come F vert D v := by
  obtain ⟨c, h1, h2⟩ := K.all v hv
  exact ⟨c, h1, h.finish K _ (by omega), h2⟩
end
end Jor
end Go.Proofs.YtghlnknncahkgaaGreat
/-
  The Euler number of a closed surface whose triangles all turn one way is even: rounds of a permutation, split and joined by exchanges.
-/
namespace Go.Proofs.YtghlnknncahkgaaGreat
namespace Jor

def Rot (π : Nat → Nat) (C : List Nat) : Prop := ∃ c r, C = c :: r ∧ C.map π = r ++ [c]
theorem Rot.turn {π : Nat → Nat} {x y : List Nat} (h : Rot π (x ++ y)) : Rot π (y ++ x) := by
  cases y with
  | nil => simpa using h
  | cons d y' =>
    cases x with
    | nil => simpa using h
    | cons c x' =>
      obtain ⟨c', r, e, hm⟩ := h
      simp only [List.cons_append, List.cons.injEq] at e
      obtain ⟨rfl, rfl⟩ := e
      have hm' : (c :: x').map π ++ (d :: y').map π = (x' ++ [d]) ++ (y' ++ [c]) := by
        rw [← List.map_append]
        simpa using hm
      obtain ⟨h1, h2⟩ := List.append_inj hm' (by simp)
      exact ⟨d, y' ++ c :: x', rfl, by rw [List.map_append, h1, h2]; simp⟩
/-- A round whose last one is a. -/
theorem Rot.last {π : Nat → Nat} {C : List Nat} (h : Rot π C) {a : Nat} (ha : a ∈ C) : ∃ p, Rot π (p ++ [a]) ∧ (p ++ [a]).Perm C := by
  obtain ⟨x, y, rfl⟩ := List.append_of_mem ha
  have h' : Rot π ((x ++ [a]) ++ y) := by simpa using h
  refine ⟨y ++ x, by simpa using h'.turn, ?_⟩
  have : (y ++ (x ++ [a])).Perm ((x ++ [a]) ++ y) := List.perm_append_comm
  simpa using this
/-- Two, one behind the other, at b and at a: apart, where the images of a and b are exchanged. -/
def swp2 (π : Nat → Nat) (a b : Nat) : Nat → Nat := fun x => if x = a then π b else if x = b then π a else π x
theorem swp2_off {π : Nat → Nat} {a b : Nat} {l : List Nat} (ha : a ∉ l) (hb : b ∉ l) : l.map (swp2 π a b) = l.map π := by
  refine List.map_congr_left fun x hx => ?_
  unfold swp2
  rw [if_neg (fun e => ha (by rw [← e]; exact hx)), if_neg (fun e => hb (by rw [← e]; exact hx))]
theorem swp2_a (π : Nat → Nat) (a b : Nat) : swp2 π a b a = π b := by simp [swp2]
theorem swp2_b (π : Nat → Nat) (a b : Nat) : swp2 π a b b = π a := by
  unfold swp2
  by_cases e : b = a
  · rw [if_pos e, e]
  · rw [if_neg e, if_pos rfl]
/-- What a list that ends in a is made of. -/
theorem snoc_head (p : List Nat) (a : Nat) : ∃ c r, p ++ [a] = c :: r := by
  cases p with
  | nil => exact ⟨a, [], rfl⟩
  | cons c r => exact ⟨c, r ++ [a], rfl⟩
theorem Rot.snoc {π : Nat → Nat} {p : List Nat} {a c : Nat} {r : List Nat} (e : p ++ [a] = c :: r) : Rot π (p ++ [a]) ↔ p.map π ++ [π a] = r ++ [c] := by
  constructor
  · rintro ⟨c', r', e', h⟩
    rw [e] at e'
    injection e' with e1 e2
    subst e1
    subst e2
    simpa using h
  · intro h
    exact ⟨c, r, e, by simpa using h⟩
theorem Rot.snoc2 {π : Nat → Nat} {p q : List Nat} {a b c d : Nat} {r s : List Nat} (e : p ++ [a] = c :: r) (f : q ++ [b] = d :: s) : Rot π ((p ++ [a]) ++ (q ++ [b])) ↔ p.map π ++ [π a] = r ++ [d] ∧ q.map π ++ [π b] = s ++ [c] := by
  have hr : p.length = r.length := by have := congrArg List.length e; simpa using this
  constructor
  · rintro ⟨c', r', e', h⟩
    rw [e, f] at e'
    simp only [List.cons_append, List.cons.injEq] at e'
    obtain ⟨rfl, rfl⟩ := e'
    have h' : (p.map π ++ [π a]) ++ (q.map π ++ [π b]) = (r ++ [d]) ++ (s ++ [c]) := by simpa using h
    exact List.append_inj h' (by simp [hr])
  · rintro ⟨h1, h2⟩
    refine ⟨c, r ++ d :: s, by rw [e, f]; rfl, ?_⟩
    have : ((p ++ [a]) ++ (q ++ [b])).map π = (p.map π ++ [π a]) ++ (q.map π ++ [π b]) := by simp
    rw [this, h1, h2]
    simp
theorem Rot.split {π : Nat → Nat} {p q : List Nat} {a b : Nat} (hn : ((p ++ [b]) ++ (q ++ [a])).Nodup) (h : Rot π ((p ++ [b]) ++ (q ++ [a]))) : Rot (swp2 π a b) (p ++ [b]) ∧ Rot (swp2 π a b) (q ++ [a]) := by
  obtain ⟨c, r, e⟩ := snoc_head p b
  obtain ⟨d, s, f⟩ := snoc_head q a
  obtain ⟨h1, h2⟩ := (Rot.snoc2 e f).1 h
  simp only [List.nodup_append, List.mem_append, List.mem_singleton, List.append_assoc] at hn
  have u1 : a ∉ p ∧ b ∉ p ∧ a ∉ q ∧ b ∉ q := by grind
  have hp : p.map π = r := (List.append_inj' h1 rfl).1
  have hb : π b = d := by simpa using (List.append_inj' h1 rfl).2
  have hq : q.map π = s := (List.append_inj' h2 rfl).1
  have ha : π a = c := by simpa using (List.append_inj' h2 rfl).2
  refine ⟨(Rot.snoc e).2 ?_, (Rot.snoc f).2 ?_⟩
  · rw [swp2_off u1.1 u1.2.1, swp2_b, hp, ha]
  · rw [swp2_off u1.2.2.1 u1.2.2.2, swp2_a, hq, hb]
theorem Rot.join {π : Nat → Nat} {p q : List Nat} {a b : Nat} (hn : ((p ++ [a]) ++ (q ++ [b])).Nodup) (h : Rot π (p ++ [a])) (h' : Rot π (q ++ [b])) : Rot (swp2 π a b) ((p ++ [a]) ++ (q ++ [b])) := by
  obtain ⟨c, r, e⟩ := snoc_head p a
  obtain ⟨d, s, f⟩ := snoc_head q b
  have h1 := (Rot.snoc e).1 h
  have h2 := (Rot.snoc f).1 h'
  simp only [List.nodup_append, List.mem_append, List.mem_singleton, List.append_assoc] at hn
  have u1 : a ∉ p ∧ b ∉ p ∧ a ∉ q ∧ b ∉ q := by grind
  have hp : p.map π = r := (List.append_inj' h1 rfl).1
  have ha : π a = c := by simpa using (List.append_inj' h1 rfl).2
  have hq : q.map π = s := (List.append_inj' h2 rfl).1
  have hb : π b = d := by simpa using (List.append_inj' h2 rfl).2
  refine (Rot.snoc2 e f).2 ⟨?_, ?_⟩
  · rw [swp2_off u1.1 u1.2.1, swp2_a, hp, hb]
  · rw [swp2_off u1.2.2.1 u1.2.2.2, swp2_b, hq, ha]
theorem Rot.other {π : Nat → Nat} {C : List Nat} {a b : Nat} (ha : a ∉ C) (hb : b ∉ C) (h : Rot π C) : Rot (swp2 π a b) C := by
  obtain ⟨c, r, e, hm⟩ := h
  exact ⟨c, r, e, by rw [swp2_off ha hb]; exact hm⟩
/-- All rounds of a permutation of the first n. -/
structure Rounds (π : Nat → Nat) (n : Nat) (Cs : List (List Nat)) : Prop where
  rot : ∀ C ∈ Cs, Rot π C
  nd : Cs.flatten.Nodup
  all : ∀ x, x ∈ Cs.flatten ↔ x < n
theorem Rounds.perm {π : Nat → Nat} {n : Nat} {Cs Ds : List (List Nat)} (h : Rounds π n Cs) (rot : ∀ C ∈ Ds, Rot π C) (p : Ds.flatten.Perm Cs.flatten) : Rounds π n Ds :=
  ⟨rot, p.nodup_iff.2 h.nd, fun x => (p.mem_iff).trans (h.all x)⟩
theorem flatten_perm {Cs Ds : List (List Nat)} (h : Cs.Perm Ds) : Cs.flatten.Perm Ds.flatten := by
  induction h with
  | nil => exact List.Perm.refl _
  | cons x _ ih => simpa using ih.append_left x
  | swap x y l =>
    simp only [List.flatten_cons, ← List.append_assoc]
    exact List.Perm.append_right _ List.perm_append_comm
  | trans _ _ i1 i2 => exact i1.trans i2
/-- One round ahead, turned so that a is its last one. -/
theorem Rounds.front {π : Nat → Nat} {n : Nat} {Cs : List (List Nat)} (h : Rounds π n Cs) {a : Nat} (ha : a < n) : ∃ p Ds, Rounds π n ((p ++ [a]) :: Ds) ∧ Ds.length + 1 = Cs.length := by
  obtain ⟨C, hC, haC⟩ := List.mem_flatten.1 ((h.all a).2 ha)
  obtain ⟨s, t, rfl⟩ := List.append_of_mem hC
  obtain ⟨p, hp1, hp2⟩ := (h.rot C hC).last haC
  refine ⟨p, s ++ t, h.perm ?_ ?_, by simp; omega⟩
  · intro X hX
    rcases List.mem_cons.1 hX with rfl | hX
    · exact hp1
    · refine h.rot X ?_
      rcases List.mem_append.1 hX with hX | hX
      · exact List.mem_append_left _ hX
      · exact List.mem_append_right _ (List.mem_cons_of_mem _ hX)
  · have p1 : ((p ++ [a]) :: (s ++ t)).flatten.Perm (C :: (s ++ t)).flatten := by
      simp only [List.flatten_cons]
      exact hp2.append_right _
    exact p1.trans (flatten_perm List.perm_middle.symm)
/-- An exchange splits a round, or joins two. -/
theorem Rounds.swap {π : Nat → Nat} {n : Nat} {Cs : List (List Nat)} (h : Rounds π n Cs) {a b : Nat} (ha : a < n) (hb : b < n) (hab : a ≠ b) : ∃ Ds, Rounds (swp2 π a b) n Ds ∧ (Ds.length + Cs.length) % 2 = 1 := by
  obtain ⟨p, Ds, hD, hl⟩ := h.front ha
  have hnd := hD.nd
  rw [List.flatten_cons] at hnd
  by_cases hbp : b ∈ p
  · obtain ⟨x, y, rfl⟩ := List.append_of_mem hbp
    have hr := hD.rot _ (List.mem_cons_self ..)
    have e1 : (x ++ b :: y) ++ [a] = (x ++ [b]) ++ (y ++ [a]) := by simp
    have hn1 : ((x ++ [b]) ++ (y ++ [a])).Nodup := by rw [← e1]; exact (List.nodup_append.1 hnd).1
    rw [e1] at hr
    obtain ⟨s1, s2⟩ := Rot.split hn1 hr
    refine ⟨(x ++ [b]) :: (y ++ [a]) :: Ds, ⟨?_, ?_, ?_⟩, by simp only [List.length_cons]; omega⟩
    · intro X hX
      rcases List.mem_cons.1 hX with rfl | hX
      · exact s1
      · rcases List.mem_cons.1 hX with rfl | hX
        · exact s2
        · have hx : ∀ z ∈ X, z ∉ (x ++ b :: y) ++ [a] := fun z hz hm => (List.nodup_append.1 hnd).2.2 z hm z (List.mem_flatten.2 ⟨X, hX, hz⟩) rfl
          exact Rot.other (fun m => hx a m (by simp)) (fun m => hx b m (by simp)) (hD.rot X (List.mem_cons_of_mem _ hX))
    · simpa using hnd
    · intro z
      rw [← hD.all z]
      simp
  · have hbD : b ∈ Ds.flatten := by
      have := (hD.all b).2 hb
      rw [List.flatten_cons, List.mem_append, List.mem_append, List.mem_singleton] at this
      rcases this with (h1 | h1) | h1
      · exact absurd h1 hbp
      · exact absurd h1.symm hab
      · exact h1
    obtain ⟨C, hC, hbC⟩ := List.mem_flatten.1 hbD
    obtain ⟨s, t, rfl⟩ := List.append_of_mem hC
    obtain ⟨q, hq1, hq2⟩ := (hD.rot C (List.mem_cons_of_mem _ hC)).last hbC
    have pm : (((p ++ [a]) ++ (q ++ [b])) :: (s ++ t)).flatten.Perm ((p ++ [a]) :: (s ++ C :: t)).flatten := by
      simp only [List.flatten_cons, List.append_assoc]
      refine List.Perm.append_left p (List.Perm.append_left [a] ?_)
      have p1 : (q ++ ([b] ++ (s ++ t).flatten)).Perm (C :: (s ++ t)).flatten := by
        rw [List.flatten_cons, ← List.append_assoc]
        exact hq2.append_right _
      exact p1.trans (flatten_perm List.perm_middle.symm)
    have hnd2 : (((p ++ [a]) ++ (q ++ [b])) :: (s ++ t)).flatten.Nodup := pm.nodup_iff.2 hD.nd
    rw [List.flatten_cons] at hnd2
    refine ⟨((p ++ [a]) ++ (q ++ [b])) :: (s ++ t), ⟨?_, by rw [List.flatten_cons]; exact hnd2, fun z => pm.mem_iff.trans (hD.all z)⟩, by simp only [List.length_cons, List.length_append] at hl ⊢; omega⟩
    intro X hX
    rcases List.mem_cons.1 hX with rfl | hX
    · exact Rot.join (List.nodup_append.1 hnd2).1 (hD.rot _ (List.mem_cons_self ..)) hq1
    · have hx : ∀ z ∈ X, z ∉ (p ++ [a]) ++ (q ++ [b]) := fun z hz hm => (List.nodup_append.1 hnd2).2.2 z hm z (List.mem_flatten.2 ⟨X, hX, hz⟩) rfl
      refine Rot.other (fun m => hx a m (by simp)) (fun m => hx b m (by simp)) (hD.rot X (List.mem_cons_of_mem _ ?_))
      rcases List.mem_append.1 hX with hX | hX
      · exact List.mem_append_left _ hX
      · exact List.mem_append_right _ (List.mem_cons_of_mem _ hX)
theorem Rounds.congr {π ρ : Nat → Nat} {n : Nat} {Cs : List (List Nat)} (h : Rounds π n Cs) (e : ∀ x, x < n → ρ x = π x) : Rounds ρ n Cs :=
  ⟨fun C hC => by
    obtain ⟨c, r, e1, hm⟩ := h.rot C hC
    refine ⟨c, r, e1, ?_⟩
    rw [← hm]
    exact List.map_congr_left fun x hx => e x ((h.all x).1 (List.mem_flatten.2 ⟨C, hC, hx⟩)), h.nd, h.all⟩
end Jor
end Go.Proofs.YtghlnknncahkgaaGreat
/-
  The Euler number of a closed surface whose triangles all turn one way is even.
-/
namespace Go.Proofs.YtghlnknncahkgaaGreat
namespace Jor
section
variable {F N : Nat} {opp vert : Nat → Nat}

theorem faces_rounds : ∀ F, Rounds pv (3 * F) ((List.range F).map fun i => [3 * i, 3 * i + 2, 3 * i + 1]) := by
  intro F
  have all : ∀ F x, x ∈ ((List.range F).map fun i => [3 * i, 3 * i + 2, 3 * i + 1]).flatten ↔ x < 3 * F := by
    intro F x
    simp only [List.mem_flatten, List.mem_map, List.mem_range]
    constructor
    · rintro ⟨_, ⟨i, hi, rfl⟩, hx⟩
      simp only [List.mem_cons, List.not_mem_nil, or_false] at hx
      omega
    · intro h
      refine ⟨_, ⟨x / 3, by omega, rfl⟩, ?_⟩
      simp only [List.mem_cons, List.not_mem_nil, or_false]
      omega
  refine ⟨?_, ?_, all F⟩
  · intro C hC
    obtain ⟨i, hi, rfl⟩ := List.mem_map.1 hC
    refine ⟨_, _, rfl, ?_⟩
    simp only [List.map_cons, List.map_nil, List.cons_append, List.nil_append, List.cons.injEq, and_true]
    unfold pv
    omega
  · induction F with
    | zero => simp
    | succ F ih =>
      rw [List.range_succ, List.map_append, List.flatten_append, List.nodup_append]
      refine ⟨ih, by simp, ?_⟩
      intro a ha b hb
      have := (all F a).1 ha
      simp only [List.map_cons, List.map_nil, List.flatten_cons, List.flatten_nil, List.append_nil, List.mem_cons, List.not_mem_nil, or_false] at hb
      omega
/-- Over some edges one goes on across, over the others one turns back in the triangle. -/
noncomputable def halfway (opp : Nat → Nat) (L : List Nat) : Nat → Nat := fun x => if x ∈ both opp L then pv (opp x) else pv x
theorem halfway_rounds (K : Closed F N opp vert) : ∀ L : List Nat, (∀ c ∈ L, c < 3 * F) → (both opp L).Nodup → ∃ Cs, Rounds (halfway opp L) (3 * F) Cs ∧ (Cs.length + F + L.length) % 2 = 0
  | [], _, _ => ⟨_, (faces_rounds F).congr (fun x _ => by simp [halfway, both]), by simp; omega⟩
  | a :: L, hl, hn => by
    have ha := hl a (List.mem_cons_self ..)
    have hb := K.lt a ha
    have e : both opp (a :: L) = a :: (L ++ opp a :: L.map opp) := by simp [both]
    have hp : (a :: (L ++ opp a :: L.map opp)).Perm (a :: opp a :: both opp L) := List.Perm.cons _ List.perm_middle
    rw [e] at hn
    have hn2 := hp.nodup_iff.1 hn
    simp only [List.nodup_cons, List.mem_cons, not_or] at hn2
    obtain ⟨Cs, h1, h2⟩ := halfway_rounds K L (fun c hc => hl c (List.mem_cons_of_mem _ hc)) hn2.2.2
    obtain ⟨Ds, h3, h4⟩ := h1.swap ha hb hn2.1.1
    refine ⟨Ds, h3.congr ?_, by simp only [List.length_cons]; omega⟩
    intro x _
    unfold halfway swp2
    simp only []
    have hm : x ∈ both opp (a :: L) ↔ x = a ∨ x = opp a ∨ x ∈ both opp L := by
      rw [e, hp.mem_iff]
      simp
    by_cases h5 : x = a
    · subst h5
      rw [if_pos (hm.2 (.inl rfl)), if_pos rfl, if_neg hn2.2.1]
    · by_cases h6 : x = opp a
      · subst h6
        rw [if_pos (hm.2 (.inr (.inl rfl))), if_neg h5, if_pos rfl, if_neg hn2.1.2, K.inv a ha]
      · rw [if_neg h5, if_neg h6]
        by_cases h7 : x ∈ both opp L
        · rw [if_pos (hm.2 (.inr (.inr h7))), if_pos h7]
        · rw [if_neg (fun h => by rcases hm.1 h with h | h | h; exact h5 h; exact h6 h; exact h7 h), if_neg h7]
/-- One corner of each edge. -/
def reps (F : Nat) (opp : Nat → Nat) : List Nat := (List.range (3 * F)).filter fun c => decide (c < opp c)
theorem reps_ok (K : Closed F N opp vert) : (∀ c ∈ reps F opp, c < 3 * F) ∧ (both opp (reps F opp)).Nodup ∧ ∀ x, x < 3 * F → x ∈ both opp (reps F opp) := by
  have h1 : ∀ c, c ∈ reps F opp ↔ c < 3 * F ∧ c < opp c := by simp [reps]
  refine ⟨fun c hc => ((h1 c).1 hc).1, ?_, ?_⟩
  · unfold both
    rw [List.nodup_append]
    refine ⟨List.nodup_range.filter _, ?_, ?_⟩
    · refine List.pairwise_map.2 ?_
      refine List.Pairwise.imp_of_mem ?_ (List.nodup_range.filter _ : (reps F opp).Nodup)
      intro a b ha hb hab e
      exact hab (by rw [← K.inv a ((h1 a).1 ha).1, e, K.inv b ((h1 b).1 hb).1])
    · rintro a ha b hb rfl
      obtain ⟨c, hc, rfl⟩ := List.mem_map.1 hb
      have h2 := (h1 _).1 ha
      have h3 := (h1 _).1 hc
      rw [K.inv c h3.1] at h2
      omega
  · intro x hx
    rw [both_mem]
    rcases Nat.lt_trichotomy x (opp x) with h | h | h
    · exact .inl ((h1 x).2 ⟨hx, h⟩)
    · exact absurd (by rw [← h]) (K.apart x hx)
    · exact .inr ⟨opp x, (h1 _).2 ⟨K.lt x hx, by rw [K.inv x hx]; exact h⟩, K.inv x hx⟩
theorem reps_len (K : Closed F N opp vert) : 2 * (reps F opp).length = 3 * F := by
  obtain ⟨h1, h2, h3⟩ := reps_ok K
  have a := nodup_le (m := List.range (3 * F)) h2 (fun x hx => by
    rw [List.mem_range]
    rcases both_mem.1 hx with h | ⟨b, hb, rfl⟩
    · exact h1 x h
    · exact K.lt b (h1 b hb))
  have b := nodup_le (l := List.range (3 * F)) (m := both opp (reps F opp)) List.nodup_range (fun x hx => h3 x (List.mem_range.1 hx))
  rw [both_length] at a b
  simp only [List.length_range] at a b
  omega
theorem one_corner (K : Closed F N opp vert) {c d : Nat} (hc : c < 3 * F) (e : c / 3 = d / 3) (hv : vert c = vert d) : c = d := by
  have h0 := K.simple c hc
  have h1 := K.simple (pv c) (pv_lt hc)
  rw [nx_pv] at h1
  have : d = c ∨ d = nx c ∨ d = pv c := by unfold nx pv; omega
  rcases this with rfl | rfl | rfl
  · rfl
  · exact absurd hv.symm h0
  · exact absurd hv h1
/-- Rounds at vertices are as many as vertices. -/
theorem rounds_verts (K : Closed F N opp vert)
    (ar : ∀ (v : Nat) (S : Nat → Prop), (∃ c, c < 3 * F ∧ vert c = v ∧ S (c / 3)) → (∀ c, c < 3 * F → vert c = v → S (c / 3) → S (opp (nx c) / 3) ∧ S (opp (pv c) / 3)) → ∀ c, c < 3 * F → vert c = v → S (c / 3))
    {Cs : List (List Nat)} (h : Rounds (fun x => pv (opp x)) (3 * F) Cs) : Cs.length = N := by
  have hlt : ∀ C ∈ Cs, ∀ x ∈ C, x < 3 * F := fun C hC x hx => (h.all x).1 (List.mem_flatten.2 ⟨C, hC, hx⟩)
  -- closed under the step, forward and backward
  have fwd : ∀ C ∈ Cs, ∀ x ∈ C, pv (opp x) ∈ C := by
    intro C hC x hx
    obtain ⟨c, r, rfl, hm⟩ := h.rot C hC
    have : pv (opp x) ∈ (c :: r).map (fun x => pv (opp x)) := List.mem_map_of_mem hx
    rw [hm] at this
    simpa [or_comm] using this
  have bwd : ∀ C ∈ Cs, ∀ x, x < 3 * F → pv (opp x) ∈ C → x ∈ C := by
    intro C hC x hx hp
    obtain ⟨c, r, rfl, hm⟩ := h.rot C hC
    have : pv (opp x) ∈ (c :: r).map (fun x => pv (opp x)) := by
      rw [hm]
      simpa [or_comm] using hp
    obtain ⟨y, hy, e⟩ := List.mem_map.1 this
    have hyl := hlt _ hC y hy
    have e2 : opp y = opp x := by rw [← nx_pv (opp y), e, nx_pv]
    rw [← K.inv x hx, ← e2, K.inv y hyl]
    exact hy
  have key : ∀ C ∈ Cs, ∀ x ∈ C, ∀ y, y < 3 * F → vert (pv y) = vert (pv x) → y ∈ C := by
    intro C hC x hx y hy e
    have hS := ar (vert (pv x)) (fun t => ∃ c, c < 3 * F ∧ c / 3 = t ∧ vert c = vert (pv x) ∧ nx c ∈ C)
      ⟨pv x, pv_lt (hlt C hC x hx), rfl, pv x, pv_lt (hlt C hC x hx), rfl, rfl, by rw [nx_pv]; exact hx⟩
      (fun c hc hv hS => by
        obtain ⟨c2, h1, h2, h3, h4⟩ := hS
        have e0 : c2 = c := one_corner K h1 h2 (h3.trans hv.symm)
        subst e0
        have hn := nx_lt hc
        have hp := pv_lt hc
        refine ⟨⟨nx (opp (nx c2)), nx_lt (K.lt _ hn), nx_div _, ?_, ?_⟩, ⟨pv (opp (pv c2)), pv_lt (K.lt _ hp), pv_div _, ?_, ?_⟩⟩
        · rw [K.vn _ hn, pv_nx]
          exact hv
        · rw [nx_nx]
          exact fwd C hC _ h4
        · rw [K.vp _ hp, nx_pv]
          exact hv
        · rw [nx_pv]
          refine bwd C hC _ (K.lt _ hp) ?_
          rw [K.inv _ hp, pv_pv]
          exact h4) (pv y) (pv_lt hy) e
    obtain ⟨c2, h1, h2, h3, h4⟩ := hS
    have e0 : c2 = pv y := one_corner K h1 h2 (h3.trans e.symm)
    subst e0
    rwa [nx_pv] at h4
  -- the vertex of each round
  have hne : ∀ C ∈ Cs, ∃ x, C.head? = some x ∧ x ∈ C := fun C hC => by
    obtain ⟨c, r, rfl, _⟩ := h.rot C hC
    exact ⟨c, rfl, List.mem_cons_self ..⟩
  have vnd : (Cs.map fun C => vert (pv (C.head?.getD 0))).Nodup := by
    have gen : ∀ Ds : List (List Nat), (∀ D ∈ Ds, D ∈ Cs) → Ds.flatten.Nodup → (Ds.map fun C => vert (pv (C.head?.getD 0))).Nodup := by
      intro Ds
      induction Ds with
      | nil => intros; simp
      | cons D r ih =>
        intro hs hn
        rw [List.flatten_cons, List.nodup_append] at hn
        rw [List.map_cons, List.nodup_cons]
        refine ⟨fun hm => ?_, ih (fun D hD => hs D (List.mem_cons_of_mem _ hD)) hn.2.1⟩
        obtain ⟨C, hC, e⟩ := List.mem_map.1 hm
        obtain ⟨x, hx, hxm⟩ := hne C (hs C (List.mem_cons_of_mem _ hC))
        obtain ⟨y, hy, hym⟩ := hne D (hs D (List.mem_cons_self ..))
        rw [hx, hy] at e
        simp only [Option.getD_some] at e
        have hxD := key D (hs D (List.mem_cons_self ..)) y hym x (hlt C (hs C (List.mem_cons_of_mem _ hC)) x hxm) e
        exact hn.2.2 x hxD x (List.mem_flatten.2 ⟨C, hC, hxm⟩) rfl
    exact gen Cs (fun D hD => hD) h.nd
  have a := nodup_le (m := List.range N) vnd (fun v hv => by
    obtain ⟨C, hC, rfl⟩ := List.mem_map.1 hv
    obtain ⟨x, hx, hxm⟩ := hne C hC
    rw [hx, List.mem_range]
    exact K.vlt _ (pv_lt (hlt C hC x hxm)))
  have b := nodup_le (l := List.range N) (m := Cs.map fun C => vert (pv (C.head?.getD 0))) List.nodup_range (fun v hv => by
    obtain ⟨c, hc, hv⟩ := K.all v (List.mem_range.1 hv)
    obtain ⟨C, hC, hm⟩ := List.mem_flatten.1 ((h.all (nx c)).2 (nx_lt hc))
    obtain ⟨x, hx, hxm⟩ := hne C hC
    refine List.mem_map.2 ⟨C, hC, ?_⟩
    rw [hx]
    -- the head has the vertex of all
    have const : ∀ l : List Nat, (∀ y ∈ l, y < 3 * F) → ∀ c0 r, l = c0 :: r → l.map (fun x => pv (opp x)) = r ++ [c0] → ∀ y ∈ l, vert (pv y) = vert (pv c0) := by
      intro l hl c0 r e hm y hy
      have step : ∀ y ∈ l, vert (pv (pv (opp y))) = vert (pv y) := fun y hy => by
        rw [pv_pv]
        exact K.vn y (hl y hy)
      subst e
      have all : ∀ (r : List Nat) (c1 : Nat) (z : List Nat), (c1 :: r).map (fun x => pv (opp x)) = r ++ z → (∀ y ∈ c1 :: r, vert (pv (pv (opp y))) = vert (pv y)) → ∀ y ∈ c1 :: r, vert (pv y) = vert (pv c1) := by
        intro r
        induction r with
        | nil =>
          intro c1 z _ _ y hy
          rw [List.mem_singleton.1 hy]
        | cons d r ih =>
          intro c1 z hm hst y hy
          simp only [List.map_cons, List.cons_append, List.cons.injEq] at hm
          have hd : vert (pv d) = vert (pv c1) := by
            rw [← hm.1]
            exact hst c1 (List.mem_cons_self ..)
          rcases List.mem_cons.1 hy with rfl | hy
          · rfl
          · rw [← hd]
            exact ih d z (by simpa using hm.2) (fun y hy => hst y (List.mem_cons_of_mem _ hy)) y hy
      exact all r c0 [c0] hm step y hy
    obtain ⟨c0, r, rfl, hm2⟩ := h.rot C hC
    simp only [List.head?_cons, Option.some.injEq] at hx
    subst hx
    have := const _ (hlt _ hC) c0 r rfl hm2 (nx c) hm
    rw [pv_nx, hv] at this
    exact this.symm)
  simp only [List.length_map, List.length_range] at a b
  omega
theorem euler_even (K : Closed F N opp vert)
    (ar : ∀ (v : Nat) (S : Nat → Prop), (∃ c, c < 3 * F ∧ vert c = v ∧ S (c / 3)) → (∀ c, c < 3 * F → vert c = v → S (c / 3) → S (opp (nx c) / 3) ∧ S (opp (pv c) / 3)) → ∀ c, c < 3 * F → vert c = v → S (c / 3)) :
    ∃ m, F = 2 * m ∧ (N + m) % 2 = 0 := by
  obtain ⟨h1, h2, h3⟩ := reps_ok K
  have hl := reps_len K
  obtain ⟨Cs, hc, he⟩ := halfway_rounds K _ h1 h2
  have hv := rounds_verts K ar (hc.congr (ρ := fun x => pv (opp x)) (fun x hx => by unfold halfway; rw [if_pos (h3 x hx)]))
  exact ⟨F / 2, by omega, by omega⟩
end
end Jor
end Go.Proofs.YtghlnknncahkgaaGreat
/-
  A closed surface of one part and of Euler number 2 is one that is walked over; its Euler number is even in any case.
-/
namespace Go.Proofs.YtghlnknncahkgaaGreat
open Go.RowKit

def oppN (T : List Tr) (c : Nat) : Nat := (oppI T (c : Int)).toNat
def verN (T : List Tr) (c : Nat) : Nat := (vertN T c).toNat
/-- No edge of the border. -/
def ClosedT (T : List Tr) : Prop := ∀ c : Nat, c < 3 * T.length → 0 ≤ oppI T (c : Int)
theorem ClosedT.opp {T : List Tr} (h : ClosedT T) {c : Nat} (hc : c < 3 * T.length) : oppI T (c : Int) = (oppN T c : Int) := by
  have := h c hc
  unfold oppN
  omega
theorem triAt_get {T : List Tr} {c : Nat} (hc : c < 3 * T.length) : ∃ t, T[c / 3]? = some t ∧ triAt T c = t ∧ t ∈ T := by
  have hk : c / 3 < T.length := by omega
  exact ⟨T[c / 3], List.getElem?_eq_getElem hk, by simp [triAt, List.getElem?_eq_getElem hk], List.getElem_mem _⟩
theorem triAt_nx (T : List Tr) (c : Nat) : triAt T (Jor.nx c) = triAt T c := by unfold triAt; rw [Jor.nx_div]
theorem triAt_pv (T : List Tr) (c : Nat) : triAt T (Jor.pv c) = triAt T c := by unfold triAt; rw [Jor.pv_div]
/-- A triangle's three corners, from any of them on. -/
theorem vert_turn (T : List Tr) (c : Nat) : (vertN T c, vertN T (Jor.nx c), vertN T (Jor.pv c)) = ((triAt T c).1, (triAt T c).2.1, (triAt T c).2.2) ∨ (vertN T c, vertN T (Jor.nx c), vertN T (Jor.pv c)) = ((triAt T c).2.1, (triAt T c).2.2, (triAt T c).1) ∨ (vertN T c, vertN T (Jor.nx c), vertN T (Jor.pv c)) = ((triAt T c).2.2, (triAt T c).1, (triAt T c).2.1) := by
  unfold vertN
  rw [triAt_nx, triAt_pv]
  have m1 : Jor.nx c % 3 = (c + 1) % 3 := by unfold Jor.nx; omega
  have m2 : Jor.pv c % 3 = (c + 2) % 3 := by unfold Jor.pv; omega
  have : c % 3 = 0 ∨ c % 3 = 1 ∨ c % 3 = 2 := by omega
  rcases this with e | e | e
  · exact .inl (by simp [e, m1, m2, show (c + 1) % 3 = 1 from by omega, show (c + 2) % 3 = 2 from by omega])
  · exact .inr (.inl (by simp [e, m1, m2, show (c + 1) % 3 = 2 from by omega, show (c + 2) % 3 = 0 from by omega]))
  · exact .inr (.inr (by simp [e, m1, m2, show (c + 1) % 3 = 0 from by omega, show (c + 2) % 3 = 1 from by omega]))
theorem vert_ne {T : List Tr} (hs : ∀ t ∈ T, simple3 t) {c : Nat} (hc : c < 3 * T.length) : vertN T (Jor.nx c) ≠ vertN T c ∧ vertN T (Jor.pv c) ≠ vertN T c ∧ vertN T (Jor.nx c) ≠ vertN T (Jor.pv c) := by
  obtain ⟨t, _, ht, hm⟩ := triAt_get hc
  obtain ⟨s1, s2, s3⟩ := hs t hm
  have := vert_turn T c
  rw [ht] at this
  simp only [Prod.mk.injEq] at this
  rcases this with ⟨a, b, d⟩ | ⟨a, b, d⟩ | ⟨a, b, d⟩ <;> rw [a, b, d]
  · exact ⟨s1.symm, s3, s2⟩
  · exact ⟨s2.symm, s1, s3⟩
  · exact ⟨s3.symm, s2, s1⟩
theorem vert_has {T : List Tr} {i : Nat} {t : Tr} (ht : T[i]? = some t) {x : Int} : hasV t x ↔ ∃ c, c < 3 * T.length ∧ c / 3 = i ∧ vertN T c = x := by
  have hi := (List.getElem?_eq_some_iff.1 ht).1
  have e0 : triAt T (3 * i) = t := by unfold triAt; rw [show 3 * i / 3 = i from by omega, ht]; rfl
  have e1 : triAt T (3 * i + 1) = t := by unfold triAt; rw [show (3 * i + 1) / 3 = i from by omega, ht]; rfl
  have e2 : triAt T (3 * i + 2) = t := by unfold triAt; rw [show (3 * i + 2) / 3 = i from by omega, ht]; rfl
  have v0 : vertN T (3 * i) = t.1 := by unfold vertN; rw [if_pos (by omega), e0]
  have v1 : vertN T (3 * i + 1) = t.2.1 := by unfold vertN; rw [if_neg (by omega), if_pos (by omega), e1]
  have v2 : vertN T (3 * i + 2) = t.2.2 := by unfold vertN; rw [if_neg (by omega), if_neg (by omega), e2]
  constructor
  · rintro (h | h | h)
    · exact ⟨3 * i, by omega, by omega, by rw [v0, h]⟩
    · exact ⟨3 * i + 1, by omega, by omega, by rw [v1, h]⟩
    · exact ⟨3 * i + 2, by omega, by omega, by rw [v2, h]⟩
  · rintro ⟨c, hc, h3, rfl⟩
    have : c = 3 * i ∨ c = 3 * i + 1 ∨ c = 3 * i + 2 := by omega
    rcases this with rfl | rfl | rfl
    · exact .inl v0
    · exact .inr (.inl v1)
    · exact .inr (.inr v2)
theorem atV_corner {T : List Tr} {v : Int} {i : Nat} : i ∈ atV T v ↔ ∃ c, c < 3 * T.length ∧ c / 3 = i ∧ vertN T c = v := by
  unfold atV
  rw [sieve_mem]
  unfold preT
  rw [List.mem_flatMap]
  constructor
  · rintro ⟨k, hk, hm⟩
    rw [List.mem_range] at hk
    have ht : T[k]? = some T[k] := List.getElem?_eq_getElem hk
    rw [ht] at hm
    simp only [three, Option.getD_some, List.mem_cons, Prod.mk.injEq, List.not_mem_nil, or_false] at hm
    have hik : i = k := by rcases hm with h | h | h <;> exact h.2
    subst hik
    exact (vert_has ht).1 (by rcases hm with h | h | h; exact .inl h.1; exact .inr (.inl h.1); exact .inr (.inr h.1))
  · rintro ⟨c, hc, rfl, hv⟩
    have hk : c / 3 < T.length := by omega
    have ht : T[c / 3]? = some T[c / 3] := List.getElem?_eq_getElem hk
    refine ⟨c / 3, List.mem_range.2 hk, ?_⟩
    rw [ht]
    have := (vert_has ht (x := v)).2 ⟨c, hc, rfl, hv⟩
    simp only [three, Option.getD_some, List.mem_cons, Prod.mk.injEq, List.not_mem_nil, or_false]
    rcases this with h | h | h
    · exact .inl ⟨h, trivial⟩
    · exact .inr (.inl ⟨h, trivial⟩)
    · exact .inr (.inr ⟨h, trivial⟩)
theorem edge_pv (T : List Tr) (c : Nat) : edgeN T (Jor.pv c) = (vertN T c, vertN T (Jor.nx c)) := by unfold edgeN; rw [Jor.nx_pv, Jor.pv_pv]
theorem edge_nx (T : List Tr) (c : Nat) : edgeN T (Jor.nx c) = (vertN T (Jor.pv c), vertN T c) := by unfold edgeN; rw [Jor.nx_nx, Jor.pv_nx]
theorem opp_is {T : List Tr} (hu : (T.flatMap edges3).Nodup) {c d : Nat} (hc : c < 3 * T.length) (hd : d < 3 * T.length) (h : edgeN T d = ((edgeN T c).2, (edgeN T c).1)) : oppN T c = d := by
  unfold oppN oppI
  rw [edgeI_nat hc, ← h, facI_of hu hd]
  rfl
/-- Round a vertex one comes to all its triangles. -/
theorem around {N : Int} {T : List Tr} (hS : Surf N T) {v : Int} (hv : inR N v) (S : Nat → Prop) (h0 : ∃ c, c < 3 * T.length ∧ vertN T c = v ∧ S (c / 3))
    (hs : ∀ c, c < 3 * T.length → vertN T c = v → S (c / 3) → S (oppN T (Jor.nx c) / 3) ∧ S (oppN T (Jor.pv c) / 3)) : ∀ c, c < 3 * T.length → vertN T c = v → S (c / 3) := by
  have hl := hS.pinch v hv
  have cl : ∀ i ∈ atV T v, ∀ k ∈ atV T v, S i → adjV T v i k → S k := by
    intro i hi k hk hSi hadj
    obtain ⟨c, hc, rfl, hcv⟩ := atV_corner.1 hi
    obtain ⟨d, hd, rfl, hdv⟩ := atV_corner.1 hk
    obtain ⟨a, b, x, ha, hb, hx, hax, hbx⟩ := hadj
    obtain ⟨c', hc', e1, hcx⟩ := (vert_has ha).1 hax
    obtain ⟨d', hd', e2, hdx⟩ := (vert_has hb).1 hbx
    have hc3 : c' = Jor.nx c ∨ c' = Jor.pv c := by
      have : c' = c ∨ c' = Jor.nx c ∨ c' = Jor.pv c := by unfold Jor.nx Jor.pv; omega
      rcases this with rfl | h
      · exact absurd (hcx.symm.trans hcv) hx
      · exact h
    have hd3 : d' = Jor.nx d ∨ d' = Jor.pv d := by
      have : d' = d ∨ d' = Jor.nx d ∨ d' = Jor.pv d := by unfold Jor.nx Jor.pv; omega
      rcases this with rfl | h
      · exact absurd (hdx.symm.trans hdv) hx
      · exact h
    have hst := hs c hc hcv hSi
    have hpc : Jor.pv c < 3 * T.length := Jor.pv_lt hc
    have hnc : Jor.nx c < 3 * T.length := Jor.nx_lt hc
    have hpd : Jor.pv d < 3 * T.length := Jor.pv_lt hd
    have hnd : Jor.nx d < 3 * T.length := Jor.nx_lt hd
    rcases hc3 with rfl | rfl
    · rcases hd3 with rfl | rfl
      · have e := edge_inj hS.twice hpc hpd (by rw [edge_pv, edge_pv, hcv, hdv, hcx, hdx])
        have : c / 3 = d / 3 := by rw [← Jor.pv_div c, e, Jor.pv_div]
        rw [← this]
        exact hSi
      · have e := opp_is hS.twice hpc hnd (by rw [edge_pv, edge_nx, hcv, hdv, hcx, hdx])
        rw [← Jor.nx_div d, ← e]
        exact hst.2
    · rcases hd3 with rfl | rfl
      · have e := opp_is hS.twice hnc hpd (by rw [edge_pv, edge_nx, hcv, hdv, hcx, hdx])
        rw [← Jor.pv_div d, ← e]
        exact hst.1
      · have e := edge_inj hS.twice hnc hnd (by rw [edge_nx, edge_nx, hcv, hdv, hcx, hdx])
        have : c / 3 = d / 3 := by rw [← Jor.nx_div c, e, Jor.nx_div]
        rw [← this]
        exact hSi
  have sym : ∀ i k, adjV T v i k → adjV T v k i := fun i k ⟨a, b, x, h1, h2, h3, h4, h5⟩ => ⟨b, a, x, h2, h1, h3, h5, h4⟩
  obtain ⟨c0, hc0, hv0, hS0⟩ := h0
  have hm0 : c0 / 3 ∈ atV T v := atV_corner.2 ⟨c0, hc0, rfl, hv0⟩
  intro c hc hcv
  have hm : c / 3 ∈ atV T v := atV_corner.2 ⟨c, hc, rfl, hcv⟩
  cases hh : (atV T v).head? with
  | none =>
    rw [List.head?_eq_none_iff] at hh
    rw [hh] at hm
    cases hm
  | some i0 =>
    by_cases hi : S i0
    · exact hl S (fun i e => by rw [hh] at e; cases e; exact hi) (fun i hi k hk h1 h2 => cl i hi k hk h1 h2) _ hm
    · exfalso
      exact hl (fun k => ¬ S k) (fun i e => by rw [hh] at e; cases e; exact hi) (fun i hi k hk h1 h2 h3 => h1 (cl k hk i hi h3 (sym _ _ h2))) _ hm0 hS0
theorem vert_rng {N : Int} {T : List Tr} (hS : Surf N T) {c : Nat} (hc : c < 3 * T.length) : 0 ≤ vertN T c ∧ vertN T c < N :=
  vertN_in (fun t ht => by
    obtain ⟨⟨a, b⟩, ⟨d, e⟩, f, g⟩ := hS.inr t ht
    exact ⟨a, b, d, e, f, g⟩) hc
theorem verN_eq {N : Int} {T : List Tr} (hS : Surf N T) {c d : Nat} (hc : c < 3 * T.length) (hd : d < 3 * T.length) : verN T c = verN T d ↔ vertN T c = vertN T d := by
  have h1 := (vert_rng hS hc).1
  have h2 := (vert_rng hS hd).1
  unfold verN
  omega
theorem closed_of {N : Int} {T : List Tr} (hS : Surf N T) (hc : ClosedT T) (hconn : ∀ S : Nat → Prop, S 0 → (∀ c, c < 3 * T.length → S (c / 3) → S (oppN T c / 3)) → ∀ t, t < T.length → S t) : Jor.Closed T.length N.toNat (oppN T) (verN T) where
  lt := fun c h => (opp_some h (hc.opp h)).1
  inv := fun c h => by
    have h1 := opp_back hS.twice h (hc.opp h)
    unfold oppN at h1 ⊢
    rw [h1]
    rfl
  apart := fun c h e => by
    obtain ⟨h1, h2⟩ := opp_some h (hc.opp h)
    have hv := vert_ne hS.simple h
    have : oppN T c = c ∨ oppN T c = Jor.nx c ∨ oppN T c = Jor.pv c := by unfold Jor.nx Jor.pv; omega
    rcases this with e | e | e
    · rw [e] at h2
      unfold edgeN at h2
      simp only [Prod.mk.injEq] at h2
      exact hv.2.2 h2.1
    · rw [e, edge_nx] at h2
      unfold edgeN at h2
      simp only [Prod.mk.injEq] at h2
      exact hv.1 h2.2.symm
    · rw [e, edge_pv] at h2
      unfold edgeN at h2
      simp only [Prod.mk.injEq] at h2
      exact hv.2.1 h2.1.symm
  vn := fun c h => by
    obtain ⟨_, h2⟩ := opp_some h (hc.opp h)
    have := congrArg Prod.fst h2
    simp only [edgeN] at this
    unfold verN
    rw [this]
  vp := fun c h => by
    obtain ⟨_, h2⟩ := opp_some h (hc.opp h)
    have := congrArg Prod.snd h2
    simp only [edgeN] at this
    unfold verN
    rw [this]
  simple := fun c h e => (vert_ne hS.simple h).1 ((verN_eq hS (Jor.nx_lt h) h).1 e)
  vlt := fun c h => by
    have := vert_rng hS h
    unfold verN
    omega
  all := fun v hv => by
    have hm := hS.lonely (v : Int) ⟨by omega, by omega⟩
    unfold flatT at hm
    obtain ⟨t, ht, hx⟩ := List.mem_flatMap.1 hm
    obtain ⟨i, hi, hit⟩ := List.getElem_of_mem ht
    have hti : T[i]? = some t := by rw [List.getElem?_eq_getElem hi, hit]
    simp only [List.mem_cons, List.not_mem_nil, or_false] at hx
    obtain ⟨c, h1, _, h3⟩ := (vert_has hti (x := (v : Int))).1 hx
    exact ⟨c, h1, by unfold verN; rw [h3]; rfl⟩
  conn := hconn
theorem ar_of {N : Int} {T : List Tr} (hS : Surf N T) (v : Nat) (S : Nat → Prop) (h0 : ∃ c, c < 3 * T.length ∧ verN T c = v ∧ S (c / 3)) (hs : ∀ c, c < 3 * T.length → verN T c = v → S (c / 3) → S (oppN T (Jor.nx c) / 3) ∧ S (oppN T (Jor.pv c) / 3)) : ∀ c, c < 3 * T.length → verN T c = v → S (c / 3) := by
  obtain ⟨c0, hc0, hv0, hS0⟩ := h0
  have key : ∀ c, c < 3 * T.length → (verN T c = v ↔ vertN T c = vertN T c0) := fun c hc => by
    rw [← hv0]
    exact verN_eq hS hc hc0
  intro c hc hv
  exact around hS (v := vertN T c0) (vert_rng hS hc0) S ⟨c0, hc0, rfl, hS0⟩ (fun d hd hdv => hs d hd ((key d hd).2 hdv)) c hc ((key c hc).1 hv)
theorem walks_of {N : Int} {T : List Tr} (hS : Surf N T) (hc : ClosedT T) (hconn : ∀ S : Nat → Prop, S 0 → (∀ c, c < 3 * T.length → S (c / 3) → S (oppN T c / 3)) → ∀ t, t < T.length → S t) (hT : 0 < T.length) (hE : 2 * N = T.length + 4) : Jor.Walks T.length N.toNat (oppN T) (verN T) where
  toClosed := closed_of hS hc hconn
  euler := by omega
  pos := hT
  ei := fun c d h1 h2 e1 e2 => edge_inj hS.twice h1 h2 (by
    unfold edgeN
    rw [(verN_eq hS (Jor.nx_lt h1) (Jor.nx_lt h2)).1 e1, (verN_eq hS (Jor.pv_lt h1) (Jor.pv_lt h2)).1 e2])
  ar := ar_of hS
theorem even_of {N : Int} {T : List Tr} (hS : Surf N T) (hc : ClosedT T) (hconn : ∀ S : Nat → Prop, S 0 → (∀ c, c < 3 * T.length → S (c / 3) → S (oppN T c / 3)) → ∀ t, t < T.length → S t) : ∃ m : Nat, T.length = 2 * m ∧ (N.toNat + m) % 2 = 0 :=
  Jor.euler_even (closed_of hS hc hconn) (ar_of hS)
/-- One part alone. -/
theorem conn_of {T : List Tr} {out : List Int} (h : Shl T out) (hc : ClosedT T) (h0 : ∀ j, j < T.length → at_ out j = 0) (S : Nat → Prop) (s0 : S 0) (hs : ∀ c, c < 3 * T.length → S (c / 3) → S (oppN T c / 3)) : ∀ t, t < T.length → S t := by
  intro t
  induction t using Nat.strongRecOn with
  | ind t ih =>
    intro ht
    rcases h.new t ht with ⟨i, hi, _, hr⟩ | ⟨h1, _⟩
    · exact hr S (ih i hi (by omega)) (fun c o hcl ho hSc => by
        have := hs c hcl hSc
        rw [hc.opp hcl] at ho
        rwa [show oppN T c = o from by omega] at this)
    · by_cases e : t = 0
      · rw [e]
        exact s0
      · have := h1 0 (by omega)
        rw [h0 0 (by omega), h0 t ht] at this
        omega
end Go.Proofs.YtghlnknncahkgaaGreat
/-
  A walk's steps on numbers: what the loop, the loops that wait and the vertices come to become.
-/
namespace Go.Proofs.YtghlnknncahkgaaGreat
open Go.RowKit

structure WSt where
  come : List Int
  loop : List Int
  wait : List (List Int)
structure WStep where
  letter : Int
  corner : Int
  loops : Nat
  length : Nat
/-- One step; none: there is no sense in it. -/
def stepM (T : List Tr) (s : WSt) : Option (WStep × WSt) :=
  match s.loop with
  | a :: b :: r =>
    if facI T (a, b) < 0 then none
    else if vertI T (facI T (a, b)) ∉ s.come then some (⟨67, facI T (a, b), s.wait.length, r.length + 2⟩, ⟨s.come ++ [vertI T (facI T (a, b))], a :: vertI T (facI T (a, b)) :: b :: r, s.wait⟩)
    else if r.length = 1 then some (⟨69, facI T (a, b), s.wait.length, r.length + 2⟩, ⟨s.come, s.wait.getLast?.getD [], s.wait.dropLast⟩)
    else if Lib.idxOf (a :: b :: r) (vertI T (facI T (a, b))) = r.length + 1 then some (⟨76, facI T (a, b), s.wait.length, r.length + 2⟩, ⟨s.come, vertI T (facI T (a, b)) :: (b :: r).dropLast, s.wait⟩)
    else if Lib.idxOf (a :: b :: r) (vertI T (facI T (a, b))) = 2 then some (⟨82, facI T (a, b), s.wait.length, r.length + 2⟩, ⟨s.come, a :: r, s.wait⟩)
    else if 2 < Lib.idxOf (a :: b :: r) (vertI T (facI T (a, b))) then some (⟨83, facI T (a, b), s.wait.length, r.length + 2⟩, ⟨s.come, a :: (a :: b :: r).drop (Lib.idxOf (a :: b :: r) (vertI T (facI T (a, b)))).toNat, s.wait ++ [vertI T (facI T (a, b)) :: (b :: r).take ((Lib.idxOf (a :: b :: r) (vertI T (facI T (a, b)))).toNat - 1)]⟩)
    else none
  | _ => none
def hdI (T : List Tr) (c : Nat) : Int := vertN T (Jor.nx c)
/-- The numbers are those of the corners. -/
structure WRel (T : List Tr) (D : List Nat) (Xs : List (List Nat)) (s : WSt) : Prop where
  come : ∀ c, c < 3 * T.length → (vertN T c ∈ s.come ↔ Jor.Come T.length (verN T) D (verN T c))
  nd : s.come.Nodup
  rng : ∀ v ∈ s.come, ∃ c, c < 3 * T.length ∧ vertN T c = v
  loop : s.loop = (Xs.headD []).map (hdI T)
  wait : s.wait = (Xs.tail.map fun X => X.map (hdI T)).reverse
theorem idxOf_at {l m : List Int} {v : Int} (h : v ∉ l) : Lib.idxOf (l ++ v :: m) v = l.length := by
  have := Lib.idxOf_hit (l ++ v :: m) (l ++ v :: m).length l.length v (by simp) (Nat.le_refl _) (by simp [List.getD]) (fun j hj e => h (by
    have : (l ++ v :: m).getD j 0 = l[j] := by simp [List.getD, List.getElem?_append_left hj, List.getElem?_eq_getElem hj]
    rw [this] at e
    rw [← e]
    exact List.getElem_mem _))
  rwa [List.take_length] at this
variable {N : Int} {T : List Tr} {d0 : Nat} {D : List Nat}
theorem hdI_opp (hc : ClosedT T) {c : Nat} (h : c < 3 * T.length) : hdI T (oppN T c) = vertN T (Jor.pv c) := by
  obtain ⟨_, h2⟩ := opp_some h (hc.opp h)
  have := congrArg Prod.fst h2
  simpa [edgeN, hdI] using this
theorem stepM_ok (hS : Surf N T) (hc : ClosedT T) (K : Jor.Walks T.length N.toNat (oppN T) (verN T)) {c0 : Nat} {r : List Nat} {W : List (List Nat)} {s : WSt}
    (h : Jor.WInv T.length (oppN T) (verN T) d0 D ((c0 :: r) :: W)) (R : WRel T D ((c0 :: r) :: W) s) :
    ∃ l s' Xs', stepM T s = some (⟨l, (c0 : Int), W.length, r.length + 1⟩, s') ∧ Jor.WInv T.length (oppN T) (verN T) d0 (c0 / 3 :: D) Xs' ∧ WRel T (c0 / 3 :: D) Xs' s' ∧
      ((l = 67 ∧ s'.come = s.come ++ [vertN T c0] ∧ Xs'.length = W.length + 1 ∧ s'.loop.length = r.length + 2) ∨ (l = 69 ∧ s'.come = s.come ∧ Xs'.length = W.length ∧ r.length = 2) ∨ ((l = 76 ∨ l = 82) ∧ s'.come = s.come ∧ Xs'.length = W.length + 1 ∧ s'.loop.length = r.length) ∨ (l = 83 ∧ s'.come = s.come ∧ Xs'.length = W.length + 2)) := by
  have hX : (c0 :: r) ∈ (c0 :: r) :: W := List.mem_cons_self ..
  have h0 : Jor.Bd T.length (oppN T) D c0 := h.mem hX (List.mem_cons_self ..)
  have hl0 := h0.1
  have ha : Jor.pv c0 < 3 * T.length := Jor.pv_lt hl0
  have hb : Jor.nx c0 < 3 * T.length := Jor.nx_lt hl0
  have hlen := h.len _ hX
  obtain ⟨b, r', rfl⟩ : ∃ b r', r = b :: r' := List.exists_cons_of_ne_nil (by rintro rfl; simp at hlen)
  have hbm : b ∈ c0 :: b :: r' := by simp
  have hbl := (h.mem hX hbm).1
  have e1 : vertN T (Jor.pv c0) = hdI T b := by
    obtain ⟨c', r'', e', hcyc⟩ := h.cyc _ hX
    cases e'
    simp only [List.map_cons, List.cons_append, List.cons.injEq] at hcyc
    exact (verN_eq hS ha (Jor.nx_lt hbl)).1 hcyc.1
  have hloop : s.loop = hdI T c0 :: hdI T b :: r'.map (hdI T) := R.loop
  have hwl : s.wait.length = W.length := by rw [R.wait]; simp
  have hfac : facI T (hdI T c0, hdI T b) = (c0 : Int) := by
    rw [← e1]
    exact facI_of hS.twice hl0
  have hv : vertI T (c0 : Int) = vertN T c0 := vertI_nat hl0
  have hrl : (r'.map (hdI T)).length = r'.length := by simp
  have hcs := Jor.come_step K h0
  have hoa : hdI T (oppN T (Jor.pv c0)) = hdI T c0 := by rw [hdI_opp hc ha, Jor.pv_pv]; rfl
  have hob : hdI T (oppN T (Jor.nx c0)) = vertN T c0 := by rw [hdI_opp hc hb, Jor.pv_nx]
  rcases h.next K with ⟨hn, hI⟩ | ⟨hcm, r1, e, r2, hr, hev, hr1, hI⟩
  · have hnv : vertN T c0 ∉ s.come := fun hm => hn ((R.come c0 hl0).1 hm)
    refine ⟨67, ⟨s.come ++ [vertN T c0], hdI T c0 :: vertN T c0 :: hdI T b :: r'.map (hdI T), s.wait⟩, _, ?_, hI, ⟨?_, ?_, ?_, ?_, ?_⟩, .inl ⟨rfl, rfl, by simp, by simp⟩⟩
    · unfold stepM
      rw [hloop]
      simp only [hfac, hv]
      rw [if_neg (by omega), if_pos hnv, hwl, hrl]
      rfl
    · intro c hcl
      rw [hcs, ← R.come c hcl, List.mem_append, List.mem_singleton, verN_eq hS hcl hl0]
    · rw [List.nodup_append]
      exact ⟨R.nd, by simp, fun a ha b hb e => by rw [List.mem_singleton.1 hb] at e; exact hnv (by rw [← e]; exact ha)⟩
    · intro v hvm
      rcases List.mem_append.1 hvm with hvm | hvm
      · exact R.rng v hvm
      · rw [List.mem_singleton.1 hvm]
        exact ⟨c0, hl0, rfl⟩
    · simp [hoa, hob]
    · exact R.wait
  · have hvm : vertN T c0 ∈ s.come := (R.come c0 hl0).2 hcm
    have hem : e ∈ c0 :: b :: r' := by rw [hr]; simp
    have hel := (h.mem hX hem).1
    have hev' : hdI T e = vertN T c0 := (verN_eq hS (Jor.nx_lt hel) hl0).1 hev
    have hcome : ∀ c, c < 3 * T.length → (vertN T c ∈ s.come ↔ Jor.Come T.length (verN T) (c0 / 3 :: D) (verN T c)) := by
      intro c hcl
      rw [hcs, ← R.come c hcl, verN_eq hS hcl hl0]
      exact ⟨.inl, fun h => by rcases h with h | h; exact h; rw [h]; exact hvm⟩
    have hvl : hdI T b :: r'.map (hdI T) = r1.map (hdI T) ++ vertN T c0 :: r2.map (hdI T) := by
      rw [← hev', ← List.map_cons, ← List.map_cons, ← List.map_append, hr]
    have hnot : vertN T c0 ∉ hdI T c0 :: r1.map (hdI T) := by
      have hnd := h.vnd _ hX
      rw [hr] at hnd
      intro hm
      rcases List.mem_cons.1 hm with hm | hm
      · exact (vert_ne hS.simple hl0).1 hm.symm
      · obtain ⟨x, hx, hxe⟩ := List.mem_map.1 hm
        have hxm : x ∈ c0 :: b :: r' := by rw [hr]; simp [hx]
        have e2 : Jor.hd (verN T) x = Jor.hd (verN T) e := by
          rw [hev]
          exact (verN_eq hS (Jor.nx_lt (h.mem hX hxm).1) hl0).2 hxe
        simp only [List.map_cons, List.map_append, List.nodup_cons, List.nodup_append, List.mem_cons] at hnd
        exact hnd.2.2.2 _ (List.mem_map_of_mem hx) _ (.inl rfl) e2
    have hidx : Lib.idxOf (hdI T c0 :: hdI T b :: r'.map (hdI T)) (vertN T c0) = r1.length + 1 := by
      rw [hvl, ← List.cons_append, idxOf_at hnot]
      simp
    have hlr : r'.length + 1 = r1.length + r2.length + 1 := by
      have := congrArg List.length hr
      simp only [List.length_cons, List.length_append] at this
      omega
    have h1pos : 0 < r1.length := List.length_pos_iff.2 hr1
    have hl3 : 3 ≤ r'.length + 2 := by simpa using hlen
    by_cases z1 : r1.length = 1
    · by_cases z2 : r2 = []
      · have hz2 : r2.length = 0 := by rw [z2]; rfl
        unfold Jor.parted at hI
        rw [if_pos z1, if_pos z2] at hI
        refine ⟨69, ⟨s.come, s.wait.getLast?.getD [], s.wait.dropLast⟩, W, ?_, hI, ⟨hcome, R.nd, R.rng, ?_, ?_⟩, .inr (.inl ⟨rfl, rfl, rfl, by simp only [List.length_cons]; omega⟩)⟩
        · unfold stepM
          rw [hloop]
          simp only [hfac, hv]
          rw [if_neg (by omega), if_neg (by simpa using hvm), if_pos (by rw [hrl]; omega), hwl, hrl]
          rfl
        · rw [R.wait]
          cases W <;> simp
        · rw [R.wait]
          cases W <;> simp
      · have hz2 := List.length_pos_iff.2 z2
        unfold Jor.parted at hI
        rw [if_pos z1, if_neg z2] at hI
        refine ⟨82, ⟨s.come, hdI T c0 :: r'.map (hdI T), s.wait⟩, _, ?_, hI, ⟨hcome, R.nd, R.rng, ?_, R.wait⟩, .inr (.inr (.inl ⟨.inr rfl, rfl, by simp, by simp⟩))⟩
        · unfold stepM
          rw [hloop]
          simp only [hfac, hv]
          rw [if_neg (by omega), if_neg (by simpa using hvm), if_neg (by rw [hrl]; omega), hidx, if_neg (by rw [hrl]; omega), if_pos (by omega), hwl, hrl]
          rfl
        · obtain ⟨x, hx⟩ : ∃ x, r1 = [x] := List.length_eq_one_iff.1 z1
          subst hx
          simp only [List.map_cons, List.map_nil, List.cons_append, List.nil_append, List.cons.injEq] at hvl
          simp [hoa, hev', hvl.2]
    · by_cases z2 : r2 = []
      · have hz2 : r2.length = 0 := by rw [z2]; rfl
        unfold Jor.parted at hI
        rw [if_neg z1, if_pos z2] at hI
        refine ⟨76, ⟨s.come, vertN T c0 :: (hdI T b :: r'.map (hdI T)).dropLast, s.wait⟩, _, ?_, hI, ⟨hcome, R.nd, R.rng, ?_, R.wait⟩, .inr (.inr (.inl ⟨.inl rfl, rfl, by simp, by simp⟩))⟩
        · unfold stepM
          rw [hloop]
          simp only [hfac, hv]
          rw [if_neg (by omega), if_neg (by simpa using hvm), if_neg (by rw [hrl]; omega), hidx, if_pos (by rw [hrl]; omega), hwl, hrl]
          rfl
        · rw [hvl, z2]
          simp [hob]
      · have hz2 := List.length_pos_iff.2 z2
        unfold Jor.parted at hI
        rw [if_neg z1, if_neg z2] at hI
        refine ⟨83, ⟨s.come, hdI T c0 :: (hdI T c0 :: hdI T b :: r'.map (hdI T)).drop ((r1.length : Int) + 1).toNat, s.wait ++ [vertN T c0 :: (hdI T b :: r'.map (hdI T)).take (((r1.length : Int) + 1).toNat - 1)]⟩, _, ?_, hI, ⟨hcome, R.nd, R.rng, ?_, ?_⟩, .inr (.inr (.inr ⟨rfl, rfl, by simp⟩))⟩
        · unfold stepM
          rw [hloop]
          simp only [hfac, hv]
          rw [if_neg (by omega), if_neg (by simpa using hvm), if_neg (by rw [hrl]; omega), hidx, if_neg (by rw [hrl]; omega), if_neg (by omega), if_pos (by omega), hwl, hrl]
          rfl
        · have e3 : ((r1.length : Int) + 1).toNat = r1.length + 1 := by omega
          rw [e3, List.drop_succ_cons, hvl, List.drop_append_of_le_length (by simp), show r1.length = (r1.map (hdI T)).length from by simp, List.drop_length]
          simp [hoa, hev']
        · have e3 : ((r1.length : Int) + 1).toNat - 1 = r1.length := by omega
          rw [e3, hvl, List.take_append_of_le_length (by simp), show r1.length = (r1.map (hdI T)).length from by simp, List.take_length, R.wait]
          simp [hob]
end Go.Proofs.YtghlnknncahkgaaGreat
/-
  slices.Insert of one number at place 1 of a row of the call's own.
-/
namespace Go.Proofs.YtghlnknncahkgaaGreat
open Go.RowKit

def insRen : Go.Shelf.Ren := ⟨fun | 21 => 86 | 27 => 111 | 28 => 112 | 35 => 129 | 39 => 147 | n => n, fun | 22 => 28 | 3 => 3 | 4 => 4 | n => n, fun | n => n⟩
theorem infoInt9 : (Tryz.prog.info? 3).map (fun i => (i.zero, i.size, i.bytes)) = some (some (.int .i64 0), 1, 8) := by kernel_rfl
theorem insLays : Go.Proofs.Lays2.n21 Tryz.prog insRen := {
  mixed := by kernel_rfl
  f21 := Tryz.func86.trans (congrArg some (by kernel_rfl))
  f27 := Tryz.func111.trans (congrArg some (by kernel_rfl))
  f28 := Tryz.func112.trans (congrArg some (by kernel_rfl))
  f35 := Tryz.func129.trans (congrArg some (by kernel_rfl))
  f39 := Tryz.func147.trans (congrArg some (by kernel_rfl))
  t0 := Tryz.underlying0
  a0 := Tryz.isAgg0
  z0 := Tryz.sizeOf0
  v0 := Tryz.zeroValue0
  t3 := Tryz.underlying3
  a3 := Tryz.isAgg3
  z3 := Tryz.sizeOf3
  v3 := Tryz.zeroValue3
  t4 := Tryz.underlying4
  a4 := Tryz.isAgg4
  z4 := Tryz.sizeOf4
  v4 := Tryz.zeroValue4
  t22 := Tryz.underlying28
  a22 := Tryz.isAgg28
  z22 := Tryz.sizeOf28
  v22 := Tryz.zeroValue28
  i3 := infoInt9 }

/-! Cells stored one behind the other. -/
theorem setCells_row {g : Nat} {t : TypeId} {fr : Nat × Nat} : ∀ (vs : List Value) (o : Nat) (w : World) (C : List Value), w.heap[g]? = some (.cells C.toArray t fr) → o + vs.length ≤ C.length → (w.setCells g o vs).heap[g]? = some (.cells (C.take o ++ vs ++ C.drop (o + vs.length)).toArray t fr)
  | [], o, w, C, h, _ => by
    rw [World.setCells, h]
    simp
  | v :: vs, o, w, C, h, hl => by
    rw [World.setCells]
    simp only [List.length_cons] at hl
    have h1 : (w.setCell ⟨g, o, none⟩ v).heap[g]? = some (.cells (C.set o v).toArray t fr) := by
      simp [World.setCell, Array.getElem?_modify, h]
    rw [setCells_row vs (o + 1) _ _ h1 (by simp; omega)]
    have e1 : (C.set o v).take (o + 1) = C.take o ++ [v] := by
      rw [List.take_succ_eq_append_getElem (by simp; omega), List.take_set, List.set_eq_of_length_le (by rw [List.length_take]; omega)]
      simp
    have e2 : (C.set o v).drop (o + 1 + vs.length) = C.drop (o + (v :: vs).length) := by
      rw [List.drop_set_of_lt (by omega)]
      congr 1
      simp only [List.length_cons]
      omega
    rw [e1, e2]
    simp
theorem setCells_row2 {g : Nat} {t : TypeId} {fr : Nat × Nat} (vs us : List Value) (o p : Nat) (w : World) (C : List Value) (h : w.heap[g]? = some (.cells C.toArray t fr)) (h1 : o + vs.length ≤ C.length) (h2 : p + us.length ≤ C.length) :
    ((w.setCells g o vs).drew.setCells g p us).heap[g]? = some (.cells ((C.take o ++ vs ++ C.drop (o + vs.length)).take p ++ us ++ (C.take o ++ vs ++ C.drop (o + vs.length)).drop (p + us.length)).toArray t fr) :=
  setCells_row us p (w.setCells g o vs).drew (C.take o ++ vs ++ C.drop (o + vs.length)) (setCells_row vs o w C h h1) (by simp only [List.length_append, List.length_take, List.length_drop]; omega)
theorem gSets {w : World} {row : Option Nat} {g : Nat} (hp : row = some g ∨ w.heap.size ≤ g) : ∀ (vs : List Value) (o : Nat) (a : World), w.grownBy a row → w.grownBy (a.setCells g o vs) row
  | [], _, _, h => h
  | v :: vs, o, a, h => by
    rw [World.setCells]
    exact gSets hp vs (o + 1) _ (gSt h hp)
theorem setCells_size (g : Nat) : ∀ (vs : List Value) (o : Nat) (w : World), (w.setCells g o vs).heap.size = w.heap.size
  | [], _, _ => rfl
  | v :: vs, o, w => by
    rw [World.setCells, setCells_size g vs]
    simp [World.setCell]
set_option maxRecDepth 100000 in
theorem insert_any (base b : Nat) (vL : Value) (a v : Int) (l : List Int) (w : World) (h : w.ownsRow base 3 1 vL (l.length + 1) ((a :: l).map (Value.int .i64))) (hl : 0 < l.length) (hlen : l.length ≤ 100000) (hb : Blk w b 3 #[.int .i64 v]) (hne : vL.ownBlock ≠ some b) (hbase : base ≤ w.heap.size) :
    Calls Tryz.prog 86 #[vL, .int .i64 1, .slice (some ⟨b, 0, none⟩) 1 1] w fun e w' => ∃ v', e = .returned v' ∧ w'.ownsRow base 3 1 v' (l.length + 2) ((a :: v :: l).map (Value.int .i64)) ∧ w.grownBy w' vL.ownBlock ∧ (v'.ownBlock = vL.ownBlock ∨ ∃ g, v'.ownBlock = some g ∧ w.heap.size ≤ g) := by
  rcases h.2 with ⟨_, e0⟩ | ⟨g, cap, cur, rfl, hg0, hg, hn, hcm, hcs, hct⟩
  · omega
  have hgb : b ≠ g := fun e => hne (by rw [e]; rfl)
  have hgl : g < w.heap.size := (Array.getElem?_eq_some_iff.1 hg).1
  obtain ⟨C⟩ := cur
  simp only [Nat.mul_one, List.size_toArray] at hcs hct
  have hC : C.take (l.length + 1) = (a :: l).map (Value.int .i64) := by simpa using hct
  have hcell : ∀ j u, ((a :: l).map (Value.int .i64))[j]? = some u → w.cell? ⟨g, 0 + j, none⟩ = some u := by
    intro j u hj
    rw [Nat.zero_add, cell_of_row w g j _ _ _ hg]
    rw [← hC] at hj
    have hj2 := (List.getElem?_eq_some_iff.1 hj).1
    rw [List.length_take] at hj2
    rw [List.getElem?_take_of_lt (by omega)] at hj
    simpa using hj
  have hv : ∀ j u, [Value.int .i64 v][j]? = some u → w.cell? ⟨b, 0 + j, none⟩ = some u := by
    intro j u hj
    rw [Nat.zero_add, hb.cell]
    simpa using hj
  have h1c : ∀ u ∈ (a :: l).map (Value.int .i64), u.oneCell' = true := by
    intro u hu
    obtain ⟨x, _, rfl⟩ := List.mem_map.1 hu
    rfl
  have h1v : ∀ u ∈ [Value.int .i64 v], u.oneCell' = true := by
    intro u hu
    rw [List.mem_singleton.1 hu]
    rfl
  by_cases hroom : l.length + 1 + 1 ≤ cap
  · refine (Any2.slices_Insert_int_shift insLays g 0 (l.length + 1) cap 1 b 0 1 1 ((a :: l).map (Value.int .i64)) [.int .i64 v] w (by omega) (by omega) hroom (by unfold maxLen at hcm; omega) hgb (by simp) rfl hcell
      (fun j hj => by rw [Nat.zero_add, cell_of_row w g j _ _ _ hg]; simp; omega) (fun j _ => by simp [World.frozen?, hg]) hv h1c h1v 3 3 1 cap (by unfold Blk at hb; simp [World.shape?, hb]) (by simp [World.shape?, hg, hcs]) (by omega) (hb.frozen 0) (hb.frozen 1)).mono ?_
    rintro e w' ⟨rfl, rfl⟩
    have h1 := setCells_row ((((a :: l).map (Value.int .i64))).drop 1) (0 + (1 + 1)) w.drew C hg (by simp; omega)
    have h2 := setCells_row [Value.int .i64 v] (0 + 1) _ _ h1 (by simp; omega)
    refine ⟨_, rfl, ⟨by simp, .inr ⟨g, cap, _, rfl, hg0, h2, hroom, hcm, ?_, ?_⟩⟩, gSets (.inl rfl) _ _ _ (gSets (.inl rfl) _ _ _ (gDrew (World.grownBy.refl _ _))), .inl rfl⟩
    · simp
      omega
    · simp only [List.map_cons, List.drop_succ_cons, List.drop_zero, Nat.zero_add, List.length_cons, List.length_nil, Nat.mul_one]
      obtain ⟨c0, C', rfl⟩ : ∃ c0 C', C = c0 :: C' := List.exists_cons_of_ne_nil (by rintro rfl; simp at hcs; omega)
      simp only [List.take_succ_cons, List.map_cons, List.cons.injEq] at hC
      obtain ⟨rfl, hC'⟩ := hC
      obtain ⟨c1, C'', rfl⟩ : ∃ c1 C'', C' = c1 :: C'' := List.exists_cons_of_ne_nil (by rintro rfl; simp at hcs; omega)
      simp
  · refine (Any2.slices_Insert_int_grow insLays g 0 (l.length + 1) cap 1 b 0 1 1 ((a :: l).map (Value.int .i64)) [.int .i64 v] w (by omega) (by omega) hn (by omega) (by omega) (by simp) rfl hcell hv h1c h1v).mono ?_
    rintro e w' ⟨rfl, rfl⟩
    obtain ⟨k, hk⟩ : ∃ k, grownCap w (l.length + 1 + 1) cap (insRen.t 3) = k := ⟨_, rfl⟩
    have hk1 : l.length + 1 + 1 ≤ k := by rw [← hk]; exact grownCap_ge ..
    have hk2 : k ≤ maxLen := by rw [← hk]; exact grownCap_le_maxLen _ _ _ _ (by unfold maxLen; omega)
    rw [hk]
    have hz : ∀ n, (Builtin.zeroCells (Value.int .i64 0).cells n) = (List.replicate n (Value.int .i64 0)).toArray := by
      intro n
      apply Array.ext'
      simp [Builtin.zeroCells, Value.cells, Nat.mod_one, List.map_const']
    rw [hz, hz]
    have e0 : (List.take 1 ((a :: l).map (Value.int .i64))).toArray ++ (List.replicate (l.length + 1 + 1 - 1) (Value.int .i64 0)).toArray ++ (List.replicate (k - (l.length + 1 + 1)) (Value.int .i64 0)).toArray = (([Value.int .i64 a] ++ List.replicate (l.length + 1) (Value.int .i64 0)) ++ List.replicate (k - (l.length + 1 + 1)) (Value.int .i64 0)).toArray := by
      simp
    rw [e0]
    have h0 := heap_alloc_new w (.cells (([Value.int .i64 a] ++ List.replicate (l.length + 1) (Value.int .i64 0)) ++ List.replicate (k - (l.length + 1 + 1)) (Value.int .i64 0)).toArray (insRen.t 3))
    have h2 := setCells_row2 [Value.int .i64 v] ((((a :: l).map (Value.int .i64))).drop 1) 1 (1 + 1) (w.alloc (.cells (([Value.int .i64 a] ++ List.replicate (l.length + 1) (Value.int .i64 0)) ++ List.replicate (k - (l.length + 1 + 1)) (Value.int .i64 0)).toArray (insRen.t 3))).drew _ h0 (by simp; omega) (by simp; omega)
    refine ⟨_, rfl, ⟨by simp, .inr ⟨w.heap.size, k, _, rfl, hbase, h2, hk1, hk2, ?_, ?_⟩⟩, gSets (.inr (Nat.le_refl _)) _ _ _ (gDrew (gSets (.inr (Nat.le_refl _)) _ _ _ (gDrew (gAlloc (World.grownBy.refl _ _) _)))), .inr ⟨_, rfl, Nat.le_refl _⟩⟩
    · simp
      omega
    · simp
end Go.Proofs.YtghlnknncahkgaaGreat
/-
  What a piece of code may change of what lay there: a set of blocks, and no others.
-/
namespace Go.Proofs.YtghlnknncahkgaaGreat
open Go.RowKit

/-- Of the blocks that lay there only those of S may be others now. -/
structure Kept (S : Nat → Prop) (w w' : World) : Prop where
  os : w'.os = w.os
  tape : w'.tape = w.tape
  output : w'.output = w.output
  size : w.heap.size ≤ w'.heap.size
  block : ∀ k, k < w.heap.size → ¬ S k → w'.heap[k]? = w.heap[k]?
section
variable {S S' : Nat → Prop} {a b c w w' : World}
theorem Kept.refl (S : Nat → Prop) (w : World) : Kept S w w := ⟨rfl, rfl, rfl, Nat.le_refl _, fun _ _ _ => rfl⟩
theorem Kept.trans (h : Kept S a b) (k : Kept S b c) : Kept S a c :=
  ⟨k.os.trans h.os, k.tape.trans h.tape, k.output.trans h.output, Nat.le_trans h.size k.size, fun i hi hs => (k.block i (Nat.lt_of_lt_of_le hi h.size) hs).trans (h.block i hi hs)⟩
theorem Kept.mono (h : Kept S w w') (hs : ∀ k, S k → S' k) : Kept S' w w' := ⟨h.os, h.tape, h.output, h.size, fun k hk hn => h.block k hk (fun x => hn (hs k x))⟩
theorem Kept.of (h : Below w.heap.size w w') : Kept S w w' := ⟨h.os, h.tape, h.output, h.size, fun k hk _ => h.block k hk⟩
theorem Kept.below {B : Nat} (h : Kept S w w') (hs : ∀ k, S k → B ≤ k) (hB : B ≤ w.heap.size) : Below B w w' := ⟨h.os, h.tape, h.output, h.size, fun k hk => h.block k (by omega) (fun x => by have := hs k x; omega)⟩
theorem Kept.drew (h : Kept S a w) : Kept S a w.drew := ⟨h.os, h.tape, h.output, h.size, h.block⟩
theorem Kept.alloc (h : Kept S a w) (o : Obj) : Kept S a (w.alloc o) :=
  ⟨h.os, h.tape, h.output, by rw [World.size_alloc]; have := h.size; omega, fun k hk hs => (Below.heap_alloc w o k (Nat.lt_of_lt_of_le hk h.size)).trans (h.block k hk hs)⟩
theorem Kept.setCell (h : Kept S a w) {p : Addr} (hp : S p.block ∨ a.heap.size ≤ p.block) (u : Value) : Kept S a (w.setCell p u) := by
  have hz : (w.setCell p u).heap.size = w.heap.size := by simp [World.setCell]
  exact ⟨h.os, h.tape, h.output, by rw [hz]; exact h.size, fun k hk hs => (Below.heap_setCell w p u k (fun e => by
    subst e
    rcases hp with hp | hp
    · exact hs hp
    · omega)).trans (h.block k hk hs)⟩
theorem Kept.grown (h : Kept S a w) {row : Option Nat} (hg : w.grownBy w' row) (hr : ∀ k, row = some k → S k ∨ a.heap.size ≤ k) : Kept S a w' :=
  ⟨hg.os.trans h.os, hg.tape.trans h.tape, hg.output.trans h.output, Nat.le_trans h.size hg.size, fun k hk hs => (hg.block k (Nat.lt_of_lt_of_le hk h.size) (fun e => by
    rcases hr k e.symm with x | x
    · exact hs x
    · omega)).trans (h.block k hk hs)⟩
theorem Kept.frown (h : Kept S a b) (k : Kept S' b c) (hs : ∀ k, S' k → S k ∨ a.heap.size ≤ k) : Kept S a c :=
  ⟨k.os.trans h.os, k.tape.trans h.tape, k.output.trans h.output, Nat.le_trans h.size k.size, fun i hi hn => (k.block i (Nat.lt_of_lt_of_le hi h.size) (fun x => by
    rcases hs i x with x | x
    · exact hn x
    · omega)).trans (h.block i hi hn)⟩
theorem own_same {base n s : Nat} {e : TypeId} {v : Value} {xs : List Value} (h : w.ownsRow base e s v n xs) (hs : ∀ k, v.ownBlock = some k → w'.heap[k]? = w.heap[k]?) : w'.ownsRow base e s v n xs := by
  obtain ⟨h1, h2 | ⟨g, cap, cur, rfl, a1, a2, a3⟩⟩ := h
  · exact ⟨h1, .inl h2⟩
  · exact ⟨h1, .inr ⟨g, cap, cur, rfl, a1, (hs g rfl).trans a2, a3⟩⟩
theorem blk_same {q : Nat} {t : TypeId} {cs : Array Value} (h : Blk w q t cs) (hs : w'.heap[q]? = w.heap[q]?) : Blk w' q t cs := hs.trans h
end
end Go.Proofs.YtghlnknncahkgaaGreat
