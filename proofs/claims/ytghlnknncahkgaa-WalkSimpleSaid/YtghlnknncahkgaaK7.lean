/-
  Texts joined by program: New OfM WkJ.
-/
import Derived.Test.YtghlnknncahkgaaK3
import Derived.Test.YtghlnknncahkgaaK6
import Derived.Deep.DeepCutAuto
import Derived.BigRegion
import Derived.RegionTactic
import Derived.Test.YtghlnknncahkgaaK2
/-
  slices.Clone of triangles; corner.New, by walking their texts.
-/
namespace Go.Proofs.Ytghlnknncahkgaa
open Go.RowKit Go.Maps

theorem infoTri : (Try.prog.info? 51).map (fun i => (i.zero, i.size, i.bytes)) = some (some (.agg #[.int .i64 0, .int .i64 0, .int .i64 0]), 3, 24) := by kernel_rfl
theorem ws3_len (T : List Tr) : (ws3 T).length = T.length * 3 := by simp [ws3, flatT_length]; omega
theorem TrisRd.of_row {w : World} {base : Nat} {v : Value} {T : List Tr} (h : w.ownsRow base 51 3 v T.length (ws3 T)) : TrisRd w v T := by
  rcases h.2 with ⟨rfl, h0⟩ | ⟨g, cap, cur, rfl, hb, hg, h1, h2, _⟩
  · rw [List.eq_nil_of_length_eq_zero h0]
    exact ⟨none, 0, rfl, by simp, by simp, fun k x y z hk => by simp at hk⟩
  · unfold maxLen at h2
    refine ⟨some ⟨g, 0, none⟩, cap, rfl, h1, by omega, fun k x y z hk => ?_⟩
    obtain ⟨d0, d1, d2⟩ := ws3_at hk
    have hk' := (List.getElem?_eq_some_iff.1 hk).1
    have hl := h.1
    refine ⟨g, 0, rfl, (Array.getElem?_eq_some_iff.1 hg).1, ?_, ?_, ?_⟩
    · rw [Nat.zero_add, h.cellAt _ (by omega)]; exact d0
    · rw [Nat.zero_add, h.cellAt _ (by omega)]; exact d1
    · rw [Nat.zero_add, h.cellAt _ (by omega)]; exact d2
theorem ws3_get {T : List Tr} {j : Nat} {u : Value} (h : (ws3 T)[j]? = some u) : ∃ k x y z, T[k]? = some (x, y, z) ∧ ((j = k * 3 ∧ u = .int .i64 x) ∨ (j = k * 3 + 1 ∧ u = .int .i64 y) ∨ (j = k * 3 + 2 ∧ u = .int .i64 z)) := by
  have hj := (List.getElem?_eq_some_iff.1 h).1
  rw [ws3_len] at hj
  have hk : j / 3 < T.length := by omega
  obtain ⟨t, ht⟩ : ∃ t, T[j / 3]? = some t := ⟨T[j / 3], List.getElem?_eq_getElem _⟩
  obtain ⟨x, y, z⟩ := t
  obtain ⟨d0, d1, d2⟩ := ws3_at ht
  refine ⟨j / 3, x, y, z, ht, ?_⟩
  have : j % 3 = 0 ∨ j % 3 = 1 ∨ j % 3 = 2 := by omega
  rcases this with e | e | e
  · have e1 : j = j / 3 * 3 := by omega
    rw [e1, d0] at h
    exact .inl ⟨e1, by cases h; rfl⟩
  · have e1 : j = j / 3 * 3 + 1 := by omega
    rw [e1, d1] at h
    exact .inr (.inl ⟨e1, by cases h; rfl⟩)
  · have e1 : j = j / 3 * 3 + 2 := by omega
    rw [e1, d2] at h
    exact .inr (.inr ⟨e1, by cases h; rfl⟩)
/-- The cells behind an address that triangles are read from. -/
theorem TrisRd.cells {w : World} {ad : Addr} {n c : Nat} {T : List Tr} (h : TrisRd w (.slice (some ad) n c) T) : ∀ j u, (ws3 T)[j]? = some u → w.cell? (ad.add j) = some u := by
  intro j u hu
  obtain ⟨a, c', e0, h1, h2, h3⟩ := h
  cases e0
  obtain ⟨k, x, y, z, hk, hj⟩ := ws3_get hu
  obtain ⟨b, o, e1, hl, s0, s1, s2⟩ := h3 k x y z hk
  cases e1
  rw [Addr.add_lit]
  rcases hj with ⟨rfl, rfl⟩ | ⟨rfl, rfl⟩ | ⟨rfl, rfl⟩
  · exact s0
  · exact s1
  · exact s2
set_option maxRecDepth 100000 in
set_option maxHeartbeats 1000000 in
theorem cloneT_any (v : Value) (T : List Tr) (w : World) (h : TrisRd w v T) (hl : T.length ≤ 100000) : Calls Try.prog 49 #[v] w fun e w' => ∃ v', e = .returned v' ∧ w'.ownsRow w.heap.size 51 3 v' T.length (ws3 T) ∧ Below w.heap.size w w' := by
  obtain ⟨i1, hi', hy0, hy1, hy2⟩ := info_parts infoTri
  have h0 := h
  obtain ⟨a, c, rfl, hc1, hc2, hr⟩ := h
  cases a with
  | none =>
    have hT : T = [] := by
      cases T with
      | nil => rfl
      | cons t r =>
        obtain ⟨x, y, z⟩ := t
        obtain ⟨b, o, e, _⟩ := hr 0 x y z rfl
        cases e
    subst hT
    have q := fun (W : World) => Lib.run_eql_slice_nil (P := Try.prog) W 22 51 none 0 c 0 0 Try.underlying22
    clear h0 hr
    go_enter Try.func49, Try.ntmps49
    go_wp2
    go_ret
    exact ⟨_, rfl, World.ownsRow_nil _ _ _ _, Below.refl _ _⟩
  | some ad =>
    have hcell := (h0.alloc (.cells #[] 51)).cells
    have HC := Lib.hid hcell
    have hrow := World.ownsRow_lit w (base := w.heap.size) (e := 51) (size := 3) #[] 0 (Nat.le_refl _) (by decide) rfl
    have HL := Lib.hid (ws3_len T)
    obtain ⟨n, hn⟩ : ∃ n, T.length = n := ⟨_, rfl⟩
    rw [hn] at hl hc1 HL ⊢
    have hb : Below w.heap.size w (w.alloc (.cells #[] 51)) := (Below.refl _ _).alloc (Nat.le_refl _) _
    have c3 : 0 + n ≤ maxLen := by unfold maxLen; omega
    have c4 : (0 + n) * 24 ≤ 140737488355328 := by omega
    have q := fun (W : World) => Lib.run_eql_slice_nil (P := Try.prog) W 22 51 (some ad) n c 0 0 Try.underlying22
    clear h0 hr hcell hn
    go_enter Try.func49, Try.ntmps49
    go_wp2_with (at_builtin; refine wpList_append_own _ rfl (.tmp 5) (.tmp 6) 22 rfl w.heap.size 51 i1 _ 3 24 Try.underlying22 hi' hy0 hy1 hy2 rfl (by decide) _ 0 [] rfl hrow ad n c (ws3 T) rfl HL.out HC.out (by intro u hu; simp only [ws3, List.mem_map] at hu; obtain ⟨x, _, rfl⟩ := hu; rfl) c3 c4 (by rw [size_alloc']; omega) ?_; intro v' w' h1' h2' _; have HW := Lib.hid h1')
    go_ret
    exact ⟨_, rfl, by have := HW.out; simpa using this, hb.grown h2' hb.size (fun j e => by have := (hrow.lt j e).1; omega)⟩

theorem blk_new_at {w : World} {g : Nat} {t : TypeId} {cs : Array Value} (h : w.heap.size = g) : Blk (w.alloc (.cells cs t)) g t cs := by
  subst h
  exact Blk.new w t cs
theorem mapP_new_at {P : Program} {k : TypeId} {w : World} {b : Nat} (h : w.heap.size = b) : MapP P k (w.alloc (.map #[] 0)) b (fun _ => none) := by
  subst h
  exact MapP.made w P k
theorem row_new_at {w : World} {base g m : Nat} (h : w.heap.size = g) (hb : base ≤ g) (hm : m ≤ maxLen) : (w.alloc (.cells (madeCells #[.int .i64 0] m) 3)).ownsRow base 3 1 (.slice (some ⟨g, 0, none⟩) m m) m (List.replicate m (.int .i64 0)) := by
  subst h
  refine ⟨by simp, .inr ⟨w.heap.size, m, _, rfl, hb, heap_alloc_new w _, Nat.le_refl _, hm, ?_, ?_⟩⟩
  · have := size_madeCells #[Value.int .i64 0] m
    simpa using this
  · rw [toList_madeCells_one]
    simp
theorem own_drew {w : World} {base n s : Nat} {e : TypeId} {v : Value} {xs : List Value} (h : w.ownsRow base e s v n xs) : w.drew.ownsRow base e s v n xs := h
theorem own_below {w w' : World} {base n s : Nat} {e : TypeId} {v : Value} {xs : List Value} (h : w.ownsRow base e s v n xs) (hb : Below w.heap.size w w') : w'.ownsRow base e s v n xs :=
  h.kept (grown_of_below hb none) (by cases e : v.ownBlock; exact .inl rfl; exact .inr (by simp))
/-- The table as it is made: no face yet, no first corner. -/
def NewSt (w : World) (m : Nat) (v : Value) (T : List Tr) (s5 : Value) (W : World) : Prop :=
  ∃ g av cv mb fb, s5 = .pointer (some ⟨g, 0, none⟩) ∧ Blk W g 89 #[.int .i64 (m : Int), .slice av T.length cv, .map (some mb), .slice (some ⟨fb, 0, none⟩) m m] ∧ W.ownsRow w.heap.size 51 3 (.slice av T.length cv) T.length (ws3 T) ∧
    MapP Try.prog 91 W mb (fun _ => none) ∧ W.ownsRow w.heap.size 3 1 (.slice (some ⟨fb, 0, none⟩) m m) m (List.replicate m (.int .i64 0)) ∧ w.heap.size ≤ g ∧ w.heap.size ≤ mb ∧
    Blk W w.heap.size 24 #[.int .i64 (m : Int), v] ∧ Blk W (w.heap.size + 1) 53 #[.int .i64 0, .int .i64 0, .int .i64 0] ∧ Below w.heap.size w W
theorem facFrom_step {T : List Tr} {k : Nat} (hk : k < 3 * T.length) (e : Int × Int) : facFrom T k e = if edgeN T k = e then some k else facFrom T (k + 1) e := by
  unfold facFrom
  rw [show 3 * T.length - k = (3 * T.length - (k + 1)) + 1 from by omega, List.range'_succ, List.find?_cons]
  by_cases h : edgeN T k = e
  · simp [h]
  · have : (edgeN T k == e) = false := by simpa using h
    simp [h, this]
theorem fstFrom_step {T : List Tr} {k : Nat} (hk : k < 3 * T.length) (v : Int) : fstFrom T k v = if vertN T k = v then some k else fstFrom T (k + 1) v := by
  unfold fstFrom
  rw [show 3 * T.length - k = (3 * T.length - (k + 1)) + 1 from by omega, List.range'_succ, List.find?_cons]
  by_cases h : vertN T k = v
  · simp [h]
  · have : (vertN T k == v) = false := by simpa using h
    simp [h, this]
theorem facMap_step {T : List Tr} {k : Nat} (hk : k < 3 * T.length) (y : Value) : updP (facMap T (k + 1)) (pairV (edgeN T k)) (.int .i64 (k : Int)) y = facMap T k y := by
  by_cases hy : ∃ e, y = pairV e
  · obtain ⟨e, rfl⟩ := hy
    rw [facMap_at, facFrom_step hk]
    by_cases h : edgeN T k = e
    · rw [if_pos h, h, updP_same]
      rfl
    · rw [if_neg h, updP_other (fun e' => h (pairV_inj e').symm), facMap_at]
  · have h1 : facMap T k y = none := by
      unfold facMap
      rw [dif_neg hy]
    have h2 : facMap T (k + 1) y = none := by
      unfold facMap
      rw [dif_neg hy]
    rw [h1, updP_other (fun e' => hy ⟨_, e'⟩), h2]
theorem facMap_end (T : List Tr) (y : Value) : (none : Option Value) = facMap T (3 * T.length) y := by
  unfold facMap
  split
  · simp [facFrom]
  · rfl
theorem fsts_end (m : Nat) (T : List Tr) : fsts (m : Int) T (3 * T.length) = List.replicate m 0 := by
  apply List.ext_getElem?
  intro i
  unfold fsts
  by_cases hi : i < m
  · rw [List.getElem?_map, List.getElem?_range (by simpa using hi), List.getElem?_replicate, if_pos hi]
    simp [fstFrom]
  · rw [List.getElem?_eq_none (by simp; omega), List.getElem?_eq_none (by simp; omega)]
theorem fsts_step {m : Nat} {T : List Tr} {k u : Nat} (hk : k < 3 * T.length) (hu : vertN T k = (u : Int)) : (fsts (m : Int) T (k + 1)).set u (k : Int) = fsts (m : Int) T k := by
  apply List.ext_getElem?
  intro i
  unfold fsts
  rw [List.getElem?_set]
  by_cases hi : i < m
  · have h1 : ((List.range (m : Int).toNat).map fun v : Nat => (((fstFrom T k v).getD 0 : Nat) : Int))[i]? = some (((fstFrom T k i).getD 0 : Nat) : Int) := by
      rw [List.getElem?_map, List.getElem?_range (by simpa using hi)]
      rfl
    have h2 : ((List.range (m : Int).toNat).map fun v : Nat => (((fstFrom T (k + 1) v).getD 0 : Nat) : Int))[i]? = some (((fstFrom T (k + 1) i).getD 0 : Nat) : Int) := by
      rw [List.getElem?_map, List.getElem?_range (by simpa using hi)]
      rfl
    rw [h1, h2, fstFrom_step hk, hu]
    by_cases e : u = i
    · subst e
      rw [if_pos rfl, if_pos (by simpa using hi), if_pos rfl]
      rfl
    · rw [if_neg e, if_neg (by omega)]
  · have h1 : ((List.range (m : Int).toNat).map fun v : Nat => (((fstFrom T k v).getD 0 : Nat) : Int))[i]? = none := List.getElem?_eq_none (by simp; omega)
    have h2 : ((List.range (m : Int).toNat).map fun v : Nat => (((fstFrom T (k + 1) v).getD 0 : Nat) : Int))[i]? = none := List.getElem?_eq_none (by simp; omega)
    rw [h1, h2]
    split
    · rw [if_neg (by simp; omega)]
    · rfl
theorem fsts_len (m : Nat) (T : List Tr) (k : Nat) : (fsts (m : Int) T k).length = m := by simp [fsts]
theorem edgeI_nat {T : List Tr} {k : Nat} (hk : k < 3 * T.length) : edgeI T (k : Int) = edgeN T k := by
  have h1 : hasC T (k : Int) = true := hasC_true (by omega) (by omega)
  have h2 : hasC T ((Jor.nx k : Nat) : Int) = true := hasC_true (by omega) (by have := Jor.nx_lt hk; omega)
  have h3 : hasC T ((Jor.pv k : Nat) : Int) = true := hasC_true (by omega) (by have := Jor.pv_lt hk; omega)
  simp [edgeI, edgeN, nextI, prevI, vertI, h1, h2, h3]
theorem vertI_nat {T : List Tr} {k : Nat} (hk : k < 3 * T.length) : vertI T (k : Int) = vertN T k := by
  have h1 : hasC T (k : Int) = true := hasC_true (by omega) (by omega)
  simp [vertI, h1]
set_option maxRecDepth 100000 in
set_option maxHeartbeats 4000000 in
theorem new_any (N : Int) (v : Value) (T : List Tr) (w : World) (h : TrisRd w v T) (hl : T.length ≤ 8192) : Calls Try.prog 19 #[.agg #[.int .i64 N, v]] w fun e w' =>
    ((Surf N T ∧ ∃ g, e = .returned (.tuple #[.pointer (some ⟨g, 0, none⟩), witV 0 0 0]) ∧ Tab w' g N T ∧ w.heap.size ≤ g) ∨ (¬ Surf N T ∧ ∃ k a b : Int, 1 ≤ k ∧ e = .returned (.tuple #[.pointer none, witV k a b]))) ∧ Below w.heap.size w w' := by
  obtain ⟨i1, hi', hy0, hy1, hy2⟩ := info_parts infoInt
  have b1 := (Blk.new w 24 #[.int .i64 N, v]).alloc (.cells #[.int .i64 0, .int .i64 0, .int .i64 0] 53)
  have b2 := Blk.new (w.alloc (.cells #[.int .i64 N, v] 24)) 53 #[.int .i64 0, .int .i64 0, .int .i64 0]
  rw [size_alloc'] at b2
  have hB0 : Below w.heap.size w ((w.alloc (.cells #[.int .i64 N, v] 24)).alloc (.cells #[.int .i64 0, .int .i64 0, .int .i64 0] 53)) := ((Below.refl _ _).alloc (Nat.le_refl _) _).alloc (by rw [size_alloc']; omega) _
  obtain ⟨l0, x0, -, x1, -⟩ := b1.two
  have hC := check_any N v T ((w.alloc (.cells #[.int .i64 N, v] 24)).alloc (.cells #[.int .i64 0, .int .i64 0, .int .i64 0] 53)) (h.below hB0) hl
  have HC := Lib.hid hC
  have HT := Lib.hid h
  clear h hC
  go_enter Try.func19, Try.ntmps19
  go_wp2_with fail
  refine HC.out.mono ?_
  rintro e w2 ⟨k, a, b, rfl, hS, hb⟩
  have hB2 := hB0.trans (hb.mono hB0.size)
  have b3 := b2.below hb b2.lt
  have b4 := b1.below hb b1.lt
  unfold witV
  clear hb b1 b2 x0 x1 l0 HC
  obtain ⟨l3, y0, f0, y1, f1, y2, f2⟩ := b3.three
  obtain ⟨l4, z0, -, z1, -⟩ := b4.two
  have hsz := hB2.size
  rcases hS with ⟨hS, rfl, rfl, rfl⟩ | ⟨hS, hk⟩
  · have HS := Lib.hid hS
    have hNm : ∃ m : Nat, N = m := ⟨N.toNat, by have := hS.n0; omega⟩
    have hN1 := hS.n1
    obtain ⟨m, rfl⟩ := hNm
    clear hS
    go_upto_region 4 with fail
    have hmm := @run_makeMap Try.prog
    have hmk := fun (W : World) => run_make (P := Try.prog) W 33 3 i1 (.int .i64 0) Try.underlying33 hi' hy0 .i64 .i64 (m : Int) (m : Int) (by omega) (by omega) (by rw [hy2]; omega) (by omega)
    have HB2 := Lib.hid hB2
    have hB3 : Below w.heap.size w (w2.alloc (.cells #[.int .i64 0, .int .i64 0, .int .i64 0] 53)).drew := (hB2.alloc hsz _).drew
    have HB3 := Lib.hid hB3
    have HCl := Lib.hid (fun (W : World) (hW : Below w.heap.size w W) => cloneT_any v T W (HT.out.below hW) (by omega))
    have HB4 := Lib.hid b4
    have HB5 := Lib.hid b3
    obtain ⟨l5, zz0, -, zz1, -⟩ := (b4.alloc (.cells #[.int .i64 0, .int .i64 0, .int .i64 0] 53)).two
    clear hB3 b4 b3
    go_cut [5] (fun s5 W => NewSt w m v T s5 W)
    case first =>
      go_region_held3 (fun w' => w'.cell? ⟨w.heap.size, 0, none⟩ = some (.int .i64 (m : Int)) ∧ w'.cell? ⟨w.heap.size, 1, none⟩ = some v) (go_keep)
        (first
          | (go_at_call 49; refine (HCl.out _ (by repeat (first | exact HB2.out | refine Below.drew ?_ | refine Below.alloc ?_ (by first | exact hsz | (simp [World.drew]; omega)) _))).mono ?_; rintro e w3 ⟨vT, rfl, hrT, hb3⟩; obtain ⟨av, cv, rfl⟩ := ownsRow_slice hrT; obtain ⟨q0, q1, -, q2, -⟩ := (Blk.below (g := w.heap.size) (t := 24) (cs := #[.int .i64 (m : Int), v]) (by repeat (first | exact HB4.out | refine Blk.drew ?_ | refine Blk.alloc ?_ _)) hb3 (by simp [World.drew]; omega)).two))
      all_goals
        go_wp2_with fail
        go_meet
        have hsz3 := hb3.size
        refine ⟨_, av, cv, _, _, rfl, blk_new_at (by simp [World.drew]), ?_, ?_, ?_, ?_, ?_, ?_, ?_, ?_⟩
        · repeat (first | with_reducible exact hrT.mono (by first | exact hsz | (simp [World.drew]; omega) | omega) | with_reducible refine World.ownsRow.alloc ?_ _ | with_reducible refine own_drew ?_)
        · repeat (first | with_reducible exact mapP_new_at (by simp [World.drew]) | with_reducible refine MapP.alloc ?_ _ | with_reducible refine MapP.drew ?_ | with_reducible refine MapP.below ?_ hb3 (by first | (simp [World.drew]; done) | (simp [World.drew]; omega)))
        · repeat (first | with_reducible exact row_new_at (by simp [World.drew]) (by first | exact hsz | (simp [World.drew]; omega) | omega) (by unfold maxLen; omega) | with_reducible refine World.ownsRow.alloc ?_ _ | with_reducible refine own_drew ?_ | with_reducible refine own_below ?_ hb3)
        · simp [World.drew] at hsz3 ⊢; omega
        · simp [World.drew] at hsz3 ⊢; omega
        · repeat (first | with_reducible exact HB4.out | with_reducible refine Blk.alloc ?_ _ | with_reducible refine Blk.drew ?_ | with_reducible refine Blk.below ?_ hb3 (by simp [World.drew]; omega))
        · repeat (first | with_reducible exact HB5.out | with_reducible refine Blk.alloc ?_ _ | with_reducible refine Blk.drew ?_ | with_reducible refine Blk.below ?_ hb3 (by simp [World.drew]; omega))
        · repeat (first | with_reducible exact HB2.out | with_reducible refine Below.alloc ?_ (by simp [World.drew] at hsz3 ⊢; omega) _ | with_reducible refine Below.drew ?_ | with_reducible refine Below.trans ?_ (hb3.mono (by simp [World.drew]; omega)))
    case rest =>
      obtain ⟨g, av, cv, mb, fb, rfl, hbt, htr, hmp, hrow, hg0, hm0, hbs, hbw, hB⟩ := hcut
      obtain ⟨n, hn⟩ : ∃ n, T.length = n := ⟨_, rfl⟩
      have hlen := hl
      rw [hn] at hbt htr hlen
      have HN := Lib.hid hn
      have hmp0 : MapP Try.prog 91 wc mb (facMap T (3 * n)) := by rw [← hn]; exact hmp.congr (facMap_end T)
      have hrow0 : wc.ownsRow w.heap.size 3 1 (.slice (some ⟨fb, 0, none⟩) m m) m (intsV (fsts (m : Int) T (3 * n))) := by
        rw [← hn, fsts_end]
        simpa [intsV] using hrow
      have hin : ∀ t ∈ T, 0 ≤ t.1 ∧ t.1 < (m : Int) ∧ 0 ≤ t.2.1 ∧ t.2.1 < (m : Int) ∧ 0 ≤ t.2.2 ∧ t.2.2 < (m : Int) := fun t ht => by
        obtain ⟨⟨a1, a2⟩, ⟨a3, a4⟩, ⟨a5, a6⟩⟩ := HS.out.inr t ht
        exact ⟨a1, a2, a3, a4, a5, a6⟩
      have HIN := Lib.hid hin
      have HTR := Lib.hid htr
      obtain ⟨l6, p0, -, p1, -⟩ := hbs.two
      have hTl : ∃ vv : Option Addr × Nat, v = .slice vv.1 n vv.2 := by
        obtain ⟨a, c, e, _⟩ := HT.out
        exact ⟨(a, c), by rw [← hn]; exact e⟩
      obtain ⟨⟨a0, c0⟩, rfl⟩ := hTl
      have HM0 := Lib.hid hmp0
      have HR0 := Lib.hid hrow0
      have HBT := Lib.hid hbt
      have HBW := Lib.hid hbw
      have HB := Lib.hid hB
      clear hn hmp hrow hmp0 hrow0 hin htr hbt hbw hB zz0 zz1 l5 hbs
      go_wp2
      go_loopw [6] (fun c wr => ∃ k : Nat, k ≤ 3 * n ∧ c = .int .i64 ((k : Int) - 1) ∧ MapP Try.prog 91 wr mb (facMap T k) ∧ wr.ownsRow w.heap.size 3 1 (.slice (some ⟨fb, 0, none⟩) m m) m (intsV (fsts (m : Int) T k)) ∧
        Blk wr g 89 #[.int .i64 (m : Int), .slice av n cv, .map (some mb), .slice (some ⟨fb, 0, none⟩) m m] ∧ wr.ownsRow w.heap.size 51 3 (.slice av n cv) n (ws3 T) ∧ Blk wr (w.heap.size + 1) 53 #[.int .i64 0, .int .i64 0, .int .i64 0] ∧ Below w.heap.size w wr) (fun c _ => (intOf c + 1).toNat)
      case atStart => exact ⟨3 * n, Nat.le_refl _, by simp, HM0.out, HR0.out, HBT.out, HTR.out, HBW.out, HB.out⟩
      case round =>
        clear HM0 HR0 HBT HTR HBW HB p0 p1 l6
        obtain ⟨k, hk, rfl, hmp, hrow, hbt, htr, hbw, hB⟩ := hrel
        rename World => wr
        cases k with
        | zero =>
          have hTab : ∀ u0 u1 u2 : Value, Tab (((wr.setCell ⟨w.heap.size + 1, 0, none⟩ u0).setCell ⟨w.heap.size + 1, 1, none⟩ u1).setCell ⟨w.heap.size + 1, 2, none⟩ u2) g (m : Int) T := by
            intro u0 u1 u2
            have hgS : wr.grownBy (((wr.setCell ⟨w.heap.size + 1, 0, none⟩ u0).setCell ⟨w.heap.size + 1, 1, none⟩ u1).setCell ⟨w.heap.size + 1, 2, none⟩ u2) (some (w.heap.size + 1)) := gStR (gStR (gStR (World.grownBy.refl _ _)))
            have hbt' := hbt.grown hgS (by simpa using Blk.ne_ hbt hbw (by decide))
            have htr' := htr.kept hgS (.inr (own_blk_ne htr hbw (by decide)))
            have hrow' := hrow.kept hgS (.inr (own_blk_ne hrow hbw (by decide)))
            have hmp' := hmp.kept hgS (fun e => by
              cases e
              obtain ⟨es, ck, ho⟩ := hmp.obj
              rw [show wr.heap[w.heap.size + 1]? = _ from hbw] at ho
              cases ho)
            have htd := TrisRd.of_row (T := T) (by rw [HN.out]; exact htr')
            have hrd : IntsRd _ (.slice (some ⟨fb, 0, none⟩) m m) (fsts (m : Int) T 0) := IntsRd.of_row hrow' (fsts_len m T 0)
            exact { ex := ⟨_, _, _, hbt', htd⟩, n0 := by omega, n1 := hN1, len := hl, inr := HIN.out, tx := ⟨_, _, _, hbt', htd, hmp', hrd⟩ }
          have HTab := Lib.hid hTab
          have hcells := fun (u0 u1 u2 : Value) => (((hbw.set_ 0 u0).set_ 1 u1).set_ 2 u2)
          have HCE := Lib.hid hcells
          have hBx := fun (u0 u1 u2 : Value) => ((hB.setCell (p := ⟨w.heap.size + 1, 0, none⟩) (by simp) u0).setCell (p := ⟨w.heap.size + 1, 1, none⟩) (by simp) u1).setCell (p := ⟨w.heap.size + 1, 2, none⟩) (by simp) u2
          have HBX := Lib.hid hBx
          obtain ⟨lw, y0', f0', y1', f1', y2', f2'⟩ := hbw.three
          clear hTab hcells hBx hbt hmp hrow htr hbw hB
          go_wp2
          obtain ⟨z, r0, -, r1, -, r2, -⟩ : _ ∧ _ ∧ _ ∧ _ ∧ _ ∧ _ ∧ _ := Blk.three (a := .int .i64 0) (b := .int .i64 0) (c := .int .i64 0) (by simpa using HCE.out (.int .i64 0) (.int .i64 0) (.int .i64 0))
          exact bodyPost_ret (v := .tuple #[.pointer (some ⟨g, 0, none⟩), .agg #[.int .i64 0, .int .i64 0, .int .i64 0]]) (by simp [results, Try.results19, go_sem, r0, r1, r2]) rfl ⟨.inl ⟨HS.out, g, rfl, HTab.out _ _ _, hg0⟩, HBX.out _ _ _⟩
        | succ k =>
          have hkT : k < 3 * T.length := by have := HN.out; omega
          have htd : TrisRd wr (.slice av n cv) T := TrisRd.of_row (by rw [HN.out]; exact htr)
          have hts : TabS wr g (m : Int) T := ⟨⟨_, _, _, hbt, htd⟩, by omega, hN1, hl, HIN.out⟩
          have hgm : g ≠ mb := fun e => by
            subst e
            obtain ⟨es, c, ho⟩ := hmp.obj
            rw [show wr.heap[g]? = _ from hbt] at ho
            cases ho
          obtain ⟨x, hx⟩ : ∃ x : Int × Int, edgeN T k = x := ⟨_, rfl⟩
          obtain ⟨⟨q0, q1⟩, q2, q3⟩ := edgeI_bd HIN.out (by omega) hN1 (k : Int)
          rw [edgeI_nat hkT, hx] at q0 q1 q2 q3
          obtain ⟨x, y⟩ := x
          simp only at q0 q1 q2 q3
          have HE := Lib.hid (fun (W : World) (hW : Below wr.heap.size wr W) => (by have := edge_any g (m : Int) (k : Int) T W (hts.below hW); rw [edgeI_nat hkT, hx] at this; exact this : Calls Try.prog 50 #[.pointer (some ⟨g, 0, none⟩), .int .i64 (k : Int)] W fun e w' => e = .returned (pairV (x, y)) ∧ Below W.heap.size W w'))
          have hkey := WideMaps.keyOf_pair arrEdge Try.underlying3 types_succ (wfV ⟨q0, q1⟩) (wfV ⟨q2, q3⟩)
          have HST := Lib.hid (fun (W : World) (hW : Below wr.heap.size wr W) => (hmp.below hW hmp.lt).store (t := 87) (Keyed.of_law arrEdge.law) Try.underlying87 hkey (.int .i64 (k : Int)))
          have lg := hbt.lt
          have lm := hmp.lt
          have t2 := hbt.cell 2
          have t3 := hbt.cell 3
          have HBT := Lib.hid hbt
          have Hstep : Hid (∀ W, MapP Try.prog 91 W mb (updP (facMap T (k + 1)) (pairV (x, y)) (.int .i64 (k : Int))) → MapP Try.prog 91 W mb (facMap T k)) := Lib.hid (fun W h => h.congr (fun y' => by rw [← hx]; exact facMap_step hkT y'))
          have Hrow := Lib.hid hrow
          have Htr := Lib.hid htr
          have Hbw := Lib.hid hbw
          have HBr := Lib.hid hB
          have HX := Lib.hid hx
          have HTS := Lib.hid hts
          have hlen2 : (k : Int) + 1 - 1 = (k : Int) := by omega
          have hk0 : (0 : Int) ≤ (k : Int) := by omega
          have hk1 : (k : Int) ≤ 100000 := by omega
          unfold pairV at HST hkey HE
          simp only at HST hkey HE
          have hmo := Lib.hid hmp.obj
          clear hbt hmp hrow htr hbw hB hx hts htd
          go_wp2
          go_region_held3 (fun w' => w'.cell? ⟨g, 2, none⟩ = some (.map (some mb))) (go_keep)
            (first
              | (go_at_call 50; refine (HE.out _ (by exact (Below.refl _ _).drew)).mono ?_; rintro e w5 ⟨rfl, hb5⟩; have hb5' := ((Below.refl wr.heap.size wr).drew).trans hb5; have c5 := (hb5'.cell (p := ⟨g, 2, none⟩) lg).trans t2; obtain ⟨w6, hrun6, hm6, hg6, -⟩ := HST.out w5 hb5'; have c6 := hg6.cell c5 (by simpa using hgm)))
          have hbt6 := (HBT.out.below hb5' lg).grown hg6 (by simpa using hgm)
          have hgr5 := grown_of_below hb5' none
          obtain ⟨es0, ck0, hmo0⟩ := hmo.out
          have hmo5 : ∃ es clock, w5.heap[mb]? = some (.map es clock) := ⟨es0, ck0, (hb5'.block mb lm).trans hmo0⟩
          have nn : ∀ v : Value, v.ownBlock = none ∨ v.ownBlock ≠ none := fun v => by cases v.ownBlock <;> simp
          have htr5 := own_below Htr.out hb5'
          have htr6 := htr5.kept hg6 (row_map_ne htr5 hmo5)
          have hrow5 := own_below Hrow.out hb5'
          have hrow6 := hrow5.kept hg6 (row_map_ne hrow5 hmo5)
          have hbw6 := (Hbw.out.below hb5' Hbw.out.lt).grown hg6 (fun e => by cases e; have := Hbw.out; obtain ⟨es, ck, ho⟩ := hmo.out; rw [show wr.heap[w.heap.size + 1]? = _ from this] at ho; cases ho)
          have hB6 := (HBr.out.trans (hb5'.mono HBr.out.size)).grown hg6 (Nat.le_trans HBr.out.size hb5'.size) (fun j e => by cases e; exact hm0)
          have hts6 : TabS w6 g (m : Int) T := ⟨⟨_, _, _, hbt6, TrisRd.of_row (by rw [HN.out]; exact htr6)⟩, by omega, hN1, hl, HIN.out⟩
          obtain ⟨v0, v1⟩ := vertN_in HIN.out hkT
          obtain ⟨u, hu⟩ : ∃ u : Nat, vertN T k = u := ⟨(vertN T k).toNat, by omega⟩
          rw [hu] at v1
          have hum : u < m := by omega
          have HV := Lib.hid (fun (W : World) (hW : TabS W g (m : Int) T) => (by have := vertex_any g (m : Int) (k : Int) T W hW; rw [vertI_nat hkT, hu] at this; exact this : Calls Try.prog 37 #[.pointer (some ⟨g, 0, none⟩), .int .i64 (k : Int)] W fun e w' => e = .returned (.int .i64 (u : Int)) ∧ W = w'))
          have Hfs := Lib.hid (fsts_step (m := m) hkT hu)
          obtain ⟨z, hz⟩ : ∃ z, (intsV (fsts (m : Int) T (k + 1)))[u]? = some z := ⟨(intsV (fsts (m : Int) T (k + 1)))[u]'(by simp [intsV, fsts_len]; exact hum), List.getElem?_eq_getElem _⟩
          have hcu : w6.cell? ⟨fb, u, none⟩ = some z := by rw [hrow6.cellAt u (by omega)]; exact hz
          have hfu := hrow6.frozenAt u
          have lg6 := hbt6.lt
          have t6 := hbt6.cell 3
          have lf6 := (hrow6.lt fb rfl).2
          have HM6 := Lib.hid (Hstep.out w6 hm6)
          have hgf : g ≠ fb := fun e => own_blk_ne hrow6 hbt6 (by decide) (by rw [e]; rfl)
          have hfg : fb ≠ g := fun e => hgf e.symm
          have hgs := (hrow6.stored u (.int .i64 (k : Int)))
          have HGS := Lib.hid hgs
          have HBT6 := Lib.hid hbt6
          have HTR6 := Lib.hid htr6
          have HR6 := Lib.hid hrow6
          have HBW6 := Lib.hid hbw6
          have HB6 := Lib.hid hB6
          have HTS6 := Lib.hid hts6
          clear hbt6 htr6 hrow6 hbw6 hB6 hts6 hgs hm6 hg6 hrun6 c6 c5 hb5 hb5' htr5 hrow5 hmo5 hmo0 hgr5 nn HST HE hkey t2 t3 hu v0 hz
          go_wp2
          go_region_held3 (fun w' => w'.cell? ⟨g, 3, none⟩ = some (.slice (some ⟨fb, 0, none⟩) m m)) (go_keep)
            (first
              | (go_at_call 37; refine (HV.out _ (by exact HTS6.out.drew)).mono ?_; rintro e w7 ⟨rfl, rfl⟩))
          go_wp2
          go_roundw
          case measure => simp [intOf]
          case rel =>
            obtain ⟨hr7, hg7⟩ := HGS.out
            have hg8 := gDrew hg7
            have hsz6 := HB6.out.size
            have hfb := (HR6.out.lt fb rfl).1
            refine ⟨k, by omega, by simp, HM6.out.kept hg8 (map_row_ne HR6.out HM6.out.obj), ?_, (HBT6.out.grown hg8 (by simpa using hgf)), HTR6.out.kept hg8 (own_own_ne HTR6.out HR6.out (by decide)), HBW6.out.grown hg8 (fun e => own_blk_ne HR6.out HBW6.out (by decide) e.symm), HB6.out.grown hg8 hsz6 (fun j e => by cases e; exact hfb)⟩
            have := own_drew hr7
            rw [← Hfs.out]
            simpa [intsV, List.map_set] using this
  · have HS := Lib.hid hS
    have hk0 : (k != 0) = true := by simp; omega
    clear hS
    have hcells := fun (u0 u1 u2 : Value) => (((b3.set_ 0 u0).set_ 1 u1).set_ 2 u2)
    have HCE := Lib.hid hcells
    have hBx := fun (u0 u1 u2 : Value) => ((hB2.setCell (p := ⟨w.heap.size + 1, 0, none⟩) (by simp) u0).setCell (p := ⟨w.heap.size + 1, 1, none⟩) (by simp) u1).setCell (p := ⟨w.heap.size + 1, 2, none⟩) (by simp) u2
    have HBX := Lib.hid hBx
    clear hcells hBx b3 b4
    go_wp2
    go_region
    all_goals
      go_wp2
      have b6 := ((HCE.out (.int .i64 k) (.int .i64 a) (.int .i64 b)).alloc (.cells #[.int .i64 k, .int .i64 a, .int .i64 b] 53)).drew
      obtain ⟨z, r0, -, r1, -, r2, -⟩ : _ ∧ _ ∧ _ ∧ _ ∧ _ ∧ _ ∧ _ := Blk.three (a := .int .i64 k) (b := .int .i64 a) (c := .int .i64 b) (by simpa using b6)
      exact bodyPost_ret (v := .tuple #[.pointer none, .agg #[.int .i64 k, .int .i64 a, .int .i64 b]]) (by simp [results, Try.results19, go_sem, r0, r1, r2]) rfl ⟨.inr ⟨HS.out, k, a, b, hk, rfl⟩, ((HBX.out _ _ _).alloc (by simp; exact hsz) _).drew⟩
end Go.Proofs.Ytghlnknncahkgaa
/-
  The connected parts of a surface, numbered: what shell.Of keeps while it goes over them; there is one such numbering alone.
-/
namespace Go.Proofs.Ytghlnknncahkgaa
open Go.RowKit

/-! Across and back. -/
theorem edgeN_mem {T : List Tr} {c : Nat} (hc : c < 3 * T.length) : ∃ j t, T[j]? = some t ∧ j = c / 3 ∧ ((c % 3 = 0 ∧ edgeN T c = (t.2.1, t.2.2)) ∨ (c % 3 = 1 ∧ edgeN T c = (t.2.2, t.1)) ∨ (c % 3 = 2 ∧ edgeN T c = (t.1, t.2.1))) := by
  have hk : c / 3 < T.length := by omega
  refine ⟨c / 3, T[c / 3], List.getElem?_eq_getElem hk, rfl, ?_⟩
  have h1 : Jor.nx c / 3 = c / 3 := Jor.nx_div c
  have h2 : Jor.pv c / 3 = c / 3 := Jor.pv_div c
  have m1 : Jor.nx c % 3 = (c + 1) % 3 := by unfold Jor.nx; omega
  have m2 : Jor.pv c % 3 = (c + 2) % 3 := by unfold Jor.pv; omega
  have ht : T[c / 3]? = some T[c / 3] := List.getElem?_eq_getElem hk
  have : c % 3 = 0 ∨ c % 3 = 1 ∨ c % 3 = 2 := by omega
  rcases this with e | e | e
  · exact .inl ⟨e, by simp [edgeN, vertN, triAt, h1, h2, ht, show Jor.nx c % 3 = 1 from by omega, show Jor.pv c % 3 = 2 from by omega]⟩
  · exact .inr (.inl ⟨e, by simp [edgeN, vertN, triAt, h1, h2, ht, show Jor.nx c % 3 = 2 from by omega, show Jor.pv c % 3 = 0 from by omega]⟩)
  · exact .inr (.inr ⟨e, by simp [edgeN, vertN, triAt, h1, h2, ht, show Jor.nx c % 3 = 0 from by omega, show Jor.pv c % 3 = 1 from by omega]⟩)
theorem flat3_at {β : Type} [Inhabited β] {enc : Tr → List β} {k : Nat} (hk : ∀ x, (enc x).length = k) (h0 : 0 < k) : ∀ (l : List Tr) (t : Nat), t < l.length * k → (l.flatMap enc)[t]? = some ((enc (l[t / k]!))[t % k]!)
  | [], t, h => by simp at h
  | a :: l, t, h => by
    rw [List.flatMap_cons]
    by_cases ht : t < k
    · rw [List.getElem?_append_left (by rw [hk]; exact ht), Nat.div_eq_of_lt ht, Nat.mod_eq_of_lt ht]
      have : t < (enc a).length := by rw [hk]; exact ht
      simp [this]
    · rw [List.getElem?_append_right (by rw [hk]; omega), hk]
      have h1 : t - k < l.length * k := by
        simp only [List.length_cons, Nat.add_mul, Nat.one_mul] at h
        omega
      rw [flat3_at hk h0 l (t - k) h1]
      have e1 : t / k = (t - k) / k + 1 := by rw [Nat.div_eq t k, if_pos ⟨h0, by omega⟩]
      have e2 : t % k = (t - k) % k := Nat.mod_eq_sub_mod (by omega)
      rw [e1, e2]
      simp
/-- Which of a triangle's edges faces a corner. -/
def spotE : Nat → Nat := fun k => if k = 0 then 1 else if k = 1 then 2 else 0
theorem edges_at {T : List Tr} {c : Nat} (hc : c < 3 * T.length) : (T.flatMap edges3)[c / 3 * 3 + spotE (c % 3)]? = some ((edgeN T c).1, (edgeN T c).2, 0) := by
  obtain ⟨j, t, ht, rfl, h⟩ := edgeN_mem hc
  have hlen : ∀ x : Tr, (edges3 x).length = 3 := fun _ => rfl
  have hs : spotE (c % 3) < 3 := by unfold spotE; split <;> (try split) <;> omega
  have hk := (List.getElem?_eq_some_iff.1 ht).1
  rw [flat3_at (k := 3) hlen (by decide) T (c / 3 * 3 + spotE (c % 3)) (by omega)]
  have e1 : (c / 3 * 3 + spotE (c % 3)) / 3 = c / 3 := by omega
  have e2 : (c / 3 * 3 + spotE (c % 3)) % 3 = spotE (c % 3) := by omega
  rw [e1, e2, getElem!_pos T (c / 3) hk]
  have e3 : T[c / 3] = t := by rw [List.getElem?_eq_getElem hk] at ht; exact Option.some.inj ht
  rw [e3]
  rcases h with ⟨h0, h⟩ | ⟨h0, h⟩ | ⟨h0, h⟩ <;> rw [h0, h] <;> rfl
theorem edge_inj {T : List Tr} (hu : (T.flatMap edges3).Nodup) {c d : Nat} (hc : c < 3 * T.length) (hd : d < 3 * T.length) (h : edgeN T c = edgeN T d) : c = d := by
  have a := edges_at hc
  have b := edges_at hd
  rw [h] at a
  obtain ⟨h1, e1⟩ := List.getElem?_eq_some_iff.1 a
  obtain ⟨h2, e2⟩ := List.getElem?_eq_some_iff.1 b
  have hp := List.pairwise_iff_getElem.1 (List.nodup_iff_pairwise_ne.1 hu)
  have : c / 3 * 3 + spotE (c % 3) = d / 3 * 3 + spotE (d % 3) := by
    rcases Nat.lt_trichotomy (c / 3 * 3 + spotE (c % 3)) (d / 3 * 3 + spotE (d % 3)) with hlt | e | hlt
    · exact absurd (e1.trans e2.symm) (hp _ _ h1 h2 hlt)
    · exact e
    · exact absurd (e2.trans e1.symm) (hp _ _ h2 h1 hlt)
  unfold spotE at this
  split at this <;> split at this <;> (try split at this) <;> (try split at this) <;> omega
theorem facI_some {T : List Tr} {e : Int × Int} {o : Nat} (h : facI T e = (o : Int)) : o < 3 * T.length ∧ edgeN T o = e := by
  unfold facI at h
  cases hf : facFrom T 0 e with
  | none => rw [hf] at h; simp only at h; omega
  | some d =>
    rw [hf] at h
    simp only at h
    have hd : d = o := by omega
    subst hd
    unfold facFrom at hf
    have h1 := List.mem_of_find?_eq_some hf
    have h2 := List.find?_some hf
    rw [List.mem_range'_1] at h1
    exact ⟨by omega, by simpa using h2⟩
theorem facI_of {T : List Tr} (hu : (T.flatMap edges3).Nodup) {o : Nat} (ho : o < 3 * T.length) : facI T (edgeN T o) = (o : Int) := by
  unfold facI
  cases hf : facFrom T 0 (edgeN T o) with
  | none =>
    unfold facFrom at hf
    have := List.find?_eq_none.1 hf o (by rw [List.mem_range'_1]; omega)
    simp at this
  | some d =>
    unfold facFrom at hf
    have h1 := List.mem_of_find?_eq_some hf
    have h2 := List.find?_some hf
    rw [List.mem_range'_1] at h1
    have := edge_inj hu (c := d) (d := o) (by omega) ho (by simpa using h2)
    rw [this]
theorem opp_some {T : List Tr} {c o : Nat} (hc : c < 3 * T.length) (h : oppI T (c : Int) = (o : Int)) : o < 3 * T.length ∧ edgeN T o = ((edgeN T c).2, (edgeN T c).1) := by
  unfold oppI at h
  rw [edgeI_nat hc] at h
  exact facI_some h
theorem opp_back {T : List Tr} (hu : (T.flatMap edges3).Nodup) {c o : Nat} (hc : c < 3 * T.length) (h : oppI T (c : Int) = (o : Int)) : oppI T (o : Int) = (c : Int) := by
  obtain ⟨ho, he⟩ := opp_some hc h
  unfold oppI
  rw [edgeI_nat ho, he]
  exact facI_of hu hc
theorem opp_cases (T : List Tr) (c : Int) : oppI T c = -1 ∨ ∃ o : Nat, oppI T c = (o : Int) ∧ o < 3 * T.length := by
  obtain ⟨h1, h2⟩ := oppI_bd T c
  by_cases h : 0 ≤ oppI T c
  · exact .inr ⟨(oppI T c).toNat, by omega, by omega⟩
  · exact .inl (by omega)

/-! Numbered parts. -/
def Reach (T : List Tr) (i j : Nat) : Prop := ∀ S : Nat → Prop, S i → (∀ c o : Nat, c < 3 * T.length → oppI T (c : Int) = (o : Int) → S (c / 3) → S (o / 3)) → S j
theorem Reach.refl (T : List Tr) (i : Nat) : Reach T i i := fun _ h _ => h
theorem Reach.step {T : List Tr} {i c o : Nat} (h : Reach T i (c / 3)) (hc : c < 3 * T.length) (ho : oppI T (c : Int) = (o : Int)) : Reach T i (o / 3) := fun S h1 h2 => h2 c o hc ho (h S h1 h2)
def at_ (out : List Int) (j : Nat) : Int := out.getD j (-1)
/-- Each triangle has the number of its part; the parts are numbered by their least triangles. -/
structure Shl (T : List Tr) (out : List Int) : Prop where
  len : out.length = T.length
  nn : ∀ j, j < T.length → 0 ≤ at_ out j
  adj : ∀ c o : Nat, c < 3 * T.length → oppI T (c : Int) = (o : Int) → at_ out (o / 3) = at_ out (c / 3)
  new : ∀ j, j < T.length → (∃ i, i < j ∧ at_ out i = at_ out j ∧ Reach T i j) ∨ ((∀ i, i < j → at_ out i < at_ out j) ∧ (at_ out j = 0 ∨ ∃ i, i < j ∧ at_ out i + 1 = at_ out j))
theorem Shl.reach {T : List Tr} {out : List Int} (h : Shl T out) {i j : Nat} (hr : Reach T i j) : at_ out i = at_ out j :=
  hr (fun x => at_ out i = at_ out x) rfl (fun c o hc ho e => e.trans (h.adj c o hc ho).symm)
theorem Shl.one {T : List Tr} {a b : List Int} (ha : Shl T a) (hb : Shl T b) : a = b := by
  have key : ∀ j, j < T.length → at_ a j = at_ b j := by
    intro j
    induction j using Nat.strongRecOn with
    | ind j ih =>
      intro hj
      rcases ha.new j hj with ⟨i, hi, e, hr⟩ | ⟨a1, a2⟩
      · rw [← e, ← hb.reach hr]
        exact ih i hi (by omega)
      · rcases hb.new j hj with ⟨i, hi, e, hr⟩ | ⟨b1, b2⟩
        · rw [← e, ← ha.reach hr]
          exact ih i hi (by omega)
        · rcases Int.lt_trichotomy (at_ a j) (at_ b j) with hlt | e | hlt
          · have h0 := ha.nn j hj
            rcases b2 with e | ⟨i, hi, e⟩
            · omega
            · have := a1 i hi
              rw [ih i hi (by omega)] at this
              omega
          · exact e
          · have h0 := hb.nn j hj
            rcases a2 with e | ⟨i, hi, e⟩
            · omega
            · have := b1 i hi
              rw [← ih i hi (by omega)] at this
              omega
  apply List.ext_getElem?
  intro j
  by_cases hj : j < T.length
  · have h1 : j < a.length := by rw [ha.len]; exact hj
    have h2 : j < b.length := by rw [hb.len]; exact hj
    have := key j hj
    simp only [at_, List.getD, List.getElem?_eq_getElem h1, List.getElem?_eq_getElem h2, Option.getD_some] at this
    rw [List.getElem?_eq_getElem h1, List.getElem?_eq_getElem h2, this]
  · rw [List.getElem?_eq_none (by rw [ha.len]; omega), List.getElem?_eq_none (by rw [hb.len]; omega)]

/-- While the parts are gone over: f triangles are looked at, n parts are there. -/
structure OfInv (T : List Tr) (f n : Nat) (out : List Int) : Prop where
  len : out.length = T.length
  lo : ∀ j, j < T.length → -1 ≤ at_ out j ∧ at_ out j < n
  done : ∀ j, j < f → 0 ≤ at_ out j
  adj : ∀ c o : Nat, c < 3 * T.length → oppI T (c : Int) = (o : Int) → 0 ≤ at_ out (c / 3) → at_ out (o / 3) = at_ out (c / 3)
  new : ∀ j, j < T.length → 0 ≤ at_ out j → (∃ i, i < j ∧ i < f ∧ at_ out i = at_ out j ∧ Reach T i j) ∨ (j < f ∧ (∀ i, i < j → at_ out i < at_ out j) ∧ (at_ out j = 0 ∨ ∃ i, i < j ∧ at_ out i + 1 = at_ out j))
  top : n = 0 ∨ ∃ j, j < f ∧ at_ out j + 1 = n
theorem at_replicate {m j : Nat} (h : j < m) : at_ (List.replicate m (-1)) j = -1 := by simp [at_, List.getD, h]
theorem OfInv.start (T : List Tr) : OfInv T 0 0 (List.replicate T.length (-1)) where
  len := by simp
  lo := fun j hj => by rw [at_replicate hj]; omega
  done := fun j hj => by omega
  adj := fun c o hc _ h => by rw [at_replicate (by omega)] at h; omega
  new := fun j hj h => by rw [at_replicate hj] at h; omega
  top := .inl rfl
theorem OfInv.skip {T : List Tr} {f n : Nat} {out : List Int} (h : OfInv T f n out) (h0 : 0 ≤ at_ out f) : OfInv T (f + 1) n out where
  len := h.len
  lo := h.lo
  done := fun j hj => by
    by_cases e : j = f
    · rw [e]; exact h0
    · exact h.done j (by omega)
  adj := h.adj
  new := fun j hj hn => by
    rcases h.new j hj hn with ⟨i, a, b, c⟩ | ⟨a, b⟩
    · exact .inl ⟨i, a, by omega, c⟩
    · exact .inr ⟨by omega, b⟩
  top := by
    rcases h.top with e | ⟨j, hj, e⟩
    · exact .inl e
    · exact .inr ⟨j, by omega, e⟩
theorem OfInv.finish {T : List Tr} {n : Nat} {out : List Int} (h : OfInv T T.length n out) : Shl T out ∧ (n = 0 ∨ ∃ j, j < T.length ∧ at_ out j + 1 = n) ∧ ∀ j, j < T.length → at_ out j < n :=
  ⟨⟨h.len, h.done, fun c o hc ho => h.adj c o hc ho (h.done _ (by omega)), fun j hj => by
    rcases h.new j hj (h.done j hj) with ⟨i, a, _, c⟩ | ⟨_, b⟩
    · exact .inl ⟨i, a, c⟩
    · exact .inr b⟩, h.top, fun j hj => (h.lo j hj).2⟩
/-- In the midst of part n, begun at f: W wait, or were gone over; of the i-th k corners are looked at. -/
structure OfBfs (T : List Tr) (f n : Nat) (out : List Int) (W : List Nat) (out' : List Int) (i k : Nat) : Prop where
  len : out'.length = T.length
  nd : W.Nodup
  lt : ∀ u ∈ W, u < T.length
  free : ∀ u ∈ W, at_ out u = -1
  lab : ∀ u ∈ W, at_ out' u = n
  old : ∀ j, j ∉ W → at_ out' j = at_ out j
  fin : f ∈ W
  reach : ∀ u ∈ W, Reach T f u
  closed : ∀ p k' u, (p < i ∨ (p = i ∧ k' < k)) → W[p]? = some u → k' < 3 → ∀ o : Nat, oppI T ((3 * u + k' : Nat) : Int) = (o : Int) → o / 3 ∈ W
theorem at_set {out : List Int} {j i : Nat} {x : Int} (hi : i < out.length) : at_ (out.set i x) j = if j = i then x else at_ out j := by
  unfold at_
  by_cases e : j = i
  · subst e
    simp [List.getD, hi]
  · rw [if_neg e, List.getD, List.getD, List.getElem?_set_ne (fun e' => e e'.symm)]
theorem OfInv.begin_ {T : List Tr} {f n : Nat} {out : List Int} (h : OfInv T f n out) (hf : f < T.length) (h0 : at_ out f < 0) : OfBfs T f n out [f] (out.set f (n : Int)) 0 0 where
  len := by simp [h.len]
  nd := by simp
  lt := fun u hu => by rw [List.mem_singleton.1 hu]; exact hf
  free := fun u hu => by
    rw [List.mem_singleton.1 hu]
    have := (h.lo f hf).1
    omega
  lab := fun u hu => by rw [List.mem_singleton.1 hu, at_set (by rw [h.len]; exact hf), if_pos rfl]
  old := fun j hj => by rw [at_set (by rw [h.len]; exact hf), if_neg (fun e => hj (by simp [e]))]
  fin := by simp
  reach := fun u hu => by rw [List.mem_singleton.1 hu]; exact Reach.refl T f
  closed := fun p k' u hp => by omega
theorem OfBfs.step0 {T : List Tr} {f n : Nat} {out : List Int} {W : List Nat} {out' : List Int} {i k u : Nat} (h : OfBfs T f n out W out' i k) (hu : W[i]? = some u) (hn : ∀ o : Nat, oppI T ((3 * u + k : Nat) : Int) = (o : Int) → o / 3 ∈ W) : OfBfs T f n out W out' i (k + 1) :=
  ⟨h.len, h.nd, h.lt, h.free, h.lab, h.old, h.fin, h.reach, fun p k' u' hp hu' hk' o ho => by
      by_cases e : p = i ∧ k' = k
      · obtain ⟨rfl, rfl⟩ := e
        rw [hu] at hu'
        cases hu'
        exact hn o ho
      · exact h.closed p k' u' (by omega) hu' hk' o ho⟩
theorem OfBfs.next {T : List Tr} {f n : Nat} {out : List Int} {W : List Nat} {out' : List Int} {i : Nat} (h : OfBfs T f n out W out' i 3) : OfBfs T f n out W out' (i + 1) 0 :=
  ⟨h.len, h.nd, h.lt, h.free, h.lab, h.old, h.fin, h.reach, fun p k' u' hp hu' hk' o ho => h.closed p k' u' (by omega) hu' hk' o ho⟩
theorem OfBfs.old_in {T : List Tr} (hE : (T.flatMap edges3).Nodup) {f n : Nat} {out : List Int} {W : List Nat} {out' : List Int} {i k u o : Nat} (hI : OfInv T f n out) (h : OfBfs T f n out W out' i k) (hu : W[i]? = some u) (hk : k < 3) (ho : oppI T ((3 * u + k : Nat) : Int) = (o : Int)) (h0 : 0 ≤ at_ out' (o / 3)) : o / 3 ∈ W := by
  refine Classical.byContradiction fun hne => ?_
  have hm := List.mem_of_getElem? hu
  have hul := h.lt u hm
  have hc : 3 * u + k < 3 * T.length := by omega
  rw [h.old _ hne] at h0
  have := hI.adj o (3 * u + k) (opp_some hc ho).1 (opp_back hE hc ho) h0
  rw [show (3 * u + k) / 3 = u from by omega, h.free u hm] at this
  omega
theorem OfBfs.add {T : List Tr} {f n : Nat} {out : List Int} {W : List Nat} {out' : List Int} {i k u o : Nat} (hI : OfInv T f n out) (h : OfBfs T f n out W out' i k) (hu : W[i]? = some u) (hk : k < 3) (ho : oppI T ((3 * u + k : Nat) : Int) = (o : Int)) (h0 : at_ out' (o / 3) < 0) : OfBfs T f n out (W ++ [o / 3]) (out'.set (o / 3) (n : Int)) i (k + 1) := by
  have hm := List.mem_of_getElem? hu
  have hul := h.lt u hm
  have hc : 3 * u + k < 3 * T.length := by omega
  have hol := (opp_some hc ho).1
  have hot : o / 3 < T.length := by omega
  have hne : o / 3 ∉ W := fun e => by
    rw [h.lab _ e] at h0
    omega
  have hli : i < W.length := (List.getElem?_eq_some_iff.1 hu).1
  refine ⟨by simp [h.len], ?_, ?_, ?_, ?_, ?_, List.mem_append_left _ h.fin, ?_, ?_⟩
  · rw [List.nodup_append]
    exact ⟨h.nd, by simp, fun a ha b hb e => by rw [List.mem_singleton.1 hb] at e; exact hne (by rw [← e]; exact ha)⟩
  · intro x hx
    rcases List.mem_append.1 hx with hx | hx
    · exact h.lt x hx
    · rw [List.mem_singleton.1 hx]; exact hot
  · intro x hx
    rcases List.mem_append.1 hx with hx | hx
    · exact h.free x hx
    · rw [List.mem_singleton.1 hx, ← h.old _ hne]
      have := (hI.lo (o / 3) hot).1
      rw [← h.old _ hne] at this
      omega
  · intro x hx
    rw [at_set (by rw [h.len]; exact hot)]
    rcases List.mem_append.1 hx with hx | hx
    · rw [if_neg (fun e => hne (by rw [← e]; exact hx))]
      exact h.lab x hx
    · rw [List.mem_singleton.1 hx, if_pos rfl]
  · intro j hj
    rw [at_set (by rw [h.len]; exact hot), if_neg (fun e => hj (by simp [e]))]
    exact h.old j (fun e => hj (List.mem_append_left _ e))
  · intro x hx
    rcases List.mem_append.1 hx with hx | hx
    · exact h.reach x hx
    · rw [List.mem_singleton.1 hx]
      exact Reach.step (c := 3 * u + k) (by rw [show (3 * u + k) / 3 = u from by omega]; exact h.reach u hm) hc ho
  · intro p k' u' hp hu' hk' o' ho'
    have hpl : p < W.length := by omega
    rw [List.getElem?_append_left hpl] at hu'
    by_cases e : p = i ∧ k' = k
    · obtain ⟨rfl, rfl⟩ := e
      rw [hu] at hu'
      cases hu'
      rw [ho] at ho'
      have : o = o' := by omega
      rw [← this]
      simp
    · exact List.mem_append_left _ (h.closed p k' u' (by omega) hu' hk' o' ho')
theorem OfBfs.finish {T : List Tr} {f n : Nat} {out : List Int} {W : List Nat} {out' : List Int} (hI : OfInv T f n out) (hf : f < T.length) (h : OfBfs T f n out W out' W.length 0) : OfInv T (f + 1) (n + 1) out' where
  len := h.len
  lo := fun j hj => by
    by_cases e : j ∈ W
    · rw [h.lab j e]; omega
    · rw [h.old j e]
      have := hI.lo j hj
      omega
  done := fun j hj => by
    by_cases e : j ∈ W
    · rw [h.lab j e]; omega
    · rw [h.old j e]
      exact hI.done j (by
        have : j ≠ f := fun e' => e (by rw [e']; exact h.fin)
        omega)
  adj := fun c o hc ho h0 => by
    by_cases e : c / 3 ∈ W
    · obtain ⟨p, hp⟩ := List.mem_iff_getElem?.1 e
      have := h.closed p (c % 3) (c / 3) (.inl (List.getElem?_eq_some_iff.1 hp).1) hp (by omega) o (by rw [show 3 * (c / 3) + c % 3 = c from by omega]; exact ho)
      rw [h.lab _ e, h.lab _ this]
    · rw [h.old _ e] at h0
      have := hI.adj c o hc ho h0
      have hne : o / 3 ∉ W := fun e' => by
        rw [h.free _ e'] at this
        omega
      rw [h.old _ e, h.old _ hne, this]
  new := fun j hj h0 => by
    have hfree : ∀ u ∈ W, f ≤ u := fun u hu => by
      rcases Nat.lt_or_ge u f with hlt | hge
      · have := hI.done u hlt
        rw [h.free u hu] at this
        omega
      · exact hge
    by_cases e : j ∈ W
    · by_cases ef : j = f
      · right
        subst ef
        refine ⟨by omega, fun i hi => ?_, ?_⟩
        · have hni : i ∉ W := fun e' => by have := hfree i e'; omega
          rw [h.old i hni, h.lab _ e]
          exact (hI.lo i (by omega)).2
        · rw [h.lab _ e]
          rcases hI.top with e0 | ⟨i, hi, e0⟩
          · left; omega
          · right
            have hni : i ∉ W := fun e' => by have := hfree i e'; omega
            exact ⟨i, hi, by rw [h.old i hni]; exact e0⟩
      · left
        have := hfree j e
        exact ⟨f, by omega, by omega, by rw [h.lab _ e, h.lab _ h.fin], h.reach j e⟩
    · rw [h.old j e] at h0 ⊢
      rcases hI.new j hj h0 with ⟨i, a, b, c, d⟩ | ⟨a, b, c⟩
      · left
        have hni : i ∉ W := fun e' => by have := hfree i e'; omega
        exact ⟨i, a, by omega, by rw [h.old i hni]; exact c, d⟩
      · right
        have hni : ∀ i, i < j → i ∉ W := fun i hi e' => by have := hfree i e'; omega
        refine ⟨by omega, fun i hi => by rw [h.old i (hni i hi)]; exact b i hi, ?_⟩
        rcases c with c | ⟨i, hi, c⟩
        · exact .inl c
        · exact .inr ⟨i, hi, by rw [h.old i (hni i hi)]; exact c⟩
  top := .inr ⟨f, by omega, by rw [h.lab _ h.fin]; omega⟩
theorem OfBfs.wl {T : List Tr} {f n : Nat} {out : List Int} {W : List Nat} {out' : List Int} {i k : Nat} (h : OfBfs T f n out W out' i k) : W.length ≤ T.length := by
  have := Jor.nodup_le (m := List.range T.length) h.nd (fun x hx => List.mem_range.2 (h.lt x hx))
  simpa using this
end Go.Proofs.Ytghlnknncahkgaa
/-
  A walk over a closed surface of Euler number 2, in plain words: loops of corners round what was gone over.
-/
namespace Go.Proofs.Ytghlnknncahkgaa
namespace Jor
section
variable {F N : Nat} {opp vert : Nat → Nat}

theorem xs_mem {n : Nat} {p : Nat → Bool} : ∀ {X : List Nat}, X.Nodup → (∀ c ∈ X, c < n) → xs (List.range n) (fun c => p c && decide (c ∈ X)) = xs X p
  | [], _, _ => by
    rw [xs_nil]
    exact xs_false fun c _ => by simp
  | a :: r, hn, hl => by
    obtain ⟨h1, h2⟩ := List.nodup_cons.1 hn
    have ih := xs_mem (p := p) h2 (fun c hc => hl c (List.mem_cons_of_mem _ hc))
    have e : xs (List.range n) (fun c => p c && decide (c ∈ a :: r)) = xs (List.range n) (fun c => xor (p c && decide (c = a)) (p c && decide (c ∈ r))) := by
      refine xs_congr fun c _ => ?_
      by_cases h : c = a
      · subst h
        simp [h1]
      · simp [h]
    rw [e, xs_xor, ih, xs_cons]
    congr 1
    rw [xs_one (a := a) List.nodup_range (List.mem_range.2 (hl a (List.mem_cons_self ..))) (fun c _ hc => by simp [hc])]
    simp

/-- Where the edge across from a corner begins, and ends. -/
def hd (vert : Nat → Nat) (c : Nat) : Nat := vert (nx c)
def tl (vert : Nat → Nat) (c : Nat) : Nat := vert (pv c)
/-- A corner whose triangle was not gone over, and the one across was. -/
def Bd (F : Nat) (opp : Nat → Nat) (D : List Nat) (c : Nat) : Prop := c < 3 * F ∧ c / 3 ∉ D ∧ opp c / 3 ∈ D
def Come (F : Nat) (vert : Nat → Nat) (D : List Nat) (v : Nat) : Prop := ∃ d, d < 3 * F ∧ d / 3 ∈ D ∧ vert d = v
/-- Round and round. -/
def Cyc (vert : Nat → Nat) (X : List Nat) : Prop := ∃ c r, X = c :: r ∧ X.map (tl vert) = r.map (hd vert) ++ [hd vert c]
theorem Cyc.perm {X : List Nat} (h : Cyc vert X) : (X.map (tl vert)).Perm (X.map (hd vert)) := by
  obtain ⟨c, r, rfl, e⟩ := h
  rw [e, List.map_cons]
  exact List.perm_append_singleton ..
/-- What a surface is, besides, that is walked over. -/
structure Walks (F N : Nat) (opp vert : Nat → Nat) : Prop extends Closed F N opp vert where
  euler : 2 * N = F + 4
  pos : 0 < F
  ei : ∀ c d, c < 3 * F → d < 3 * F → hd vert c = hd vert d → tl vert c = tl vert d → c = d
  ar : ∀ (v : Nat) (S : Nat → Prop), (∃ c, c < 3 * F ∧ vert c = v ∧ S (c / 3)) → (∀ c, c < 3 * F → vert c = v → S (c / 3) → S (opp (nx c) / 3) ∧ S (opp (pv c) / 3)) → ∀ c, c < 3 * F → vert c = v → S (c / 3)
/-- While a walk is on its way: D are the triangles gone over, Xs the loops. -/
structure WInv (F : Nat) (opp vert : Nat → Nat) (d0 : Nat) (D : List Nat) (Xs : List (List Nat)) : Prop where
  dnd : D.Nodup
  dlt : ∀ t ∈ D, t < F
  root : d0 ∈ D
  conn : ∀ S : Nat → Prop, S d0 → (∀ c, c < 3 * F → c / 3 ∈ D → opp c / 3 ∈ D → S (c / 3) → S (opp c / 3)) → ∀ t ∈ D, S t
  len : ∀ X ∈ Xs, 3 ≤ X.length
  cyc : ∀ X ∈ Xs, Cyc vert X
  vnd : ∀ X ∈ Xs, (X.map (hd vert)).Nodup
  nd : Xs.flatten.Nodup
  bd : ∀ c, c ∈ Xs.flatten ↔ Bd F opp D c
variable {d0 : Nat} {D : List Nat} {Xs : List (List Nat)}
theorem WInv.mem (h : WInv F opp vert d0 D Xs) {X : List Nat} (hX : X ∈ Xs) {c : Nat} (hc : c ∈ X) : Bd F opp D c := (h.bd c).1 (List.mem_flatten.2 ⟨X, hX, hc⟩)
theorem nodup_of_map {f : Nat → Nat} {l : List Nat} (h : (l.map f).Nodup) : l.Nodup := List.Pairwise.of_map f (fun a b hab e => hab (by rw [e])) h
theorem WInv.colour (K : Walks F N opp vert) (h : WInv F opp vert d0 D Xs) {X : List Nat} (hX : X ∈ Xs) :
    ∃ f : Nat → Bool, (∀ t ∈ D, f t = f d0) ∧ ∀ c, c < 3 * F → xor (f (c / 3)) (f (opp c / 3)) = (decide (c ∈ X) || decide (opp c ∈ X)) := by
  have hnd : X.Nodup := nodup_of_map (h.vnd X hX)
  have hlt : ∀ c ∈ X, c < 3 * F := fun c hc => (h.mem hX hc).1
  have hx : ∀ c, c < 3 * F → c ∈ X → opp c ∉ X := fun c hc h1 h2 => (h.mem hX h2).2.1 (h.mem hX h1).2.2
  obtain ⟨f, hf⟩ := jordan K.toClosed K.pos K.euler (κ := fun c => decide (c ∈ X) || decide (opp c ∈ X))
    (fun c hc => by simp only [K.inv c hc]; exact Bool.or_comm ..) (fun v hv => by
      have e1 : par F vert (fun c => decide (c ∈ X) || decide (opp c ∈ X)) v = xs (List.range (3 * F)) (fun c => xor (hd vert c == v && decide (c ∈ X)) (hd vert c == v && decide (opp c ∈ X))) := by
        unfold par
        refine xs_congr fun c hc => ?_
        have := hx c (List.mem_range.1 hc)
        unfold hd
        by_cases m1 : c ∈ X
        · simp [m1, this m1]
        · simp [m1]
      have e2 : xs (List.range (3 * F)) (fun c => hd vert c == v && decide (opp c ∈ X)) = xs (List.range (3 * F)) (fun c => tl vert c == v && decide (c ∈ X)) := by
        rw [← xs_perm (perm_map_range opp opp K.lt K.lt K.inv K.inv) (p := fun c => hd vert c == v && decide (opp c ∈ X)), xs_map]
        refine xs_congr fun c hc => ?_
        have hc := List.mem_range.1 hc
        unfold hd tl
        rw [K.vn c hc, K.inv c hc]
      rw [e1, xs_xor, e2, xs_mem hnd hlt, xs_mem hnd hlt]
      have e3 : xs X (fun c => hd vert c == v) = xs X (fun c => tl vert c == v) := by
        rw [← xs_map (hd vert) (p := fun c => c == v), ← xs_map (tl vert) (p := fun c => c == v)]
        exact xs_perm (h.cyc X hX).perm.symm
      rw [e3]
      simp)
  refine ⟨f, ?_, hf⟩
  refine h.conn (fun t => f t = f d0) rfl ?_
  intro c hc h1 h2 e
  have := hf c hc
  have m1 : c ∉ X := fun m => (h.mem hX m).2.1 h1
  have m2 : opp c ∉ X := fun m => (h.mem hX m).2.1 h2
  simp only [m1, m2, decide_false, Bool.or_false] at this
  rw [← e]
  revert this
  cases f (c / 3) <;> cases f (opp c / 3) <;> simp
/-- Two open gates of one triangle lie in one loop. -/
theorem WInv.only (K : Walks F N opp vert) (h : WInv F opp vert d0 D Xs) {X : List Nat} (hX : X ∈ Xs) {c0 c1 : Nat} (h0 : c0 ∈ X) (h1 : Bd F opp D c1) (e : c1 / 3 = c0 / 3) : c1 ∈ X := by
  obtain ⟨f, fD, hf⟩ := h.colour K hX
  have b0 := h.mem hX h0
  have k0 := hf c0 b0.1
  have k1 := hf c1 h1.1
  rw [fD _ b0.2.2] at k0
  rw [fD _ h1.2.2, e] at k1
  have m2 : opp c1 ∉ X := fun m => (h.mem hX m).2.1 h1.2.2
  rw [k0] at k1
  simp only [h0, m2, decide_true, Bool.true_or, decide_false, Bool.or_false] at k1
  simpa using k1.symm
theorem Cyc.tl_mem {X : List Nat} (h : Cyc vert X) {c : Nat} (hc : c ∈ X) : tl vert c ∈ X.map (hd vert) := h.perm.mem_iff.1 (List.mem_map_of_mem hc)
/-- A vertex that was come to, of a triangle at a loop, lies in that loop. -/
theorem WInv.touch (K : Walks F N opp vert) (h : WInv F opp vert d0 D Xs) {X : List Nat} (hX : X ∈ Xs) {c0 c : Nat} (h0 : c0 ∈ X) (hc : c < 3 * F) (e : c / 3 = c0 / 3) (hv : Come F vert D (vert c)) : vert c ∈ X.map (hd vert) := by
  refine Classical.byContradiction fun hne => ?_
  obtain ⟨f, fD, hf⟩ := h.colour K hX
  have b0 := h.mem hX h0
  have k0 := hf c0 b0.1
  rw [fD _ b0.2.2] at k0
  obtain ⟨d, hd1, hd2, hd3⟩ := hv
  have key : ∀ g, g < 3 * F → (hd vert g = vert c ∨ tl vert g = vert c) → f (g / 3) = f (opp g / 3) := by
    intro g hg hgv
    have m1 : g ∉ X := fun m => by
      rcases hgv with e | e
      · exact hne (by rw [← e]; exact List.mem_map_of_mem m)
      · exact hne (by rw [← e]; exact (h.cyc X hX).tl_mem m)
    have m2 : opp g ∉ X := fun m => by
      rcases hgv with e | e
      · have := (h.cyc X hX).tl_mem m
        unfold tl at this
        rw [K.vp g hg] at this
        exact hne (by rw [← e]; exact this)
      · have : hd vert (opp g) ∈ X.map (hd vert) := List.mem_map_of_mem m
        unfold hd at this
        rw [K.vn g hg] at this
        exact hne (by rw [← e]; exact this)
    have := hf g hg
    simp only [m1, m2, decide_false, Bool.or_false] at this
    revert this
    cases f (g / 3) <;> cases f (opp g / 3) <;> simp
  have hS := K.ar (vert c) (fun t => f t = f d0) ⟨d, hd1, hd3, fD _ hd2⟩ (fun g hg hgv hS => by
    refine ⟨?_, ?_⟩
    · rw [← key (nx g) (nx_lt hg) (.inr (by unfold tl; rw [pv_nx]; exact hgv)), nx_div]
      exact hS
    · rw [← key (pv g) (pv_lt hg) (.inl (by unfold hd; rw [nx_pv]; exact hgv)), pv_div]
      exact hS) c hc rfl
  rw [e] at hS
  have hS' : f (c0 / 3) = f d0 := hS
  rw [hS'] at k0
  simp [h0] at k0

/-! One triangle more. -/
theorem bd_step (K : Walks F N opp vert) {c0 : Nat} (h0 : Bd F opp D c0) (c : Nat) :
    Bd F opp (c0 / 3 :: D) c ↔ (Bd F opp D c ∧ c ≠ c0 ∧ c ≠ pv c0 ∧ c ≠ nx c0) ∨ (c = opp (pv c0) ∧ ¬ Bd F opp D (pv c0)) ∨ (c = opp (nx c0) ∧ ¬ Bd F opp D (nx c0)) := by
  obtain ⟨hl, hn, hi⟩ := h0
  have same : ∀ g, g / 3 = c0 / 3 ↔ g = c0 ∨ g = pv c0 ∨ g = nx c0 := fun g => by unfold nx pv; omega
  have ha : pv c0 < 3 * F := pv_lt hl
  have hb : nx c0 < 3 * F := nx_lt hl
  constructor
  · rintro ⟨c1, c2, c3⟩
    have c2' : c / 3 ≠ c0 / 3 ∧ c / 3 ∉ D := by simpa using c2
    have hne := fun e => c2'.1 ((same c).2 e)
    rcases List.mem_cons.1 c3 with c3 | c3
    · rcases (same _).1 c3 with e | e | e
      · exact absurd (show c / 3 ∈ D by rw [← K.inv c c1, e]; exact hi) c2'.2
      · have e2 : c = opp (pv c0) := by rw [← e, K.inv c c1]
        exact .inr (.inl ⟨e2, fun hbd => c2'.2 (by rw [e2]; exact hbd.2.2)⟩)
      · have e2 : c = opp (nx c0) := by rw [← e, K.inv c c1]
        exact .inr (.inr ⟨e2, fun hbd => c2'.2 (by rw [e2]; exact hbd.2.2)⟩)
    · exact .inl ⟨⟨c1, c2'.2, c3⟩, fun e => hne (.inl e), fun e => hne (.inr (.inl e)), fun e => hne (.inr (.inr e))⟩
  · rintro (⟨⟨c1, c2, c3⟩, e1, e2, e3⟩ | ⟨rfl, hbd⟩ | ⟨rfl, hbd⟩)
    · refine ⟨c1, ?_, List.mem_cons_of_mem _ c3⟩
      rw [List.mem_cons, not_or]
      exact ⟨fun e => by rcases (same c).1 e with e | e | e; exact e1 e; exact e2 e; exact e3 e, c2⟩
    · refine ⟨K.lt _ ha, ?_, ?_⟩
      · rw [List.mem_cons, not_or]
        exact ⟨fun e => K.apart _ ha (by rw [e, pv_div]), fun hm => hbd ⟨ha, by rw [pv_div]; exact hn, hm⟩⟩
      · rw [K.inv _ ha, pv_div]
        exact List.mem_cons_self ..
    · refine ⟨K.lt _ hb, ?_, ?_⟩
      · rw [List.mem_cons, not_or]
        exact ⟨fun e => K.apart _ hb (by rw [e, nx_div]), fun hm => hbd ⟨hb, by rw [nx_div]; exact hn, hm⟩⟩
      · rw [K.inv _ hb, nx_div]
        exact List.mem_cons_self ..
/-- .. and what the loops must be then. -/
theorem WInv.step (K : Walks F N opp vert) (h : WInv F opp vert d0 D Xs) {c0 : Nat} (h0 : Bd F opp D c0) {Ys : List (List Nat)}
    (len : ∀ X ∈ Ys, 3 ≤ X.length) (cyc : ∀ X ∈ Ys, Cyc vert X) (vnd : ∀ X ∈ Ys, (X.map (hd vert)).Nodup) (nd : Ys.flatten.Nodup)
    (bd : ∀ c, c ∈ Ys.flatten ↔ (Bd F opp D c ∧ c ≠ c0 ∧ c ≠ pv c0 ∧ c ≠ nx c0) ∨ (c = opp (pv c0) ∧ ¬ Bd F opp D (pv c0)) ∨ (c = opp (nx c0) ∧ ¬ Bd F opp D (nx c0))) : WInv F opp vert d0 (c0 / 3 :: D) Ys where
  dnd := List.nodup_cons.2 ⟨h0.2.1, h.dnd⟩
  dlt := fun t ht => by
    rcases List.mem_cons.1 ht with rfl | ht
    · have := h0.1
      omega
    · exact h.dlt t ht
  root := List.mem_cons_of_mem _ h.root
  conn := fun S s0 sc t ht => by
    have hD := h.conn S s0 (fun c c1 c2 c3 => sc c c1 (List.mem_cons_of_mem _ c2) (List.mem_cons_of_mem _ c3))
    rcases List.mem_cons.1 ht with rfl | ht
    · have := sc (opp c0) (K.lt _ h0.1) (List.mem_cons_of_mem _ h0.2.2) (by rw [K.inv _ h0.1]; exact List.mem_cons_self ..) (hD _ h0.2.2)
      rwa [K.inv _ h0.1] at this
    · exact hD t ht
  len := len
  cyc := cyc
  vnd := vnd
  nd := nd
  bd := fun c => (bd c).trans (bd_step K h0 c).symm
end
end Jor
end Go.Proofs.Ytghlnknncahkgaa
