/-
  Texts joined by program: BrdO WkSim.
-/
import Derived.Test.YtghlnknncahkgaaLM1
import Derived.Test.YtghlnknncahkgaaK12
import Derived.Test.YtghlnknncahkgaaK4
import Derived.Maps.OwnIn
import Derived.Test.YtghlnknncahkgaaK16
import Derived.Test.YtghlnknncahkgaaK13
import Derived.Test.YtghlnknncahkgaaK14
/-
  border.Loops on any surface: the loops' rows, none just if the surface is closed.
-/
namespace Go.Proofs.Ytghlnknncahkgaa
open Go.RowKit Go.Maps Go.Shelf
attribute [local go_sem] Oper.semAt_some

theorem wpListIn_storeP {F : Fence} {n : Nat} {P : Program} {k : TypeId} {b : Nat} {w : World} {f : Value → Option Value} {ops : Array Oper} {rest : List Oper} {o : Oper} {a : Act} {Q : Exit → Act → World → Prop} (h : MapP P k w b f)
    (hg : o.guard = none) (m x v : Operand) (t E : TypeId) (hop : o.op = Op.mapUpdate t m x v) (K : Keyed P k) (ht : P.underlying t = some (.map k E))
    (hm : a.eval m = .map (some b)) (key vv : Value) (hx : a.eval x = key) (hv : a.eval v = vv) {kl : Lit} (hkey : keyOf P k key = some kl)
    (hK : ∀ w', MapP P k w' b (updP f key vv) → w.grownBy w' (some b) → w'.heap.size = w.heap.size → wpListIn F n P ops Q rest (a.put o.dst undef) w') : wpListIn F n P ops Q (o :: rest) a w := by
  refine wpListIn_plain hg fun K' hK' => ?_
  obtain ⟨w', hrun, r1, r2, r3⟩ := h.store K ht hkey vv
  unfold Oper.wpIn
  refine ⟨?_, ?_⟩
  · simp [Oper.about, hop]
  · rw [Oper.semAt_plain F _ _ (by rw [hop]; intro c hc'; cases hc')]
    simp [execOp, hop, hm, hx, hv, hrun, Result.andThen]
    exact hK' _ _ (hK w' r1 r2 r3)
/-- What border.Loops holds between two rounds. -/
structure LoI (q : Prop) (w : World) (n : Nat) (T : List Tr) (k : Nat) (vO : Value) (L : List (List Int)) (us : List Value) (f : Value → Option Value) (W : World) : Prop where
  bx : Blk W (w.heap.size + 1) 98 #[.map (some w.heap.size)]
  map : MapP Try.prog 3 W w.heap.size f
  row : W.ownsRow w.heap.size 33 1 vO us.length us
  len : us.length = L.length
  lk : L.length ≤ k
  els : ∀ (i : Nat) (u : Value) (r : List Int), us[i]? = some u → L[i]? = some r → W.ownsRow w.heap.size 3 1 u r.length (intsV r) ∧ ∃ a r', r = a :: r' ∧ 0 ≤ a ∧ a < n
  tru : ∀ y v, f y = some v → v = .bool true
  emp : q → L = [] → (∀ y, f y = none) ∧ ∀ j : Nat, j < k → ∀ u, ¬ Nxt T j u
  ne : L ≠ [] → ¬ ClosedT T
  below : Below w.heap.size w W
section
variable {w W W' : World} {n k : Nat} {T : List Tr} {vO : Value} {L : List (List Int)} {us : List Value} {f : Value → Option Value}
theorem LoI.same (h : LoI True w n T k vO L us f W) (hb : Below w.heap.size W W') (hs : ∀ j, j < W.heap.size → j ≠ w.heap.size → W'.heap[j]? = W.heap[j]?) {f' : Value → Option Value} (hm : MapP Try.prog 3 W' w.heap.size f') (ht : ∀ y v, f' y = some v → v = .bool true) {q : Prop} (he : q → L = [] → ∀ y, f' y = none) : LoI q w n T k vO L us f' W' := by
  have go : ∀ {e : TypeId} {s m : Nat} {v : Value} {xs : List Value}, W.ownsRow w.heap.size e s v m xs → W'.ownsRow w.heap.size e s v m xs := fun hr => own_same hr (fun j e => hs j (hr.lt j e).2 (fun e2 => by
    subst e2
    rcases own_blk_none_map hr h.map with h1 | h1
    · rw [e] at h1; cases h1
    · exact h1 e))
  exact ⟨blk_same h.bx (hs _ h.bx.lt (by omega)), hm, go h.row, h.len, h.lk, fun i u r h1 h2 => ⟨go (h.els i u r h1 h2).1, (h.els i u r h1 h2).2⟩, ht, fun hq e => ⟨he hq e, (h.emp trivial e).2⟩, h.ne, h.below.trans hb⟩
theorem LoI.below' (h : LoI True w n T k vO L us f W) (hb : Below W.heap.size W W') : LoI True w n T k vO L us f W' :=
  h.same (hb.mono h.below.size) (fun j hj _ => hb.block j hj) (h.map.below hb h.map.lt) h.tru (fun _ e => (h.emp trivial e).1)
theorem LoI.alloc {q : Prop} (h : LoI q w n T k vO L us f W) (o : Obj) : LoI q w n T k vO L us f (W.alloc o) := by
  have go : ∀ {e : TypeId} {s m : Nat} {v : Value} {xs : List Value}, W.ownsRow w.heap.size e s v m xs → (W.alloc o).ownsRow w.heap.size e s v m xs := fun hr => hr.alloc o
  exact ⟨h.bx.alloc o, h.map.alloc o, go h.row, h.len, h.lk, fun i u r h1 h2 => ⟨go (h.els i u r h1 h2).1, (h.els i u r h1 h2).2⟩, h.tru, h.emp, h.ne, h.below.alloc h.below.size o⟩
theorem LoI.next (h : LoI True w n T k vO L us f W) (hk : L = [] → ∀ u, ¬ Nxt T k u) : LoI True w n T (k + 1) vO L us f W :=
  ⟨h.bx, h.map, h.row, h.len, by have := h.lk; omega, h.els, h.tru, fun _ e => ⟨(h.emp trivial e).1, fun j hj u hu => by
    rcases Nat.lt_or_ge j k with h1 | h1
    · exact (h.emp trivial e).2 j h1 u hu
    · obtain rfl : j = k := by omega
      exact hk e u hu⟩, h.ne, h.below⟩
end
theorem own_no_mark {W : World} {base m s j : Nat} {e : TypeId} {v : Value} {xs : List Value} (h : W.ownsRow base e s v m xs) (hj : v.ownBlock = some j) {r : Option (List Deferred)} (hm : W.heap[j]? = some (.deferred r)) : False := by
  rcases h.2 with ⟨rfl, _⟩ | ⟨g', cap, cur, rfl, _, hh, _⟩
  · cases hj
  · have e1 : g' = j := by simpa [Value.ownBlock] using hj
    subst e1
    rw [hm] at hh
    cases hh
theorem LoI.marks {w W W' : World} {n k : Nat} {T : List Tr} {vO : Value} {L : List (List Int)} {us : List Value} {f : Value → Option Value} {S : Nat → Prop} (h : LoI True w n T k vO L us f W) (hk : Kept S W W') (hs : ∀ j, S j → w.heap.size ≤ j ∧ ∃ r, W.heap[j]? = some (.deferred r)) : LoI True w n T k vO L us f W' := by
  have go : ∀ {e : TypeId} {s m : Nat} {v : Value} {xs : List Value}, W.ownsRow w.heap.size e s v m xs → W'.ownsRow w.heap.size e s v m xs := fun hr => own_same hr (fun j e => hk.block j (hr.lt j e).2 (fun hS => by
    obtain ⟨-, r, h2⟩ := hs j hS
    exact own_no_mark hr e h2))
  refine ⟨blk_same h.bx (hk.block _ h.bx.lt (fun hS => ?_)), h.map.same9 (hk.block _ h.map.lt (fun hS => ?_)), go h.row, h.len, h.lk, fun i u r h1 h2 => ⟨go (h.els i u r h1 h2).1, (h.els i u r h1 h2).2⟩, h.tru, h.emp, h.ne, h.below.trans (hk.below (fun j hj => (hs j hj).1) h.below.size)⟩
  · obtain ⟨-, r, h2⟩ := hs _ hS
    have := h.bx.symm.trans h2
    exact absurd this (by simp)
  · obtain ⟨-, r, h2⟩ := hs _ hS
    obtain ⟨es, clock, hm⟩ := h.map.obj
    rw [hm] at h2
    exact absurd h2 (by simp)
theorem Mks.alloc9 {base : Nat} {W : World} {ds : List Deferred} (h : Mks base W ds) (o : Obj) : Mks base (W.alloc o) ds := h.below ((Below.refl _ _).alloc (Nat.le_refl _) _)
theorem Mks.grown9 {base base' m s : Nat} {e : TypeId} {v : Value} {xs : List Value} {W W' : World} {ds : List Deferred} (h : Mks base W ds) (hg : W.grownBy W' v.ownBlock) (hr : W.ownsRow base' e s v m xs) : Mks base W' ds :=
  ⟨fun d hd => by
    obtain ⟨r, h1, h2, h3⟩ := h.1 d hd
    exact ⟨r, h1, h2, (hg.block r (Array.getElem?_eq_some_iff.1 h3).1 (fun e => own_no_mark hr e.symm h3)).trans h3⟩, h.2⟩
theorem nxt_open {T : List Tr} {v u : Int} (h : Nxt T v u) : ¬ ClosedT T := fun hc => by
  obtain ⟨c, h1, -⟩ := h
  have := hc _ (Jor.nx_lt h1.1)
  rw [h1.2] at this
  omega
theorem open_nxt {n : Nat} {T : List Tr} (hS : Surf n T) (h : ¬ ClosedT T) : ∃ j : Nat, j < n ∧ ∃ u, Nxt T j u := by
  refine Classical.byContradiction fun hno => h fun c hc => ?_
  rcases opp_cases T (c : Int) with ho | ⟨o, ho, -⟩
  · exfalso
    have he : EndC T (Jor.pv c) := ⟨Jor.pv_lt hc, by rw [Jor.nx_pv]; exact ho⟩
    have hr := vert_rng hS he.1
    exact hno ⟨(vertN T (Jor.pv c)).toNat, by omega, _, _, he, by omega, rfl⟩
  · omega
theorem LoI.post {w W : World} {n : Nat} {T : List Tr} {vO : Value} {L : List (List Int)} {us : List Value} {f : Value → Option Value} (hS : Surf n T) (h : LoI True w n T n vO L us f W) : LoopsPost n T w (.returned vO) W :=
  ⟨vO, us, L, rfl, by rw [← h.len]; exact h.row, h.lk, h.els, ⟨fun e => Classical.byContradiction fun hc => by
    obtain ⟨j, h1, u, h2⟩ := open_nxt hS hc
    exact (h.emp trivial e).2 j h1 u h2, fun hc => Classical.byContradiction fun hne => h.ne hne hc⟩, h.below⟩
theorem LoI.app {w W W' : World} {n k : Nat} {T : List Tr} {vO v : Value} {L : List (List Int)} {us : List Value} {f : Value → Option Value} {xs : List Int} {g' cap m : Nat} (h : LoI False w n T k vO L us f W) (hr : W.ownsRow w.heap.size 3 1 v xs.length (intsV xs)) (hx : ∃ a r', xs = a :: r' ∧ 0 ≤ a ∧ a < n) (hc : ¬ ClosedT T)
    (hg : W.grownBy W' vO.ownBlock) (hn : W'.ownsRow w.heap.size 33 1 (.slice (some ⟨g', 0, none⟩) m cap) m (us ++ [v])) (hm : m = us.length + 1) : LoI True w n T (k + 1) (.slice (some ⟨g', 0, none⟩) m cap) (L ++ [xs]) (us ++ [v]) f W' := by
  subst hm
  have kp : ∀ {v' : Value} {m : Nat} {xs : List Value}, W.ownsRow w.heap.size 3 1 v' m xs → W'.ownsRow w.heap.size 3 1 v' m xs := fun hr => hr.kept hg (own_own_ne hr h.row (by decide))
  refine ⟨h.bx.grown hg (fun e => own_blk_ne h.row h.bx (by decide) e.symm), h.map.kept hg (fun e => ?_), by rw [List.length_append]; exact hn, by simp [h.len], by have := h.lk; simp; omega, ?_, h.tru, fun _ e => by simp at e, fun _ => hc, h.below.grown hg h.below.size (fun j e => by have := h.row.lt j e; omega)⟩
  · rcases own_blk_none_map h.row h.map with h1 | h1
    · rw [← e] at h1; cases h1
    · exact h1 e.symm
  · intro i u r h1 h2
    rcases Nat.lt_or_ge i us.length with hi | hi
    · rw [List.getElem?_append_left hi] at h1
      rw [List.getElem?_append_left (by rw [← h.len]; exact hi)] at h2
      have := h.els i u r h1 h2
      exact ⟨kp this.1, this.2⟩
    · rw [List.getElem?_append_right hi] at h1
      rw [List.getElem?_append_right (by rw [← h.len]; exact hi)] at h2
      rw [h.len] at h1
      cases hj : i - L.length with
      | zero =>
        rw [hj] at h1 h2
        simp at h1 h2
        subst h1; subst h2
        exact ⟨kp hr, hx⟩
      | succ j => rw [hj] at h1; simp at h1
theorem Mks.same {base : Nat} {W W' : World} {ds : List Deferred} (h : Mks base W ds) {q : Nat} (hq : ∃ es clock, W.heap[q]? = some (.map es clock)) (hs : ∀ j, j < W.heap.size → j ≠ q → W'.heap[j]? = W.heap[j]?) : Mks base W' ds :=
  ⟨fun d hd => by
    obtain ⟨r, h1, h2, h3⟩ := h.1 d hd
    refine ⟨r, h1, h2, (hs r (Array.getElem?_eq_some_iff.1 h3).1 (fun e => ?_)).trans h3⟩
    obtain ⟨es, clock, hm⟩ := hq
    rw [e, hm] at h3
    exact absurd h3 (by simp), h.2⟩
/-- While the vertices are marked. -/
def MkI (w W4 : World) (Bv : Nat) (f : Value → Option Value) (pre : List Int) (C : Nat → Prop) (W : World) : Prop :=
  (∀ k, C k ↔ w.heap.size ≤ k ∧ k < W4.heap.size ∧ k ≠ Bv) ∧ (∀ k, C k → k ≠ w.heap.size → W.heap[k]? = W4.heap[k]?) ∧ Below w.heap.size W4 W ∧ ∃ f', MapP Try.prog 3 W w.heap.size f' ∧ (∀ y v, f' y = some v → v = .bool true) ∧ (pre = [] → f' = f)

set_option maxRecDepth 100000 in
set_option maxHeartbeats 4000000 in
theorem loopsB_any (g n : Nat) (T : List Tr) (w : World) (h : Tab w g n T) (hS : Surf n T) (hn : n ≤ 4096) :
    Calls Try.prog 34 #[.pointer (some ⟨g, 0, none⟩)] w (LoopsPost n T w) := by
  have H0 := Lib.hid (fun (W : World) (hW : Below w.heap.size w W) => vertices_any g n T W (h.below hW).toTabS)
  have HT := Lib.hid (fun (W : World) (hW : Below w.heap.size w W) => h.below hW)
  have HT0 := Lib.hid h
  have HS := Lib.hid hS
  clear h hS
  have hmm := @run_makeMap Try.prog
  refine (callsIn_wide (n := 9)).1 ?_
  refine callsIn_of_wp_marks Try.func34 rfl trivial ?_ rfl
  simp only [Try.ntmps34, List.size_toArray, List.length_cons, List.length_nil, Nat.reduceAdd, Nat.reduceSub, Array.replicate_succ, Array.replicate_zero, List.push_toArray, List.append_toArray, List.nil_append, List.cons_append]
  have hB0 : Below w.heap.size w ((w.alloc (.map #[] 0)).alloc (.cells #[.map (some w.heap.size)] 98)) := ((Below.refl _ _).alloc (Nat.le_refl _) _).alloc (by simp) _
  have hm0 : MapP Try.prog 3 ((w.alloc (.map #[] 0)).alloc (.cells #[.map (some w.heap.size)] 98)) w.heap.size (fun _ => none) := (MapP.made w Try.prog 3).alloc _
  have b0 : Blk ((w.alloc (.map #[] 0)).alloc (.cells #[.map (some w.heap.size)] 98)) (w.heap.size + 1) 98 #[.map (some w.heap.size)] := by
    have := Blk.new (w.alloc (.map #[] 0)) 98 #[.map (some w.heap.size)]
    rwa [World.size_alloc] at this
  have HI0 := Lib.hid (show LoI True w n T 0 (.slice none 0 0) [] [] (fun _ => none) _ from ⟨b0, hm0, World.ownsRow_nil _ _ _ _, rfl, Nat.le_refl _, fun i u r h1 => by simp at h1, fun y v h => by simp at h, fun _ _ => ⟨fun _ => rfl, fun j hj => absurd hj (by omega)⟩, fun h => absurd rfl h, hB0⟩)
  have HB0 := Lib.hid hB0
  clear hB0 hm0 b0
  gi_wp2_with fail
  refine ⟨trivial, (callsIn_wide.2 (H0.out _ HB0.out)).mono ?_⟩
  rintro e w1 ⟨rfl, rfl⟩
  gi_wp2
  refine wpIn_loop (fun a' W => ∃ (k : Nat) (vO u5 u6 u7 u14 u15 u16 u17 u18 u19 u20 u21 u22 u23 u24 u25 u29 u30 u31 u32 u33 u34 u35 u36 : Value) (ds : List Deferred) (L : List (List Int)) (us : List Value) (f : Value → Option Value), a' = { tmps := List.toArray (.pointer (some ⟨g, 0, none⟩) :: undef :: .slice none 0 0 :: vO :: .pointer (some ⟨w.heap.size + 1, 0, none⟩) :: u5 :: u6 :: u7 :: .pointer (some ⟨g, 0, none⟩) :: .bool false :: .map (some w.heap.size) :: .pointer (some ⟨g, 0, none⟩) :: .int .i64 (n : Int) :: .int .i64 (k : Int) :: u14 :: u15 :: u16 :: u17 :: u18 :: u19 :: u20 :: u21 :: u22 :: u23 :: u24 :: u25 :: undef :: undef :: undef :: u29 :: u30 :: u31 :: u32 :: u33 :: u34 :: u35 :: u36 :: undef :: []), defers := ds } ∧
    k ≤ n ∧ Mks w.heap.size W ds ∧ LoI True w n T k vO L us f W)
    (fun a' _ => n - (intOf (a'.tmps.getD 13 undef)).toNat) ?_ ?_
  · exact ⟨0, _, _, _, _, _, _, _, _, _, _, _, _, _, _, _, _, _, _, _, _, _, _, _, _, _, _, _, _, rfl, Nat.zero_le _, Mks.nil _ _, HI0.out⟩
  · rintro a' W ⟨k, vO, u5, u6, u7, u14, u15, u16, u17, u18, u19, u20, u21, u22, u23, u24, u25, u29, u30, u31, u32, u33, u34, u35, u36, ds, L, us, f, rfl, hk, hM, hI⟩
    clear HI0 HB0
    obtain ⟨q0, q1, q2⟩ := hI.bx.one
    have hsz := hI.below.size
    have hlk := hI.lk
    have hul := hI.len
    by_cases hlt : k < n
    · have k3 : (k : Int) < (n : Int) := by omega
      have hkeyv := keyOf_int_mk (P := Try.prog) (k := 3) (q := .i64) Try.underlying3 (wfV (x := (k : Int)) ⟨by omega, by omega⟩)
      have hlook := hI.map.look (t := 98) (int_keyed Try.underlying3) Try.underlying98 (zero_bool _) hkeyv
      have HM := Lib.hid hM
      have HI := Lib.hid hI
      cases hfk : f (.int .i64 (k : Int)) with
      | some y =>
        have hy := hI.tru _ _ hfk
        subst hy
        rw [hfk, Option.getD_some] at hlook
        have HN := Lib.hid (hI.next (fun e => by rw [(hI.emp trivial e).1] at hfk; cases hfk))
        clear hM hI HI hfk
        gi_wp2
        refine ⟨⟨k + 1, _, _, _, _, _, _, _, _, _, _, _, _, _, _, _, _, _, _, _, _, _, _, _, _, _, _, _, _, by go_num, by omega, HM.out, HN.out⟩, ?_⟩
        simp [intOf]
        omega
      | none =>
      rw [hfk, Option.getD_none] at hlook
      clear hM hI hfk
      gi_wp2_with fail
      refine ⟨trivial, (callsIn_wide.2 (callsIn_wide.1 (bwalk_any Fence.wide 8 trivial rfl g (k : Int) W))).mono ?_⟩
      rintro e w2 ⟨rfl, rfl⟩
      have hB2 : Below W.heap.size W ((W.alloc (.cells #[.pointer (some ⟨g, 0, none⟩)] 28)).alloc (.cells #[.int .i64 (k : Int)] 3)) := ((Below.refl _ _).alloc (Nat.le_refl _) _).alloc (by simp) _
      have bt : Blk ((W.alloc (.cells #[.pointer (some ⟨g, 0, none⟩)] 28)).alloc (.cells #[.int .i64 (k : Int)] 3)) W.heap.size 28 #[.pointer (some ⟨g, 0, none⟩)] := (Blk.new _ _ _).alloc _
      have bv : Blk ((W.alloc (.cells #[.pointer (some ⟨g, 0, none⟩)] 28)).alloc (.cells #[.int .i64 (k : Int)] 3)) (W.heap.size + 1) 3 #[.int .i64 (k : Int)] := by
        have := Blk.new (W.alloc (.cells #[.pointer (some ⟨g, 0, none⟩)] 28)) 3 #[.int .i64 (k : Int)]
        rwa [World.size_alloc] at this
      generalize (W.alloc (.cells #[.pointer (some ⟨g, 0, none⟩)] 28)).alloc (.cells #[.int .i64 (k : Int)] 3) = W2 at *
      have hBw2 := HI.out.below.trans (hB2.mono hsz)
      have Hbt := Lib.hid bt
      have Hbv := Lib.hid bv
      have hz2 := hB2.size
      gi_wp2_with fail
      refine ⟨trivial, (callsIn_wide.2 (collectB (N := n) (enters_of Try.func78 (by kernel_rfl) rfl) (by omega) (bwalkB_sep (v := k) HS.out (HT.out W2 hBw2) hlt) (fun X hX => ⟨(hX.cell (p := ⟨W.heap.size, 0, none⟩) bt.lt).trans (bt.cell 0), (hX.cell (p := ⟨W.heap.size + 1, 0, none⟩) bv.lt).trans (bv.cell 0), Nat.lt_of_lt_of_le bt.lt hX.size, Nat.lt_of_lt_of_le bv.lt hX.size⟩) (fun j e => by rw [e]; exact bv.lt))).mono ?_⟩
      rintro e w3 ⟨v, xs, rfl, hF, hvr, hb3⟩
      have hB3 := hB2.trans (hb3.mono hz2)
      have HI3 := Lib.hid (HI.out.below' hB3)
      have HM3 := Lib.hid (HM.out.below hB3)
      have HV3 := Lib.hid (own_base hvr (Nat.le_trans hsz hz2))
      have HF := Lib.hid hF
      have h3s : W.heap.size ≤ w3.heap.size := hB3.size
      clear bt bv hb3 hB2 hBw2 Hbt Hbv hz2 hB3 hvr hF HI HM
      gi_wp2_with fail
      refine ⟨trivial, (callsIn_wide.2 (callsIn_wide.1 (bwalk_any Fence.wide 8 trivial rfl g (k : Int) w3))).mono ?_⟩
      rintro e w4 ⟨rfl, rfl⟩
      have hB4 : Below w3.heap.size w3 ((w3.alloc (.cells #[.pointer (some ⟨g, 0, none⟩)] 28)).alloc (.cells #[.int .i64 (k : Int)] 3)) := ((Below.refl _ _).alloc (Nat.le_refl _) _).alloc (by simp) _
      have bt : Blk ((w3.alloc (.cells #[.pointer (some ⟨g, 0, none⟩)] 28)).alloc (.cells #[.int .i64 (k : Int)] 3)) w3.heap.size 28 #[.pointer (some ⟨g, 0, none⟩)] := (Blk.new _ _ _).alloc _
      have bv : Blk ((w3.alloc (.cells #[.pointer (some ⟨g, 0, none⟩)] 28)).alloc (.cells #[.int .i64 (k : Int)] 3)) (w3.heap.size + 1) 3 #[.int .i64 (k : Int)] := by
        have := Blk.new (w3.alloc (.cells #[.pointer (some ⟨g, 0, none⟩)] 28)) 3 #[.int .i64 (k : Int)]
        rwa [World.size_alloc] at this
      generalize (w3.alloc (.cells #[.pointer (some ⟨g, 0, none⟩)] 28)).alloc (.cells #[.int .i64 (k : Int)] 3) = W4 at *
      have HI4 := Lib.hid (HI3.out.below' hB4)
      have Hbt := Lib.hid bt
      have Hbv := Lib.hid bv
      have HB4 := Lib.hid hB4
      have h4s : w3.heap.size ≤ W4.heap.size := hB4.size
      have h4t := bt.lt
      have h4v := bv.lt
      clear bt bv hB4
      gi_wp2
      refine wpIn_rangeFunc_sepO rfl (by omega) (gf := 78) (lb := #[.pointer (some ⟨w3.heap.size, 0, none⟩), .pointer (some ⟨w3.heap.size + 1, 0, none⟩)]) rfl trivial (enters_of Try.func78 (by kernel_rfl) rfl)
        (bwalkB_sepO (m := 8) (Bt := w3.heap.size) (Bv := w3.heap.size + 1) (v := k) HS.out HT0.out hlt) (fun X hX => ⟨(hX.cell (p := ⟨w3.heap.size, 0, none⟩) Hbt.out.lt).trans (Hbt.out.cell 0), (hX.cell (p := ⟨w3.heap.size + 1, 0, none⟩) Hbv.out.lt).trans (Hbv.out.cell 0), Nat.lt_of_lt_of_le Hbt.out.lt hX.size, Nat.lt_of_lt_of_le Hbv.out.lt hX.size⟩) (fun j e => by rw [e]; exact Hbv.out.lt) HI4.out.below (fun _ => rfl)
        (MkI w W4 (w3.heap.size + 1) f) (fun _ _ _ _ => False) ?_ (fun _ _ _ _ _ h => h.elim) (fun j => w.heap.size ≤ j ∧ j < W4.heap.size ∧ j ≠ w3.heap.size + 1) (fun j hj => hj) ⟨fun _ => Iff.rfl, fun _ _ _ => rfl, Below.refl _ _, f, HI4.out.map, HI4.out.tru, fun _ => rfl⟩ ?_ ?_ ?_
      · rintro xs C A B ⟨h1, h2, h3, f', h4, h5, h6⟩ hb hs
        exact ⟨h1, fun j hj hne => (hs j hj).trans (h2 j hj hne), h3.trans hb, f', h4.same9 (hs _ ((h1 _).2 ⟨Nat.le_refl _, by omega, by omega⟩)), h5, h6⟩
      · intro l pre x C X hl hl2 hX hCb hlen hxb
        gi_wp2
        refine ⟨Kept.refl _ _, hX, ?_⟩
        intro W2 hk2 hX2 hCb2 hz2
        obtain ⟨h1, h2, h3, f', h4, h5, h6⟩ := hX2
        have bx2 : Blk W2 (w.heap.size + 1) 98 #[.map (some w.heap.size)] := blk_same HI4.out.bx (h2 _ ((h1 _).2 ⟨by omega, HI4.out.bx.lt, by omega⟩) (by omega))
        obtain ⟨r0, r1, r2⟩ := bx2.one
        have hkeyx := keyOf_int_mk (P := Try.prog) (k := 3) (q := .i64) Try.underlying3 (wfV (x := x) ⟨by omega, by omega⟩)
        have H1 := Lib.hid h1
        have H2 := Lib.hid h2
        have H3 := Lib.hid h3
        have H4 := Lib.hid h4
        have H5 := Lib.hid h5
        clear h1 h2 h3 h4 h5 h6 hX hCb hCb2 hk2 bx2
        gi_wp2_with (first
          | (gi_at_mapUpdate; go_loud (refine wpListIn_storeP H4.out rfl _ _ _ 98 4 rfl (int_keyed Try.underlying3) Try.underlying98 rfl (.int .i64 x) (.bool true) rfl rfl hkeyx ?_); intro W5 hm5 hg5 hz5))
        have hcm : C w.heap.size := (H1.out _).2 ⟨Nat.le_refl _, by omega, by omega⟩
        refine ⟨(Kept.refl _ _).grown hg5 (fun j e => by cases e; exact .inl hcm), C, fun j hj => .inl hj, H1.out, fun j hj hne => (hg5.block j ?_ (fun e => hne (by cases e; rfl))).trans (H2.out j hj hne), H3.out.grown hg5 (Nat.le_trans HI4.out.below.size H3.out.size) (fun j e => by cases e; omega), _, hm5, fun y u hu => ?_, fun e => by simp at e⟩
        · have := ((H1.out j).1 hj).2.1
          have := H3.out.size
          omega
        · by_cases e : y = .int .i64 x
          · subst e
            rw [updP_same] at hu
            cases hu; rfl
          · rw [updP_other e] at hu
            exact H5.out y u hu
      · rintro D xs' C W5 hD hCD hF' ⟨h1, h2, h3, f', h4, h5, h6⟩ hK
        have hz5 := h3.size
        have hsm : ∀ j, j < w3.heap.size → j ≠ w.heap.size → W5.heap[j]? = w3.heap[j]? := fun j hj hne => by
          rcases Nat.lt_or_ge j w.heap.size with hj2 | hj2
          · exact (h3.block j hj2).trans (HB4.out.block j hj)
          · exact (h2 j ((h1 j).2 ⟨hj2, by omega, by omega⟩) hne).trans (HB4.out.block j hj)
        have hb35 : Below w.heap.size w3 W5 := (HB4.out.mono HI3.out.below.size).trans h3
        have hxx : xs = [] → xs' = [] := fun e => Classical.byContradiction fun hne => by
          obtain ⟨-, u, hu⟩ := hF'.2.1 hne
          exact HF.out.1 e u hu
        have hMd : Mks w.heap.size W5 ({ target := .collected D, args := #[] } :: ds) := (HM3.out.same HI3.out.map.obj hsm).cons hK (by omega) (fun d hd e => by
          obtain ⟨r, e1, e2, e3⟩ := HM3.out.1 d hd
          rw [e] at e1
          have := (Array.getElem?_eq_some_iff.1 e3).1
          injection e1 with e1
          omega)
        have HMd := Lib.hid hMd
        have HV5 := Lib.hid (own_same HV3.out (fun j e => hsm j (HV3.out.lt j e).2 (fun e2 => by
          subst e2
          rcases own_blk_none_map HV3.out HI3.out.map with h1 | h1
          · rw [e] at h1; cases h1
          · exact h1 e)))
        by_cases hxe : xs = []
        · have hf : f' = f := h6 (hxx hxe)
          subst hf
          have HI5 := Lib.hid ((HI3.out.same hb35 hsm h4 h5 (q := True) (fun _ e => (HI3.out.emp trivial e).1)).next (fun _ => HF.out.1 hxe))
          subst hxe
          obtain ⟨av, cv, rfl⟩ := ownsRow_slice HV3.out
          clear h1 h2 h3 h4 h5 h6 hsm hb35 hxx hMd hF' hCD
          gi_wp2
          refine ⟨⟨k + 1, _, _, _, _, _, _, _, _, _, _, _, _, _, _, _, _, _, _, _, _, _, _, _, _, _, _, _, _, by go_num, by omega, HMd.out, HI5.out⟩, ?_⟩
          simp [intOf]
          omega
        · have hxp : (0 : Int) < (xs.length : Int) := by have := List.length_pos_iff.2 hxe; omega
          obtain ⟨⟨r, hr⟩, u, hu⟩ := HF.out.2.1 hxe
          have hcl := nxt_open hu
          have hfst : ∃ a r', xs = a :: r' ∧ 0 ≤ a ∧ a < (n : Int) := ⟨_, r, hr, by omega, by omega⟩
          have HI5 := Lib.hid (HI3.out.same hb35 hsm h4 h5 (q := False) (fun e => e.elim))
          obtain ⟨i1, hi', hy0, hy1, hy2⟩ := info_parts infoInts
          obtain ⟨av, cv, rfl⟩ := ownsRow_slice HV3.out
          have hz3 := HI5.out.below.size
          have HFst := Lib.hid hfst
          have HU := Lib.hid hul
          have hul2 : us.length ≤ k := by omega
          clear h1 h2 h3 h4 h5 h6 hsm hb35 hxx hMd hF' hCD hr hu hfst hxe hul
          gi_wp2_with (first
            | (gi_at_builtin; go_loud (refine wpListIn_append_lies rfl (.tmp 32) (.tmp 34) 69 rfl w.heap.size 33 i1 _ 1 24 Try.underlying69 hi' hy0 hy1 hy2 rfl (by decide) vO _ _ rfl (HI5.out.alloc (.cells #[.slice av xs.length cv] 33)).row ⟨W5.heap.size, 0, none⟩ 1 1 [.slice av xs.length cv] rfl rfl (World.news_of_block (heap_alloc_new _ _)) (by simp [Value.oneCell']) (by decide) (by unfold maxLen; omega) (by omega) (by simp; omega) ?_); intro g8 cap8 W8 hr8 hg8 hat8 hlt8; have HR8 := Lib.hid hr8; have HG8 := Lib.hid hg8; clear hr8 hg8 hat8))
          have HI8 := Lib.hid ((HI5.out.alloc (.cells #[.slice av xs.length cv] 33)).app (HV5.out.alloc _) HFst.out hcl HG8.out HR8.out rfl)
          refine ⟨⟨k + 1, _, _, _, _, _, _, _, _, _, _, _, _, _, _, _, _, _, _, _, _, _, _, _, _, _, _, _, _, by go_num, by omega, (HMd.out.alloc9 (.cells #[.slice av xs.length cv] 33)).grown9 HG8.out (HI5.out.alloc (.cells #[.slice av xs.length cv] 33)).row, HI8.out⟩, ?_⟩
          simp [intOf]
          omega
      · intro D c pre C W' _ _ _ h _
        exact h.elim
    · obtain rfl : k = n := by omega
      have HI := Lib.hid hI
      clear hI
      gi_wp2
      refine leaves_marks (base := w.heap.size) ds _ hM fun W' hk => ?_
      refine ⟨vO, ?_, LoI.post HS.out (HI.out.marks hk (fun j hj => by
          obtain ⟨h1, d, h2, h3⟩ := hj
          obtain ⟨r, k1, k2, k3⟩ := hM.1 d h2
          rw [h3] at k1
          injection k1 with k1
          exact ⟨h1, _, by rw [k1]; exact k3⟩))⟩
      simp [results, Try.results34, go_sem]
end Go.Proofs.Ytghlnknncahkgaa
/-
  gypsumlaw21.WalkSimple returns true, by walking its text.
-/
namespace Go.Proofs.Ytghlnknncahkgaa
open Go.RowKit Go.Maps Go.Shelf

/-- walk.Walk of a surface: a walk just if it is simple. -/
theorem walk_both {w : World} {g n c : Nat} {T : List Tr} (hS : Surf n T) (hT : Tab w g n T) (hl : T.length ≤ 40) (hc : c < 3 * T.length) :
    Calls Try.prog 13 #[.pointer (some ⟨g, 0, none⟩), .int .i64 c] w fun e w' => (Simp n T ∧ WalkPost w T c e w') ∨ (¬ Simp n T ∧ NoWalk w 12 e w') := by
  by_cases hs : Simp n T
  · exact (walk_any hs hT hc).mono fun e w' h => .inl ⟨hs, h⟩
  · refine (walk_err (z := 12) (by decide) (fun W hW => ?_)).mono fun e w' h => .inr ⟨hs, h⟩
    have := check_walk g n T W c (hT.below hW) hS (by omega) (fun W' hW' => loopsB_any g n T W' ((hT.below hW).below hW') hS (by have := hS.n1; omega))
    rw [if_neg (by omega), if_neg (fun h => hs ((chk_simp hS).1 h))] at this
    exact this
/-- What genus.Of tells of a surface is enough. -/
theorem genus_simp {n m : Nat} {T : List Tr} {out cs : List Int} (hS : Surf n T) (hSh : Shl T out) (hm : cntL out = m) (h6 : m = 1 → ∃ E b : Int, cs = [(n : Int), E, T.length, b, n - E + T.length, (2 - b - (n - E + T.length)).tdiv 2] ∧ 0 ≤ b ∧ (b = 0 ↔ ClosedT T) ∧ (ClosedT T → E = 3 * (T.length : Int) / 2)) :
    Simp n T ↔ m = 1 ∧ at_ cs 3 = 0 ∧ at_ cs 5 = 0 := by
  rw [← chk_simp hS]
  constructor
  · rintro ⟨out', h1, h2, h3, h4⟩
    have := hSh.one h1
    subst this
    have hm1 : m = 1 := by omega
    obtain ⟨E, b, rfl, hb0, hb1, hE⟩ := h6 hm1
    have hb := hb1.2 h3
    refine ⟨hm1, hb, ?_⟩
    show (2 - b - ((n : Int) - E + T.length)).tdiv 2 = 0
    rw [hb, hE h3]
    exact h4
  · rintro ⟨hm1, h3, h5⟩
    obtain ⟨E, b, rfl, hb0, hb1, hE⟩ := h6 hm1
    have hb : b = 0 := h3
    have hc := hb1.1 hb
    refine ⟨out, hSh, by rw [hm, hm1]; rfl, hc, ?_⟩
    have h5' : (2 - b - ((n : Int) - E + T.length)).tdiv 2 = 0 := h5
    rw [hb, hE hc] at h5'
    exact h5'

set_option maxRecDepth 100000 in
set_option maxHeartbeats 4000000 in
theorem walkSimple_walk (N : Int) (v : Value) (T : List Tr) (r : Int) (w : World) (h : TrisRd w v T) (hr : 0 ≤ r ∧ r ≤ 255) :
    Calls Try.prog 4 #[.agg #[.int .i64 N, v], .int .u8 r] w fun e w' => e = .returned (.bool true) ∧ Below w.heap.size w w' := by
  have b1 := Blk.new w 24 #[.int .i64 N, v]
  have hB0 : Below w.heap.size w (w.alloc (.cells #[.int .i64 N, v] 24)) := (Below.refl _ _).alloc (Nat.le_refl _) _
  have HF := Lib.hid (fits21_any N v T _ (h.below hB0))
  have HA := Lib.hid awake21_any
  obtain ⟨a, c, rfl, -, -, -⟩ := h
  have HB0 := Lib.hid hB0
  have Hb1 := Lib.hid b1
  obtain ⟨l0, x0, -, x1, -⟩ := b1.two
  clear b1 hB0
  go_enter Try.func4, Try.ntmps4
  go_wp2_with fail
  refine HF.out.mono ?_
  rintro e w1 ⟨p, b, rfl, hfit, hb1⟩
  have HS1 := Lib.hid (Hb1.out.below hb1 l0)
  have HB1 := Lib.hid (HB0.out.trans (hb1.mono HB0.out.size))
  clear x0 x1 l0 HF Hb1 HB0 hb1
  cases b
  · clear hfit
    go_wp2_with fail
    refine (HA.out _).mono ?_
    rintro e w2 ⟨rfl, hb2⟩
    have HB2 := Lib.hid (HB1.out.trans (hb2.mono HB1.out.size))
    clear hb2 HB1 HS1
    go_wp2_with fail
    refine (HA.out _).mono ?_
    rintro e w3 ⟨rfl, hb3⟩
    have HB3 := Lib.hid (HB2.out.trans (hb3.mono HB2.out.size))
    clear hb3 HB2
    go_wp2
    go_ret
    exact ⟨rfl, HB3.out⟩
  · obtain ⟨g, n, rfl, rfl, hT, hSu, hl⟩ := hfit rfl
    clear hfit
    go_wp2_with fail
    refine (HA.out _).mono ?_
    rintro e w2 ⟨rfl, hb2⟩
    have HB2 := Lib.hid (HB1.out.trans (hb2.mono HB1.out.size))
    have hS2 := HS1.out.below hb2 HS1.out.lt
    have HS2 := Lib.hid hS2
    have HTab := Lib.hid (hT.below hb2)
    have HSu := Lib.hid hSu
    clear hb2 HB1 HS1 hT hSu
    obtain ⟨l0, x0, -, x1, -⟩ := hS2.two
    obtain ⟨F, hF⟩ : ∃ F, T.length = F := ⟨_, rfl⟩
    rw [hF] at x1 hl
    rw [hF]
    have HFl := Lib.hid hF
    clear hF hS2
    by_cases hF0 : F = 0
    · subst hF0
      go_wp2_with fail
      refine (HA.out _).mono ?_
      rintro e w3 ⟨rfl, hb3⟩
      have HB3 := Lib.hid (HB2.out.trans (hb3.mono HB2.out.size))
      clear hb3 HB2
      go_wp2
      go_ret
      exact ⟨rfl, HB3.out⟩
    · have nz0 : ((F : Int) == 0) = false := by simp; omega
      have HG := Lib.hid (genus_any g n T w2 HTab.out HSu.out (fun W hW => loopsB_any g n T W (HTab.out.below hW) HSu.out (by have := HSu.out.n1; omega)))
      go_wp2_with fail
      refine HG.out.mono ?_
      rintro e w3 ⟨vg, out, m, cs, rfl, hSh, hm, hr3, h6, hb3⟩
      obtain ⟨avg, cvg, rfl⟩ := ownsRow_slice hr3
      have HGs := Lib.hid (genus_simp HSu.out hSh hm h6)
      have hT3 := HTab.out.below hb3
      have hS3 := HS2.out.below hb3 HS2.out.lt
      have HB3 := Lib.hid (HB2.out.trans (hb3.mono HB2.out.size))
      clear HG HB2 HTab HS2 l0 x0 x1 hb3 hSh hm h6
      obtain ⟨l0, x0, -, x1, -⟩ := hS3.two
      rw [HFl.out] at x1
      have hz : ((3 * F : Nat) : Int) ≠ 0 := by omega
      obtain ⟨rn, rfl⟩ : ∃ rn : Nat, r = rn := ⟨r.toNat, by omega⟩
      have nz : ((3 : Int) * (F : Int) == 0) = false := by simp; omega
      have hm : ((rn : Int)).tmod (3 * (F : Int)) = ((rn % (3 * F) : Nat) : Int) := by
        rw [Int.tmod_eq_emod_of_nonneg (by omega)]
        push_cast
        rfl
      have hlt : rn % (3 * F) < 3 * F := Nat.mod_lt _ (by omega)
      have HWk := Lib.hid (walk_both HSu.out hT3 (by rw [HFl.out]; exact hl) (by rw [HFl.out]; exact hlt))
      have HR3 := Lib.hid hr3
      clear hT3 hS3 hr3
      go_wp2_with fail
      refine HWk.out.mono ?_
      rintro e w4 hw
      have hb4 : Below w3.heap.size w3 w4 := by
        rcases hw with ⟨-, vV, vC, -, -, -, hb4⟩ | ⟨-, -, hb4⟩
        · exact hb4
        · exact hb4
      have HB4 := Lib.hid (HB3.out.trans (hb4.mono HB3.out.size))
      have hr4 := own_same HR3.out (fun j e => hb4.block j (HR3.out.lt j e).2)
      clear HWk HB3 HR3 hb4 l0 x0 x1
      by_cases hs : Simp n T
      · obtain ⟨-, vV, vC, rfl, hV, hC, -⟩ | ⟨hs', -⟩ := hw
        · obtain ⟨aV, cV, rfl⟩ := ownsRow_slice hV
          obtain ⟨aC, cC, rfl⟩ := ownsRow_slice hC
          generalize ((beginS T (rn % (3 * F))).come ++ newV T (stepsM T (rn % (3 * F)))).length = nV at *
          generalize (stepsM T (rn % (3 * F))).length.succ = nC at *
          clear hV hC
          obtain ⟨rfl, e3, e5⟩ := HGs.out.1 hs
          obtain ⟨gO, cap, e0, hg1, hg2⟩ := hr4.form (by omega)
          cases e0
          have c3 : w4.cell? ⟨gO, 3, none⟩ = some (.int .i64 0) := by rw [hr4.cellAt 3 (by omega), ← e3]; exact intsV_at (by have := hr4.1; simp [intsV] at this; omega)
          have c5 : w4.cell? ⟨gO, 5, none⟩ = some (.int .i64 0) := by rw [hr4.cellAt 5 (by omega), ← e5]; exact intsV_at (by have := hr4.1; simp [intsV] at this; omega)
          have gl := (hr4.lt gO rfl).2
          clear hr4 HGs hs e3 e5
          go_wp2
          go_ret
          exact ⟨rfl, HB4.out.alloc HB4.out.size _⟩
        · exact absurd hs hs'
      · obtain ⟨hs', -⟩ | ⟨-, rfl, -⟩ := hw
        · exact absurd hs' hs
        · by_cases hm1 : m = 1
          · subst hm1
            obtain ⟨gO, cap, e0, hg1, hg2⟩ := hr4.form (by omega)
            cases e0
            have c3 : w4.cell? ⟨gO, 3, none⟩ = some (.int .i64 (at_ cs 3)) := by rw [hr4.cellAt 3 (by omega)]; exact intsV_at (by have := hr4.1; simp [intsV] at this; omega)
            have c5 : w4.cell? ⟨gO, 5, none⟩ = some (.int .i64 (at_ cs 5)) := by rw [hr4.cellAt 5 (by omega)]; exact intsV_at (by have := hr4.1; simp [intsV] at this; omega)
            have gl := (hr4.lt gO rfl).2
            by_cases e3 : at_ cs 3 = 0
            · have n5 : (at_ cs 5 == 0) = false := by
                simp only [beq_eq_false_iff_ne, ne_eq]
                exact fun e5 => hs (HGs.out.2 ⟨rfl, e3, e5⟩)
              rw [e3] at c3
              clear hr4 HGs hs e3
              go_wp2
              go_ret
              exact ⟨rfl, HB4.out.alloc HB4.out.size _⟩
            · have n3 : (at_ cs 3 == 0) = false := by simpa using e3
              clear hr4 HGs hs e3
              go_wp2
              go_ret
              exact ⟨rfl, HB4.out.alloc HB4.out.size _⟩
          · have nm : ((m : Int) == 1) = false := by simp; omega
            clear hr4 HGs hs hm1
            go_wp2
            go_ret
            exact ⟨rfl, HB4.out.alloc HB4.out.size _⟩
end Go.Proofs.Ytghlnknncahkgaa
