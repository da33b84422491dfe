/-
  Texts joined by program: Tab SetQ TogM Pairs Rws.
-/
import Derived.Test.YtghlnknncahkgaaGreatF1
import Derived.Deep.QuietTactic
import Derived.BigQuiet
import Derived.Deep.AppendSrc
import Derived.Laws.IdiomCopy
import Derived.Deep.MidRow
/-
  A surface's table of corners, as it lies in memory; what its methods tell, by walking their texts.
-/
namespace Go.Proofs.YtghlnknncahkgaaGreat
open Go.RowKit Go.Maps

/-! What a table tells, in plain words. -/
def triAt (T : List Tr) (c : Nat) : Tr := T[c / 3]?.getD (0, 0, 0)
def vertN (T : List Tr) (c : Nat) : Int := if c % 3 = 0 then (triAt T c).1 else if c % 3 = 1 then (triAt T c).2.1 else (triAt T c).2.2
def hasC (T : List Tr) (c : Int) : Bool := decide (0 ≤ c ∧ c < 3 * T.length)
def vertI (T : List Tr) (c : Int) : Int := if hasC T c = true then vertN T c.toNat else -1
def nextI (T : List Tr) (c : Int) : Int := if hasC T c = true then (Jor.nx c.toNat : Nat) else -1
def prevI (T : List Tr) (c : Int) : Int := if hasC T c = true then (Jor.pv c.toNat : Nat) else -1
def edgeI (T : List Tr) (c : Int) : Int × Int := (vertI T (nextI T c), vertI T (prevI T c))
def edgeN (T : List Tr) (c : Nat) : Int × Int := (vertN T (Jor.nx c), vertN T (Jor.pv c))
/-- The first corner from c on that faces an edge; that has a vertex. -/
def facFrom (T : List Tr) (c : Nat) (e : Int × Int) : Option Nat := (List.range' c (3 * T.length - c)).find? fun d => edgeN T d == e
def fstFrom (T : List Tr) (c : Nat) (v : Int) : Option Nat := (List.range' c (3 * T.length - c)).find? fun d => vertN T d == v
def facI (T : List Tr) (e : Int × Int) : Int := match facFrom T 0 e with
  | some c => (c : Int)
  | none => -1
def oppI (T : List Tr) (c : Int) : Int := facI T ((edgeI T c).2, (edgeI T c).1)
open Classical in
/-- The faces as a map holds them. -/
noncomputable def facMap (T : List Tr) (c : Nat) : Value → Option Value := fun y => if h : ∃ e, y = pairV e then (facFrom T c h.choose).map (fun d : Nat => Value.int .i64 (d : Int)) else none
theorem pairV_inj {a b : Int × Int} (h : pairV a = pairV b) : a = b := by
  obtain ⟨a1, a2⟩ := a
  obtain ⟨b1, b2⟩ := b
  simpa [pairV] using h
theorem facMap_at (T : List Tr) (c : Nat) (e : Int × Int) : facMap T c (pairV e) = (facFrom T c e).map (fun d : Nat => Value.int .i64 (d : Int)) := by
  unfold facMap
  have h : ∃ e', pairV e = pairV e' := ⟨e, rfl⟩
  rw [dif_pos h]
  have := pairV_inj h.choose_spec
  rw [← this]
def fsts (N : Int) (T : List Tr) (c : Nat) : List Int := (List.range N.toNat).map fun v : Nat => ((fstFrom T c v).getD 0 : Int)

theorem arrEdge : WideMaps.ArrKey Tryz.prog 108 3 2 := ⟨Tryz.underlying108, by kernel_rfl, by kernel_rfl, by kernel_rfl⟩
/-- Block g is a table, its triangles can be read. -/
structure TabS (w : World) (g : Nat) (N : Int) (T : List Tr) : Prop where
  ex : ∃ vT m vF, Blk w g 118 #[.int .i64 N, vT, .map (some m), vF] ∧ TrisRd w vT T
  n0 : 0 ≤ N
  n1 : N ≤ 4096
  len : T.length ≤ 8192
  inr : ∀ t ∈ T, 0 ≤ t.1 ∧ t.1 < N ∧ 0 ≤ t.2.1 ∧ t.2.1 < N ∧ 0 ≤ t.2.2 ∧ t.2.2 < N
/-- Block g is the table of a surface. -/
structure Tab (w : World) (g : Nat) (N : Int) (T : List Tr) : Prop extends TabS w g N T where
  tx : ∃ vT m vF, Blk w g 118 #[.int .i64 N, vT, .map (some m), vF] ∧ TrisRd w vT T ∧ MapP Tryz.prog 108 w m (facMap T 0) ∧ IntsRd w vF (fsts N T 0)
theorem IntsRd.below {w w' : World} {v : Value} {xs : List Int} (h : IntsRd w v xs) (hb : Below w.heap.size w w') : IntsRd w' v xs := by
  obtain ⟨a, c, rfl, h1, h2⟩ := h
  refine ⟨a, c, rfl, h1, fun k x hk => ?_⟩
  obtain ⟨b, o, rfl, hl, hc⟩ := h2 k x hk
  exact ⟨b, o, rfl, Nat.lt_of_lt_of_le hl hb.size, (hb.cell (p := ⟨b, _, none⟩) hl).trans hc⟩
theorem TabS.below {w w' : World} {g : Nat} {N : Int} {T : List Tr} (h : TabS w g N T) (hb : Below w.heap.size w w') : TabS w' g N T := by
  obtain ⟨⟨vT, m, vF, h1, h2⟩, a, b, c, d⟩ := h
  exact ⟨⟨vT, m, vF, h1.below hb h1.lt, h2.below hb⟩, a, b, c, d⟩
theorem Tab.below {w w' : World} {g : Nat} {N : Int} {T : List Tr} (h : Tab w g N T) (hb : Below w.heap.size w w') : Tab w' g N T := by
  obtain ⟨hs, ⟨vT, m, vF, h1, h2, h3, h4⟩⟩ := h
  exact ⟨hs.below hb, ⟨vT, m, vF, h1.below hb h1.lt, h2.below hb, h3.below hb h3.lt, h4.below hb⟩⟩
theorem TabS.alloc {w : World} {g : Nat} {N : Int} {T : List Tr} (h : TabS w g N T) (o : Obj) : TabS (w.alloc o) g N T := h.below ((Below.refl _ _).alloc (Nat.le_refl _) _)
theorem Tab.alloc {w : World} {g : Nat} {N : Int} {T : List Tr} (h : Tab w g N T) (o : Obj) : Tab (w.alloc o) g N T := h.below ((Below.refl _ _).alloc (Nat.le_refl _) _)
theorem TabS.drew {w : World} {g : Nat} {N : Int} {T : List Tr} (h : TabS w g N T) : TabS w.drew g N T := h.below (Below.refl _ _).drew
theorem Tab.drew {w : World} {g : Nat} {N : Int} {T : List Tr} (h : Tab w g N T) : Tab w.drew g N T := h.below (Below.refl _ _).drew
theorem TabS.lt {w : World} {g : Nat} {N : Int} {T : List Tr} (h : TabS w g N T) : g < w.heap.size := by
  obtain ⟨vT, m, vF, h1, _⟩ := h.ex
  exact h1.lt
theorem vertN_in {T : List Tr} {N : Int} (h : ∀ t ∈ T, 0 ≤ t.1 ∧ t.1 < N ∧ 0 ≤ t.2.1 ∧ t.2.1 < N ∧ 0 ≤ t.2.2 ∧ t.2.2 < N) {c : Nat} (hc : c < 3 * T.length) : 0 ≤ vertN T c ∧ vertN T c < N := by
  have hk : c / 3 < T.length := by omega
  have := h T[c / 3] (List.getElem_mem _)
  unfold vertN triAt
  rw [List.getElem?_eq_getElem hk]
  simp only [Option.getD_some]
  split
  · exact ⟨this.1, this.2.1⟩
  · split
    · exact ⟨this.2.2.1, this.2.2.2.1⟩
    · exact ⟨this.2.2.2.2.1, this.2.2.2.2.2⟩
theorem vertI_bd {T : List Tr} {N : Int} (h : ∀ t ∈ T, 0 ≤ t.1 ∧ t.1 < N ∧ 0 ≤ t.2.1 ∧ t.2.1 < N ∧ 0 ≤ t.2.2 ∧ t.2.2 < N) (hN : 0 ≤ N) (c : Int) : -1 ≤ vertI T c ∧ vertI T c ≤ N := by
  unfold vertI hasC
  split
  · rename_i hc
    simp at hc
    have := vertN_in h (c := c.toNat) (by omega)
    omega
  · omega
theorem hasC_true {T : List Tr} {c : Int} (h0 : 0 ≤ c) (h1 : c < 3 * T.length) : hasC T c = true := by simp [hasC, h0, h1]
theorem hasC_false {T : List Tr} {c : Int} (h : ¬ (0 ≤ c ∧ c < 3 * T.length)) : hasC T c = false := by simpa [hasC] using h

set_option maxRecDepth 100000 in
theorem has_any (g : Nat) (N c : Int) (T : List Tr) (w : World) (h : TabS w g N T) : Calls Tryz.prog 69 #[.pointer (some ⟨g, 0, none⟩), .int .i64 c] w fun e w' => e = .returned (.bool (hasC T c)) ∧ w = w' := by
  obtain ⟨⟨vT, m, vF, h1, ⟨a, cT, rfl, hc1, hc2, _⟩⟩, _, _, hl, _⟩ := h
  obtain ⟨lg, x0, -, x1, -⟩ : g < w.heap.size ∧ w.cell? ⟨g, 0, none⟩ = some (.int .i64 N) ∧ w.frozen? ⟨g, 0, none⟩ = false ∧ w.cell? ⟨g, 1, none⟩ = some (.slice a T.length cT) ∧ w.frozen? ⟨g, 1, none⟩ = false := ⟨h1.lt, h1.cell 0, h1.frozen 0, h1.cell 1, h1.frozen 1⟩
  obtain ⟨n, hn⟩ : ∃ n, T.length = n := ⟨_, rfl⟩
  unfold hasC
  rw [hn] at x1 hl ⊢
  clear hn h1
  by_cases c0 : 0 ≤ c
  · by_cases c1 : c < 3 * n
    · have hp : decide (0 ≤ c ∧ c < 3 * (n : Int)) = true := by simp [c0, c1]
      rw [hp]
      clear hp
      go_enter Tryz.func69, Tryz.ntmps69
      go_wp2
      go_ret
      exact ⟨by simp, rfl⟩
    · have hp : decide (0 ≤ c ∧ c < 3 * (n : Int)) = false := by simp [c0]; omega
      have hd : decide (c < 3 * (n : Int)) = false := by simpa using c1
      rw [hp]
      clear hp c1
      go_enter Tryz.func69, Tryz.ntmps69
      go_wp2
      go_ret
      exact ⟨by simp, rfl⟩
  · have hp : decide (0 ≤ c ∧ c < 3 * (n : Int)) = false := by simp; omega
    have hd : decide (0 ≤ c) = false := by simpa using c0
    rw [hp]
    clear hp c0
    go_enter Tryz.func69, Tryz.ntmps69
    go_wp2
    go_ret
    exact ⟨by simp, rfl⟩
theorem hasC_nat {T : List Tr} {c : Int} (h : hasC T c = true) : ∃ n : Nat, c = n ∧ n < 3 * T.length := by
  simp [hasC] at h
  exact ⟨c.toNat, by omega, by omega⟩
set_option maxRecDepth 100000 in
set_option maxHeartbeats 1000000 in
theorem vertex_any (g : Nat) (N c : Int) (T : List Tr) (w : World) (h : TabS w g N T) : Calls Tryz.prog 36 #[.pointer (some ⟨g, 0, none⟩), .int .i64 c] w fun e w' => e = .returned (.int .i64 (vertI T c)) ∧ w = w' := by
  have H := Lib.hid (has_any g N c T w h)
  cases hc : hasC T c with
  | false =>
    have hv : vertI T c = -1 := by simp [vertI, hc]
    have Hc := Lib.hid hc
    rw [hv]
    clear hv hc h
    go_enter Tryz.func36, Tryz.ntmps36
    go_wp2_with fail
    refine H.out.mono ?_
    rw [Hc.out]
    rintro e w' ⟨rfl, rfl⟩
    go_wp2
    go_ret
    exact ⟨by simp, rfl⟩
  | true =>
    obtain ⟨n, rfl, hn⟩ := hasC_nat hc
    obtain ⟨⟨vT, m, vF, h1, ⟨a, cT, rfl, hc1, hc2, hr⟩⟩, _, _, hl, _⟩ := h
    obtain ⟨lg, x0, -, x1, -⟩ : g < w.heap.size ∧ w.cell? ⟨g, 0, none⟩ = some (.int .i64 N) ∧ w.frozen? ⟨g, 0, none⟩ = false ∧ w.cell? ⟨g, 1, none⟩ = some (.slice a T.length cT) ∧ w.frozen? ⟨g, 1, none⟩ = false := ⟨h1.lt, h1.cell 0, h1.frozen 0, h1.cell 1, h1.frozen 1⟩
    have hk : n / 3 < T.length := by omega
    obtain ⟨t, ht⟩ : ∃ t, T[n / 3]? = some t := ⟨T[n / 3], List.getElem?_eq_getElem _⟩
    obtain ⟨x, y, z⟩ := t
    obtain ⟨b, o, rfl, hbl, s0, s1, s2⟩ := hr _ x y z ht
    have hv : vertI T (n : Int) = if n % 3 = 0 then x else if n % 3 = 1 then y else z := by simp [vertI, hc, vertN, triAt, ht]
    have Hc := Lib.hid hc
    obtain ⟨L, hL⟩ : ∃ L, T.length = L := ⟨_, rfl⟩
    obtain ⟨k, hkk⟩ : ∃ k, n / 3 = k := ⟨_, rfl⟩
    rw [hL] at x1 hk
    rw [hkk] at hk s0 s1 s2
    rw [hv]
    have e1 : (n : Int) / 3 = (k : Int) := by omega
    have hb0 : (0 : Int) ≤ (n : Int) := by omega
    have hb1 : (n : Int) ≤ 100000 := by omega
    have hk3 : (k : Int) < (L : Int) := by omega
    have hi : n % 3 = 0 ∨ n % 3 = 1 ∨ n % 3 = 2 := by omega
    clear hv hc h1 hr ht hL
    rcases hi with hi | hi | hi
    · have e2 : (n : Int) % 3 = 0 := by omega
      rw [hi]
      clear hkk hi hn
      go_enter Tryz.func36, Tryz.ntmps36
      go_wp2_with fail
      refine H.out.mono ?_
      rw [Hc.out]
      rintro e w' ⟨rfl, rfl⟩
      go_wp2
      go_ret
      exact ⟨by simp, rfl⟩
    · have e2 : (n : Int) % 3 = 1 := by omega
      rw [hi]
      clear hkk hi hn
      go_enter Tryz.func36, Tryz.ntmps36
      go_wp2_with fail
      refine H.out.mono ?_
      rw [Hc.out]
      rintro e w' ⟨rfl, rfl⟩
      go_wp2
      go_ret
      exact ⟨by simp, rfl⟩
    · have e2 : (n : Int) % 3 = 2 := by omega
      rw [hi]
      clear hkk hi hn
      go_enter Tryz.func36, Tryz.ntmps36
      go_wp2_with fail
      refine H.out.mono ?_
      rw [Hc.out]
      rintro e w' ⟨rfl, rfl⟩
      go_wp2
      go_ret
      exact ⟨by simp, rfl⟩

set_option maxRecDepth 100000 in
theorem turned_any (c b : Int) (w : World) (hc : 0 ≤ c ∧ c ≤ 1000000) (hb : 0 ≤ b ∧ b ≤ 2) : Calls Tryz.prog 70 #[.int .i64 c, .int .i64 b] w fun e w' => e = .returned (.int .i64 (c - c % 3 + (c + b) % 3)) ∧ w = w' := by
  obtain ⟨c0, c1⟩ := hc
  obtain ⟨b0, b1⟩ := hb
  have m0 := Int.emod_nonneg c (show (3 : Int) ≠ 0 by decide)
  have m1 := Int.emod_lt_of_pos c (show (0 : Int) < 3 by decide)
  have m2 := Int.emod_nonneg (c + b) (show (3 : Int) ≠ 0 by decide)
  have m3 := Int.emod_lt_of_pos (c + b) (show (0 : Int) < 3 by decide)
  go_enter Tryz.func70, Tryz.ntmps70
  go_wp2
  go_ret
  exact ⟨rfl, rfl⟩
theorem nx_int (n : Nat) : ((n : Int) - (n : Int) % 3 + ((n : Int) + 1) % 3) = ((Jor.nx n : Nat) : Int) := by unfold Jor.nx; omega
theorem pv_int (n : Nat) : ((n : Int) - (n : Int) % 3 + ((n : Int) + 2) % 3) = ((Jor.pv n : Nat) : Int) := by unfold Jor.pv; omega
set_option maxRecDepth 100000 in
theorem next_any (g : Nat) (N c : Int) (T : List Tr) (w : World) (h : TabS w g N T) : Calls Tryz.prog 38 #[.pointer (some ⟨g, 0, none⟩), .int .i64 c] w fun e w' => e = .returned (.int .i64 (nextI T c)) ∧ w = w' := by
  have H := Lib.hid (has_any g N c T w h)
  have hl := h.len
  cases hc : hasC T c with
  | false =>
    have hv : nextI T c = -1 := by simp [nextI, hc]
    have Hc := Lib.hid hc
    rw [hv]
    clear hv hc h
    go_enter Tryz.func38, Tryz.ntmps38
    go_wp2_with fail
    refine H.out.mono ?_
    rw [Hc.out]
    rintro e w' ⟨rfl, rfl⟩
    go_wp2
    go_ret
    exact ⟨by simp, rfl⟩
  | true =>
    obtain ⟨n, rfl, hn⟩ := hasC_nat hc
    have hv : nextI T (n : Int) = ((Jor.nx n : Nat) : Int) := by simp [nextI, hc]
    have Hc := Lib.hid hc
    have HT := Lib.hid (turned_any (n : Int) 1 w ⟨by omega, by omega⟩ (by decide))
    rw [hv, ← nx_int]
    generalize hz : ((n : Int) - (n : Int) % 3 + ((n : Int) + 1) % 3) = z at HT
    clear hv hc h hl hn
    clear hz
    go_enter Tryz.func38, Tryz.ntmps38
    go_wp2_with fail
    refine H.out.mono ?_
    rw [Hc.out]
    rintro e w' ⟨rfl, rfl⟩
    go_wp2_with fail
    refine HT.out.mono ?_
    rintro e w' ⟨rfl, rfl⟩
    go_wp2
    go_ret
    exact ⟨rfl, rfl⟩
set_option maxRecDepth 100000 in
theorem prev_any (g : Nat) (N c : Int) (T : List Tr) (w : World) (h : TabS w g N T) : Calls Tryz.prog 39 #[.pointer (some ⟨g, 0, none⟩), .int .i64 c] w fun e w' => e = .returned (.int .i64 (prevI T c)) ∧ w = w' := by
  have H := Lib.hid (has_any g N c T w h)
  have hl := h.len
  cases hc : hasC T c with
  | false =>
    have hv : prevI T c = -1 := by simp [prevI, hc]
    have Hc := Lib.hid hc
    rw [hv]
    clear hv hc h
    go_enter Tryz.func39, Tryz.ntmps39
    go_wp2_with fail
    refine H.out.mono ?_
    rw [Hc.out]
    rintro e w' ⟨rfl, rfl⟩
    go_wp2
    go_ret
    exact ⟨by simp, rfl⟩
  | true =>
    obtain ⟨n, rfl, hn⟩ := hasC_nat hc
    have hv : prevI T (n : Int) = ((Jor.pv n : Nat) : Int) := by simp [prevI, hc]
    have Hc := Lib.hid hc
    have HT := Lib.hid (turned_any (n : Int) 2 w ⟨by omega, by omega⟩ (by decide))
    rw [hv, ← pv_int]
    generalize hz : ((n : Int) - (n : Int) % 3 + ((n : Int) + 2) % 3) = z at HT
    clear hv hc h hl hn
    clear hz
    go_enter Tryz.func39, Tryz.ntmps39
    go_wp2_with fail
    refine H.out.mono ?_
    rw [Hc.out]
    rintro e w' ⟨rfl, rfl⟩
    go_wp2_with fail
    refine HT.out.mono ?_
    rintro e w' ⟨rfl, rfl⟩
    go_wp2
    go_ret
    exact ⟨rfl, rfl⟩
theorem MapP.drewN {P : Program} {k : TypeId} {b : Nat} {w : World} {f : Value → Option Value} (h : MapP P k w b f) (n : Nat) : MapP P k (w.drewN n) b f := h
theorem below_drewN {B : Nat} {a w : World} (h : Below B a w) (n : Nat) : Below B a (w.drewN n) := ⟨h.os, h.tape, h.output, h.size, h.block⟩
theorem zero_int (w : World) : (zeroValue 3).run Tryz.prog w = .ok (.int .i64 0) w := by kernel_rfl
theorem wfV {x : Int} (h : -1 ≤ x ∧ x ≤ 10000) : (Lit.int .i64 x).wf = true := WalkArith.wf_i64 (by omega)
set_option maxRecDepth 100000 in
set_option maxHeartbeats 1000000 in
theorem edge_any (g : Nat) (N c : Int) (T : List Tr) (w : World) (h : TabS w g N T) : Calls Tryz.prog 61 #[.pointer (some ⟨g, 0, none⟩), .int .i64 c] w fun e w' => e = .returned (pairV (edgeI T c)) ∧ Below w.heap.size w w' := by
  have ht := h.alloc (.cells #[.int .i64 0, .int .i64 0] 108)
  have hB0 : Below w.heap.size w (w.alloc (.cells #[.int .i64 0, .int .i64 0] 108)) := (Below.refl _ _).alloc (Nat.le_refl _) _
  have HT := Lib.hid ht
  have HB0 := Lib.hid hB0
  unfold edgeI pairV
  simp only
  generalize hx : vertI T (nextI T c) = x
  generalize hy : vertI T (prevI T c) = y
  have HX := Lib.hid hx
  have HY := Lib.hid hy
  clear h ht hB0 hx hy
  go_enter Tryz.func61, Tryz.ntmps61
  go_wp2_with (first
    | (go_at_call 38; refine (next_any g N c T _ HT.out).mono ?_; rintro e w' ⟨rfl, rfl⟩)
    | (go_at_call 39; refine (prev_any g N c T _ HT.out).mono ?_; rintro e w' ⟨rfl, rfl⟩)
    | (go_at_call 36; refine (vertex_any g N _ T _ HT.out).mono ?_; rintro e w' ⟨rfl, rfl⟩))
  exact bodyPost_ret (v := .agg #[.int .i64 x, .int .i64 y]) (by simp [results, Tryz.results61, go_sem, HX.out, HY.out]) rfl ⟨rfl, (Below.refl _ _).alloc (Nat.le_refl _) _⟩
set_option maxRecDepth 100000 in
set_option maxHeartbeats 1000000 in
theorem facing_any (g : Nat) (N a b : Int) (T : List Tr) (w : World) (h : Tab w g N T) (ha : -1 ≤ a ∧ a ≤ 10000) (hb : -1 ≤ b ∧ b ≤ 10000) : Calls Tryz.prog 62 #[.pointer (some ⟨g, 0, none⟩), pairV (a, b)] w fun e w' => e = .returned (.int .i64 (facI T (a, b))) ∧ Below w.heap.size w w' := by
  obtain ⟨vT, m, vF, h1, _, h3, _⟩ := (h.alloc (.cells #[.int .i64 a, .int .i64 b] 108)).tx
  have hlk := fun nq => (h3.drewN nq).lookOk (t := 116) (Keyed.of_law arrEdge.law) Tryz.underlying116 (zero_int _) (WideMaps.keyOf_pair arrEdge Tryz.underlying3 types_succ (wfV ha) (wfV hb))
  have hg := h.lt
  rw [show (.agg #[.int .i64 a, .int .i64 b] : Value) = pairV (a, b) from rfl, facMap_at] at hlk
  unfold facI
  cases hf : facFrom T 0 (a, b) with
  | none =>
    rw [hf] at hlk
    simp only [Option.map_none, Option.getD_none, Option.isSome_none] at hlk
    have c1 := h1.cell 2
    clear h h1 h3 hf
    unfold pairV at hlk ⊢
    simp only at hlk ⊢
    go_enter Tryz.func62, Tryz.ntmps62
    go_wp2
    go_quiet (fail)
    go_wp2
    go_ret
    exact ⟨rfl, below_drewN (((Below.refl _ _).alloc (Nat.le_refl _) _)) _⟩
  | some d =>
    rw [hf] at hlk
    simp only [Option.map_some, Option.getD_some, Option.isSome_some] at hlk
    have c1 := h1.cell 2
    clear h h1 h3 hf
    unfold pairV at hlk ⊢
    simp only at hlk ⊢
    go_enter Tryz.func62, Tryz.ntmps62
    go_wp2
    go_quiet (fail)
    go_wp2
    go_ret
    exact ⟨rfl, below_drewN (((Below.refl _ _).alloc (Nat.le_refl _) _)) _⟩
theorem edgeI_bd {T : List Tr} {N : Int} (h : ∀ t ∈ T, 0 ≤ t.1 ∧ t.1 < N ∧ 0 ≤ t.2.1 ∧ t.2.1 < N ∧ 0 ≤ t.2.2 ∧ t.2.2 < N) (hN : 0 ≤ N) (h1 : N ≤ 4096) (c : Int) : (-1 ≤ (edgeI T c).1 ∧ (edgeI T c).1 ≤ 10000) ∧ -1 ≤ (edgeI T c).2 ∧ (edgeI T c).2 ≤ 10000 := by
  have a := vertI_bd h hN (nextI T c)
  have b := vertI_bd h hN (prevI T c)
  unfold edgeI
  simp only
  omega
set_option maxRecDepth 100000 in
set_option maxHeartbeats 1000000 in
theorem opp_any (g : Nat) (N c : Int) (T : List Tr) (w : World) (h : Tab w g N T) : Calls Tryz.prog 29 #[.pointer (some ⟨g, 0, none⟩), .int .i64 c] w fun e w' => e = .returned (.int .i64 (oppI T c)) ∧ Below w.heap.size w w' := by
  have H := Lib.hid (edge_any g N c T w h.toTabS)
  obtain ⟨⟨p0, p1⟩, p2, p3⟩ := edgeI_bd h.inr h.n0 h.n1 c
  unfold oppI
  generalize hx : edgeI T c = e at *
  obtain ⟨x, y⟩ := e
  simp only at p0 p1 p2 p3 ⊢
  have HF := Lib.hid (fun (W : World) (hw : Below w.heap.size w W) => facing_any g N y x T W (h.below hw) ⟨p2, p3⟩ ⟨p0, p1⟩)
  generalize facI T (y, x) = z at *
  clear h hx
  go_enter Tryz.func29, Tryz.ntmps29
  go_wp2_with fail
  refine H.out.mono ?_
  rintro e w1 ⟨rfl, hb1⟩
  have b1 := Blk.new w1 108 #[.int .i64 x, .int .i64 y]
  obtain ⟨l0, x0, -, x1, -⟩ := b1.two
  have hB1 := hb1.alloc hb1.size (.cells #[.int .i64 x, .int .i64 y] 108)
  have HB1 := Lib.hid hB1
  have H2 := Lib.hid (HF.out _ hB1)
  unfold pairV
  simp only
  clear b1 hB1 hb1 HF
  go_wp2_with fail
  refine H2.out.mono ?_
  rintro e w2 ⟨rfl, hb2⟩
  have HB2 := Lib.hid (HB1.out.trans (hb2.mono HB1.out.size))
  clear hb2 x0 x1 l0
  go_wp2
  go_ret
  exact ⟨rfl, HB2.out⟩
theorem oppI_bd (T : List Tr) (c : Int) : -1 ≤ oppI T c ∧ oppI T c < 3 * (T.length : Int) := by
  unfold oppI facI facFrom
  generalize ((edgeI T c).2, (edgeI T c).1) = e
  cases h : (List.range' 0 (3 * T.length - 0)).find? fun d => edgeN T d == e with
  | none => simp only; omega
  | some d =>
    have := List.mem_of_find?_eq_some h
    rw [List.mem_range'_1] at this
    simp only
    omega
/-- The least corner at a vertex, as the table tells it. -/
def cornI (N : Int) (T : List Tr) (v : Int) : Int := if 0 ≤ v ∧ v < N then ((fstFrom T 0 v).getD 0 : Nat) else -1
set_option maxRecDepth 100000 in
set_option maxHeartbeats 1000000 in
theorem corner_any (g : Nat) (N v : Int) (T : List Tr) (w : World) (h : Tab w g N T) : Calls Tryz.prog 108 #[.pointer (some ⟨g, 0, none⟩), .int .i64 v] w fun e w' => e = .returned (.int .i64 (cornI N T v)) ∧ w = w' := by
  have hn0 := h.n0
  have hn1 := h.n1
  obtain ⟨vT, m, vF, h1, _, _, ⟨a, cF, rfl, hl, hr⟩⟩ := h.tx
  obtain ⟨m, rfl⟩ : ∃ m : Nat, N = m := ⟨N.toNat, by omega⟩
  have hlen : (fsts (m : Int) T 0).length = m := by simp [fsts]
  rw [hlen] at h1 hl
  have x3 := h1.cell 3
  have lg := h1.lt
  unfold cornI
  by_cases v0 : 0 ≤ v
  · by_cases v1 : v < m
    · obtain ⟨u, rfl⟩ : ∃ u : Nat, v = u := ⟨v.toNat, by omega⟩
      have hu : (fsts (m : Int) T 0)[u]? = some (((fstFrom T 0 u).getD 0 : Nat) : Int) := by
        unfold fsts
        rw [List.getElem?_map, List.getElem?_range (by simpa using v1)]
        rfl
      obtain ⟨b, o, rfl, hbl, hc⟩ := hr u _ hu
      rw [if_pos ⟨v0, v1⟩]
      generalize ((fstFrom T 0 u).getD 0 : Nat) = z at *
      have hd : decide ((m : Int) ≤ (u : Int)) = false := by simp; omega
      have hd2 : decide ((u : Int) < 0) = false := by simp
      clear hr hlen hu h1
      go_enter Tryz.func108, Tryz.ntmps108
      go_wp2
      go_ret
      exact ⟨rfl, rfl⟩
    · have hd : decide ((m : Int) ≤ v) = true := by simp; omega
      have hd2 : decide (v < 0) = false := by simp; omega
      rw [if_neg (fun e => v1 e.2)]
      clear hr hlen h1 v1 v0
      go_enter Tryz.func108, Tryz.ntmps108
      go_wp2
      go_ret
      exact ⟨by simp, rfl⟩
  · have hd2 : decide (v < 0) = true := by simp; omega
    rw [if_neg (fun e => v0 e.1)]
    clear hr hlen h1 v0
    go_enter Tryz.func108, Tryz.ntmps108
    go_wp2
    go_ret
    exact ⟨by simp, rfl⟩
set_option maxRecDepth 100000 in
theorem vertices_any (g : Nat) (N : Int) (T : List Tr) (w : World) (h : TabS w g N T) : Calls Tryz.prog 85 #[.pointer (some ⟨g, 0, none⟩)] w fun e w' => e = .returned (.int .i64 N) ∧ w = w' := by
  obtain ⟨⟨vT, m, vF, h1, _⟩, _⟩ := h
  have x0 := h1.cell 0
  have lg := h1.lt
  clear h1
  go_enter Tryz.func85, Tryz.ntmps85
  go_wp2
  go_ret
  exact ⟨rfl, rfl⟩
set_option maxRecDepth 100000 in
theorem triangles_any (g : Nat) (N : Int) (T : List Tr) (w : World) (h : TabS w g N T) : Calls Tryz.prog 81 #[.pointer (some ⟨g, 0, none⟩)] w fun e w' => e = .returned (.int .i64 T.length) ∧ w = w' := by
  obtain ⟨⟨vT, m, vF, h1, ⟨a, cT, rfl, _⟩⟩, _, _, hl, _⟩ := h
  have x1 := h1.cell 1
  have lg := h1.lt
  clear h1
  go_enter Tryz.func81, Tryz.ntmps81
  go_wp2
  go_ret
  exact ⟨rfl, rfl⟩
end Go.Proofs.YtghlnknncahkgaaGreat
/-
  A set of keys that the call makes (a map of bools, all true), with its size; a queue of numbers (a slice that is cut at its head and appended to).
-/
namespace Go.Proofs.YtghlnknncahkgaaGreat
open Go.RowKit Go.Maps
open Go.MapKept (Stamped)

/-- Block b is a map of bools: it has just the keys ks, each once, and all are true. -/
def KSet (P : Program) (k : TypeId) (w : World) (b : Nat) (ks : List Value) : Prop :=
  ∃ es clock, w.heap[b]? = some (.map es clock) ∧ Stamped es clock ∧ (∀ x ∈ es.toList, ∃ l, keyOf P k x.key = some l) ∧ es.toList.map (·.key) = ks ∧ ∀ x ∈ es.toList, x.val = .bool true
def mapSize (w : World) (b : Nat) : Nat := match w.heap[b]? with | some (.map es _) => es.size | _ => 0
section
variable {P : Program} {k e : TypeId} {b : Nat} {w : World} {ks : List Value}
theorem KSet.made (w : World) (P : Program) (k : TypeId) : KSet P k (w.alloc (.map #[] 0)) w.heap.size [] := ⟨#[], 0, heap_alloc_new w _, MapKept.stamped_empty 0, by simp, rfl, by simp⟩
theorem KSet.obj (h : KSet P k w b ks) : ∃ es clock, w.heap[b]? = some (.map es clock) := by
  obtain ⟨es, clock, hb, _⟩ := h
  exact ⟨es, clock, hb⟩
theorem KSet.lt (h : KSet P k w b ks) : b < w.heap.size := by
  obtain ⟨es, clock, hb, _⟩ := h
  exact (Array.getElem?_eq_some_iff.1 hb).1
theorem KSet.size (h : KSet P k w b ks) : mapSize w b = ks.length := by
  obtain ⟨es, clock, hb, _, _, h3, _⟩ := h
  unfold mapSize
  rw [hb, ← h3]
  simp
theorem KSet.nodup (h : KSet P k w b ks) : ks.Nodup := by
  obtain ⟨es, clock, _, h1, _, h3, _⟩ := h
  obtain ⟨_, _, s3⟩ := (MapKept.stamped_iff es clock).1 h1
  rw [← h3, List.nodup_iff_pairwise_ne, List.pairwise_map]
  exact s3
theorem KSet.same {w' : World} (h : KSet P k w b ks) (hg : w'.heap[b]? = w.heap[b]?) : KSet P k w' b ks := by
  obtain ⟨es, clock, hb, h1⟩ := h
  exact ⟨es, clock, hg.trans hb, h1⟩
theorem KSet.kept {w' : World} {row : Option Nat} (h : KSet P k w b ks) (hg : w.grownBy w' row) (hne : some b ≠ row) : KSet P k w' b ks := h.same (hg.block b h.lt hne)
theorem KSet.alloc (h : KSet P k w b ks) (o : Obj) : KSet P k (w.alloc o) b ks := h.kept (World.grownBy_alloc w o none) (by simp)
theorem KSet.look {t : TypeId} (h : KSet P k w b ks) (K : Keyed P k) (ht : P.underlying t = some (.map k e)) (hz : (zeroValue e).run P w = .ok (.bool false) w) {key : Value} {kl : Lit} (hkey : keyOf P k key = some kl) :
    ∃ r : Bool, (Instr.lookup t (.map (some b)) key false).run P w = .ok (.bool r) w ∧ (r = true ↔ key ∈ ks) := by
  obtain ⟨es, clock, hb, h1, h2, h3, h4⟩ := h
  rcases K.find w hkey es.toList h2 with ⟨g1, g2⟩ | ⟨j, e0, g1, g2, g3⟩
  · refine ⟨false, by simp [Instr.lookup, run_underlying ht, MapKept.run_getObj_map hb, K.check w _ hkey, g1, hz, Result.andThen], ?_⟩
    rw [← h3]
    constructor
    · intro e0; cases e0
    · intro hm
      obtain ⟨x, hx, e0⟩ := List.mem_map.1 hm
      exact absurd e0 (g2 x hx)
  · have hm := List.mem_of_getElem? g2
    refine ⟨true, ?_, ?_⟩
    · rw [h4 e0 hm] at g1
      simp [Instr.lookup, run_underlying ht, MapKept.run_getObj_map hb, K.check w _ hkey, g1, Result.andThen]
    · rw [← h3]
      exact ⟨fun _ => List.mem_map.2 ⟨e0, hm, g3⟩, fun _ => rfl⟩
theorem KSet.store {t : TypeId} (h : KSet P k w b ks) (K : Keyed P k) (ht : P.underlying t = some (.map k e)) {key : Value} {kl : Lit} (hkey : keyOf P k key = some kl) (hn : key ∉ ks) :
    ∃ w', (Instr.mapUpdate t (.map (some b)) key (.bool true)).run P w = .ok () w' ∧ KSet P k w' b (ks ++ [key]) ∧ w.grownBy w' (some b) ∧ w'.heap.size = w.heap.size := by
  obtain ⟨es, clock, hb, h1, h2, h3, h4⟩ := h
  rcases K.find w hkey es.toList h2 with ⟨g1, g2⟩ | ⟨j, e0, g1, g2, g3⟩
  · refine ⟨_, by simp [Instr.mapUpdate, run_underlying ht, MapKept.run_getObj_map hb, K.check w _ hkey, g1, MapKept.run_setObj_map _ hb, Result.andThen]; rfl, ⟨es.push ⟨key, .bool true, clock⟩, clock + 1, ChangeMaps.heap_setBlock_same hb _, MapKept.stamped_push h1 g2, ?_, by simp [h3], ?_⟩, setBlock_grown hb _, by simp [ChangeMaps.setBlock]⟩
    · intro x hx
      simp only [Array.toList_push, List.mem_append, List.mem_singleton] at hx
      rcases hx with hx | rfl
      · exact h2 x hx
      · exact ⟨_, hkey⟩
    · intro x hx
      simp only [Array.toList_push, List.mem_append, List.mem_singleton] at hx
      rcases hx with hx | rfl
      · exact h4 x hx
      · rfl
  · exact absurd (by rw [← h3]; exact List.mem_map.2 ⟨e0, List.mem_of_getElem? g2, g3⟩) hn
theorem KSet.len {t : TypeId} (h : KSet P k w b ks) (ht : P.underlying t = some (.map k e)) (ty : TypeId) : (Builtin.len_ #[t] ty #[.map (some b)]).run P w = .ok (.int .i64 ks.length) w := by
  obtain ⟨es, clock, hb, h1, h2, h3, h4⟩ := h
  have : (ks.length : Int) = es.size := by rw [← h3]; simp
  rw [this]
  simp [Builtin.len_, run_underlying ht, MapKept.run_getObj_map hb, goInt, Result.andThen]
theorem wpList_lookupK {ops : Array Oper} {rest : List Oper} {o : Oper} {a : Act} {Q : Exit → Act → World → Prop} (h : KSet P k w b ks)
    (hg : o.guard = none) (m x : Operand) (t : TypeId) (hop : o.op = Op.lookup t m x false) (K : Keyed P k) (ht : P.underlying t = some (.map k e)) (hz : (zeroValue e).run P w = .ok (.bool false) w)
    (hm : a.eval m = .map (some b)) (key : Value) (hx : a.eval x = key) {kl : Lit} (hkey : keyOf P k key = some kl)
    (hK : ∀ r : Bool, (r = true ↔ key ∈ ks) → wpList P ops Q rest (a.put o.dst (.bool r)) w) : wpList P ops Q (o :: rest) a w := by
  refine wpList_plain hg fun K' hK' => ?_
  obtain ⟨r, hrun, hi⟩ := h.look K ht hz hkey
  unfold Oper.wp
  simp [execOp, hop, hm, hx, hrun, Result.andThen]
  exact hK' _ _ (hK r hi)
theorem wpList_storeK {ops : Array Oper} {rest : List Oper} {o : Oper} {a : Act} {Q : Exit → Act → World → Prop} (h : KSet P k w b ks)
    (hg : o.guard = none) (m x v : Operand) (t : TypeId) (hop : o.op = Op.mapUpdate t m x v ∨ o.op = Op.insert t m x v) (K : Keyed P k) (ht : P.underlying t = some (.map k e))
    (hm : a.eval m = .map (some b)) (key : Value) (hx : a.eval x = key) (hv : a.eval v = .bool true) {kl : Lit} (hkey : keyOf P k key = some kl) (hn : key ∉ ks)
    (hK : ∀ w', KSet P k w' b (ks ++ [key]) → w.grownBy w' (some b) → w'.heap.size = w.heap.size → wpList P ops Q rest (a.put o.dst undef) w') : wpList P ops Q (o :: rest) a w := by
  refine wpList_plain hg fun K' hK' => ?_
  obtain ⟨w', hrun, r1, r2, r3⟩ := h.store K ht hkey hn
  unfold Oper.wp
  rcases hop with hop | hop <;> simp [execOp, hop, hm, hx, hv, hrun, Result.andThen] <;> exact hK' _ _ (hK w' r1 r2 r3)
theorem wpList_lenK {ops : Array Oper} {rest : List Oper} {o : Oper} {a : Act} {Q : Exit → Act → World → Prop} (h : KSet P k w b ks)
    (hg : o.guard = none) (m : Operand) (t : TypeId) (hop : o.op = Op.call { callee := Callee.builtin Builtin.len, args := #[m], argTypes := #[t] }) (ht : P.underlying t = some (.map k e)) (hm : a.eval m = .map (some b))
    (hK : wpList P ops Q rest (a.put o.dst (.int .i64 ks.length)) w) : wpList P ops Q (o :: rest) a w := by
  refine wpList_plain hg fun K' hK' => ?_
  have hrun := h.len ht o.type
  unfold Oper.wp execOp
  simp only [hop, resolve, invoke, builtin, Sem.run_bind, Sem.run_pure, Result.andThen_ok, List.map_toArray, List.map_cons, List.map_nil, hm, hrun]
  exact hK' _ _ hK
end

/-- A queue of numbers: what its cells hold; from block 'base' on; room behind it. -/
def IQ (w : World) (base : Nat) (v : Value) (zs : List Int) : Prop :=
  ∃ ao b off cap cur, v = .slice ao zs.length cap ∧ zs.length ≤ cap ∧ cap ≤ maxLen ∧ (0 < cap → ao = some ⟨b, off, none⟩ ∧ base ≤ b ∧ w.heap[b]? = some (.cells cur 3 (0, 0)) ∧ off + cap ≤ cur.size ∧ ∀ j, j < zs.length → cur[off + j]? = (intsV zs)[j]?)
theorem IQ.kept {w w' : World} {base : Nat} {v : Value} {zs : List Int} {row : Option Nat} (h : IQ w base v zs) (hg : w.grownBy w' row) (hr : ∀ j, row = some j → j < base ∨ ∃ es clock, w.heap[j]? = some (.map es clock)) : IQ w' base v zs := by
  obtain ⟨ao, b, off, cap, cur, h1, h2, h3, h4⟩ := h
  refine ⟨ao, b, off, cap, cur, h1, h2, h3, fun hc => ?_⟩
  obtain ⟨g1, g2, g3, g4, g5⟩ := h4 hc
  refine ⟨g1, g2, (hg.block b (Array.getElem?_eq_some_iff.1 g3).1 (fun e0 => ?_)).trans g3, g4, g5⟩
  rcases hr b e0.symm with hlt | ⟨es, clock, ho⟩
  · omega
  · rw [g3] at ho
    cases ho
theorem IQ.alloc {w : World} {base : Nat} {v : Value} {zs : List Int} (h : IQ w base v zs) (o : Obj) : IQ (w.alloc o) base v zs := h.kept (World.grownBy_alloc w o none) (fun j e => by cases e)
theorem IQ.form {w : World} {base : Nat} {v : Value} {zs : List Int} (h : IQ w base v zs) : ∃ ao c, v = .slice ao zs.length c := by
  obtain ⟨ao, b, off, cap, cur, h1, _⟩ := h
  exact ⟨ao, cap, h1⟩
end Go.Proofs.YtghlnknncahkgaaGreat
/-
  What certify.together holds: a queue of numbers that is cut at its head and appended to; a row of a map that is stored by its key; which triangles of a vertex are connected.
-/
namespace Go.Proofs.YtghlnknncahkgaaGreat
open Go.RowKit Go.Maps
open Go.MapKept (Stamped)

section
variable {P : Program} {w : World} {base : Nat} {v : Value} {zs : List Int}
theorem IQ.append (h : IQ w base v zs) (t ty : TypeId) (i : TypeInfo) (ht : P.underlying t = some (.slice 3)) (hi : P.info? 3 = some i) (hz : i.zero = some (.int .i64 0)) (h1 : i.size = 1) (h8 : i.bytes = 8)
    (B c : Nat) (z : Int) (hB : w.cell? ⟨B, 0, none⟩ = some (.int .i64 z)) (hn : zs.length + 1 ≤ 1000000000) (hb : base ≤ w.heap.size) :
    ∃ v' w' row, (Builtin.append_ #[t, t] ty #[v, .slice (some ⟨B, 0, none⟩) 1 c]).run P w = .ok v' w' ∧ IQ w' base v' (zs ++ [z]) ∧ w.grownBy w' row ∧ ∀ j, row = some j → base ≤ j ∧ ∃ C, w.heap[j]? = some (.cells C 3 (0, 0)) := by
  obtain ⟨ao, b, off, cap, cur, rfl, hnc, hcm, hpos⟩ := h
  have src : Src P i.size t (.slice (some ⟨B, 0, none⟩) 1 c) 1 [.int .i64 z] w := Src.ofSlice w ht ⟨B, 0, none⟩ 1 c [.int .i64 z] (by simp [h1]) (by
    intro j u hj
    cases j with
    | zero =>
      simp at hj
      subst hj
      rw [Addr.add_lit]
      exact hB
    | succ j => simp at hj) (by simp [Value.oneCell'])
  by_cases hroom : zs.length + 1 ≤ cap
  · obtain ⟨rfl, hbb, hcur, hsz, hcs⟩ := hpos (by omega)
    have hblk : Blk w b 3 cur := hcur
    have hin : off + zs.length < cur.size := by omega
    have hr := run_append_room_src (P := P) w t t ty 3 i ht hi b off zs.length cap _ 1 _ src hroom (by
      intro j hj
      simp only [List.length_singleton] at hj
      obtain rfl : j = 0 := by omega
      rw [hblk.cell, h1]
      simp
      omega) (fun j _ => hblk.frozen _)
    rw [h1, Nat.mul_one] at hr
    refine ⟨_, _, some b, hr, ?_, gSet (World.grownBy.refl _ _) ⟨b, off + zs.length, none⟩ (.int .i64 z) (.inl rfl), fun j e => by cases e; exact ⟨hbb, cur, hcur⟩⟩
    refine ⟨some ⟨b, off, none⟩, b, off, cap, _, by simp, by simpa using hroom, hcm, fun _ => ⟨rfl, hbb, hblk.set_ (off + zs.length) (.int .i64 z), by simpa using hsz, fun j hj => ?_⟩⟩
    simp only [List.length_append, List.length_singleton] at hj
    by_cases e : j = zs.length
    · subst e
      simp [intsV, hin]
    · have h2 : j < zs.length := by omega
      rw [Array.getElem?_setIfInBounds_ne (by omega), hcs j h2]
      simp [intsV, List.getElem?_append_left, h2]
  · have hc : cap = zs.length := by omega
    have hold : (Builtin.firstCells i.size zs.length (.slice ao zs.length cap)).run P w.drew = .ok (intsV zs).toArray w.drew := by
      rcases Nat.eq_zero_or_pos cap with h0 | h0
      · have : zs = [] := List.eq_nil_of_length_eq_zero (by omega)
        subst this
        cases ao with
        | none => exact run_firstCells_none w.drew i.size 0 0 cap
        | some a => exact run_firstCells_some w.drew i.size 0 a 0 cap [] (by simp) (by simp)
      · obtain ⟨rfl, hbb, hcur, hsz, hcs⟩ := hpos h0
        refine run_firstCells_some w.drew i.size zs.length ⟨b, off, none⟩ zs.length cap (intsV zs) (by simp [intsV, h1]) (fun j u hj => ?_)
        have hj' : j < zs.length := by have := (List.getElem?_eq_some_iff.1 hj).1; simpa [intsV] using this
        have hblk : Blk w.drew b 3 cur := hcur
        rw [Addr.add_lit, hblk.cell, hcs j hj', hj]
    have hr := run_append_grow_src (P := P) w t t ty 3 i (.int .i64 0) ht hi hz ao zs.length cap (intsV zs) hold _ 1 _ src (by omega) (by omega) (by
      have := growslice_fits (need := zs.length + 1) (old := cap) (bytes := i.bytes) (by omega) (by rw [h8]; omega)
      exact this)
    have hge := grownCap_ge w (zs.length + 1) cap 3
    have hmx := grownCap_le_maxLen w (zs.length + 1) cap 3 (by unfold maxLen; omega)
    refine ⟨_, _, none, hr, ?_, ⟨rfl, rfl, rfl, by simp, fun k hk _ => (Below.heap_alloc w.drew _ k hk)⟩, fun j e => by cases e⟩
    refine ⟨some ⟨w.heap.size, 0, none⟩, w.heap.size, 0, _, _, by simp, by simpa using hge, hmx, fun _ => ⟨rfl, hb, heap_alloc_new w.drew _, ?_, fun j hj => ?_⟩⟩
    · rw [Array.size_append, size_zeroCells]
      simp [intsV, Value.cells]
      omega
    · have e1 : (intsV zs ++ [Value.int .i64 z]) = intsV (zs ++ [z]) := by simp [intsV]
      rw [Nat.zero_add, Array.getElem?_append_left (by simp [intsV]; simpa using hj), e1]
      simp
theorem wpList_pushQ {ops : Array Oper} {rest : List Oper} {o : Oper} {a : Act} {Q : Exit → Act → World → Prop} (h : IQ w base v zs) (hg : o.guard = none) (s x : Operand) (t : TypeId)
    (hop : o.op = .call { callee := .builtin .append, args := #[s, x], argTypes := #[t, t] }) (i : TypeInfo) (ht : P.underlying t = some (.slice 3)) (hi : P.info? 3 = some i) (hz : i.zero = some (.int .i64 0)) (h1 : i.size = 1) (h8 : i.bytes = 8)
    (hs : a.eval s = v) (B c : Nat) (z : Int) (hx : a.eval x = .slice (some ⟨B, 0, none⟩) 1 c) (hB : w.cell? ⟨B, 0, none⟩ = some (.int .i64 z)) (hn : zs.length + 1 ≤ 1000000000) (hb : base ≤ w.heap.size)
    (hK : ∀ v' w' row, IQ w' base v' (zs ++ [z]) → w.grownBy w' row → (∀ j, row = some j → base ≤ j ∧ ∃ C, w.heap[j]? = some (.cells C 3 (0, 0))) → wpList P ops Q rest (a.put o.dst v') w') : wpList P ops Q (o :: rest) a w := by
  refine wpList_plain hg fun K' hK' => ?_
  obtain ⟨v', w', row, hrun, r1, r2, r3⟩ := h.append t o.type i ht hi hz h1 h8 B c z hB hn hb
  unfold Oper.wp execOp
  simp only [hop, resolve, invoke, builtin, Sem.run_bind, Sem.run_pure, Result.andThen_ok, List.map_toArray, List.map_cons, List.map_nil, hs, hx, hrun]
  exact hK' _ _ (hK v' w' row r1 r2 r3)
/-- The first one, and the others. -/
theorem IQ.cons {z : Int} (h : IQ w base v (z :: zs)) : ∃ b off cap, v = .slice (some ⟨b, off, none⟩) (zs.length + 1) cap ∧ zs.length + 1 ≤ cap ∧ b < w.heap.size ∧ base ≤ b ∧ w.cell? ⟨b, off, none⟩ = some (.int .i64 z) ∧
    IQ w base (.slice (some (if cap = 1 then ⟨b, off, none⟩ else ⟨b, off + 1, none⟩)) zs.length (cap - 1)) zs := by
  obtain ⟨ao, b, off, cap, cur, rfl, hnc, hcm, hpos⟩ := h
  simp only [List.length_cons] at hnc hpos
  obtain ⟨rfl, hbb, hcur, hsz, hcs⟩ := hpos (by omega)
  have hblk : Blk w b 3 cur := hcur
  refine ⟨b, off, cap, rfl, hnc, hblk.lt, hbb, ?_, ?_⟩
  · have := hcs 0 (by omega)
    rw [hblk.cell]
    simpa [intsV] using this
  · refine ⟨some _, b, off + 1, cap - 1, cur, rfl, by omega, by omega, fun hc => ⟨by rw [if_neg (by omega)], hbb, hcur, by omega, fun j hj => ?_⟩⟩
    have := hcs (j + 1) (by omega)
    rw [show off + 1 + j = off + (j + 1) from by omega, this]
    simp [intsV]
/-- A row that was made with one number. -/
theorem IQ.one {B : Nat} {z : Int} (hB : Blk w B 3 #[.int .i64 z]) (hb : base ≤ B) : IQ w base (.slice (some ⟨B, 0, none⟩) 1 1) [z] :=
  ⟨some ⟨B, 0, none⟩, B, 0, 1, _, rfl, Nat.le_refl _, by decide, fun _ => ⟨rfl, hb, hB, by simp, fun j hj => by
    simp only [List.length_singleton] at hj
    obtain rfl : j = 0 := by omega
    simp [intsV]⟩⟩
end

section
variable {P : Program} {k e : TypeId} {base b : Nat} {w : World} {f : Value → List Int}
/-- A row is stored at its key. -/
theorem Grp.update {t E : TypeId} (h : Grp P k base e w b f) (K : Keyed P k) (ht : P.underlying t = some (.map k E)) {key : Value} {kl : Lit} (hkey : keyOf P k key = some kl) {v : Value}
    (hv : w.ownsRow base e 1 v (f key).length (intsV (f key))) (hvk : ∀ es clock, w.heap[b]? = some (.map es clock) → ∀ x ∈ es.toList, x.key = key → x.val = v) (hvn : ∀ es clock, w.heap[b]? = some (.map es clock) → (∀ x ∈ es.toList, x.key ≠ key) → v = .slice none 0 0)
    (W2 : World) (v' : Value) (zs' : List Int) (hg : w.grownBy W2 v.ownBlock) (hown : W2.ownsRow base e 1 v' zs'.length (intsV zs')) (hloc : v'.ownBlock = v.ownBlock ∨ ∃ g, v'.ownBlock = some g ∧ w.heap.size ≤ g) :
    ∃ W3, (Instr.mapUpdate t (.map (some b)) key v').run P W2 = .ok () W3 ∧ Grp P k base e W3 b (upd f key zs') ∧ W2.grownBy W3 (some b) ∧ W3.heap.size = W2.heap.size := by
  have hblt := h.lt
  obtain ⟨es, clock, hb, h1, h2, h3, h4, h5, h6⟩ := h
  have hne_b : ∀ {u : World} {v : Value} {n : Nat} {xs : List Value}, u.ownsRow base e 1 v n xs → v.ownBlock = none ∨ v.ownBlock ≠ some b := fun {u v n xs} hv => by
    cases hb' : v.ownBlock
    · exact .inl rfl
    · refine .inr (fun e2 => ?_)
      have := (hv.lt _ hb').1
      cases e2
      omega
  have hvb : some b ≠ v.ownBlock := fun e2 => by
    rcases hne_b hv with h | h
    · rw [h] at e2; cases e2
    · exact h e2.symm
  have hm2 : W2.heap[b]? = some (.map es clock) := (hg.block b hblt hvb).trans hb
  obtain ⟨s1, s2, s3⟩ := (MapKept.stamped_iff es clock).1 h1
  have old : ∀ x ∈ es.toList, x.key ≠ key → x.val.ownBlock = none ∨ x.val.ownBlock ≠ v.ownBlock := by
    intro x hx hne
    by_cases hex : ∃ y ∈ es.toList, y.key = key
    · obtain ⟨y, hy, hyk⟩ := hex
      rw [← hvk es clock hb y hy hyk]
      exact h4 x hx y hy (by rw [hyk]; exact hne)
    · rw [hvn es clock hb (fun y hy e2 => hex ⟨y, hy, e2⟩)]
      cases hx' : x.val.ownBlock
      · exact .inl rfl
      · exact .inr (by simp [Value.ownBlock])
  have old_new : ∀ x ∈ es.toList, x.key ≠ key → x.val.ownBlock = none ∨ x.val.ownBlock ≠ v'.ownBlock := by
    intro x hx hne
    rcases hloc with g1 | ⟨g, g1, g2⟩
    · rw [g1]
      exact old x hx hne
    · cases hx' : x.val.ownBlock
      · exact .inl rfl
      · refine .inr (fun e2 => ?_)
        have := ((h3 x hx).lt _ hx').2
        rw [g1] at e2
        cases e2
        omega
  rcases K.find W2 hkey es.toList h2 with ⟨g1, g2⟩ | ⟨j, e0, g1, g2, g3⟩
  · have hgw := setBlock_grown hm2 (.map (es.push ⟨key, v', clock⟩) (clock + 1))
    refine ⟨ChangeMaps.setBlock W2 b (.map (es.push ⟨key, v', clock⟩) (clock + 1)), by simp [Instr.mapUpdate, run_underlying ht, MapKept.run_getObj_map hm2, K.check W2 _ hkey, g1, MapKept.run_setObj_map _ hm2, Result.andThen, ChangeMaps.setBlock],
      ⟨_, _, ChangeMaps.heap_setBlock_same hm2 _, MapKept.stamped_push h1 g2, ?_, ?_, ?_, ?_, h6⟩, hgw, by simp [ChangeMaps.setBlock]⟩
    · intro x hx
      simp only [Array.toList_push, List.mem_append, List.mem_singleton] at hx
      rcases hx with hx | rfl
      · exact h2 x hx
      · exact ⟨_, hkey⟩
    · intro x hx
      simp only [Array.toList_push, List.mem_append, List.mem_singleton] at hx
      rcases hx with hx | rfl
      · rw [upd_other (g2 x hx)]
        exact ((h3 x hx).kept hg (old x hx (g2 x hx))).kept hgw (hne_b (h3 x hx))
      · simp only [upd_same]
        exact hown.kept hgw (hne_b hown)
    · intro x hx y hy hne
      simp only [Array.toList_push, List.mem_append, List.mem_singleton] at hx hy
      rcases hx with hx | rfl <;> rcases hy with hy | rfl
      · exact h4 x hx y hy hne
      · exact old_new x hx (g2 x hx)
      · show v'.ownBlock = none ∨ v'.ownBlock ≠ y.val.ownBlock
        cases hv' : v'.ownBlock
        · exact .inl rfl
        · refine .inr (fun e2 => ?_)
          rcases old_new y hy (g2 y hy) with h | h
          · rw [h] at e2; cases e2
          · exact h (by rw [hv', e2])
      · exact absurd rfl hne
    · intro u hu
      have huk : u ≠ key := fun e2 => hu ⟨key, v', clock⟩ (by simp) e2.symm
      rw [upd_other huk]
      exact h5 u (fun x hx => hu x (by simp [hx]))
  · have hset : (es.modify j (fun e => { e with key := key, val := v' })).toList = es.toList.set j { e0 with val := v' } := by
      rw [Array.toList_modify, ChangeMaps.modify_eq_set _ _ _ _ g2, ← g3]
    have hset' : (es.modify j (fun e => { e with val := v' })).toList = es.toList.set j { e0 with val := v' } := by
      rw [Array.toList_modify, ChangeMaps.modify_eq_set _ _ _ _ g2]
    have hsame : es.modify j (fun e => { e with key := key, val := v' }) = es.modify j (fun e => { e with val := v' }) := by
      apply Array.ext'
      rw [hset, hset']
    have hj : es[j]? = some e0 := by simpa using g2
    have hgw := setBlock_grown hm2 (.map (es.modify j (fun e => { e with val := v' })) clock)
    have hmem : ∀ x ∈ (es.modify j (fun e => { e with val := v' })).toList, x = { e0 with val := v' } ∨ (x ∈ es.toList ∧ x.key ≠ key) := by
      intro x hx
      rw [hset'] at hx
      rcases mem_set_apart s3 g2 hx with h | ⟨h, h'⟩
      · exact .inl h
      · exact .inr ⟨h, by rw [← g3]; exact h'⟩
    have m0 := List.mem_of_getElem? g2
    refine ⟨ChangeMaps.setBlock W2 b (.map (es.modify j (fun e => { e with val := v' })) clock), ?_,
      ⟨_, _, ChangeMaps.heap_setBlock_same hm2 _, MapKept.stamped_modify h1 j _ (fun _ _ => rfl) (fun _ _ _ => rfl), ?_, ?_, ?_, ?_, h6⟩, hgw, by simp [ChangeMaps.setBlock]⟩
    · simp [Instr.mapUpdate, run_underlying ht, MapKept.run_getObj_map hm2, K.check W2 _ hkey, g1, hj, g3, K.stays W2 hkey, hsame, MapKept.run_setObj_map _ hm2, Result.andThen, ChangeMaps.setBlock]
    · intro x hx
      rcases hmem x hx with rfl | ⟨hx, _⟩
      · exact h2 e0 m0
      · exact h2 x hx
    · intro x hx
      rcases hmem x hx with rfl | ⟨hx, hne⟩
      · simp only [g3, upd_same]
        exact hown.kept hgw (hne_b hown)
      · simp only [upd_other hne]
        exact ((h3 x hx).kept hg (old x hx hne)).kept hgw (hne_b (h3 x hx))
    · intro x hx y hy hne
      rcases hmem x hx with rfl | ⟨hx, hxk⟩ <;> rcases hmem y hy with rfl | ⟨hy, hyk⟩
      · exact absurd rfl hne
      · show v'.ownBlock = none ∨ v'.ownBlock ≠ y.val.ownBlock
        cases hv' : v'.ownBlock
        · exact .inl rfl
        · refine .inr (fun e2 => ?_)
          rcases old_new y hy hyk with h | h
          · rw [h] at e2; cases e2
          · exact h (by rw [hv', e2])
      · exact old_new x hx hxk
      · exact h4 x hx y hy hne
    · intro u hu
      have huk : u ≠ key := fun e2 => hu { e0 with val := v' } (by rw [hset']; exact List.mem_iff_getElem?.2 ⟨j, by rw [List.getElem?_set, if_pos rfl, if_pos (List.getElem?_eq_some_iff.1 g2).1]⟩) (by rw [e2]; exact g3)
      rw [upd_other huk]
      refine h5 u (fun x hx e2 => ?_)
      obtain ⟨i, hi⟩ := List.mem_iff_getElem?.1 hx
      have hij : j ≠ i := fun e3 => by
        subst e3
        rw [g2] at hi
        cases hi
        exact huk (e2.symm.trans g3)
      exact hu x (by rw [hset']; exact List.mem_iff_getElem?.2 ⟨i, by rw [List.getElem?_set, if_neg hij]; exact hi⟩) e2
/-- Looked up, with what a later store wants to know. -/
theorem Grp.look2 {t E : TypeId} (h : Grp P k base e w b f) (K : Keyed P k) (ht : P.underlying t = some (.map k E)) (hz : (zeroValue E).run P w = .ok (.slice none 0 0) w) {key : Value} {kl : Lit} (hkey : keyOf P k key = some kl) :
    ∃ v, (Instr.lookup t (.map (some b)) key false).run P w = .ok v w ∧ w.ownsRow base e 1 v (f key).length (intsV (f key)) ∧
      ∀ (W2 : World) (v' : Value) (zs' : List Int), w.grownBy W2 v.ownBlock → W2.ownsRow base e 1 v' zs'.length (intsV zs') → (v'.ownBlock = v.ownBlock ∨ ∃ g, v'.ownBlock = some g ∧ w.heap.size ≤ g) →
        ∃ W3, (Instr.mapUpdate t (.map (some b)) key v').run P W2 = .ok () W3 ∧ Grp P k base e W3 b (upd f key zs') ∧ W2.grownBy W3 (some b) ∧ W3.heap.size = W2.heap.size := by
  have h0 := h
  obtain ⟨es, clock, hb, h1, h2, h3, h4, h5, h6⟩ := h
  obtain ⟨s1, s2, s3⟩ := (MapKept.stamped_iff es clock).1 h1
  rcases K.find w hkey es.toList h2 with ⟨g1, g2⟩ | ⟨j, e0, g1, g2, g3⟩
  · have hr : w.ownsRow base e 1 (.slice none 0 0) (f key).length (intsV (f key)) := by
      rw [h5 key g2]
      exact World.ownsRow_nil _ _ _ _
    refine ⟨.slice none 0 0, by simp [Instr.lookup, run_underlying ht, MapKept.run_getObj_map hb, K.check w _ hkey, g1, hz, Result.andThen], hr, fun W2 v' zs' a b' c => h0.update K ht hkey hr ?_ ?_ W2 v' zs' a b' c⟩
    · intro es' clock' hb' x hx hxk
      rw [hb] at hb'
      cases hb'
      exact absurd hxk (g2 x hx)
    · intro es' clock' hb' _
      rfl
  · have hr : w.ownsRow base e 1 e0.val (f key).length (intsV (f key)) := by
      have := h3 e0 (List.mem_of_getElem? g2)
      rw [g3] at this
      exact this
    refine ⟨e0.val, by simp [Instr.lookup, run_underlying ht, MapKept.run_getObj_map hb, K.check w _ hkey, g1, Result.andThen], hr, fun W2 v' zs' a b' c => h0.update K ht hkey hr ?_ ?_ W2 v' zs' a b' c⟩
    · intro es' clock' hb' x hx hxk
      rw [hb] at hb'
      cases hb'
      obtain ⟨i, hi⟩ := List.mem_iff_getElem?.1 hx
      by_cases hij : j = i
      · subst hij
        rw [g2] at hi
        cases hi
        rfl
      · exfalso
        obtain ⟨q1, e1⟩ := List.getElem?_eq_some_iff.1 hi
        obtain ⟨q2, e2⟩ := List.getElem?_eq_some_iff.1 g2
        have hp := List.pairwise_iff_getElem.1 s3
        rcases Nat.lt_or_gt_of_ne hij with hlt | hlt
        · have := hp j i q2 q1 hlt
          rw [e1, e2, g3, hxk] at this
          exact this rfl
        · have := hp i j q1 q2 hlt
          rw [e1, e2, g3, hxk] at this
          exact this rfl
    · intro es' clock' hb' hall
      rw [hb] at hb'
      cases hb'
      exact absurd g3 (hall e0 (List.mem_of_getElem? g2))
theorem wpList_lookupG2 {ops : Array Oper} {rest : List Oper} {o : Oper} {a : Act} {Q : Exit → Act → World → Prop} (h : Grp P k base e w b f)
    (hg : o.guard = none) (m x : Operand) (t E : TypeId) (hop : o.op = Op.lookup t m x false) (K : Keyed P k) (ht : P.underlying t = some (.map k E)) (hz : (zeroValue E).run P w = .ok (.slice none 0 0) w)
    (hm : a.eval m = .map (some b)) (key : Value) (hx : a.eval x = key) {kl : Lit} (hkey : keyOf P k key = some kl)
    (hK : ∀ v, w.ownsRow base e 1 v (f key).length (intsV (f key)) → (∀ (W2 : World) (v' : Value) (zs' : List Int), w.grownBy W2 v.ownBlock → W2.ownsRow base e 1 v' zs'.length (intsV zs') → (v'.ownBlock = v.ownBlock ∨ ∃ g, v'.ownBlock = some g ∧ w.heap.size ≤ g) →
        ∃ W3, (Instr.mapUpdate t (.map (some b)) key v').run P W2 = .ok () W3 ∧ Grp P k base e W3 b (upd f key zs') ∧ W2.grownBy W3 (some b) ∧ W3.heap.size = W2.heap.size) → wpList P ops Q rest (a.put o.dst v) w) : wpList P ops Q (o :: rest) a w := by
  refine wpList_plain hg fun K' hK' => ?_
  obtain ⟨v, hrun, r1, r2⟩ := h.look2 K ht hz hkey
  unfold Oper.wp
  simp [execOp, hop, hm, hx, hrun, Result.andThen]
  exact hK' _ _ (hK v r1 r2)
theorem wpList_mapUpdate {ops : Array Oper} {rest : List Oper} {o : Oper} {a : Act} {Q : Exit → Act → World → Prop}
    (hg : o.guard = none) (m s v : Operand) (t : TypeId) (hop : o.op = Op.mapUpdate t m s v) {vm vs vv : Value} (hm : a.eval m = vm) (hs : a.eval s = vs) (hv : a.eval v = vv) {w' : World}
    (hrun : (Instr.mapUpdate t vm vs vv).run P w = .ok () w') (hK : wpList P ops Q rest (a.put o.dst undef) w') : wpList P ops Q (o :: rest) a w := by
  refine wpList_plain hg fun K' hK' => ?_
  unfold Oper.wp
  simp [execOp, hop, hm, hs, hv, hrun, Result.andThen]
  exact hK' _ _ hK

theorem Grp.look_at {w0 : World} {t E : TypeId} (h : Grp P k base e w0 b f) (hb : Below w0.heap.size w0 w) (K : Keyed P k) (ht : P.underlying t = some (.map k E)) (hz : (zeroValue E).run P w = .ok (.slice none 0 0) w) {key : Value} {kl : Lit} (hkey : keyOf P k key = some kl) :
    ∃ v, (Instr.lookup t (.map (some b)) key false).run P w = .ok v w ∧ w0.ownsRow base e 1 v (f key).length (intsV (f key)) := by
  have hlt := h.lt
  obtain ⟨es, clock, hb0, h1, h2, h3, h4, h5, h6⟩ := h
  have hb := (hb.block b hlt).trans hb0
  rcases K.find w hkey es.toList h2 with ⟨g1, g2⟩ | ⟨j, e0, g1, g2, g3⟩
  · refine ⟨.slice none 0 0, by simp [Instr.lookup, run_underlying ht, MapKept.run_getObj_map hb, K.check w _ hkey, g1, hz, Result.andThen], ?_⟩
    rw [h5 key g2]
    exact World.ownsRow_nil _ _ _ _
  · refine ⟨e0.val, by simp [Instr.lookup, run_underlying ht, MapKept.run_getObj_map hb, K.check w _ hkey, g1, Result.andThen], ?_⟩
    have := h3 e0 (List.mem_of_getElem? g2)
    rw [g3] at this
    exact this
theorem wpList_lookupGB {w0 : World} {ops : Array Oper} {rest : List Oper} {o : Oper} {a : Act} {Q : Exit → Act → World → Prop} (h : Grp P k base e w0 b f) (hb : Below w0.heap.size w0 w)
    (hg : o.guard = none) (m x : Operand) (t E : TypeId) (hop : o.op = Op.lookup t m x false) (K : Keyed P k) (ht : P.underlying t = some (.map k E)) (hz : (zeroValue E).run P w = .ok (.slice none 0 0) w)
    (hm : a.eval m = .map (some b)) (key : Value) (hx : a.eval x = key) {kl : Lit} (hkey : keyOf P k key = some kl)
    (hK : ∀ v, w0.ownsRow base e 1 v (f key).length (intsV (f key)) → wpList P ops Q rest (a.put o.dst v) w) : wpList P ops Q (o :: rest) a w := by
  refine wpList_plain hg fun K' hK' => ?_
  obtain ⟨v, hrun, r1⟩ := h.look_at hb K ht hz hkey
  unfold Oper.wp
  simp [execOp, hop, hm, hx, hrun, Result.andThen]
  exact hK' _ _ (hK v r1)
theorem wpList_tailQ {v : Value} {z : Int} {zs : List Int} {ops : Array Oper} {rest : List Oper} {o : Oper} {a : Act} {Q : Exit → Act → World → Prop} (h : IQ w base v (z :: zs)) (hg : o.guard = none) (x : Operand) (t : TypeId)
    (hop : o.op = Op.slice t x (some (.const (.int .i64 1))) none none) (ht : P.underlying t = some (.slice 3)) {i : TypeInfo} (hi : P.info? 3 = some i) (h1 : i.size = 1) (hx : a.eval x = v)
    (hK : ∀ v', IQ w base v' zs → wpList P ops Q rest (a.put o.dst v') w) : wpList P ops Q (o :: rest) a w := by
  refine wpList_plain hg fun K' hK' => ?_
  obtain ⟨b, off, cap, rfl, hc1, _, _, _, hq⟩ := h.cons
  have hel : P.elem t = 3 := by simp [Program.elem, ht]
  have ht' : P.underlying t = some (.slice (P.elem t)) := by rw [hel]; exact ht
  have hrun : (Instr.sliceAt t (.slice (some ⟨b, off, none⟩) (zs.length + 1) cap) (some (.int .i64 1)) none none).run P w = .ok (.slice (some (if cap = 1 then ⟨b, off, none⟩ else ⟨b, off + 1, none⟩)) zs.length (cap - 1)) w := by
    rw [run_sliceAt_slice (w := w) t _ _ _ _ ht', run_slice_l (w := w) t (some ⟨b, off, none⟩) (zs.length + 1) cap ht' .i64 1 (by omega) (by omega), hel]
    have hs : (sizeOf 3).run P w = .ok 1 w := by simp [sizeOf, typeInfo, hi, h1]
    rw [hs]
    simp only [Result.andThen, sliced]
    by_cases e : cap = 1
    · simp [e]
    · have : ¬ cap = (1 : Int).toNat := e
      simp only [Option.map, if_neg e, Addr.add_mid, if_neg this]
      rfl
  have e1 : a.eval (.const (.int .i64 1)) = .int .i64 1 := rfl
  unfold Oper.wp
  simp only [execOp, hop, hx, Option.map, e1, Sem.run_bind, hrun, Result.andThen]
  exact hK' _ _ (hK _ hq)
end
section
variable {w : World} {base : Nat} {v : Value} {zs : List Int}
theorem IQ.len (h : IQ w base v zs) : (match v with | .slice _ n _ => n | _ => 0) = zs.length := by
  obtain ⟨ao, c, rfl⟩ := h.form
  rfl
end

/-! Which triangles of a vertex are connected. -/
def hasV (t : Tr) (x : Int) : Prop := x = t.1 ∨ x = t.2.1 ∨ x = t.2.2
def adjV (T : List Tr) (v : Int) (i k : Nat) : Prop := ∃ a b x, T[i]? = some a ∧ T[k]? = some b ∧ x ≠ v ∧ hasV a x ∧ hasV b x
def ConnV (T : List Tr) (v : Int) (l : List Nat) : Prop := ∀ S : Nat → Prop, (∀ i, l.head? = some i → S i) → (∀ i ∈ l, ∀ k ∈ l, S i → adjV T v i k → S k) → ∀ k ∈ l, S k
theorem mem_keys {R : List Nat} {k : Nat} : (Value.int .i64 (k : Int)) ∈ intsV (R.map fun i : Nat => (i : Int)) ↔ k ∈ R := by
  simp only [intsV, List.mem_map, Value.int.injEq, true_and]
  constructor
  · rintro ⟨a, ⟨b, hb, rfl⟩, e⟩
    have : b = k := by omega
    rw [← this]
    exact hb
  · intro h
    exact ⟨_, ⟨k, h, rfl⟩, rfl⟩
def nats (l : List Nat) : List Int := l.map fun i : Nat => (i : Int)
theorem nats_length (l : List Nat) : (nats l).length = l.length := by simp [nats]
/-- What the ends know: at a vertex the triangles that have it. -/
def Ends (f : Value → List Int) (pre : List (Int × Nat)) : Prop := ∀ x : Int, ∃ l : List Nat, f (.int .i64 x) = nats l ∧ (∀ k, k ∈ l ↔ (x, k) ∈ pre) ∧ l.length ≤ pre.length
theorem Ends.nil : Ends (fun _ => []) [] := fun x => ⟨[], rfl, by simp, by simp⟩
theorem Ends.put {f : Value → List Int} {pre : List (Int × Nat)} (h : Ends f pre) (x : Int) (i : Nat) : Ends (upd f (.int .i64 x) (f (.int .i64 x) ++ [(i : Int)])) (pre ++ [(x, i)]) := by
  intro y
  obtain ⟨l, h1, h2, h3⟩ := h y
  by_cases e : y = x
  · subst e
    rw [upd_same]
    refine ⟨l ++ [i], by rw [h1]; simp [nats], fun k => ?_, by simp; exact h3⟩
    simp only [List.mem_append, h2, List.mem_singleton, Prod.mk.injEq, true_and]
  · rw [upd_other (by simpa using e)]
    refine ⟨l, h1, fun k => ?_, by simp; omega⟩
    simp only [List.mem_append, h2, List.mem_singleton, Prod.mk.injEq, e, false_and, or_false]
/-- What one triangle adds. -/
def tells (v : Int) (t : Tr) (i : Nat) : List (Int × Nat) := ([t.1, t.2.1, t.2.2].filter (· != v)).map fun x => (x, i)
def told (T : List Tr) (v : Int) (l : List Nat) : List (Int × Nat) := l.flatMap fun i => tells v (T[i]?.getD (0, 0, 0)) i
theorem told_snoc (T : List Tr) (v : Int) (l : List Nat) (i : Nat) : told T v (l ++ [i]) = told T v l ++ tells v (T[i]?.getD (0, 0, 0)) i := by simp [told]
theorem tells_length (v : Int) (t : Tr) (i : Nat) : (tells v t i).length ≤ 3 := by
  unfold tells
  rw [List.length_map]
  have := List.length_filter_le (· != v) [t.1, t.2.1, t.2.2]
  simpa using this
theorem told_mem {T : List Tr} {v : Int} {l : List Nat} {x : Int} {k : Nat} : (x, k) ∈ told T v l ↔ k ∈ l ∧ x ≠ v ∧ hasV (T[k]?.getD (0, 0, 0)) x := by
  simp only [told, tells, List.mem_flatMap, List.mem_map, List.mem_filter, List.mem_cons, List.not_mem_nil, or_false, Prod.mk.injEq, bne_iff_ne, hasV]
  constructor
  · rintro ⟨i, hi, y, ⟨hy, hn⟩, rfl, rfl⟩
    exact ⟨hi, hn, hy⟩
  · rintro ⟨hk, hn, hx⟩
    exact ⟨k, hk, x, ⟨hx, hn⟩, rfl, rfl⟩

/-- The search: what was reached, and what of it waits. -/
structure Bfs (T : List Tr) (v : Int) (l R Q : List Nat) : Prop where
  le : Q.length ≤ R.length
  nd : R.Nodup
  sub : ∀ k ∈ R, k ∈ l
  wait : ∀ k ∈ Q, k ∈ R
  head : ∀ i, l.head? = some i → i ∈ R
  done : ∀ i ∈ R, i ∉ Q → ∀ k ∈ l, adjV T v i k → k ∈ R
  reach : ∀ S : Nat → Prop, (∀ i, l.head? = some i → S i) → (∀ i ∈ l, ∀ k ∈ l, S i → adjV T v i k → S k) → ∀ k ∈ R, S k
theorem Bfs.start {T : List Tr} {v : Int} {l : List Nat} {i : Nat} (h : l.head? = some i) : Bfs T v l [i] [i] where
  le := by simp
  nd := by simp
  sub := by
    intro k hk
    rw [List.mem_singleton.1 hk]
    exact List.mem_of_mem_head? h
  wait := fun k hk => hk
  head := by
    intro j hj
    rw [h] at hj
    cases hj
    simp
  done := fun j hj hn => absurd hj hn
  reach := by
    intro S h1 _ k hk
    rw [List.mem_singleton.1 hk]
    exact h1 i h
theorem nodup_full {R l : List Nat} (hn : R.Nodup) (hs : ∀ x ∈ R, x ∈ l) (hl : l.length ≤ R.length) : ∀ x ∈ l, x ∈ R := by
  intro x hx
  refine Classical.byContradiction fun hne => ?_
  have h2 := Jor.nodup_le (l := x :: R) (m := l) (List.nodup_cons.2 ⟨hne, hn⟩) (fun y hy => by
    rcases List.mem_cons.1 hy with rfl | hy
    · exact hx
    · exact hs y hy)
  simp only [List.length_cons] at h2
  omega
theorem Bfs.finish {T : List Tr} {v : Int} {l R : List Nat} (h : Bfs T v l R []) (hl : l.Nodup) : R.length = l.length ↔ ConnV T v l := by
  have hle : R.length ≤ l.length := Jor.nodup_le h.nd h.sub
  constructor
  · intro he S h1 h2 k hk
    exact h.reach S h1 h2 k (nodup_full h.nd h.sub (by omega) k hk)
  · intro hc
    have hall := hc (fun k => k ∈ R) h.head (fun i _ k hk hiR ha => h.done i hiR (by simp) k hk ha)
    have := Jor.nodup_le hl hall
    omega
/-- In the midst of one triangle: its vertices C are done. -/
structure BfsAt (T : List Tr) (v : Int) (l R Q : List Nat) (i : Nat) (C : List Int) : Prop where
  le : Q.length ≤ R.length
  nd : R.Nodup
  sub : ∀ k ∈ R, k ∈ l
  wait : ∀ k ∈ Q, k ∈ R
  head : ∀ i, l.head? = some i → i ∈ R
  cur : i ∈ R
  done : ∀ j ∈ R, j ∉ Q → j ≠ i → ∀ k ∈ l, adjV T v j k → k ∈ R
  part : ∀ k ∈ l, ∀ b, T[k]? = some b → ∀ x ∈ C, x ≠ v → hasV b x → k ∈ R
  reach : ∀ S : Nat → Prop, (∀ i, l.head? = some i → S i) → (∀ i ∈ l, ∀ k ∈ l, S i → adjV T v i k → S k) → ∀ k ∈ R, S k
theorem Bfs.pop {T : List Tr} {v : Int} {l R Q : List Nat} {i : Nat} (h : Bfs T v l R (i :: Q)) : BfsAt T v l R Q i [] where
  le := by have := h.le; simp at this; omega
  nd := h.nd
  sub := h.sub
  wait := fun k hk => h.wait k (List.mem_cons_of_mem _ hk)
  head := h.head
  cur := h.wait i (List.mem_cons_self ..)
  done := fun j hj hn hne k hk ha => h.done j hj (fun hm => by rcases List.mem_cons.1 hm with e | hm; exact hne e; exact hn hm) k hk ha
  part := fun k _ b _ x hx => by cases hx
  reach := h.reach
theorem BfsAt.add {T : List Tr} {v : Int} {l R Q : List Nat} {i k : Nat} {C : List Int} (h : BfsAt T v l R Q i C) (hk : k ∈ l) (hn : k ∉ R) (ha : adjV T v i k) : BfsAt T v l (R ++ [k]) (Q ++ [k]) i C where
  le := by have := h.le; simp; exact this
  nd := by
    rw [List.nodup_append]
    exact ⟨h.nd, by simp, fun a ha b hb e => by rw [List.mem_singleton.1 hb] at e; exact hn (by rw [← e]; exact ha)⟩
  sub := fun x hx => by
    rcases List.mem_append.1 hx with hx | hx
    · exact h.sub x hx
    · rw [List.mem_singleton.1 hx]; exact hk
  wait := fun x hx => by
    rcases List.mem_append.1 hx with hx | hx
    · exact List.mem_append_left _ (h.wait x hx)
    · exact List.mem_append_right _ hx
  head := fun j hj => List.mem_append_left _ (h.head j hj)
  cur := List.mem_append_left _ h.cur
  done := fun j hj hq hne x hx hax => by
    rcases List.mem_append.1 hj with hj | hj
    · exact List.mem_append_left _ (h.done j hj (fun hm => hq (List.mem_append_left _ hm)) hne x hx hax)
    · exact absurd (List.mem_append_right _ hj) hq
  part := fun x hx b hb y hy hyv hyb => List.mem_append_left _ (h.part x hx b hb y hy hyv hyb)
  reach := fun S h1 h2 x hx => by
    rcases List.mem_append.1 hx with hx | hx
    · exact h.reach S h1 h2 x hx
    · rw [List.mem_singleton.1 hx]
      exact h2 i (h.sub i h.cur) k hk (h.reach S h1 h2 i h.cur) ha
theorem BfsAt.skip {T : List Tr} {v : Int} {l R Q : List Nat} {i : Nat} {C : List Int} (h : BfsAt T v l R Q i C) : BfsAt T v l R Q i (C ++ [v]) := ⟨h.le, h.nd, h.sub, h.wait, h.head, h.cur, h.done, fun k hk b hb x hx hxv hxb => by
  rcases List.mem_append.1 hx with hx | hx
  · exact h.part k hk b hb x hx hxv hxb
  · exact absurd (List.mem_singleton.1 hx) hxv, h.reach⟩
theorem BfsAt.over {T : List Tr} {v : Int} {l R Q : List Nat} {i : Nat} {C : List Int} {y : Int} (h : BfsAt T v l R Q i C) (hy : ∀ k ∈ l, ∀ b, T[k]? = some b → hasV b y → k ∈ R) : BfsAt T v l R Q i (C ++ [y]) := ⟨h.le, h.nd, h.sub, h.wait, h.head, h.cur, h.done, fun k hk b hb x hx hxv hxb => by
  rcases List.mem_append.1 hx with hx | hx
  · exact h.part k hk b hb x hx hxv hxb
  · rw [List.mem_singleton.1 hx] at hxb
    exact hy k hk b hb hxb, h.reach⟩
theorem BfsAt.finish {T : List Tr} {v : Int} {l R Q : List Nat} {i : Nat} {x y z : Int} (h : BfsAt T v l R Q i [x, y, z]) (ht : T[i]? = some (x, y, z)) : Bfs T v l R Q where
  le := h.le
  nd := h.nd
  sub := h.sub
  wait := h.wait
  head := h.head
  done := fun j hj hq k hk ha => by
    by_cases e : j = i
    · subst e
      obtain ⟨a, b, u, h1, h2, h3, h4, h5⟩ := ha
      rw [ht] at h1
      cases h1
      refine h.part k hk b h2 u ?_ h3 h5
      rcases h4 with rfl | rfl | rfl <;> simp
    · exact h.done j hj hq e k hk ha
  reach := h.reach
def sliceLen : Value → Nat
  | .slice _ n _ => n
  | _ => 0
end Go.Proofs.YtghlnknncahkgaaGreat
/-
  certify.pairs, by walking its text.
-/
namespace Go.Proofs.YtghlnknncahkgaaGreat
open Go.RowKit Go.Maps

def keyOk (κ : Tr) : Prop := (0 ≤ κ.1 ∧ κ.1 ≤ 8192) ∧ (0 ≤ κ.2.1 ∧ κ.2.1 ≤ 8192) ∧ (0 ≤ κ.2.2 ∧ κ.2.2 ≤ 8192)
/-- What the rows know: of each key whether it was, how many there are at most, and that the numbers are small. -/
def Had (f : Value → List Int) (P : List Tr) : Prop := (∀ κ, f (triV κ) = [] ↔ κ ∉ P) ∧ ∀ key, (f key).length ≤ P.length ∧ ∀ a ∈ f key, 0 ≤ a ∧ a ≤ 8192
theorem Had.nil : Had (fun _ => []) [] := ⟨by simp, by simp⟩
theorem Had.put {f : Value → List Int} {P : List Tr} (h : Had f P) (κ : Tr) {i : Int} (hi : 0 ≤ i ∧ i ≤ 8192) : Had (upd f (triV κ) (f (triV κ) ++ [i])) (P ++ [κ]) := by
  obtain ⟨h1, h2⟩ := h
  constructor
  · intro κ'
    by_cases e : triV κ' = triV κ
    · have e' := triV_inj e
      subst e'
      rw [upd_same]
      simp
    · rw [upd_other e, h1]
      have : κ' ≠ κ := fun e' => e (by rw [e'])
      simp [this]
  · intro key
    by_cases e : key = triV κ
    · subst e
      rw [upd_same]
      obtain ⟨a, b⟩ := h2 (triV κ)
      refine ⟨by simp; exact a, fun x hx => ?_⟩
      rcases List.mem_append.1 hx with hx | hx
      · exact b x hx
      · simp only [List.mem_singleton] at hx
        rw [hx]
        exact hi
    · rw [upd_other e]
      obtain ⟨a, b⟩ := h2 key
      exact ⟨by simp; omega, b⟩
theorem nodup_snoc {P : List Tr} {κ : Tr} : (P ++ [κ]).Nodup ↔ P.Nodup ∧ κ ∉ P := by
  rw [List.nodup_append]
  simp only [List.nodup_cons, List.not_mem_nil, not_false_eq_true, List.nodup_nil, true_and, List.mem_singleton]
  constructor
  · rintro ⟨h1, h3⟩
    exact ⟨h1, fun hm => h3 κ hm κ rfl rfl⟩
  · rintro ⟨h1, h2⟩
    refine ⟨h1, fun a ha b hb e => ?_⟩
    rw [hb] at e
    rw [e] at ha
    exact h2 ha
theorem rowSlice {w : World} {base n : Nat} {v : Value} {zs : List Int} (h : w.ownsRow base 3 1 v zs.length (intsV zs)) (hn : zs.length = n) : ∃ a c, v = .slice a n c ∧ ∀ (k : Nat) (x : Int), zs[k]? = some x → ∃ g, a = some ⟨g, 0, none⟩ ∧ g < w.heap.size ∧ w.cell? ⟨g, k, none⟩ = some (.int .i64 x) := by
  subst hn
  rcases Nat.eq_zero_or_pos zs.length with h0 | hpos
  · rcases h.2 with ⟨rfl, e0⟩ | ⟨g, cap, cur, rfl, _⟩
    · exact ⟨none, 0, by rw [h0], fun k x hk => by
        have := (List.getElem?_eq_some_iff.1 hk).1
        omega⟩
    · exact ⟨some ⟨g, 0, none⟩, cap, rfl, fun k x hk => by
        have := (List.getElem?_eq_some_iff.1 hk).1
        omega⟩
  · obtain ⟨g, cap, rfl, hb, hg⟩ := h.form hpos
    refine ⟨some ⟨g, 0, none⟩, cap, rfl, fun k x hk => ⟨g, rfl, hg, ?_⟩⟩
    have := (List.getElem?_eq_some_iff.1 hk).1
    rw [h.cellAt k (by omega), intsV, List.getElem?_map, hk]
    rfl

theorem ws3_at {ws : List Tr} {j : Nat} {a b c : Int} (h : ws[j]? = some (a, b, c)) : (ws3 ws)[j * 3]? = some (.int .i64 a) ∧ (ws3 ws)[j * 3 + 1]? = some (.int .i64 b) ∧ (ws3 ws)[j * 3 + 2]? = some (.int .i64 c) := by
  induction ws generalizing j with
  | nil => simp at h
  | cons t r ih =>
    have e : ws3 (t :: r) = [.int .i64 t.1, .int .i64 t.2.1, .int .i64 t.2.2] ++ ws3 r := by simp [ws3, flatT]
    cases j with
    | zero =>
      simp at h
      subst h
      rw [e]
      simp
    | succ j =>
      have := ih (j := j) (by simpa using h)
      rw [e]
      have h1 : (j + 1) * 3 = j * 3 + 3 := by omega
      rw [h1]
      simpa using this
theorem wfS {x : Int} (h : 0 ≤ x ∧ x ≤ 8192) : (Lit.int .i64 x).wf = true := WalkArith.wf_i64 (by omega)
theorem infoInt : (Tryz.prog.info? 3).map (fun i => (i.zero, i.size, i.bytes)) = some (some (.int .i64 0), 1, 8) := by kernel_rfl

set_option maxRecDepth 100000 in
set_option maxHeartbeats 4000000 in
theorem pairsTwice_any (kind : Int) (K : Tr → List Tr) (N : Int) (v : Value) (T : List Tr) (w : World) (h : TrisRd w v T) (hl : T.length ≤ 8192)
    (hK : ∀ (t : Tr) (W : World), t ∈ T → Calls Tryz.prog 120 #[triV t] W fun e W' => ∃ v', e = .returned v' ∧ W'.ownsRow W.heap.size 71 3 v' (K t).length (ws3 (K t)) ∧ Below W.heap.size W W')
    (hKl : ∀ t ∈ T, 0 < (K t).length ∧ (K t).length ≤ 3) (hKo : ∀ t ∈ T, ∀ κ ∈ K t, keyOk κ) :
    Calls Tryz.prog 119 #[.agg #[.int .i64 N, v], .int .i64 kind, .func (.func 120) #[] #[]] w fun e w' => ∃ v', e = .returned v' ∧ WitsIs w' w.heap.size v' kind (T.flatMap K).Nodup ∧ Below w.heap.size w w' := by
  obtain ⟨i1, hi', hy0, hy1, hy2⟩ := info_parts infoWit
  obtain ⟨i2, hj', hz0, hz1, hz2⟩ := info_parts infoInt
  obtain ⟨a, c, rfl, hc1, hc2, hr⟩ := h
  have HR := Lib.hid hr
  have HKc := Lib.hid hK
  have HKl := Lib.hid hKl
  have HKo := Lib.hid hKo
  have b1 := Blk.new w 24 #[.int .i64 N, .slice a T.length c]
  have hB0 : Below w.heap.size w (w.alloc (.cells #[.int .i64 N, .slice a T.length c] 24)) := (Below.refl _ _).alloc (Nat.le_refl _) _
  obtain ⟨n, hn⟩ : ∃ n, T.length = n := ⟨_, rfl⟩
  rw [hn] at hl hc1 hB0 b1 ⊢
  have HN := Lib.hid hn
  have st0 : PairSt w ((((w.alloc (.cells #[.int .i64 N, .slice a n c] 24)).alloc (.map #[] 0))).alloc (.map #[] 0)) kind (fun _ => []) [] (.slice none 0 0) [] := by
    have hm1 := Grp.made (w.alloc (.cells #[.int .i64 N, .slice a n c] 24)) Tryz.prog 71 3 (base := w.heap.size + 3) (by rw [size_alloc']; omega)
    have hm2 := MapB.made ((w.alloc (.cells #[.int .i64 N, .slice a n c] 24)).alloc (.map #[] 0)) Tryz.prog 107 4
    rw [size_alloc'] at hm1
    rw [size_alloc', size_alloc'] at hm2
    exact ⟨hm1.alloc _, hm2, World.ownsRow_nil _ _ _ _, (hB0.alloc (by rw [size_alloc']; omega) _).alloc (by rw [size_alloc', size_alloc']; omega) _, fun _ => rfl, by simp⟩
  obtain ⟨l0, x0, -, x1, -⟩ := ((b1.alloc (.map #[] 0)).alloc (.map #[] 0)).two
  have hmm := @run_makeMap Tryz.prog
  clear hr hn hK hKl hKo b1 hB0
  go_enter Tryz.func119, Tryz.ntmps119
  go_wp2
  clear hmm x0 x1 l0
  go_loopw [7, 22] (fun v7 i wr => ∃ (k : Nat) (v' : Value) (ws : List Tr) (f : Value → List Int) (S : List Value), v' = v7 ∧ k ≤ n ∧ i = .int .i64 k ∧ PairSt w wr kind f S v' ws ∧ Had f ((T.take k).flatMap K) ∧ ((T.take k).flatMap K).length ≤ 3 * k ∧ ws.length ≤ 3 * k * 24576 ∧ (ws = [] ↔ ((T.take k).flatMap K).Nodup)) (fun _ i _ => n - (intOf i).toNat)
  case atStart => exact ⟨0, _, [], _, _, rfl, Nat.zero_le _, rfl, st0, by simpa using Had.nil, by simp, by simp, by simp⟩
  case round =>
    clear st0
    obtain ⟨k, v', ws, f, S, rfl, hk, rfl, hst, hhad, hPl, hwl, hws⟩ := hrel
    rename World => wr
    by_cases hlt : k < n
    · obtain ⟨t, ht⟩ : ∃ t, T[k]? = some t := ⟨T[k]'(by have := HN.out; omega), List.getElem?_eq_getElem _⟩
      obtain ⟨x, y, z⟩ := t
      have hmem := List.mem_of_getElem? ht
      obtain ⟨b, o, rfl, hbl, s0, s1, s2⟩ := HR.out k x y z ht
      have s0' := (hst.b.cell (p := ⟨b, _, none⟩) hbl).trans s0
      have s1' := (hst.b.cell (p := ⟨b, _, none⟩) hbl).trans s1
      have s2' := (hst.b.cell (p := ⟨b, _, none⟩) hbl).trans s2
      have Hts : Hid ((T.take (k + 1)).flatMap K = (T.take k).flatMap K ++ K (x, y, z)) := by
        refine Lib.hid ?_
        obtain ⟨hk', he⟩ := List.getElem?_eq_some_iff.1 ht
        rw [List.take_succ_eq_append_getElem hk', he]
        simp
      have HkO := Lib.hid (HKo.out _ hmem)
      have HkC := Lib.hid (fun W => HKc.out (x, y, z) W hmem)
      obtain ⟨hL0, hL3⟩ := HKl.out _ hmem
      generalize hKt : K (x, y, z) = Kt at *
      obtain ⟨P, hP⟩ : ∃ P, (T.take k).flatMap K = P := ⟨_, rfl⟩
      rw [hP] at hhad hPl hws Hts
      have Hws := Lib.hid hws
      have Hhad := Lib.hid hhad
      have hk3 : (k : Int) < (n : Int) := by omega
      have hk0 : (0 : Int) ≤ (k : Int) := by omega
      have Hst := Lib.hid (hst.alloc (.cells #[.int .i64 x, .int .i64 y, .int .i64 z] 72))
      clear ht s0 s1 s2 hws hhad hst hmem hP hKt
      go_wp2_with fail
      refine (HkC.out _).mono ?_
      rintro e w2 ⟨vk, rfl, hrK, hbK⟩
      have Hst2 := Lib.hid (Hst.out.below hbK)
      obtain ⟨L, hL⟩ : ∃ L, Kt.length = L := ⟨_, rfl⟩
      rw [hL] at hrK hL0 hL3
      obtain ⟨gk, ck, rfl, hgk1, hgk2⟩ := hrK.form hL0
      rw [size_alloc'] at hgk1 hrK
      have Hr := Lib.hid hrK
      have HL := Lib.hid hL
      clear Hst hbK hrK hL HkC
      go_wp2
      rename World => wA
      go_loopw [7, 31] (fun v7 i wq => ∃ (j : Nat) (v' : Value) (ws : List Tr) (f : Value → List Int) (S : List Value), v' = v7 ∧ j ≤ L ∧ i = .int .i64 j ∧ PairSt w wq kind f S v' ws ∧ wq.ownsRow (wr.heap.size + 1) 71 3 (.slice (some ⟨gk, 0, none⟩) L ck) L (ws3 Kt) ∧ Had f (P ++ Kt.take j) ∧ ws.length ≤ (3 * k + j) * 24576 ∧ (ws = [] ↔ (P ++ Kt.take j).Nodup)) (fun _ i _ => L - (intOf i).toNat)
      case atStart => exact ⟨0, _, ws, f, S, rfl, Nat.zero_le _, rfl, Hst2.out, Hr.out, by simpa using Hhad.out, by omega, by simpa using Hws.out⟩
      case round =>
        clear Hst2 Hr Hws Hhad hwl
        clear ws f S
        obtain ⟨j, v', ws, f, S, rfl, hj, rfl, hst, hrK, hhad, hwl, hws⟩ := hrel
        rename World => wq
        by_cases hjl : j < L
        · obtain ⟨κ, hκ⟩ : ∃ κ, Kt[j]? = some κ := ⟨Kt[j]'(by have := HL.out; omega), List.getElem?_eq_getElem _⟩
          obtain ⟨κ1, κ2, κ3⟩ := κ
          obtain ⟨⟨o1, o2⟩, ⟨o3, o4⟩, ⟨o5, o6⟩⟩ := HkO.out _ (List.mem_of_getElem? hκ)
          simp only at o1 o2 o3 o4 o5 o6
          obtain ⟨d0, d1, d2⟩ := ws3_at hκ
          have c0 := hrK.cellAt (j * 3) (by omega)
          have c1 := hrK.cellAt (j * 3 + 1) (by omega)
          have c2 := hrK.cellAt (j * 3 + 2) (by omega)
          rw [d0] at c0
          rw [d1] at c1
          rw [d2] at c2
          have Hts2 : Hid (P ++ Kt.take (j + 1) = P ++ Kt.take j ++ [(κ1, κ2, κ3)]) := by
            refine Lib.hid ?_
            obtain ⟨hk', he⟩ := List.getElem?_eq_some_iff.1 hκ
            rw [List.take_succ_eq_append_getElem hk', he, List.append_assoc]
          have hj3 : (j : Int) < (L : Int) := by omega
          have hj0 : (0 : Int) ≤ (j : Int) := by omega
          have hPj : (P ++ Kt.take j).length ≤ 3 * k + j := by simp; omega
          have Hhad := Lib.hid hhad
          have Hws := Lib.hid hws
          have hgq := hrK.lt gk (by rfl)
          have hst1 := hst.alloc (.cells #[.int .i64 κ1, .int .i64 κ2, .int .i64 κ3] 71)
          have hrK1 := Lib.hid (hrK.alloc (.cells #[.int .i64 κ1, .int .i64 κ2, .int .i64 κ3] 71))
          have hkey := keyOf_three arrThree Tryz.underlying3 types_succ (wfS ⟨o1, o2⟩) (wfS ⟨o3, o4⟩) (wfS ⟨o5, o6⟩)
          have hbq := Blk.new wq 71 #[.int .i64 κ1, .int .i64 κ2, .int .i64 κ3]
          have hwq := hst.b.size
          obtain ⟨m, hm⟩ : ∃ m, (f (triV (κ1, κ2, κ3))).length = m := ⟨_, rfl⟩
          have hm1 : m ≤ 3 * k + j := by
            have := (hhad.2 (triV (κ1, κ2, κ3))).1
            omega
          have HM := Lib.hid hm
          have HMo := Lib.hid (hhad.2 (triV (κ1, κ2, κ3))).2
          clear d0 d1 d2 hws hhad hst hrK hm
          go_wp2_with (at_lookup; refine wpList_lookupG hst1.g rfl _ _ 178 28 rfl (Keyed.of_law arrThree.law) Tryz.underlying178 (zero_ints _) rfl _ rfl hkey ?_; intro v0 hr0; have hr0' := hr0; rw [show (.agg #[.int .i64 κ1, .int .i64 κ2, .int .i64 κ3] : Value) = triV (κ1, κ2, κ3) from rfl] at hr0'; obtain ⟨a0, c0', rfl, hc0⟩ := rowSlice hr0' HM.out)
          have Hst1 := Lib.hid hst1
          have Hr0 := Lib.hid hr0
          have hbq' := Lib.hid hbq
          clear hst1 hr0 hr0' hbq hc0 c0 c1 c2 hgq
          go_loopw [7, 39] (fun v7 i wz => ∃ (q : Nat) (v' : Value) (ws' : List Tr) (S' : List Value), v' = v7 ∧ q ≤ m ∧ i = .int .i64 q ∧ PairSt w wz kind f S' v' ws' ∧ wz.ownsRow (wr.heap.size + 1) 71 3 (.slice (some ⟨gk, 0, none⟩) L ck) L (ws3 Kt) ∧ wz.ownsRow (w.heap.size + 3) 3 1 (.slice a0 m c0') (f (triV (κ1, κ2, κ3))).length (intsV (f (triV (κ1, κ2, κ3)))) ∧ Blk wz wq.heap.size 71 #[.int .i64 κ1, .int .i64 κ2, .int .i64 κ3] ∧ ws'.length ≤ ws.length + q ∧ (ws' = [] ↔ ws = [] ∧ q = 0)) (fun _ i _ => m - (intOf i).toNat)
          case atStart => exact ⟨0, _, ws, S, rfl, Nat.zero_le _, rfl, Hst1.out, hrK1.out, Hr0.out, hbq'.out, by omega, by simp⟩
          case round =>
            clear Hst1 hrK1 Hr0 hbq'
            obtain ⟨q, v', ws', S', rfl, hq, rfl, hst, hrK, hr0, hbq, hwl', hws'⟩ := hrel
            rename World => wz
            have Hws' := Lib.hid hws'
            clear hws'
            by_cases hqm : q < m
            · obtain ⟨d, hd⟩ : ∃ d, (f (triV (κ1, κ2, κ3)))[q]? = some d := ⟨(f (triV (κ1, κ2, κ3)))[q]'(by have := HM.out; omega), List.getElem?_eq_getElem _⟩
              obtain ⟨d1, d2⟩ := HMo.out d (List.mem_of_getElem? hd)
              obtain ⟨a1, c1', e1, hcc⟩ := rowSlice hr0 HM.out
              cases e1
              obtain ⟨g0, rfl, hg0, hcell⟩ := hcc q d hd
              have hst2 := hst.alloc (.cells #[.int .i64 d, .int .i64 k] 107)
              have hkey2 := WideMaps.keyOf_pair arrPair Tryz.underlying3 types_succ (wfS ⟨d1, d2⟩) (wfS (x := (k : Int)) ⟨by omega, by omega⟩)
              have hq3 : (q : Int) < (m : Int) := by omega
              have hq0 : (0 : Int) ≤ (q : Int) := by omega
              have c3 : ws'.length + 1 ≤ maxLen := by unfold maxLen; omega
              have c4 : (ws'.length + 1) * 24 ≤ 140737488355328 := by omega
              have c5 : ws'.length < maxLen := by unfold maxLen; omega
              have hwz := hst.b.size
              clear hcc hd
              by_cases hp : (.agg #[.int .i64 d, .int .i64 k] : Value) ∈ S'
              · have hne : ws' ≠ [] := fun e0 => by
                  have := hst.c e0
                  rw [this] at hp
                  cases hp
                go_wp2_with (at_lookup; refine wpList_lookupB hst2.s rfl _ _ 179 rfl (Keyed.of_law arrPair.law) Tryz.underlying179 Tryz.underlying4 (zero_bool _) rfl _ rfl hkey2 ?_; intro r hir; obtain rfl : r = true := hir.2 hp)
                go_roundw
                case measure => simp [intOf]; omega
                case rel => exact ⟨q + 1, _, ws', S', rfl, by omega, by go_num, hst2, hrK.alloc _, hr0.alloc _, hbq.alloc _, by omega, ⟨fun e => absurd e hne, fun e => absurd e.2 (by omega)⟩⟩
              · go_wp2_with (first
                  | (at_lookup; refine wpList_lookupB hst2.s rfl _ _ 179 rfl (Keyed.of_law arrPair.law) Tryz.underlying179 Tryz.underlying4 (zero_bool _) rfl _ rfl hkey2 ?_; intro r hir; obtain rfl : r = false := (by cases r; rfl; exact absurd (hir.1 rfl) hp))
                  | (at_mapUpdate; refine wpList_storeB hst2.s rfl _ _ _ 179 rfl (Keyed.of_law arrPair.law) Tryz.underlying179 Tryz.underlying4 c5 rfl _ rfl rfl hkey2 ?_; intro w5 hm5 hg5; have hsz5 := hg5.size; rw [size_alloc'] at hsz5)
                  | (at_builtin; refine wpList_append_lies _ rfl (.tmp 52) (.tmp 57) 134 rfl w.heap.size 74 i1 _ 3 24 Tryz.underlying134 hi' hy0 hy1 hy2 rfl (by decide) _ _ _ rfl ((hst2.r.kept hg5 (row_map_ne hst2.r hst2.s.obj)).alloc _) ⟨w5.heap.size, 0, none⟩ 1 1 [.int .i64 kind, .int .i64 d, .int .i64 k] rfl rfl (World.news_of_block (heap_alloc_new _ _)) (by simp [Value.oneCell']) (by decide) c3 c4 (by rw [size_alloc']; omega) (w5.heap.size + 1) (by simp) ?_; intro g4 cap4 W4 hr4 hg4 _ _))
                go_roundw
                case measure => simp [intOf]; omega
                case rel => exact ⟨q + 1, _, ws' ++ [(kind, d, (k : Int))], _, rfl, by omega, by go_num, hst2.mark hm5 hg5 (by rw [ws3_snoc]; simpa using hr4) hg4 rfl, hst2.markRow hg5 hg4 (by decide) (hrK.alloc _), hst2.markRow hg5 hg4 (by decide) (hr0.alloc _), hst2.markBlk hg5 hg4 (by decide) (hbq.alloc _), by simp; omega, by simp⟩
            · obtain rfl : q = m := by omega
              have hst3 := hst.alloc (.cells #[.int .i64 k] 3)
              have hnb := Blk.new wz 3 #[.int .i64 k]
              have hglt := hst.g.lt
              have hrK3 := Lib.hid (hrK.alloc (.cells #[.int .i64 k] 3))
              have hmm := HM.out
              obtain ⟨bq0, bq1, -, bq2, -, bq3, -⟩ := hbq.three
              have hwz := hst.b.size
              have c6 : (f (triV (κ1, κ2, κ3))).length + 1 ≤ maxLen := by unfold maxLen; omega
              have c7 : ((f (triV (κ1, κ2, κ3))).length + 1) * 8 ≤ 140737488355328 := by omega
              clear hmm hst hrK hr0
              go_wp2_with (first
                | (refine wpList_entryG hst3.g rfl _ _ 178 28 rfl (Keyed.of_law arrThree.law) Tryz.underlying178 zero_ints rfl (triV (κ1, κ2, κ3)) rfl hkey ?_; intro v1 st W1 e1 e1s e1g e1r e1b; rw [size_alloc'] at e1s)
                | (at_builtin; refine wpList_append_lies _ rfl (.tmp 62) (.tmp 64) 28 rfl (w.heap.size + 3) 3 i2 _ 1 8 Tryz.underlying28 hj' hz0 hz1 hz2 rfl (by decide) v1 (f (triV (κ1, κ2, κ3))).length (intsV (f (triV (κ1, κ2, κ3)))) rfl e1r ⟨wz.heap.size, 0, none⟩ 1 1 [.int .i64 k] rfl rfl (World.news_of_block (hnb.grown e1 (by simp; omega))) (by simp [Value.oneCell']) (by decide) c6 c7 (by omega) (W1.heap.size) rfl ?_; intro g6 cap6 W6 hr6 hg6 hat6 _; obtain ⟨W7, hrun7, hG7, hg7⟩ := e1b W6 (.slice (some ⟨g6, 0, none⟩) ((f (triV (κ1, κ2, κ3))).length + 1) cap6) (f (triV (κ1, κ2, κ3)) ++ [(k : Int)]) hg6 (by simpa [intsV] using hr6) (hat6.imp (fun e => e.symm) (fun e => ⟨g6, rfl, by omega⟩)))
                | (refine wpList_entryStore rfl _ _ _ 178 rfl rfl rfl rfl hrun7 ?_))
              go_roundw
              case measure => simp [intOf]; omega
              case rel => exact ⟨j + 1, _, ws', _, S', rfl, by omega, by go_num, hst3.put e1 e1g e1r hg6 hg7 hG7, hst3.putRow e1 e1g e1r hg6 hg7 (by decide) hrK3.out, by rw [Hts2.out]; exact Hhad.out.put (κ1, κ2, κ3) ⟨by omega, by omega⟩, by omega, by
                rw [Hts2.out, nodup_snoc, Hws'.out, Hws.out, ← Hhad.out.1, ← HM.out, List.length_eq_zero_iff]⟩
        · obtain rfl : j = L := by omega
          have hll := HL.out
          rw [List.take_of_length_le (by omega)] at hhad hws
          have Hst := Lib.hid hst
          have Hws := Lib.hid hws
          have Hhad := Lib.hid hhad
          clear hst hws hhad hrK hll
          go_wp2
          go_roundw
          case measure => simp [intOf]; omega
          case rel => exact ⟨k + 1, _, ws, f, S, rfl, by omega, by go_num, Hst.out, by rw [Hts.out]; exact Hhad.out, by rw [Hts.out, List.length_append, HL.out]; omega, by omega, by rw [Hts.out]; exact Hws.out⟩
    · obtain rfl : k = n := by omega
      have hnn := HN.out
      rw [List.take_of_length_le (by omega)] at hws
      have Hst := Lib.hid hst
      have Hws := Lib.hid hws
      clear hst hnn hws hhad hPl
      go_wp2
      go_ret
      exact ⟨_, rfl, ⟨ws, Hst.out.r, Hws.out, Hst.out.k, by omega⟩, Hst.out.b⟩
end Go.Proofs.YtghlnknncahkgaaGreat
/-
  A row of rows of numbers that the call makes ('at[v] = append(at[v], i)'), each row apart; which triangles stand at a vertex.
-/
namespace Go.Proofs.YtghlnknncahkgaaGreat
open Go.RowKit

/-- Block g holds m slices vs, each owning its row. -/
structure Rws (w : World) (base g m : Nat) (vs : List Value) (rows : List (List Int)) : Prop where
  own : w.ownsRow base 28 1 (.slice (some ⟨g, 0, none⟩) m m) m vs
  len : rows.length = m
  row : ∀ (i : Nat) (v : Value) (r : List Int), vs[i]? = some v → rows[i]? = some r → w.ownsRow base 3 1 v r.length (intsV r)
  apart : ∀ (i j : Nat) (vi vj : Value), i ≠ j → vs[i]? = some vi → vs[j]? = some vj → vi.ownBlock = none ∨ vi.ownBlock ≠ vj.ownBlock
section
variable {w w' : World} {base g m : Nat} {vs : List Value} {rows : List (List Int)}
theorem Rws.vlen (h : Rws w base g m vs rows) : vs.length = m := by
  have := h.own.1
  omega
theorem Rws.kept {row : Option Nat} (h : Rws w base g m vs rows) (hg : w.grownBy w' row) (h1 : some g ≠ row) (h2 : ∀ v n xs, w.ownsRow base 3 1 v n xs → v.ownBlock = none ∨ v.ownBlock ≠ row) : Rws w' base g m vs rows :=
  ⟨h.own.kept hg (.inr h1), h.len, fun i v r hv hr => (h.row i v r hv hr).kept hg (h2 _ _ _ (h.row i v r hv hr)), h.apart⟩
theorem Rws.grown (h : Rws w base g m vs rows) (hg : w.grownBy w' none) : Rws w' base g m vs rows := h.kept hg (by simp) (fun v _ _ _ => by
  cases hb : v.ownBlock
  · exact .inl rfl
  · exact .inr (by simp))
theorem Rws.alloc (h : Rws w base g m vs rows) (o : Obj) : Rws (w.alloc o) base g m vs rows := h.grown (World.grownBy_alloc w o none)
theorem Rws.below (h : Rws w base g m vs rows) (hb : Below w.heap.size w w') : Rws w' base g m vs rows := h.grown (grown_of_below hb none)
/-- A row of other elements is written. -/
theorem Rws.other {base' : Nat} {e' : TypeId} {s n : Nat} {v : Value} {xs : List Value} (h : Rws w base g m vs rows) (hr : w.ownsRow base' e' s v n xs) (h1 : 28 ≠ e') (h2 : 3 ≠ e') (hg : w.grownBy w' v.ownBlock) : Rws w' base g m vs rows :=
  h.kept hg (fun e => by
    rcases own_own_ne h.own hr h1 with h | h
    · simp [Value.ownBlock] at h
    · exact h (by rw [← e]; rfl)) (fun _ _ _ hv => own_own_ne hv hr h2)
/-- One row is longer. -/
theorem Rws.push (h : Rws w base g m vs rows) {u : Nat} {v v' : Value} {r : List Int} {i : Int} (hv : vs[u]? = some v) (hr : rows[u]? = some r) {W2 : World} (hg : w.grownBy W2 v.ownBlock) (hown : W2.ownsRow base 3 1 v' (r.length + 1) (intsV (r ++ [i])))
    (hloc : v'.ownBlock = v.ownBlock ∨ ∃ g, v'.ownBlock = some g ∧ w.heap.size ≤ g) : Rws (W2.setCell ⟨g, u, none⟩ v') base g m (vs.set u v') (rows.set u (r ++ [i])) ∧ W2.grownBy (W2.setCell ⟨g, u, none⟩ v') (some g) := by
  have hvlen := h.vlen
  have hu := (List.getElem?_eq_some_iff.1 hv).1
  have hne : (Value.slice (some ⟨g, 0, none⟩) m m).ownBlock = none ∨ (Value.slice (some ⟨g, 0, none⟩) m m).ownBlock ≠ v.ownBlock := own_own_ne h.own (h.row u v r hv hr) (by decide)
  have ho2 := h.own.kept hg hne
  obtain ⟨ho3, hg3⟩ := ho2.stored u v'
  have hgl : g < w.heap.size := (h.own.lt g rfl).2
  have nb : ∀ {x : Value} {n : Nat} {xs : List Value}, W2.ownsRow base 3 1 x n xs → x.ownBlock = none ∨ x.ownBlock ≠ some g := fun {x n xs} hx => own_own_ne hx ho2 (by decide)
  have old_new : ∀ (k : Nat) (x : Value), k ≠ u → vs[k]? = some x → x.ownBlock = none ∨ x.ownBlock ≠ v'.ownBlock := by
    intro k x hk hx
    rcases hloc with e | ⟨b, e, hb⟩
    · rw [e]
      exact h.apart k u x v hk hx hv
    · cases hx' : x.ownBlock with
      | none => exact .inl rfl
      | some b' =>
        refine .inr (fun e2 => ?_)
        have hk' : k < rows.length := by rw [h.len, ← hvlen]; exact (List.getElem?_eq_some_iff.1 hx).1
        have := ((h.row k x _ hx (List.getElem?_eq_getElem hk')).lt _ hx').2
        rw [e] at e2
        cases e2
        omega
  refine ⟨⟨ho3, by simp [h.len], ?_, ?_⟩, hg3⟩
  · intro k x q hx hq
    by_cases e : u = k
    · subst e
      rw [List.getElem?_set_self hu] at hx
      rw [List.getElem?_set_self (by rw [h.len, ← hvlen]; exact hu)] at hq
      cases hx
      cases hq
      rw [List.length_append]
      exact hown.kept hg3 (nb hown)
    · rw [List.getElem?_set_ne e] at hx hq
      have := (h.row k x q hx hq).kept hg (h.apart k u x v (fun e' => e e'.symm) hx hv)
      exact this.kept hg3 (nb this)
  · intro k j x y hkj hx hy
    by_cases e : u = k
    · subst e
      rw [List.getElem?_set_self hu] at hx
      cases hx
      rw [List.getElem?_set_ne hkj] at hy
      have := old_new j y (fun e => hkj e.symm) hy
      cases hv' : v'.ownBlock with
      | none => exact .inl rfl
      | some b =>
        refine .inr (fun e2 => ?_)
        rcases this with h | h
        · rw [h] at e2; cases e2
        · exact h (by rw [hv', e2])
    · rw [List.getElem?_set_ne e] at hx
      by_cases e' : u = j
      · subst e'
        rw [List.getElem?_set_self hu] at hy
        cases hy
        exact old_new k x (fun e => hkj e) hx
      · rw [List.getElem?_set_ne e'] at hy
        exact h.apart k j x y hkj hx hy
/-- Made: all nil. -/
theorem Rws.made (hown : w.ownsRow base 28 1 (.slice (some ⟨g, 0, none⟩) m m) m (List.replicate m (.slice none 0 0))) : Rws w base g m (List.replicate m (.slice none 0 0)) (List.replicate m []) where
  own := hown
  len := by simp
  row := by
    intro i v r hv hr
    rw [List.getElem?_replicate] at hv hr
    by_cases hi : i < m
    · rw [if_pos hi] at hv hr
      cases hv
      cases hr
      exact World.ownsRow_nil _ _ _ _
    · rw [if_neg hi] at hv
      cases hv
  apart := by
    intro i j vi vj _ hi _
    rw [List.getElem?_replicate] at hi
    split at hi <;> simp at hi
    subst hi
    exact .inl rfl
end
theorem made_rows (m : Nat) : (madeCells (Value.slice none 0 0).cells (m * 1)).toList = List.replicate m (.slice none 0 0) := by
  rw [Nat.mul_one]
  show (madeCells #[Value.slice none 0 0] m).toList = _
  rw [toList_madeCells_one]
theorem infoInts : (Tryz.prog.info? 28).map (fun i => (i.zero, i.size, i.bytes)) = some (some (.slice none 0 0), 1, 24) := by kernel_rfl

/-! Which triangles stand at a vertex. -/
def three (t : Tr) (i : Nat) : List (Int × Nat) := [(t.1, i), (t.2.1, i), (t.2.2, i)]
def preT (T : List Tr) (k : Nat) : List (Int × Nat) := (List.range k).flatMap fun i => three (T[i]?.getD (0, 0, 0)) i
def sieve (pre : List (Int × Nat)) (u : Int) : List Nat := (pre.filter fun p => p.1 == u).map (·.2)
def rowsOf (pre : List (Int × Nat)) (m : Nat) : List (List Int) := (List.range m).map fun u : Nat => nats (sieve pre u)
def atV (T : List Tr) (u : Int) : List Nat := sieve (preT T T.length) u
theorem preT_succ {T : List Tr} {k : Nat} {t : Tr} (h : T[k]? = some t) : preT T (k + 1) = preT T k ++ three t k := by
  unfold preT
  rw [List.range_succ, List.flatMap_append]
  simp [h]
theorem rowsOf_at {pre : List (Int × Nat)} {m u : Nat} (h : u < m) : (rowsOf pre m)[u]? = some (nats (sieve pre u)) := by simp [rowsOf, h]
theorem rowsOf_snoc {pre : List (Int × Nat)} {m u i : Nat} : rowsOf (pre ++ [((u : Int), i)]) m = (rowsOf pre m).set u (nats (sieve pre u) ++ [(i : Int)]) := by
  apply List.ext_getElem?
  intro k
  rw [List.getElem?_set]
  by_cases hk : k < m
  · rw [rowsOf_at hk]
    by_cases e : u = k
    · subst e
      rw [if_pos rfl, if_pos (by simp [rowsOf]; exact hk)]
      simp [sieve, nats]
    · rw [if_neg e, rowsOf_at hk]
      have : ((u : Int) == (k : Int)) = false := by simp; omega
      simp [sieve, this]
  · rw [List.getElem?_eq_none (by simp [rowsOf]; omega)]
    by_cases e : u = k
    · subst e
      rw [if_pos rfl, if_neg (by simp [rowsOf]; omega)]
    · rw [if_neg e, List.getElem?_eq_none (by simp [rowsOf]; omega)]
theorem rowsOf_nil (m : Nat) : rowsOf [] m = List.replicate m [] := by
  apply List.ext_getElem?
  intro k
  by_cases hk : k < m
  · rw [rowsOf_at hk, List.getElem?_replicate, if_pos hk]
    rfl
  · rw [List.getElem?_eq_none (by simp [rowsOf]; omega), List.getElem?_eq_none (by simp; omega)]
theorem sieve_length (pre : List (Int × Nat)) (u : Int) : (sieve pre u).length ≤ pre.length := by
  unfold sieve
  rw [List.length_map]
  exact List.length_filter_le _ _
theorem preT_length (T : List Tr) (k : Nat) : (preT T k).length = 3 * k := by
  induction k with
  | zero => rfl
  | succ k ih =>
    unfold preT at ih ⊢
    rw [List.range_succ, List.flatMap_append, List.length_append, ih]
    simp [three]
    omega
theorem preT_mem {T : List Tr} {k : Nat} {u : Int} {i : Nat} : (u, i) ∈ preT T k ↔ i < k ∧ hasV (T[i]?.getD (0, 0, 0)) u := by
  simp only [preT, three, List.mem_flatMap, List.mem_range, List.mem_cons, List.not_mem_nil, or_false, Prod.mk.injEq, hasV]
  constructor
  · rintro ⟨j, hj, h⟩
    rcases h with ⟨rfl, rfl⟩ | ⟨rfl, rfl⟩ | ⟨rfl, rfl⟩
    · exact ⟨hj, .inl rfl⟩
    · exact ⟨hj, .inr (.inl rfl)⟩
    · exact ⟨hj, .inr (.inr rfl)⟩
  · rintro ⟨hi, h⟩
    refine ⟨i, hi, ?_⟩
    rcases h with rfl | rfl | rfl
    · exact .inl ⟨rfl, rfl⟩
    · exact .inr (.inl ⟨rfl, rfl⟩)
    · exact .inr (.inr ⟨rfl, rfl⟩)
theorem sieve_mem {pre : List (Int × Nat)} {u : Int} {i : Nat} : i ∈ sieve pre u ↔ (u, i) ∈ pre := by
  simp only [sieve, List.mem_map, List.mem_filter, beq_iff_eq]
  constructor
  · rintro ⟨⟨a, b⟩, ⟨h1, h2⟩, h3⟩
    simp only at h2 h3
    subst h2
    subst h3
    exact h1
  · intro h
    exact ⟨(u, i), ⟨h, rfl⟩, rfl⟩
theorem atV_mem {T : List Tr} {u : Int} {i : Nat} : i ∈ atV T u ↔ ∃ t, T[i]? = some t ∧ hasV t u := by
  unfold atV
  rw [sieve_mem, preT_mem]
  constructor
  · rintro ⟨h1, h2⟩
    rw [List.getElem?_eq_getElem h1] at h2
    exact ⟨_, List.getElem?_eq_getElem h1, h2⟩
  · rintro ⟨t, h1, h2⟩
    refine ⟨(List.getElem?_eq_some_iff.1 h1).1, ?_⟩
    rw [h1]
    exact h2
theorem sieve_three (t : Tr) (i : Nat) (u : Int) (h : simple3 t) : sieve (three t i) u = [] ∨ sieve (three t i) u = [i] := by
  obtain ⟨x, y, z⟩ := t
  obtain ⟨h1, h2, h3⟩ := h
  simp only at h1 h2 h3
  by_cases a : x = u
  · subst a
    have b : (y == x) = false := by simpa using fun e => h1 e.symm
    have c : (z == x) = false := by simpa using h3
    right
    simp [sieve, three, b, c]
  · have a' : (x == u) = false := by simpa using a
    by_cases b : y = u
    · subst b
      have c : (z == y) = false := by simpa using fun e => h2 e.symm
      right
      simp [sieve, three, a', c]
    · have b' : (y == u) = false := by simpa using b
      by_cases c : z = u
      · subst c
        right
        simp [sieve, three, a', b']
      · have c' : (z == u) = false := by simpa using c
        left
        simp [sieve, three, a', b', c']
theorem sieve_nodup {T : List Tr} (h : ∀ t ∈ T, simple3 t) (u : Int) : ∀ k, k ≤ T.length → (sieve (preT T k) u).Nodup
  | 0, _ => by simp [preT, sieve]
  | k + 1, hk => by
    have ht : T[k]? = some T[k] := List.getElem?_eq_getElem (by omega)
    rw [preT_succ ht]
    have e : sieve (preT T k ++ three T[k] k) u = sieve (preT T k) u ++ sieve (three T[k] k) u := by simp [sieve]
    rw [e, List.nodup_append]
    refine ⟨sieve_nodup h u k (by omega), ?_, ?_⟩
    · rcases sieve_three T[k] k u (h _ (List.getElem_mem _)) with e | e <;> simp [e]
    · intro a ha b hb e2
      subst e2
      rw [sieve_mem, preT_mem] at ha
      rcases sieve_three T[k] k u (h _ (List.getElem_mem _)) with e | e
      · rw [e] at hb; cases hb
      · rw [e, List.mem_singleton] at hb
        omega
theorem atV_nodup {T : List Tr} (h : ∀ t ∈ T, simple3 t) (u : Int) : (atV T u).Nodup := sieve_nodup h u _ (Nat.le_refl _)
theorem atV_some {T : List Tr} {u : Int} (h : u ∈ flatT T) : atV T u ≠ [] := by
  simp only [flatT, List.mem_flatMap] at h
  obtain ⟨t, ht, hu⟩ := h
  obtain ⟨i, hi⟩ := List.mem_iff_getElem?.1 ht
  have : i ∈ atV T u := atV_mem.2 ⟨t, hi, by simpa [hasV] using hu⟩
  intro e
  rw [e] at this
  cases this
theorem atV_lt {T : List Tr} {u : Int} : ∀ i ∈ atV T u, i < T.length := fun i hi => by
  obtain ⟨t, ht, _⟩ := atV_mem.1 hi
  exact (List.getElem?_eq_some_iff.1 ht).1
theorem atV_length {T : List Tr} (h : ∀ t ∈ T, simple3 t) (u : Int) : (atV T u).length ≤ T.length := by
  have := Jor.nodup_le (m := List.range T.length) (atV_nodup h u) (fun i hi => List.mem_range.2 (atV_lt i hi))
  simpa using this
end Go.Proofs.YtghlnknncahkgaaGreat
