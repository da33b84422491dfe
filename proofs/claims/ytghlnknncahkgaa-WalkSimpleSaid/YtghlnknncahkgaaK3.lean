/-
  Texts joined by program: Tab SetQ TogM.
-/
import Derived.Test.YtghlnknncahkgaaK1
import Derived.Test.YtghlnknncahkgaaK2
import Derived.Deep.QuietTactic
import Derived.BigQuiet
import Derived.Deep.AppendSrc
import Derived.Laws.IdiomCopy
import Derived.Deep.MidRow
/-
  A surface's table of corners, as it lies in memory; what its methods tell, by walking their texts.
-/
namespace Go.Proofs.Ytghlnknncahkgaa
open Go.RowKit Go.Maps

/-! What a table tells, in plain words. -/
def triAt (T : List Tr) (c : Nat) : Tr := T[c / 3]?.getD (0, 0, 0)
def vertN (T : List Tr) (c : Nat) : Int := if c % 3 = 0 then (triAt T c).1 else if c % 3 = 1 then (triAt T c).2.1 else (triAt T c).2.2
def hasC (T : List Tr) (c : Int) : Bool := decide (0 ≤ c ∧ c < 3 * T.length)
def vertI (T : List Tr) (c : Int) : Int := if hasC T c = true then vertN T c.toNat else -1
def nextI (T : List Tr) (c : Int) : Int := if hasC T c = true then (Jor.nx c.toNat : Nat) else -1
def prevI (T : List Tr) (c : Int) : Int := if hasC T c = true then (Jor.pv c.toNat : Nat) else -1
def edgeI (T : List Tr) (c : Int) : Int × Int := (vertI T (nextI T c), vertI T (prevI T c))
def edgeN (T : List Tr) (c : Nat) : Int × Int := (vertN T (Jor.nx c), vertN T (Jor.pv c))
/-- The first corner from c on that faces an edge; that has a vertex. -/
def facFrom (T : List Tr) (c : Nat) (e : Int × Int) : Option Nat := (List.range' c (3 * T.length - c)).find? fun d => edgeN T d == e
def fstFrom (T : List Tr) (c : Nat) (v : Int) : Option Nat := (List.range' c (3 * T.length - c)).find? fun d => vertN T d == v
def facI (T : List Tr) (e : Int × Int) : Int := match facFrom T 0 e with
  | some c => (c : Int)
  | none => -1
def oppI (T : List Tr) (c : Int) : Int := facI T ((edgeI T c).2, (edgeI T c).1)
open Classical in
/-- The faces as a map holds them. -/
noncomputable def facMap (T : List Tr) (c : Nat) : Value → Option Value := fun y => if h : ∃ e, y = pairV e then (facFrom T c h.choose).map (fun d : Nat => Value.int .i64 (d : Int)) else none
theorem pairV_inj {a b : Int × Int} (h : pairV a = pairV b) : a = b := by
  obtain ⟨a1, a2⟩ := a
  obtain ⟨b1, b2⟩ := b
  simpa [pairV] using h
theorem facMap_at (T : List Tr) (c : Nat) (e : Int × Int) : facMap T c (pairV e) = (facFrom T c e).map (fun d : Nat => Value.int .i64 (d : Int)) := by
  unfold facMap
  have h : ∃ e', pairV e = pairV e' := ⟨e, rfl⟩
  rw [dif_pos h]
  have := pairV_inj h.choose_spec
  rw [← this]
def fsts (N : Int) (T : List Tr) (c : Nat) : List Int := (List.range N.toNat).map fun v : Nat => ((fstFrom T c v).getD 0 : Int)

theorem arrEdge : WideMaps.ArrKey Try.prog 91 3 2 := ⟨Try.underlying91, by kernel_rfl, by kernel_rfl, by kernel_rfl⟩
/-- Block g is a table, its triangles can be read. -/
structure TabS (w : World) (g : Nat) (N : Int) (T : List Tr) : Prop where
  ex : ∃ vT m vF, Blk w g 89 #[.int .i64 N, vT, .map (some m), vF] ∧ TrisRd w vT T
  n0 : 0 ≤ N
  n1 : N ≤ 4096
  len : T.length ≤ 8192
  inr : ∀ t ∈ T, 0 ≤ t.1 ∧ t.1 < N ∧ 0 ≤ t.2.1 ∧ t.2.1 < N ∧ 0 ≤ t.2.2 ∧ t.2.2 < N
/-- Block g is the table of a surface. -/
structure Tab (w : World) (g : Nat) (N : Int) (T : List Tr) : Prop extends TabS w g N T where
  tx : ∃ vT m vF, Blk w g 89 #[.int .i64 N, vT, .map (some m), vF] ∧ TrisRd w vT T ∧ MapP Try.prog 91 w m (facMap T 0) ∧ IntsRd w vF (fsts N T 0)
theorem IntsRd.below {w w' : World} {v : Value} {xs : List Int} (h : IntsRd w v xs) (hb : Below w.heap.size w w') : IntsRd w' v xs := by
  obtain ⟨a, c, rfl, h1, h2⟩ := h
  refine ⟨a, c, rfl, h1, fun k x hk => ?_⟩
  obtain ⟨b, o, rfl, hl, hc⟩ := h2 k x hk
  exact ⟨b, o, rfl, Nat.lt_of_lt_of_le hl hb.size, (hb.cell (p := ⟨b, _, none⟩) hl).trans hc⟩
theorem TabS.below {w w' : World} {g : Nat} {N : Int} {T : List Tr} (h : TabS w g N T) (hb : Below w.heap.size w w') : TabS w' g N T := by
  obtain ⟨⟨vT, m, vF, h1, h2⟩, a, b, c, d⟩ := h
  exact ⟨⟨vT, m, vF, h1.below hb h1.lt, h2.below hb⟩, a, b, c, d⟩
theorem Tab.below {w w' : World} {g : Nat} {N : Int} {T : List Tr} (h : Tab w g N T) (hb : Below w.heap.size w w') : Tab w' g N T := by
  obtain ⟨hs, ⟨vT, m, vF, h1, h2, h3, h4⟩⟩ := h
  exact ⟨hs.below hb, ⟨vT, m, vF, h1.below hb h1.lt, h2.below hb, h3.below hb h3.lt, h4.below hb⟩⟩
theorem TabS.alloc {w : World} {g : Nat} {N : Int} {T : List Tr} (h : TabS w g N T) (o : Obj) : TabS (w.alloc o) g N T := h.below ((Below.refl _ _).alloc (Nat.le_refl _) _)
theorem Tab.alloc {w : World} {g : Nat} {N : Int} {T : List Tr} (h : Tab w g N T) (o : Obj) : Tab (w.alloc o) g N T := h.below ((Below.refl _ _).alloc (Nat.le_refl _) _)
theorem TabS.drew {w : World} {g : Nat} {N : Int} {T : List Tr} (h : TabS w g N T) : TabS w.drew g N T := h.below (Below.refl _ _).drew
theorem Tab.drew {w : World} {g : Nat} {N : Int} {T : List Tr} (h : Tab w g N T) : Tab w.drew g N T := h.below (Below.refl _ _).drew
theorem TabS.lt {w : World} {g : Nat} {N : Int} {T : List Tr} (h : TabS w g N T) : g < w.heap.size := by
  obtain ⟨vT, m, vF, h1, _⟩ := h.ex
  exact h1.lt
theorem vertN_in {T : List Tr} {N : Int} (h : ∀ t ∈ T, 0 ≤ t.1 ∧ t.1 < N ∧ 0 ≤ t.2.1 ∧ t.2.1 < N ∧ 0 ≤ t.2.2 ∧ t.2.2 < N) {c : Nat} (hc : c < 3 * T.length) : 0 ≤ vertN T c ∧ vertN T c < N := by
  have hk : c / 3 < T.length := by omega
  have := h T[c / 3] (List.getElem_mem _)
  unfold vertN triAt
  rw [List.getElem?_eq_getElem hk]
  simp only [Option.getD_some]
  split
  · exact ⟨this.1, this.2.1⟩
  · split
    · exact ⟨this.2.2.1, this.2.2.2.1⟩
    · exact ⟨this.2.2.2.2.1, this.2.2.2.2.2⟩
theorem vertI_bd {T : List Tr} {N : Int} (h : ∀ t ∈ T, 0 ≤ t.1 ∧ t.1 < N ∧ 0 ≤ t.2.1 ∧ t.2.1 < N ∧ 0 ≤ t.2.2 ∧ t.2.2 < N) (hN : 0 ≤ N) (c : Int) : -1 ≤ vertI T c ∧ vertI T c ≤ N := by
  unfold vertI hasC
  split
  · rename_i hc
    simp at hc
    have := vertN_in h (c := c.toNat) (by omega)
    omega
  · omega
theorem hasC_true {T : List Tr} {c : Int} (h0 : 0 ≤ c) (h1 : c < 3 * T.length) : hasC T c = true := by simp [hasC, h0, h1]
theorem hasC_false {T : List Tr} {c : Int} (h : ¬ (0 ≤ c ∧ c < 3 * T.length)) : hasC T c = false := by simpa [hasC] using h

set_option maxRecDepth 100000 in
theorem has_any (g : Nat) (N c : Int) (T : List Tr) (w : World) (h : TabS w g N T) : Calls Try.prog 60 #[.pointer (some ⟨g, 0, none⟩), .int .i64 c] w fun e w' => e = .returned (.bool (hasC T c)) ∧ w = w' := by
  obtain ⟨⟨vT, m, vF, h1, ⟨a, cT, rfl, hc1, hc2, _⟩⟩, _, _, hl, _⟩ := h
  obtain ⟨lg, x0, -, x1, -⟩ : g < w.heap.size ∧ w.cell? ⟨g, 0, none⟩ = some (.int .i64 N) ∧ w.frozen? ⟨g, 0, none⟩ = false ∧ w.cell? ⟨g, 1, none⟩ = some (.slice a T.length cT) ∧ w.frozen? ⟨g, 1, none⟩ = false := ⟨h1.lt, h1.cell 0, h1.frozen 0, h1.cell 1, h1.frozen 1⟩
  obtain ⟨n, hn⟩ : ∃ n, T.length = n := ⟨_, rfl⟩
  unfold hasC
  rw [hn] at x1 hl ⊢
  clear hn h1
  by_cases c0 : 0 ≤ c
  · by_cases c1 : c < 3 * n
    · have hp : decide (0 ≤ c ∧ c < 3 * (n : Int)) = true := by simp [c0, c1]
      rw [hp]
      clear hp
      go_enter Try.func60, Try.ntmps60
      go_wp2
      go_ret
      exact ⟨by simp, rfl⟩
    · have hp : decide (0 ≤ c ∧ c < 3 * (n : Int)) = false := by simp [c0]; omega
      have hd : decide (c < 3 * (n : Int)) = false := by simpa using c1
      rw [hp]
      clear hp c1
      go_enter Try.func60, Try.ntmps60
      go_wp2
      go_ret
      exact ⟨by simp, rfl⟩
  · have hp : decide (0 ≤ c ∧ c < 3 * (n : Int)) = false := by simp; omega
    have hd : decide (0 ≤ c) = false := by simpa using c0
    rw [hp]
    clear hp c0
    go_enter Try.func60, Try.ntmps60
    go_wp2
    go_ret
    exact ⟨by simp, rfl⟩
theorem hasC_nat {T : List Tr} {c : Int} (h : hasC T c = true) : ∃ n : Nat, c = n ∧ n < 3 * T.length := by
  simp [hasC] at h
  exact ⟨c.toNat, by omega, by omega⟩
set_option maxRecDepth 100000 in
set_option maxHeartbeats 1000000 in
theorem vertex_any (g : Nat) (N c : Int) (T : List Tr) (w : World) (h : TabS w g N T) : Calls Try.prog 37 #[.pointer (some ⟨g, 0, none⟩), .int .i64 c] w fun e w' => e = .returned (.int .i64 (vertI T c)) ∧ w = w' := by
  have H := Lib.hid (has_any g N c T w h)
  cases hc : hasC T c with
  | false =>
    have hv : vertI T c = -1 := by simp [vertI, hc]
    have Hc := Lib.hid hc
    rw [hv]
    clear hv hc h
    go_enter Try.func37, Try.ntmps37
    go_wp2_with fail
    refine H.out.mono ?_
    rw [Hc.out]
    rintro e w' ⟨rfl, rfl⟩
    go_wp2
    go_ret
    exact ⟨by simp, rfl⟩
  | true =>
    obtain ⟨n, rfl, hn⟩ := hasC_nat hc
    obtain ⟨⟨vT, m, vF, h1, ⟨a, cT, rfl, hc1, hc2, hr⟩⟩, _, _, hl, _⟩ := h
    obtain ⟨lg, x0, -, x1, -⟩ : g < w.heap.size ∧ w.cell? ⟨g, 0, none⟩ = some (.int .i64 N) ∧ w.frozen? ⟨g, 0, none⟩ = false ∧ w.cell? ⟨g, 1, none⟩ = some (.slice a T.length cT) ∧ w.frozen? ⟨g, 1, none⟩ = false := ⟨h1.lt, h1.cell 0, h1.frozen 0, h1.cell 1, h1.frozen 1⟩
    have hk : n / 3 < T.length := by omega
    obtain ⟨t, ht⟩ : ∃ t, T[n / 3]? = some t := ⟨T[n / 3], List.getElem?_eq_getElem _⟩
    obtain ⟨x, y, z⟩ := t
    obtain ⟨b, o, rfl, hbl, s0, s1, s2⟩ := hr _ x y z ht
    have hv : vertI T (n : Int) = if n % 3 = 0 then x else if n % 3 = 1 then y else z := by simp [vertI, hc, vertN, triAt, ht]
    have Hc := Lib.hid hc
    obtain ⟨L, hL⟩ : ∃ L, T.length = L := ⟨_, rfl⟩
    obtain ⟨k, hkk⟩ : ∃ k, n / 3 = k := ⟨_, rfl⟩
    rw [hL] at x1 hk
    rw [hkk] at hk s0 s1 s2
    rw [hv]
    have e1 : (n : Int) / 3 = (k : Int) := by omega
    have hb0 : (0 : Int) ≤ (n : Int) := by omega
    have hb1 : (n : Int) ≤ 100000 := by omega
    have hk3 : (k : Int) < (L : Int) := by omega
    have hi : n % 3 = 0 ∨ n % 3 = 1 ∨ n % 3 = 2 := by omega
    clear hv hc h1 hr ht hL
    rcases hi with hi | hi | hi
    · have e2 : (n : Int) % 3 = 0 := by omega
      rw [hi]
      clear hkk hi hn
      go_enter Try.func37, Try.ntmps37
      go_wp2_with fail
      refine H.out.mono ?_
      rw [Hc.out]
      rintro e w' ⟨rfl, rfl⟩
      go_wp2
      go_ret
      exact ⟨by simp, rfl⟩
    · have e2 : (n : Int) % 3 = 1 := by omega
      rw [hi]
      clear hkk hi hn
      go_enter Try.func37, Try.ntmps37
      go_wp2_with fail
      refine H.out.mono ?_
      rw [Hc.out]
      rintro e w' ⟨rfl, rfl⟩
      go_wp2
      go_ret
      exact ⟨by simp, rfl⟩
    · have e2 : (n : Int) % 3 = 2 := by omega
      rw [hi]
      clear hkk hi hn
      go_enter Try.func37, Try.ntmps37
      go_wp2_with fail
      refine H.out.mono ?_
      rw [Hc.out]
      rintro e w' ⟨rfl, rfl⟩
      go_wp2
      go_ret
      exact ⟨by simp, rfl⟩

set_option maxRecDepth 100000 in
theorem turned_any (c b : Int) (w : World) (hc : 0 ≤ c ∧ c ≤ 1000000) (hb : 0 ≤ b ∧ b ≤ 2) : Calls Try.prog 61 #[.int .i64 c, .int .i64 b] w fun e w' => e = .returned (.int .i64 (c - c % 3 + (c + b) % 3)) ∧ w = w' := by
  obtain ⟨c0, c1⟩ := hc
  obtain ⟨b0, b1⟩ := hb
  have m0 := Int.emod_nonneg c (show (3 : Int) ≠ 0 by decide)
  have m1 := Int.emod_lt_of_pos c (show (0 : Int) < 3 by decide)
  have m2 := Int.emod_nonneg (c + b) (show (3 : Int) ≠ 0 by decide)
  have m3 := Int.emod_lt_of_pos (c + b) (show (0 : Int) < 3 by decide)
  go_enter Try.func61, Try.ntmps61
  go_wp2
  go_ret
  exact ⟨rfl, rfl⟩
theorem nx_int (n : Nat) : ((n : Int) - (n : Int) % 3 + ((n : Int) + 1) % 3) = ((Jor.nx n : Nat) : Int) := by unfold Jor.nx; omega
theorem pv_int (n : Nat) : ((n : Int) - (n : Int) % 3 + ((n : Int) + 2) % 3) = ((Jor.pv n : Nat) : Int) := by unfold Jor.pv; omega
set_option maxRecDepth 100000 in
theorem next_any (g : Nat) (N c : Int) (T : List Tr) (w : World) (h : TabS w g N T) : Calls Try.prog 38 #[.pointer (some ⟨g, 0, none⟩), .int .i64 c] w fun e w' => e = .returned (.int .i64 (nextI T c)) ∧ w = w' := by
  have H := Lib.hid (has_any g N c T w h)
  have hl := h.len
  cases hc : hasC T c with
  | false =>
    have hv : nextI T c = -1 := by simp [nextI, hc]
    have Hc := Lib.hid hc
    rw [hv]
    clear hv hc h
    go_enter Try.func38, Try.ntmps38
    go_wp2_with fail
    refine H.out.mono ?_
    rw [Hc.out]
    rintro e w' ⟨rfl, rfl⟩
    go_wp2
    go_ret
    exact ⟨by simp, rfl⟩
  | true =>
    obtain ⟨n, rfl, hn⟩ := hasC_nat hc
    have hv : nextI T (n : Int) = ((Jor.nx n : Nat) : Int) := by simp [nextI, hc]
    have Hc := Lib.hid hc
    have HT := Lib.hid (turned_any (n : Int) 1 w ⟨by omega, by omega⟩ (by decide))
    rw [hv, ← nx_int]
    generalize hz : ((n : Int) - (n : Int) % 3 + ((n : Int) + 1) % 3) = z at HT
    clear hv hc h hl hn
    clear hz
    go_enter Try.func38, Try.ntmps38
    go_wp2_with fail
    refine H.out.mono ?_
    rw [Hc.out]
    rintro e w' ⟨rfl, rfl⟩
    go_wp2_with fail
    refine HT.out.mono ?_
    rintro e w' ⟨rfl, rfl⟩
    go_wp2
    go_ret
    exact ⟨rfl, rfl⟩
set_option maxRecDepth 100000 in
theorem prev_any (g : Nat) (N c : Int) (T : List Tr) (w : World) (h : TabS w g N T) : Calls Try.prog 39 #[.pointer (some ⟨g, 0, none⟩), .int .i64 c] w fun e w' => e = .returned (.int .i64 (prevI T c)) ∧ w = w' := by
  have H := Lib.hid (has_any g N c T w h)
  have hl := h.len
  cases hc : hasC T c with
  | false =>
    have hv : prevI T c = -1 := by simp [prevI, hc]
    have Hc := Lib.hid hc
    rw [hv]
    clear hv hc h
    go_enter Try.func39, Try.ntmps39
    go_wp2_with fail
    refine H.out.mono ?_
    rw [Hc.out]
    rintro e w' ⟨rfl, rfl⟩
    go_wp2
    go_ret
    exact ⟨by simp, rfl⟩
  | true =>
    obtain ⟨n, rfl, hn⟩ := hasC_nat hc
    have hv : prevI T (n : Int) = ((Jor.pv n : Nat) : Int) := by simp [prevI, hc]
    have Hc := Lib.hid hc
    have HT := Lib.hid (turned_any (n : Int) 2 w ⟨by omega, by omega⟩ (by decide))
    rw [hv, ← pv_int]
    generalize hz : ((n : Int) - (n : Int) % 3 + ((n : Int) + 2) % 3) = z at HT
    clear hv hc h hl hn
    clear hz
    go_enter Try.func39, Try.ntmps39
    go_wp2_with fail
    refine H.out.mono ?_
    rw [Hc.out]
    rintro e w' ⟨rfl, rfl⟩
    go_wp2_with fail
    refine HT.out.mono ?_
    rintro e w' ⟨rfl, rfl⟩
    go_wp2
    go_ret
    exact ⟨rfl, rfl⟩
theorem MapP.drewN {P : Program} {k : TypeId} {b : Nat} {w : World} {f : Value → Option Value} (h : MapP P k w b f) (n : Nat) : MapP P k (w.drewN n) b f := h
theorem below_drewN {B : Nat} {a w : World} (h : Below B a w) (n : Nat) : Below B a (w.drewN n) := ⟨h.os, h.tape, h.output, h.size, h.block⟩
theorem zero_int (w : World) : (zeroValue 3).run Try.prog w = .ok (.int .i64 0) w := by kernel_rfl
theorem wfV {x : Int} (h : -1 ≤ x ∧ x ≤ 10000) : (Lit.int .i64 x).wf = true := WalkArith.wf_i64 (by omega)
set_option maxRecDepth 100000 in
set_option maxHeartbeats 1000000 in
theorem edge_any (g : Nat) (N c : Int) (T : List Tr) (w : World) (h : TabS w g N T) : Calls Try.prog 50 #[.pointer (some ⟨g, 0, none⟩), .int .i64 c] w fun e w' => e = .returned (pairV (edgeI T c)) ∧ Below w.heap.size w w' := by
  have ht := h.alloc (.cells #[.int .i64 0, .int .i64 0] 91)
  have hB0 : Below w.heap.size w (w.alloc (.cells #[.int .i64 0, .int .i64 0] 91)) := (Below.refl _ _).alloc (Nat.le_refl _) _
  have HT := Lib.hid ht
  have HB0 := Lib.hid hB0
  unfold edgeI pairV
  simp only
  generalize hx : vertI T (nextI T c) = x
  generalize hy : vertI T (prevI T c) = y
  have HX := Lib.hid hx
  have HY := Lib.hid hy
  clear h ht hB0 hx hy
  go_enter Try.func50, Try.ntmps50
  go_wp2_with (first
    | (go_at_call 38; refine (next_any g N c T _ HT.out).mono ?_; rintro e w' ⟨rfl, rfl⟩)
    | (go_at_call 39; refine (prev_any g N c T _ HT.out).mono ?_; rintro e w' ⟨rfl, rfl⟩)
    | (go_at_call 37; refine (vertex_any g N _ T _ HT.out).mono ?_; rintro e w' ⟨rfl, rfl⟩))
  exact bodyPost_ret (v := .agg #[.int .i64 x, .int .i64 y]) (by simp [results, Try.results50, go_sem, HX.out, HY.out]) rfl ⟨rfl, (Below.refl _ _).alloc (Nat.le_refl _) _⟩
set_option maxRecDepth 100000 in
set_option maxHeartbeats 1000000 in
theorem facing_any (g : Nat) (N a b : Int) (T : List Tr) (w : World) (h : Tab w g N T) (ha : -1 ≤ a ∧ a ≤ 10000) (hb : -1 ≤ b ∧ b ≤ 10000) : Calls Try.prog 57 #[.pointer (some ⟨g, 0, none⟩), pairV (a, b)] w fun e w' => e = .returned (.int .i64 (facI T (a, b))) ∧ Below w.heap.size w w' := by
  obtain ⟨vT, m, vF, h1, _, h3, _⟩ := (h.alloc (.cells #[.int .i64 a, .int .i64 b] 91)).tx
  have hlk := fun nq => (h3.drewN nq).lookOk (t := 87) (Keyed.of_law arrEdge.law) Try.underlying87 (zero_int _) (WideMaps.keyOf_pair arrEdge Try.underlying3 types_succ (wfV ha) (wfV hb))
  have hg := h.lt
  rw [show (.agg #[.int .i64 a, .int .i64 b] : Value) = pairV (a, b) from rfl, facMap_at] at hlk
  unfold facI
  cases hf : facFrom T 0 (a, b) with
  | none =>
    rw [hf] at hlk
    simp only [Option.map_none, Option.getD_none, Option.isSome_none] at hlk
    have c1 := h1.cell 2
    clear h h1 h3 hf
    unfold pairV at hlk ⊢
    simp only at hlk ⊢
    go_enter Try.func57, Try.ntmps57
    go_wp2
    go_quiet (fail)
    go_wp2
    go_ret
    exact ⟨rfl, below_drewN (((Below.refl _ _).alloc (Nat.le_refl _) _)) _⟩
  | some d =>
    rw [hf] at hlk
    simp only [Option.map_some, Option.getD_some, Option.isSome_some] at hlk
    have c1 := h1.cell 2
    clear h h1 h3 hf
    unfold pairV at hlk ⊢
    simp only at hlk ⊢
    go_enter Try.func57, Try.ntmps57
    go_wp2
    go_quiet (fail)
    go_wp2
    go_ret
    exact ⟨rfl, below_drewN (((Below.refl _ _).alloc (Nat.le_refl _) _)) _⟩
theorem edgeI_bd {T : List Tr} {N : Int} (h : ∀ t ∈ T, 0 ≤ t.1 ∧ t.1 < N ∧ 0 ≤ t.2.1 ∧ t.2.1 < N ∧ 0 ≤ t.2.2 ∧ t.2.2 < N) (hN : 0 ≤ N) (h1 : N ≤ 4096) (c : Int) : (-1 ≤ (edgeI T c).1 ∧ (edgeI T c).1 ≤ 10000) ∧ -1 ≤ (edgeI T c).2 ∧ (edgeI T c).2 ≤ 10000 := by
  have a := vertI_bd h hN (nextI T c)
  have b := vertI_bd h hN (prevI T c)
  unfold edgeI
  simp only
  omega
set_option maxRecDepth 100000 in
set_option maxHeartbeats 1000000 in
theorem opp_any (g : Nat) (N c : Int) (T : List Tr) (w : World) (h : Tab w g N T) : Calls Try.prog 32 #[.pointer (some ⟨g, 0, none⟩), .int .i64 c] w fun e w' => e = .returned (.int .i64 (oppI T c)) ∧ Below w.heap.size w w' := by
  have H := Lib.hid (edge_any g N c T w h.toTabS)
  obtain ⟨⟨p0, p1⟩, p2, p3⟩ := edgeI_bd h.inr h.n0 h.n1 c
  unfold oppI
  generalize hx : edgeI T c = e at *
  obtain ⟨x, y⟩ := e
  simp only at p0 p1 p2 p3 ⊢
  have HF := Lib.hid (fun (W : World) (hw : Below w.heap.size w W) => facing_any g N y x T W (h.below hw) ⟨p2, p3⟩ ⟨p0, p1⟩)
  generalize facI T (y, x) = z at *
  clear h hx
  go_enter Try.func32, Try.ntmps32
  go_wp2_with fail
  refine H.out.mono ?_
  rintro e w1 ⟨rfl, hb1⟩
  have b1 := Blk.new w1 91 #[.int .i64 x, .int .i64 y]
  obtain ⟨l0, x0, -, x1, -⟩ := b1.two
  have hB1 := hb1.alloc hb1.size (.cells #[.int .i64 x, .int .i64 y] 91)
  have HB1 := Lib.hid hB1
  have H2 := Lib.hid (HF.out _ hB1)
  unfold pairV
  simp only
  clear b1 hB1 hb1 HF
  go_wp2_with fail
  refine H2.out.mono ?_
  rintro e w2 ⟨rfl, hb2⟩
  have HB2 := Lib.hid (HB1.out.trans (hb2.mono HB1.out.size))
  clear hb2 x0 x1 l0
  go_wp2
  go_ret
  exact ⟨rfl, HB2.out⟩
theorem oppI_bd (T : List Tr) (c : Int) : -1 ≤ oppI T c ∧ oppI T c < 3 * (T.length : Int) := by
  unfold oppI facI facFrom
  generalize ((edgeI T c).2, (edgeI T c).1) = e
  cases h : (List.range' 0 (3 * T.length - 0)).find? fun d => edgeN T d == e with
  | none => simp only; omega
  | some d =>
    have := List.mem_of_find?_eq_some h
    rw [List.mem_range'_1] at this
    simp only
    omega
/-- The least corner at a vertex, as the table tells it. -/
def cornI (N : Int) (T : List Tr) (v : Int) : Int := if 0 ≤ v ∧ v < N then ((fstFrom T 0 v).getD 0 : Nat) else -1
set_option maxRecDepth 100000 in
set_option maxHeartbeats 1000000 in
theorem corner_any (g : Nat) (N v : Int) (T : List Tr) (w : World) (h : Tab w g N T) : Calls Try.prog 31 #[.pointer (some ⟨g, 0, none⟩), .int .i64 v] w fun e w' => e = .returned (.int .i64 (cornI N T v)) ∧ w = w' := by
  have hn0 := h.n0
  have hn1 := h.n1
  obtain ⟨vT, m, vF, h1, _, _, ⟨a, cF, rfl, hl, hr⟩⟩ := h.tx
  obtain ⟨m, rfl⟩ : ∃ m : Nat, N = m := ⟨N.toNat, by omega⟩
  have hlen : (fsts (m : Int) T 0).length = m := by simp [fsts]
  rw [hlen] at h1 hl
  have x3 := h1.cell 3
  have lg := h1.lt
  unfold cornI
  by_cases v0 : 0 ≤ v
  · by_cases v1 : v < m
    · obtain ⟨u, rfl⟩ : ∃ u : Nat, v = u := ⟨v.toNat, by omega⟩
      have hu : (fsts (m : Int) T 0)[u]? = some (((fstFrom T 0 u).getD 0 : Nat) : Int) := by
        unfold fsts
        rw [List.getElem?_map, List.getElem?_range (by simpa using v1)]
        rfl
      obtain ⟨b, o, rfl, hbl, hc⟩ := hr u _ hu
      rw [if_pos ⟨v0, v1⟩]
      generalize ((fstFrom T 0 u).getD 0 : Nat) = z at *
      have hd : decide ((m : Int) ≤ (u : Int)) = false := by simp; omega
      have hd2 : decide ((u : Int) < 0) = false := by simp
      clear hr hlen hu h1
      go_enter Try.func31, Try.ntmps31
      go_wp2
      go_ret
      exact ⟨rfl, rfl⟩
    · have hd : decide ((m : Int) ≤ v) = true := by simp; omega
      have hd2 : decide (v < 0) = false := by simp; omega
      rw [if_neg (fun e => v1 e.2)]
      clear hr hlen h1 v1 v0
      go_enter Try.func31, Try.ntmps31
      go_wp2
      go_ret
      exact ⟨by simp, rfl⟩
  · have hd2 : decide (v < 0) = true := by simp; omega
    rw [if_neg (fun e => v0 e.1)]
    clear hr hlen h1 v0
    go_enter Try.func31, Try.ntmps31
    go_wp2
    go_ret
    exact ⟨by simp, rfl⟩
set_option maxRecDepth 100000 in
theorem vertices_any (g : Nat) (N : Int) (T : List Tr) (w : World) (h : TabS w g N T) : Calls Try.prog 33 #[.pointer (some ⟨g, 0, none⟩)] w fun e w' => e = .returned (.int .i64 N) ∧ w = w' := by
  obtain ⟨⟨vT, m, vF, h1, _⟩, _⟩ := h
  have x0 := h1.cell 0
  have lg := h1.lt
  clear h1
  go_enter Try.func33, Try.ntmps33
  go_wp2
  go_ret
  exact ⟨rfl, rfl⟩
set_option maxRecDepth 100000 in
theorem triangles_any (g : Nat) (N : Int) (T : List Tr) (w : World) (h : TabS w g N T) : Calls Try.prog 56 #[.pointer (some ⟨g, 0, none⟩)] w fun e w' => e = .returned (.int .i64 T.length) ∧ w = w' := by
  obtain ⟨⟨vT, m, vF, h1, ⟨a, cT, rfl, _⟩⟩, _, _, hl, _⟩ := h
  have x1 := h1.cell 1
  have lg := h1.lt
  clear h1
  go_enter Try.func56, Try.ntmps56
  go_wp2
  go_ret
  exact ⟨rfl, rfl⟩
end Go.Proofs.Ytghlnknncahkgaa
/-
  A set of keys that the call makes (a map of bools, all true), with its size; a queue of numbers (a slice that is cut at its head and appended to).
-/
namespace Go.Proofs.Ytghlnknncahkgaa
open Go.RowKit Go.Maps
open Go.MapKept (Stamped)

/-- Block b is a map of bools: it has just the keys ks, each once, and all are true. -/
def KSet (P : Program) (k : TypeId) (w : World) (b : Nat) (ks : List Value) : Prop :=
  ∃ es clock, w.heap[b]? = some (.map es clock) ∧ Stamped es clock ∧ (∀ x ∈ es.toList, ∃ l, keyOf P k x.key = some l) ∧ es.toList.map (·.key) = ks ∧ ∀ x ∈ es.toList, x.val = .bool true
def mapSize (w : World) (b : Nat) : Nat := match w.heap[b]? with | some (.map es _) => es.size | _ => 0
section
variable {P : Program} {k e : TypeId} {b : Nat} {w : World} {ks : List Value}
theorem KSet.made (w : World) (P : Program) (k : TypeId) : KSet P k (w.alloc (.map #[] 0)) w.heap.size [] := ⟨#[], 0, heap_alloc_new w _, MapKept.stamped_empty 0, by simp, rfl, by simp⟩
theorem KSet.obj (h : KSet P k w b ks) : ∃ es clock, w.heap[b]? = some (.map es clock) := by
  obtain ⟨es, clock, hb, _⟩ := h
  exact ⟨es, clock, hb⟩
theorem KSet.lt (h : KSet P k w b ks) : b < w.heap.size := by
  obtain ⟨es, clock, hb, _⟩ := h
  exact (Array.getElem?_eq_some_iff.1 hb).1
theorem KSet.size (h : KSet P k w b ks) : mapSize w b = ks.length := by
  obtain ⟨es, clock, hb, _, _, h3, _⟩ := h
  unfold mapSize
  rw [hb, ← h3]
  simp
theorem KSet.nodup (h : KSet P k w b ks) : ks.Nodup := by
  obtain ⟨es, clock, _, h1, _, h3, _⟩ := h
  obtain ⟨_, _, s3⟩ := (MapKept.stamped_iff es clock).1 h1
  rw [← h3, List.nodup_iff_pairwise_ne, List.pairwise_map]
  exact s3
theorem KSet.same {w' : World} (h : KSet P k w b ks) (hg : w'.heap[b]? = w.heap[b]?) : KSet P k w' b ks := by
  obtain ⟨es, clock, hb, h1⟩ := h
  exact ⟨es, clock, hg.trans hb, h1⟩
theorem KSet.kept {w' : World} {row : Option Nat} (h : KSet P k w b ks) (hg : w.grownBy w' row) (hne : some b ≠ row) : KSet P k w' b ks := h.same (hg.block b h.lt hne)
theorem KSet.alloc (h : KSet P k w b ks) (o : Obj) : KSet P k (w.alloc o) b ks := h.kept (World.grownBy_alloc w o none) (by simp)
theorem KSet.look {t : TypeId} (h : KSet P k w b ks) (K : Keyed P k) (ht : P.underlying t = some (.map k e)) (hz : (zeroValue e).run P w = .ok (.bool false) w) {key : Value} {kl : Lit} (hkey : keyOf P k key = some kl) :
    ∃ r : Bool, (Instr.lookup t (.map (some b)) key false).run P w = .ok (.bool r) w ∧ (r = true ↔ key ∈ ks) := by
  obtain ⟨es, clock, hb, h1, h2, h3, h4⟩ := h
  rcases K.find w hkey es.toList h2 with ⟨g1, g2⟩ | ⟨j, e0, g1, g2, g3⟩
  · refine ⟨false, by simp [Instr.lookup, run_underlying ht, MapKept.run_getObj_map hb, K.check w _ hkey, g1, hz, Result.andThen], ?_⟩
    rw [← h3]
    constructor
    · intro e0; cases e0
    · intro hm
      obtain ⟨x, hx, e0⟩ := List.mem_map.1 hm
      exact absurd e0 (g2 x hx)
  · have hm := List.mem_of_getElem? g2
    refine ⟨true, ?_, ?_⟩
    · rw [h4 e0 hm] at g1
      simp [Instr.lookup, run_underlying ht, MapKept.run_getObj_map hb, K.check w _ hkey, g1, Result.andThen]
    · rw [← h3]
      exact ⟨fun _ => List.mem_map.2 ⟨e0, hm, g3⟩, fun _ => rfl⟩
theorem KSet.store {t : TypeId} (h : KSet P k w b ks) (K : Keyed P k) (ht : P.underlying t = some (.map k e)) {key : Value} {kl : Lit} (hkey : keyOf P k key = some kl) (hn : key ∉ ks) :
    ∃ w', (Instr.mapUpdate t (.map (some b)) key (.bool true)).run P w = .ok () w' ∧ KSet P k w' b (ks ++ [key]) ∧ w.grownBy w' (some b) ∧ w'.heap.size = w.heap.size := by
  obtain ⟨es, clock, hb, h1, h2, h3, h4⟩ := h
  rcases K.find w hkey es.toList h2 with ⟨g1, g2⟩ | ⟨j, e0, g1, g2, g3⟩
  · refine ⟨_, by simp [Instr.mapUpdate, run_underlying ht, MapKept.run_getObj_map hb, K.check w _ hkey, g1, MapKept.run_setObj_map _ hb, Result.andThen]; rfl, ⟨es.push ⟨key, .bool true, clock⟩, clock + 1, ChangeMaps.heap_setBlock_same hb _, MapKept.stamped_push h1 g2, ?_, by simp [h3], ?_⟩, setBlock_grown hb _, by simp [ChangeMaps.setBlock]⟩
    · intro x hx
      simp only [Array.toList_push, List.mem_append, List.mem_singleton] at hx
      rcases hx with hx | rfl
      · exact h2 x hx
      · exact ⟨_, hkey⟩
    · intro x hx
      simp only [Array.toList_push, List.mem_append, List.mem_singleton] at hx
      rcases hx with hx | rfl
      · exact h4 x hx
      · rfl
  · exact absurd (by rw [← h3]; exact List.mem_map.2 ⟨e0, List.mem_of_getElem? g2, g3⟩) hn
theorem KSet.len {t : TypeId} (h : KSet P k w b ks) (ht : P.underlying t = some (.map k e)) (ty : TypeId) : (Builtin.len_ #[t] ty #[.map (some b)]).run P w = .ok (.int .i64 ks.length) w := by
  obtain ⟨es, clock, hb, h1, h2, h3, h4⟩ := h
  have : (ks.length : Int) = es.size := by rw [← h3]; simp
  rw [this]
  simp [Builtin.len_, run_underlying ht, MapKept.run_getObj_map hb, goInt, Result.andThen]
theorem wpList_lookupK {ops : Array Oper} {rest : List Oper} {o : Oper} {a : Act} {Q : Exit → Act → World → Prop} (h : KSet P k w b ks)
    (hg : o.guard = none) (m x : Operand) (t : TypeId) (hop : o.op = Op.lookup t m x false) (K : Keyed P k) (ht : P.underlying t = some (.map k e)) (hz : (zeroValue e).run P w = .ok (.bool false) w)
    (hm : a.eval m = .map (some b)) (key : Value) (hx : a.eval x = key) {kl : Lit} (hkey : keyOf P k key = some kl)
    (hK : ∀ r : Bool, (r = true ↔ key ∈ ks) → wpList P ops Q rest (a.put o.dst (.bool r)) w) : wpList P ops Q (o :: rest) a w := by
  refine wpList_plain hg fun K' hK' => ?_
  obtain ⟨r, hrun, hi⟩ := h.look K ht hz hkey
  unfold Oper.wp
  simp [execOp, hop, hm, hx, hrun, Result.andThen]
  exact hK' _ _ (hK r hi)
theorem wpList_storeK {ops : Array Oper} {rest : List Oper} {o : Oper} {a : Act} {Q : Exit → Act → World → Prop} (h : KSet P k w b ks)
    (hg : o.guard = none) (m x v : Operand) (t : TypeId) (hop : o.op = Op.mapUpdate t m x v ∨ o.op = Op.insert t m x v) (K : Keyed P k) (ht : P.underlying t = some (.map k e))
    (hm : a.eval m = .map (some b)) (key : Value) (hx : a.eval x = key) (hv : a.eval v = .bool true) {kl : Lit} (hkey : keyOf P k key = some kl) (hn : key ∉ ks)
    (hK : ∀ w', KSet P k w' b (ks ++ [key]) → w.grownBy w' (some b) → w'.heap.size = w.heap.size → wpList P ops Q rest (a.put o.dst undef) w') : wpList P ops Q (o :: rest) a w := by
  refine wpList_plain hg fun K' hK' => ?_
  obtain ⟨w', hrun, r1, r2, r3⟩ := h.store K ht hkey hn
  unfold Oper.wp
  rcases hop with hop | hop <;> simp [execOp, hop, hm, hx, hv, hrun, Result.andThen] <;> exact hK' _ _ (hK w' r1 r2 r3)
theorem wpList_lenK {ops : Array Oper} {rest : List Oper} {o : Oper} {a : Act} {Q : Exit → Act → World → Prop} (h : KSet P k w b ks)
    (hg : o.guard = none) (m : Operand) (t : TypeId) (hop : o.op = Op.call { callee := Callee.builtin Builtin.len, args := #[m], argTypes := #[t] }) (ht : P.underlying t = some (.map k e)) (hm : a.eval m = .map (some b))
    (hK : wpList P ops Q rest (a.put o.dst (.int .i64 ks.length)) w) : wpList P ops Q (o :: rest) a w := by
  refine wpList_plain hg fun K' hK' => ?_
  have hrun := h.len ht o.type
  unfold Oper.wp execOp
  simp only [hop, resolve, invoke, builtin, Sem.run_bind, Sem.run_pure, Result.andThen_ok, List.map_toArray, List.map_cons, List.map_nil, hm, hrun]
  exact hK' _ _ hK
end

/-- A queue of numbers: what its cells hold; from block 'base' on; room behind it. -/
def IQ (w : World) (base : Nat) (v : Value) (zs : List Int) : Prop :=
  ∃ ao b off cap cur, v = .slice ao zs.length cap ∧ zs.length ≤ cap ∧ cap ≤ maxLen ∧ (0 < cap → ao = some ⟨b, off, none⟩ ∧ base ≤ b ∧ w.heap[b]? = some (.cells cur 3 (0, 0)) ∧ off + cap ≤ cur.size ∧ ∀ j, j < zs.length → cur[off + j]? = (intsV zs)[j]?)
theorem IQ.kept {w w' : World} {base : Nat} {v : Value} {zs : List Int} {row : Option Nat} (h : IQ w base v zs) (hg : w.grownBy w' row) (hr : ∀ j, row = some j → j < base ∨ ∃ es clock, w.heap[j]? = some (.map es clock)) : IQ w' base v zs := by
  obtain ⟨ao, b, off, cap, cur, h1, h2, h3, h4⟩ := h
  refine ⟨ao, b, off, cap, cur, h1, h2, h3, fun hc => ?_⟩
  obtain ⟨g1, g2, g3, g4, g5⟩ := h4 hc
  refine ⟨g1, g2, (hg.block b (Array.getElem?_eq_some_iff.1 g3).1 (fun e0 => ?_)).trans g3, g4, g5⟩
  rcases hr b e0.symm with hlt | ⟨es, clock, ho⟩
  · omega
  · rw [g3] at ho
    cases ho
theorem IQ.alloc {w : World} {base : Nat} {v : Value} {zs : List Int} (h : IQ w base v zs) (o : Obj) : IQ (w.alloc o) base v zs := h.kept (World.grownBy_alloc w o none) (fun j e => by cases e)
theorem IQ.form {w : World} {base : Nat} {v : Value} {zs : List Int} (h : IQ w base v zs) : ∃ ao c, v = .slice ao zs.length c := by
  obtain ⟨ao, b, off, cap, cur, h1, _⟩ := h
  exact ⟨ao, cap, h1⟩
end Go.Proofs.Ytghlnknncahkgaa
/-
  What certify.together holds: a queue of numbers that is cut at its head and appended to; a row of a map that is stored by its key; which triangles of a vertex are connected.
-/
namespace Go.Proofs.Ytghlnknncahkgaa
open Go.RowKit Go.Maps
open Go.MapKept (Stamped)

section
variable {P : Program} {w : World} {base : Nat} {v : Value} {zs : List Int}
theorem IQ.append (h : IQ w base v zs) (t ty : TypeId) (i : TypeInfo) (ht : P.underlying t = some (.slice 3)) (hi : P.info? 3 = some i) (hz : i.zero = some (.int .i64 0)) (h1 : i.size = 1) (h8 : i.bytes = 8)
    (B c : Nat) (z : Int) (hB : w.cell? ⟨B, 0, none⟩ = some (.int .i64 z)) (hn : zs.length + 1 ≤ 1000000000) (hb : base ≤ w.heap.size) :
    ∃ v' w' row, (Builtin.append_ #[t, t] ty #[v, .slice (some ⟨B, 0, none⟩) 1 c]).run P w = .ok v' w' ∧ IQ w' base v' (zs ++ [z]) ∧ w.grownBy w' row ∧ ∀ j, row = some j → base ≤ j ∧ ∃ C, w.heap[j]? = some (.cells C 3 (0, 0)) := by
  obtain ⟨ao, b, off, cap, cur, rfl, hnc, hcm, hpos⟩ := h
  have src : Src P i.size t (.slice (some ⟨B, 0, none⟩) 1 c) 1 [.int .i64 z] w := Src.ofSlice w ht ⟨B, 0, none⟩ 1 c [.int .i64 z] (by simp [h1]) (by
    intro j u hj
    cases j with
    | zero =>
      simp at hj
      subst hj
      rw [Addr.add_lit]
      exact hB
    | succ j => simp at hj) (by simp [Value.oneCell'])
  by_cases hroom : zs.length + 1 ≤ cap
  · obtain ⟨rfl, hbb, hcur, hsz, hcs⟩ := hpos (by omega)
    have hblk : Blk w b 3 cur := hcur
    have hin : off + zs.length < cur.size := by omega
    have hr := run_append_room_src (P := P) w t t ty 3 i ht hi b off zs.length cap _ 1 _ src hroom (by
      intro j hj
      simp only [List.length_singleton] at hj
      obtain rfl : j = 0 := by omega
      rw [hblk.cell, h1]
      simp
      omega) (fun j _ => hblk.frozen _)
    rw [h1, Nat.mul_one] at hr
    refine ⟨_, _, some b, hr, ?_, gSet (World.grownBy.refl _ _) ⟨b, off + zs.length, none⟩ (.int .i64 z) (.inl rfl), fun j e => by cases e; exact ⟨hbb, cur, hcur⟩⟩
    refine ⟨some ⟨b, off, none⟩, b, off, cap, _, by simp, by simpa using hroom, hcm, fun _ => ⟨rfl, hbb, hblk.set_ (off + zs.length) (.int .i64 z), by simpa using hsz, fun j hj => ?_⟩⟩
    simp only [List.length_append, List.length_singleton] at hj
    by_cases e : j = zs.length
    · subst e
      simp [intsV, hin]
    · have h2 : j < zs.length := by omega
      rw [Array.getElem?_setIfInBounds_ne (by omega), hcs j h2]
      simp [intsV, List.getElem?_append_left, h2]
  · have hc : cap = zs.length := by omega
    have hold : (Builtin.firstCells i.size zs.length (.slice ao zs.length cap)).run P w.drew = .ok (intsV zs).toArray w.drew := by
      rcases Nat.eq_zero_or_pos cap with h0 | h0
      · have : zs = [] := List.eq_nil_of_length_eq_zero (by omega)
        subst this
        cases ao with
        | none => exact run_firstCells_none w.drew i.size 0 0 cap
        | some a => exact run_firstCells_some w.drew i.size 0 a 0 cap [] (by simp) (by simp)
      · obtain ⟨rfl, hbb, hcur, hsz, hcs⟩ := hpos h0
        refine run_firstCells_some w.drew i.size zs.length ⟨b, off, none⟩ zs.length cap (intsV zs) (by simp [intsV, h1]) (fun j u hj => ?_)
        have hj' : j < zs.length := by have := (List.getElem?_eq_some_iff.1 hj).1; simpa [intsV] using this
        have hblk : Blk w.drew b 3 cur := hcur
        rw [Addr.add_lit, hblk.cell, hcs j hj', hj]
    have hr := run_append_grow_src (P := P) w t t ty 3 i (.int .i64 0) ht hi hz ao zs.length cap (intsV zs) hold _ 1 _ src (by omega) (by omega) (by
      have := growslice_fits (need := zs.length + 1) (old := cap) (bytes := i.bytes) (by omega) (by rw [h8]; omega)
      exact this)
    have hge := grownCap_ge w (zs.length + 1) cap 3
    have hmx := grownCap_le_maxLen w (zs.length + 1) cap 3 (by unfold maxLen; omega)
    refine ⟨_, _, none, hr, ?_, ⟨rfl, rfl, rfl, by simp, fun k hk _ => (Below.heap_alloc w.drew _ k hk)⟩, fun j e => by cases e⟩
    refine ⟨some ⟨w.heap.size, 0, none⟩, w.heap.size, 0, _, _, by simp, by simpa using hge, hmx, fun _ => ⟨rfl, hb, heap_alloc_new w.drew _, ?_, fun j hj => ?_⟩⟩
    · rw [Array.size_append, size_zeroCells]
      simp [intsV, Value.cells]
      omega
    · have e1 : (intsV zs ++ [Value.int .i64 z]) = intsV (zs ++ [z]) := by simp [intsV]
      rw [Nat.zero_add, Array.getElem?_append_left (by simp [intsV]; simpa using hj), e1]
      simp
theorem wpList_pushQ {ops : Array Oper} {rest : List Oper} {o : Oper} {a : Act} {Q : Exit → Act → World → Prop} (h : IQ w base v zs) (hg : o.guard = none) (s x : Operand) (t : TypeId)
    (hop : o.op = .call { callee := .builtin .append, args := #[s, x], argTypes := #[t, t] }) (i : TypeInfo) (ht : P.underlying t = some (.slice 3)) (hi : P.info? 3 = some i) (hz : i.zero = some (.int .i64 0)) (h1 : i.size = 1) (h8 : i.bytes = 8)
    (hs : a.eval s = v) (B c : Nat) (z : Int) (hx : a.eval x = .slice (some ⟨B, 0, none⟩) 1 c) (hB : w.cell? ⟨B, 0, none⟩ = some (.int .i64 z)) (hn : zs.length + 1 ≤ 1000000000) (hb : base ≤ w.heap.size)
    (hK : ∀ v' w' row, IQ w' base v' (zs ++ [z]) → w.grownBy w' row → (∀ j, row = some j → base ≤ j ∧ ∃ C, w.heap[j]? = some (.cells C 3 (0, 0))) → wpList P ops Q rest (a.put o.dst v') w') : wpList P ops Q (o :: rest) a w := by
  refine wpList_plain hg fun K' hK' => ?_
  obtain ⟨v', w', row, hrun, r1, r2, r3⟩ := h.append t o.type i ht hi hz h1 h8 B c z hB hn hb
  unfold Oper.wp execOp
  simp only [hop, resolve, invoke, builtin, Sem.run_bind, Sem.run_pure, Result.andThen_ok, List.map_toArray, List.map_cons, List.map_nil, hs, hx, hrun]
  exact hK' _ _ (hK v' w' row r1 r2 r3)
/-- The first one, and the others. -/
theorem IQ.cons {z : Int} (h : IQ w base v (z :: zs)) : ∃ b off cap, v = .slice (some ⟨b, off, none⟩) (zs.length + 1) cap ∧ zs.length + 1 ≤ cap ∧ b < w.heap.size ∧ base ≤ b ∧ w.cell? ⟨b, off, none⟩ = some (.int .i64 z) ∧
    IQ w base (.slice (some (if cap = 1 then ⟨b, off, none⟩ else ⟨b, off + 1, none⟩)) zs.length (cap - 1)) zs := by
  obtain ⟨ao, b, off, cap, cur, rfl, hnc, hcm, hpos⟩ := h
  simp only [List.length_cons] at hnc hpos
  obtain ⟨rfl, hbb, hcur, hsz, hcs⟩ := hpos (by omega)
  have hblk : Blk w b 3 cur := hcur
  refine ⟨b, off, cap, rfl, hnc, hblk.lt, hbb, ?_, ?_⟩
  · have := hcs 0 (by omega)
    rw [hblk.cell]
    simpa [intsV] using this
  · refine ⟨some _, b, off + 1, cap - 1, cur, rfl, by omega, by omega, fun hc => ⟨by rw [if_neg (by omega)], hbb, hcur, by omega, fun j hj => ?_⟩⟩
    have := hcs (j + 1) (by omega)
    rw [show off + 1 + j = off + (j + 1) from by omega, this]
    simp [intsV]
/-- A row that was made with one number. -/
theorem IQ.one {B : Nat} {z : Int} (hB : Blk w B 3 #[.int .i64 z]) (hb : base ≤ B) : IQ w base (.slice (some ⟨B, 0, none⟩) 1 1) [z] :=
  ⟨some ⟨B, 0, none⟩, B, 0, 1, _, rfl, Nat.le_refl _, by decide, fun _ => ⟨rfl, hb, hB, by simp, fun j hj => by
    simp only [List.length_singleton] at hj
    obtain rfl : j = 0 := by omega
    simp [intsV]⟩⟩
end

section
variable {P : Program} {k e : TypeId} {base b : Nat} {w : World} {f : Value → List Int}
/-- A row is stored at its key. -/
theorem Grp.update {t E : TypeId} (h : Grp P k base e w b f) (K : Keyed P k) (ht : P.underlying t = some (.map k E)) {key : Value} {kl : Lit} (hkey : keyOf P k key = some kl) {v : Value}
    (hv : w.ownsRow base e 1 v (f key).length (intsV (f key))) (hvk : ∀ es clock, w.heap[b]? = some (.map es clock) → ∀ x ∈ es.toList, x.key = key → x.val = v) (hvn : ∀ es clock, w.heap[b]? = some (.map es clock) → (∀ x ∈ es.toList, x.key ≠ key) → v = .slice none 0 0)
    (W2 : World) (v' : Value) (zs' : List Int) (hg : w.grownBy W2 v.ownBlock) (hown : W2.ownsRow base e 1 v' zs'.length (intsV zs')) (hloc : v'.ownBlock = v.ownBlock ∨ ∃ g, v'.ownBlock = some g ∧ w.heap.size ≤ g) :
    ∃ W3, (Instr.mapUpdate t (.map (some b)) key v').run P W2 = .ok () W3 ∧ Grp P k base e W3 b (upd f key zs') ∧ W2.grownBy W3 (some b) ∧ W3.heap.size = W2.heap.size := by
  have hblt := h.lt
  obtain ⟨es, clock, hb, h1, h2, h3, h4, h5, h6⟩ := h
  have hne_b : ∀ {u : World} {v : Value} {n : Nat} {xs : List Value}, u.ownsRow base e 1 v n xs → v.ownBlock = none ∨ v.ownBlock ≠ some b := fun {u v n xs} hv => by
    cases hb' : v.ownBlock
    · exact .inl rfl
    · refine .inr (fun e2 => ?_)
      have := (hv.lt _ hb').1
      cases e2
      omega
  have hvb : some b ≠ v.ownBlock := fun e2 => by
    rcases hne_b hv with h | h
    · rw [h] at e2; cases e2
    · exact h e2.symm
  have hm2 : W2.heap[b]? = some (.map es clock) := (hg.block b hblt hvb).trans hb
  obtain ⟨s1, s2, s3⟩ := (MapKept.stamped_iff es clock).1 h1
  have old : ∀ x ∈ es.toList, x.key ≠ key → x.val.ownBlock = none ∨ x.val.ownBlock ≠ v.ownBlock := by
    intro x hx hne
    by_cases hex : ∃ y ∈ es.toList, y.key = key
    · obtain ⟨y, hy, hyk⟩ := hex
      rw [← hvk es clock hb y hy hyk]
      exact h4 x hx y hy (by rw [hyk]; exact hne)
    · rw [hvn es clock hb (fun y hy e2 => hex ⟨y, hy, e2⟩)]
      cases hx' : x.val.ownBlock
      · exact .inl rfl
      · exact .inr (by simp [Value.ownBlock])
  have old_new : ∀ x ∈ es.toList, x.key ≠ key → x.val.ownBlock = none ∨ x.val.ownBlock ≠ v'.ownBlock := by
    intro x hx hne
    rcases hloc with g1 | ⟨g, g1, g2⟩
    · rw [g1]
      exact old x hx hne
    · cases hx' : x.val.ownBlock
      · exact .inl rfl
      · refine .inr (fun e2 => ?_)
        have := ((h3 x hx).lt _ hx').2
        rw [g1] at e2
        cases e2
        omega
  rcases K.find W2 hkey es.toList h2 with ⟨g1, g2⟩ | ⟨j, e0, g1, g2, g3⟩
  · have hgw := setBlock_grown hm2 (.map (es.push ⟨key, v', clock⟩) (clock + 1))
    refine ⟨ChangeMaps.setBlock W2 b (.map (es.push ⟨key, v', clock⟩) (clock + 1)), by simp [Instr.mapUpdate, run_underlying ht, MapKept.run_getObj_map hm2, K.check W2 _ hkey, g1, MapKept.run_setObj_map _ hm2, Result.andThen, ChangeMaps.setBlock],
      ⟨_, _, ChangeMaps.heap_setBlock_same hm2 _, MapKept.stamped_push h1 g2, ?_, ?_, ?_, ?_, h6⟩, hgw, by simp [ChangeMaps.setBlock]⟩
    · intro x hx
      simp only [Array.toList_push, List.mem_append, List.mem_singleton] at hx
      rcases hx with hx | rfl
      · exact h2 x hx
      · exact ⟨_, hkey⟩
    · intro x hx
      simp only [Array.toList_push, List.mem_append, List.mem_singleton] at hx
      rcases hx with hx | rfl
      · rw [upd_other (g2 x hx)]
        exact ((h3 x hx).kept hg (old x hx (g2 x hx))).kept hgw (hne_b (h3 x hx))
      · simp only [upd_same]
        exact hown.kept hgw (hne_b hown)
    · intro x hx y hy hne
      simp only [Array.toList_push, List.mem_append, List.mem_singleton] at hx hy
      rcases hx with hx | rfl <;> rcases hy with hy | rfl
      · exact h4 x hx y hy hne
      · exact old_new x hx (g2 x hx)
      · show v'.ownBlock = none ∨ v'.ownBlock ≠ y.val.ownBlock
        cases hv' : v'.ownBlock
        · exact .inl rfl
        · refine .inr (fun e2 => ?_)
          rcases old_new y hy (g2 y hy) with h | h
          · rw [h] at e2; cases e2
          · exact h (by rw [hv', e2])
      · exact absurd rfl hne
    · intro u hu
      have huk : u ≠ key := fun e2 => hu ⟨key, v', clock⟩ (by simp) e2.symm
      rw [upd_other huk]
      exact h5 u (fun x hx => hu x (by simp [hx]))
  · have hset : (es.modify j (fun e => { e with key := key, val := v' })).toList = es.toList.set j { e0 with val := v' } := by
      rw [Array.toList_modify, ChangeMaps.modify_eq_set _ _ _ _ g2, ← g3]
    have hset' : (es.modify j (fun e => { e with val := v' })).toList = es.toList.set j { e0 with val := v' } := by
      rw [Array.toList_modify, ChangeMaps.modify_eq_set _ _ _ _ g2]
    have hsame : es.modify j (fun e => { e with key := key, val := v' }) = es.modify j (fun e => { e with val := v' }) := by
      apply Array.ext'
      rw [hset, hset']
    have hj : es[j]? = some e0 := by simpa using g2
    have hgw := setBlock_grown hm2 (.map (es.modify j (fun e => { e with val := v' })) clock)
    have hmem : ∀ x ∈ (es.modify j (fun e => { e with val := v' })).toList, x = { e0 with val := v' } ∨ (x ∈ es.toList ∧ x.key ≠ key) := by
      intro x hx
      rw [hset'] at hx
      rcases mem_set_apart s3 g2 hx with h | ⟨h, h'⟩
      · exact .inl h
      · exact .inr ⟨h, by rw [← g3]; exact h'⟩
    have m0 := List.mem_of_getElem? g2
    refine ⟨ChangeMaps.setBlock W2 b (.map (es.modify j (fun e => { e with val := v' })) clock), ?_,
      ⟨_, _, ChangeMaps.heap_setBlock_same hm2 _, MapKept.stamped_modify h1 j _ (fun _ _ => rfl) (fun _ _ _ => rfl), ?_, ?_, ?_, ?_, h6⟩, hgw, by simp [ChangeMaps.setBlock]⟩
    · simp [Instr.mapUpdate, run_underlying ht, MapKept.run_getObj_map hm2, K.check W2 _ hkey, g1, hj, g3, K.stays W2 hkey, hsame, MapKept.run_setObj_map _ hm2, Result.andThen, ChangeMaps.setBlock]
    · intro x hx
      rcases hmem x hx with rfl | ⟨hx, _⟩
      · exact h2 e0 m0
      · exact h2 x hx
    · intro x hx
      rcases hmem x hx with rfl | ⟨hx, hne⟩
      · simp only [g3, upd_same]
        exact hown.kept hgw (hne_b hown)
      · simp only [upd_other hne]
        exact ((h3 x hx).kept hg (old x hx hne)).kept hgw (hne_b (h3 x hx))
    · intro x hx y hy hne
      rcases hmem x hx with rfl | ⟨hx, hxk⟩ <;> rcases hmem y hy with rfl | ⟨hy, hyk⟩
      · exact absurd rfl hne
      · show v'.ownBlock = none ∨ v'.ownBlock ≠ y.val.ownBlock
        cases hv' : v'.ownBlock
        · exact .inl rfl
        · refine .inr (fun e2 => ?_)
          rcases old_new y hy hyk with h | h
          · rw [h] at e2; cases e2
          · exact h (by rw [hv', e2])
      · exact old_new x hx hxk
      · exact h4 x hx y hy hne
    · intro u hu
      have huk : u ≠ key := fun e2 => hu { e0 with val := v' } (by rw [hset']; exact List.mem_iff_getElem?.2 ⟨j, by rw [List.getElem?_set, if_pos rfl, if_pos (List.getElem?_eq_some_iff.1 g2).1]⟩) (by rw [e2]; exact g3)
      rw [upd_other huk]
      refine h5 u (fun x hx e2 => ?_)
      obtain ⟨i, hi⟩ := List.mem_iff_getElem?.1 hx
      have hij : j ≠ i := fun e3 => by
        subst e3
        rw [g2] at hi
        cases hi
        exact huk (e2.symm.trans g3)
      exact hu x (by rw [hset']; exact List.mem_iff_getElem?.2 ⟨i, by rw [List.getElem?_set, if_neg hij]; exact hi⟩) e2
/-- Looked up, with what a later store wants to know. -/
theorem Grp.look2 {t E : TypeId} (h : Grp P k base e w b f) (K : Keyed P k) (ht : P.underlying t = some (.map k E)) (hz : (zeroValue E).run P w = .ok (.slice none 0 0) w) {key : Value} {kl : Lit} (hkey : keyOf P k key = some kl) :
    ∃ v, (Instr.lookup t (.map (some b)) key false).run P w = .ok v w ∧ w.ownsRow base e 1 v (f key).length (intsV (f key)) ∧
      ∀ (W2 : World) (v' : Value) (zs' : List Int), w.grownBy W2 v.ownBlock → W2.ownsRow base e 1 v' zs'.length (intsV zs') → (v'.ownBlock = v.ownBlock ∨ ∃ g, v'.ownBlock = some g ∧ w.heap.size ≤ g) →
        ∃ W3, (Instr.mapUpdate t (.map (some b)) key v').run P W2 = .ok () W3 ∧ Grp P k base e W3 b (upd f key zs') ∧ W2.grownBy W3 (some b) ∧ W3.heap.size = W2.heap.size := by
  have h0 := h
  obtain ⟨es, clock, hb, h1, h2, h3, h4, h5, h6⟩ := h
  obtain ⟨s1, s2, s3⟩ := (MapKept.stamped_iff es clock).1 h1
  rcases K.find w hkey es.toList h2 with ⟨g1, g2⟩ | ⟨j, e0, g1, g2, g3⟩
  · have hr : w.ownsRow base e 1 (.slice none 0 0) (f key).length (intsV (f key)) := by
      rw [h5 key g2]
      exact World.ownsRow_nil _ _ _ _
    refine ⟨.slice none 0 0, by simp [Instr.lookup, run_underlying ht, MapKept.run_getObj_map hb, K.check w _ hkey, g1, hz, Result.andThen], hr, fun W2 v' zs' a b' c => h0.update K ht hkey hr ?_ ?_ W2 v' zs' a b' c⟩
    · intro es' clock' hb' x hx hxk
      rw [hb] at hb'
      cases hb'
      exact absurd hxk (g2 x hx)
    · intro es' clock' hb' _
      rfl
  · have hr : w.ownsRow base e 1 e0.val (f key).length (intsV (f key)) := by
      have := h3 e0 (List.mem_of_getElem? g2)
      rw [g3] at this
      exact this
    refine ⟨e0.val, by simp [Instr.lookup, run_underlying ht, MapKept.run_getObj_map hb, K.check w _ hkey, g1, Result.andThen], hr, fun W2 v' zs' a b' c => h0.update K ht hkey hr ?_ ?_ W2 v' zs' a b' c⟩
    · intro es' clock' hb' x hx hxk
      rw [hb] at hb'
      cases hb'
      obtain ⟨i, hi⟩ := List.mem_iff_getElem?.1 hx
      by_cases hij : j = i
      · subst hij
        rw [g2] at hi
        cases hi
        rfl
      · exfalso
        obtain ⟨q1, e1⟩ := List.getElem?_eq_some_iff.1 hi
        obtain ⟨q2, e2⟩ := List.getElem?_eq_some_iff.1 g2
        have hp := List.pairwise_iff_getElem.1 s3
        rcases Nat.lt_or_gt_of_ne hij with hlt | hlt
        · have := hp j i q2 q1 hlt
          rw [e1, e2, g3, hxk] at this
          exact this rfl
        · have := hp i j q1 q2 hlt
          rw [e1, e2, g3, hxk] at this
          exact this rfl
    · intro es' clock' hb' hall
      rw [hb] at hb'
      cases hb'
      exact absurd g3 (hall e0 (List.mem_of_getElem? g2))
theorem wpList_lookupG2 {ops : Array Oper} {rest : List Oper} {o : Oper} {a : Act} {Q : Exit → Act → World → Prop} (h : Grp P k base e w b f)
    (hg : o.guard = none) (m x : Operand) (t E : TypeId) (hop : o.op = Op.lookup t m x false) (K : Keyed P k) (ht : P.underlying t = some (.map k E)) (hz : (zeroValue E).run P w = .ok (.slice none 0 0) w)
    (hm : a.eval m = .map (some b)) (key : Value) (hx : a.eval x = key) {kl : Lit} (hkey : keyOf P k key = some kl)
    (hK : ∀ v, w.ownsRow base e 1 v (f key).length (intsV (f key)) → (∀ (W2 : World) (v' : Value) (zs' : List Int), w.grownBy W2 v.ownBlock → W2.ownsRow base e 1 v' zs'.length (intsV zs') → (v'.ownBlock = v.ownBlock ∨ ∃ g, v'.ownBlock = some g ∧ w.heap.size ≤ g) →
        ∃ W3, (Instr.mapUpdate t (.map (some b)) key v').run P W2 = .ok () W3 ∧ Grp P k base e W3 b (upd f key zs') ∧ W2.grownBy W3 (some b) ∧ W3.heap.size = W2.heap.size) → wpList P ops Q rest (a.put o.dst v) w) : wpList P ops Q (o :: rest) a w := by
  refine wpList_plain hg fun K' hK' => ?_
  obtain ⟨v, hrun, r1, r2⟩ := h.look2 K ht hz hkey
  unfold Oper.wp
  simp [execOp, hop, hm, hx, hrun, Result.andThen]
  exact hK' _ _ (hK v r1 r2)
theorem wpList_mapUpdate {ops : Array Oper} {rest : List Oper} {o : Oper} {a : Act} {Q : Exit → Act → World → Prop}
    (hg : o.guard = none) (m s v : Operand) (t : TypeId) (hop : o.op = Op.mapUpdate t m s v) {vm vs vv : Value} (hm : a.eval m = vm) (hs : a.eval s = vs) (hv : a.eval v = vv) {w' : World}
    (hrun : (Instr.mapUpdate t vm vs vv).run P w = .ok () w') (hK : wpList P ops Q rest (a.put o.dst undef) w') : wpList P ops Q (o :: rest) a w := by
  refine wpList_plain hg fun K' hK' => ?_
  unfold Oper.wp
  simp [execOp, hop, hm, hs, hv, hrun, Result.andThen]
  exact hK' _ _ hK

theorem Grp.look_at {w0 : World} {t E : TypeId} (h : Grp P k base e w0 b f) (hb : Below w0.heap.size w0 w) (K : Keyed P k) (ht : P.underlying t = some (.map k E)) (hz : (zeroValue E).run P w = .ok (.slice none 0 0) w) {key : Value} {kl : Lit} (hkey : keyOf P k key = some kl) :
    ∃ v, (Instr.lookup t (.map (some b)) key false).run P w = .ok v w ∧ w0.ownsRow base e 1 v (f key).length (intsV (f key)) := by
  have hlt := h.lt
  obtain ⟨es, clock, hb0, h1, h2, h3, h4, h5, h6⟩ := h
  have hb := (hb.block b hlt).trans hb0
  rcases K.find w hkey es.toList h2 with ⟨g1, g2⟩ | ⟨j, e0, g1, g2, g3⟩
  · refine ⟨.slice none 0 0, by simp [Instr.lookup, run_underlying ht, MapKept.run_getObj_map hb, K.check w _ hkey, g1, hz, Result.andThen], ?_⟩
    rw [h5 key g2]
    exact World.ownsRow_nil _ _ _ _
  · refine ⟨e0.val, by simp [Instr.lookup, run_underlying ht, MapKept.run_getObj_map hb, K.check w _ hkey, g1, Result.andThen], ?_⟩
    have := h3 e0 (List.mem_of_getElem? g2)
    rw [g3] at this
    exact this
theorem wpList_lookupGB {w0 : World} {ops : Array Oper} {rest : List Oper} {o : Oper} {a : Act} {Q : Exit → Act → World → Prop} (h : Grp P k base e w0 b f) (hb : Below w0.heap.size w0 w)
    (hg : o.guard = none) (m x : Operand) (t E : TypeId) (hop : o.op = Op.lookup t m x false) (K : Keyed P k) (ht : P.underlying t = some (.map k E)) (hz : (zeroValue E).run P w = .ok (.slice none 0 0) w)
    (hm : a.eval m = .map (some b)) (key : Value) (hx : a.eval x = key) {kl : Lit} (hkey : keyOf P k key = some kl)
    (hK : ∀ v, w0.ownsRow base e 1 v (f key).length (intsV (f key)) → wpList P ops Q rest (a.put o.dst v) w) : wpList P ops Q (o :: rest) a w := by
  refine wpList_plain hg fun K' hK' => ?_
  obtain ⟨v, hrun, r1⟩ := h.look_at hb K ht hz hkey
  unfold Oper.wp
  simp [execOp, hop, hm, hx, hrun, Result.andThen]
  exact hK' _ _ (hK v r1)
theorem wpList_tailQ {v : Value} {z : Int} {zs : List Int} {ops : Array Oper} {rest : List Oper} {o : Oper} {a : Act} {Q : Exit → Act → World → Prop} (h : IQ w base v (z :: zs)) (hg : o.guard = none) (x : Operand) (t : TypeId)
    (hop : o.op = Op.slice t x (some (.const (.int .i64 1))) none none) (ht : P.underlying t = some (.slice 3)) {i : TypeInfo} (hi : P.info? 3 = some i) (h1 : i.size = 1) (hx : a.eval x = v)
    (hK : ∀ v', IQ w base v' zs → wpList P ops Q rest (a.put o.dst v') w) : wpList P ops Q (o :: rest) a w := by
  refine wpList_plain hg fun K' hK' => ?_
  obtain ⟨b, off, cap, rfl, hc1, _, _, _, hq⟩ := h.cons
  have hel : P.elem t = 3 := by simp [Program.elem, ht]
  have ht' : P.underlying t = some (.slice (P.elem t)) := by rw [hel]; exact ht
  have hrun : (Instr.sliceAt t (.slice (some ⟨b, off, none⟩) (zs.length + 1) cap) (some (.int .i64 1)) none none).run P w = .ok (.slice (some (if cap = 1 then ⟨b, off, none⟩ else ⟨b, off + 1, none⟩)) zs.length (cap - 1)) w := by
    rw [run_sliceAt_slice (w := w) t _ _ _ _ ht', run_slice_l (w := w) t (some ⟨b, off, none⟩) (zs.length + 1) cap ht' .i64 1 (by omega) (by omega), hel]
    have hs : (sizeOf 3).run P w = .ok 1 w := by simp [sizeOf, typeInfo, hi, h1]
    rw [hs]
    simp only [Result.andThen, sliced]
    by_cases e : cap = 1
    · simp [e]
    · have : ¬ cap = (1 : Int).toNat := e
      simp only [Option.map, if_neg e, Addr.add_mid, if_neg this]
      rfl
  have e1 : a.eval (.const (.int .i64 1)) = .int .i64 1 := rfl
  unfold Oper.wp
  simp only [execOp, hop, hx, Option.map, e1, Sem.run_bind, hrun, Result.andThen]
  exact hK' _ _ (hK _ hq)
end
section
variable {w : World} {base : Nat} {v : Value} {zs : List Int}
theorem IQ.len (h : IQ w base v zs) : (match v with | .slice _ n _ => n | _ => 0) = zs.length := by
  obtain ⟨ao, c, rfl⟩ := h.form
  rfl
end

/-! Which triangles of a vertex are connected. -/
def hasV (t : Tr) (x : Int) : Prop := x = t.1 ∨ x = t.2.1 ∨ x = t.2.2
def adjV (T : List Tr) (v : Int) (i k : Nat) : Prop := ∃ a b x, T[i]? = some a ∧ T[k]? = some b ∧ x ≠ v ∧ hasV a x ∧ hasV b x
def ConnV (T : List Tr) (v : Int) (l : List Nat) : Prop := ∀ S : Nat → Prop, (∀ i, l.head? = some i → S i) → (∀ i ∈ l, ∀ k ∈ l, S i → adjV T v i k → S k) → ∀ k ∈ l, S k
theorem mem_keys {R : List Nat} {k : Nat} : (Value.int .i64 (k : Int)) ∈ intsV (R.map fun i : Nat => (i : Int)) ↔ k ∈ R := by
  simp only [intsV, List.mem_map, Value.int.injEq, true_and]
  constructor
  · rintro ⟨a, ⟨b, hb, rfl⟩, e⟩
    have : b = k := by omega
    rw [← this]
    exact hb
  · intro h
    exact ⟨_, ⟨k, h, rfl⟩, rfl⟩
def nats (l : List Nat) : List Int := l.map fun i : Nat => (i : Int)
theorem nats_length (l : List Nat) : (nats l).length = l.length := by simp [nats]
/-- What the ends know: at a vertex the triangles that have it. -/
def Ends (f : Value → List Int) (pre : List (Int × Nat)) : Prop := ∀ x : Int, ∃ l : List Nat, f (.int .i64 x) = nats l ∧ (∀ k, k ∈ l ↔ (x, k) ∈ pre) ∧ l.length ≤ pre.length
theorem Ends.nil : Ends (fun _ => []) [] := fun x => ⟨[], rfl, by simp, by simp⟩
theorem Ends.put {f : Value → List Int} {pre : List (Int × Nat)} (h : Ends f pre) (x : Int) (i : Nat) : Ends (upd f (.int .i64 x) (f (.int .i64 x) ++ [(i : Int)])) (pre ++ [(x, i)]) := by
  intro y
  obtain ⟨l, h1, h2, h3⟩ := h y
  by_cases e : y = x
  · subst e
    rw [upd_same]
    refine ⟨l ++ [i], by rw [h1]; simp [nats], fun k => ?_, by simp; exact h3⟩
    simp only [List.mem_append, h2, List.mem_singleton, Prod.mk.injEq, true_and]
  · rw [upd_other (by simpa using e)]
    refine ⟨l, h1, fun k => ?_, by simp; omega⟩
    simp only [List.mem_append, h2, List.mem_singleton, Prod.mk.injEq, e, false_and, or_false]
/-- What one triangle adds. -/
def tells (v : Int) (t : Tr) (i : Nat) : List (Int × Nat) := ([t.1, t.2.1, t.2.2].filter (· != v)).map fun x => (x, i)
def told (T : List Tr) (v : Int) (l : List Nat) : List (Int × Nat) := l.flatMap fun i => tells v (T[i]?.getD (0, 0, 0)) i
theorem told_snoc (T : List Tr) (v : Int) (l : List Nat) (i : Nat) : told T v (l ++ [i]) = told T v l ++ tells v (T[i]?.getD (0, 0, 0)) i := by simp [told]
theorem tells_length (v : Int) (t : Tr) (i : Nat) : (tells v t i).length ≤ 3 := by
  unfold tells
  rw [List.length_map]
  have := List.length_filter_le (· != v) [t.1, t.2.1, t.2.2]
  simpa using this
theorem told_mem {T : List Tr} {v : Int} {l : List Nat} {x : Int} {k : Nat} : (x, k) ∈ told T v l ↔ k ∈ l ∧ x ≠ v ∧ hasV (T[k]?.getD (0, 0, 0)) x := by
  simp only [told, tells, List.mem_flatMap, List.mem_map, List.mem_filter, List.mem_cons, List.not_mem_nil, or_false, Prod.mk.injEq, bne_iff_ne, hasV]
  constructor
  · rintro ⟨i, hi, y, ⟨hy, hn⟩, rfl, rfl⟩
    exact ⟨hi, hn, hy⟩
  · rintro ⟨hk, hn, hx⟩
    exact ⟨k, hk, x, ⟨hx, hn⟩, rfl, rfl⟩

/-- The search: what was reached, and what of it waits. -/
structure Bfs (T : List Tr) (v : Int) (l R Q : List Nat) : Prop where
  le : Q.length ≤ R.length
  nd : R.Nodup
  sub : ∀ k ∈ R, k ∈ l
  wait : ∀ k ∈ Q, k ∈ R
  head : ∀ i, l.head? = some i → i ∈ R
  done : ∀ i ∈ R, i ∉ Q → ∀ k ∈ l, adjV T v i k → k ∈ R
  reach : ∀ S : Nat → Prop, (∀ i, l.head? = some i → S i) → (∀ i ∈ l, ∀ k ∈ l, S i → adjV T v i k → S k) → ∀ k ∈ R, S k
theorem Bfs.start {T : List Tr} {v : Int} {l : List Nat} {i : Nat} (h : l.head? = some i) : Bfs T v l [i] [i] where
  le := by simp
  nd := by simp
  sub := by
    intro k hk
    rw [List.mem_singleton.1 hk]
    exact List.mem_of_mem_head? h
  wait := fun k hk => hk
  head := by
    intro j hj
    rw [h] at hj
    cases hj
    simp
  done := fun j hj hn => absurd hj hn
  reach := by
    intro S h1 _ k hk
    rw [List.mem_singleton.1 hk]
    exact h1 i h
theorem nodup_full {R l : List Nat} (hn : R.Nodup) (hs : ∀ x ∈ R, x ∈ l) (hl : l.length ≤ R.length) : ∀ x ∈ l, x ∈ R := by
  intro x hx
  refine Classical.byContradiction fun hne => ?_
  have h2 := Jor.nodup_le (l := x :: R) (m := l) (List.nodup_cons.2 ⟨hne, hn⟩) (fun y hy => by
    rcases List.mem_cons.1 hy with rfl | hy
    · exact hx
    · exact hs y hy)
  simp only [List.length_cons] at h2
  omega
theorem Bfs.finish {T : List Tr} {v : Int} {l R : List Nat} (h : Bfs T v l R []) (hl : l.Nodup) : R.length = l.length ↔ ConnV T v l := by
  have hle : R.length ≤ l.length := Jor.nodup_le h.nd h.sub
  constructor
  · intro he S h1 h2 k hk
    exact h.reach S h1 h2 k (nodup_full h.nd h.sub (by omega) k hk)
  · intro hc
    have hall := hc (fun k => k ∈ R) h.head (fun i _ k hk hiR ha => h.done i hiR (by simp) k hk ha)
    have := Jor.nodup_le hl hall
    omega
/-- In the midst of one triangle: its vertices C are done. -/
structure BfsAt (T : List Tr) (v : Int) (l R Q : List Nat) (i : Nat) (C : List Int) : Prop where
  le : Q.length ≤ R.length
  nd : R.Nodup
  sub : ∀ k ∈ R, k ∈ l
  wait : ∀ k ∈ Q, k ∈ R
  head : ∀ i, l.head? = some i → i ∈ R
  cur : i ∈ R
  done : ∀ j ∈ R, j ∉ Q → j ≠ i → ∀ k ∈ l, adjV T v j k → k ∈ R
  part : ∀ k ∈ l, ∀ b, T[k]? = some b → ∀ x ∈ C, x ≠ v → hasV b x → k ∈ R
  reach : ∀ S : Nat → Prop, (∀ i, l.head? = some i → S i) → (∀ i ∈ l, ∀ k ∈ l, S i → adjV T v i k → S k) → ∀ k ∈ R, S k
theorem Bfs.pop {T : List Tr} {v : Int} {l R Q : List Nat} {i : Nat} (h : Bfs T v l R (i :: Q)) : BfsAt T v l R Q i [] where
  le := by have := h.le; simp at this; omega
  nd := h.nd
  sub := h.sub
  wait := fun k hk => h.wait k (List.mem_cons_of_mem _ hk)
  head := h.head
  cur := h.wait i (List.mem_cons_self ..)
  done := fun j hj hn hne k hk ha => h.done j hj (fun hm => by rcases List.mem_cons.1 hm with e | hm; exact hne e; exact hn hm) k hk ha
  part := fun k _ b _ x hx => by cases hx
  reach := h.reach
theorem BfsAt.add {T : List Tr} {v : Int} {l R Q : List Nat} {i k : Nat} {C : List Int} (h : BfsAt T v l R Q i C) (hk : k ∈ l) (hn : k ∉ R) (ha : adjV T v i k) : BfsAt T v l (R ++ [k]) (Q ++ [k]) i C where
  le := by have := h.le; simp; exact this
  nd := by
    rw [List.nodup_append]
    exact ⟨h.nd, by simp, fun a ha b hb e => by rw [List.mem_singleton.1 hb] at e; exact hn (by rw [← e]; exact ha)⟩
  sub := fun x hx => by
    rcases List.mem_append.1 hx with hx | hx
    · exact h.sub x hx
    · rw [List.mem_singleton.1 hx]; exact hk
  wait := fun x hx => by
    rcases List.mem_append.1 hx with hx | hx
    · exact List.mem_append_left _ (h.wait x hx)
    · exact List.mem_append_right _ hx
  head := fun j hj => List.mem_append_left _ (h.head j hj)
  cur := List.mem_append_left _ h.cur
  done := fun j hj hq hne x hx hax => by
    rcases List.mem_append.1 hj with hj | hj
    · exact List.mem_append_left _ (h.done j hj (fun hm => hq (List.mem_append_left _ hm)) hne x hx hax)
    · exact absurd (List.mem_append_right _ hj) hq
  part := fun x hx b hb y hy hyv hyb => List.mem_append_left _ (h.part x hx b hb y hy hyv hyb)
  reach := fun S h1 h2 x hx => by
    rcases List.mem_append.1 hx with hx | hx
    · exact h.reach S h1 h2 x hx
    · rw [List.mem_singleton.1 hx]
      exact h2 i (h.sub i h.cur) k hk (h.reach S h1 h2 i h.cur) ha
theorem BfsAt.skip {T : List Tr} {v : Int} {l R Q : List Nat} {i : Nat} {C : List Int} (h : BfsAt T v l R Q i C) : BfsAt T v l R Q i (C ++ [v]) := ⟨h.le, h.nd, h.sub, h.wait, h.head, h.cur, h.done, fun k hk b hb x hx hxv hxb => by
  rcases List.mem_append.1 hx with hx | hx
  · exact h.part k hk b hb x hx hxv hxb
  · exact absurd (List.mem_singleton.1 hx) hxv, h.reach⟩
theorem BfsAt.over {T : List Tr} {v : Int} {l R Q : List Nat} {i : Nat} {C : List Int} {y : Int} (h : BfsAt T v l R Q i C) (hy : ∀ k ∈ l, ∀ b, T[k]? = some b → hasV b y → k ∈ R) : BfsAt T v l R Q i (C ++ [y]) := ⟨h.le, h.nd, h.sub, h.wait, h.head, h.cur, h.done, fun k hk b hb x hx hxv hxb => by
  rcases List.mem_append.1 hx with hx | hx
  · exact h.part k hk b hb x hx hxv hxb
  · rw [List.mem_singleton.1 hx] at hxb
    exact hy k hk b hb hxb, h.reach⟩
theorem BfsAt.finish {T : List Tr} {v : Int} {l R Q : List Nat} {i : Nat} {x y z : Int} (h : BfsAt T v l R Q i [x, y, z]) (ht : T[i]? = some (x, y, z)) : Bfs T v l R Q where
  le := h.le
  nd := h.nd
  sub := h.sub
  wait := h.wait
  head := h.head
  done := fun j hj hq k hk ha => by
    by_cases e : j = i
    · subst e
      obtain ⟨a, b, u, h1, h2, h3, h4, h5⟩ := ha
      rw [ht] at h1
      cases h1
      refine h.part k hk b h2 u ?_ h3 h5
      rcases h4 with rfl | rfl | rfl <;> simp
    · exact h.done j hj hq e k hk ha
  reach := h.reach
def sliceLen : Value → Nat
  | .slice _ n _ => n
  | _ => 0
end Go.Proofs.Ytghlnknncahkgaa
