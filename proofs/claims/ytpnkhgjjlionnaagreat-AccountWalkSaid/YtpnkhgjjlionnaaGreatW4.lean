/-
  Texts joined by program, what the law uses alone: Tab Is New OfM Of WkJ WkK WkE Eul.
-/
import Derived.Deep.QuietTactic
import Derived.BigQuiet
import Derived.Deep.DeepCutAuto
import Derived.BigRegion
import Derived.RegionTactic
import Derived.Deep.Onto
import Derived.Test.YtpnkhgjjlionnaaGreatW3
import Derived.Test.YtpnkhgjjlionnaaGreatW2
import Derived.Test.YtpnkhgjjlionnaaGreatW1
namespace Go.Proofs.YtpnkhgjjlionnaaGreat
open Go.RowKit Go.Maps

/-! What a table tells, in plain words. -/
def triAt (T : List Tr) (c : Nat) : Tr := T[c / 3]?.getD (0, 0, 0)
def vertN (T : List Tr) (c : Nat) : Int := if c % 3 = 0 then (triAt T c).1 else if c % 3 = 1 then (triAt T c).2.1 else (triAt T c).2.2
def hasC (T : List Tr) (c : Int) : Bool := decide (0 ≤ c ∧ c < 3 * T.length)
def vertI (T : List Tr) (c : Int) : Int := if hasC T c = true then vertN T c.toNat else -1
def nextI (T : List Tr) (c : Int) : Int := if hasC T c = true then (Jor.nx c.toNat : Nat) else -1
def prevI (T : List Tr) (c : Int) : Int := if hasC T c = true then (Jor.pv c.toNat : Nat) else -1
def edgeI (T : List Tr) (c : Int) : Int × Int := (vertI T (nextI T c), vertI T (prevI T c))
def edgeN (T : List Tr) (c : Nat) : Int × Int := (vertN T (Jor.nx c), vertN T (Jor.pv c))
/-- The first corner from c on that faces an edge; that has a vertex. -/
def facFrom (T : List Tr) (c : Nat) (e : Int × Int) : Option Nat := (List.range' c (3 * T.length - c)).find? fun d => edgeN T d == e
def fstFrom (T : List Tr) (c : Nat) (v : Int) : Option Nat := (List.range' c (3 * T.length - c)).find? fun d => vertN T d == v
def facI (T : List Tr) (e : Int × Int) : Int := match facFrom T 0 e with
  | some c => (c : Int)
  | none => -1
def oppI (T : List Tr) (c : Int) : Int := facI T ((edgeI T c).2, (edgeI T c).1)
open Classical in
/-- The faces as a map holds them. -/
noncomputable def facMap (T : List Tr) (c : Nat) : Value → Option Value := fun y => if h : ∃ e, y = pairV e then (facFrom T c h.choose).map (fun d : Nat => Value.int .i64 (d : Int)) else none
theorem pairV_inj {a b : Int × Int} (h : pairV a = pairV b) : a = b := by
  obtain ⟨a1, a2⟩ := a
  obtain ⟨b1, b2⟩ := b
  simpa [pairV] using h
theorem facMap_at (T : List Tr) (c : Nat) (e : Int × Int) : facMap T c (pairV e) = (facFrom T c e).map (fun d : Nat => Value.int .i64 (d : Int)) := by
  unfold facMap
  have h : ∃ e', pairV e = pairV e' := ⟨e, rfl⟩
  rw [dif_pos h]
  have := pairV_inj h.choose_spec
  rw [← this]
def fsts (N : Int) (T : List Tr) (c : Nat) : List Int := (List.range N.toNat).map fun v : Nat => ((fstFrom T c v).getD 0 : Int)

theorem arrEdge : WideMaps.ArrKey Tryz.prog 75 3 2 := ⟨Tryz.underlying75, by kernel_rfl, by kernel_rfl, by kernel_rfl⟩
/-- Block g is a table, its triangles can be read. -/
structure TabS (w : World) (g : Nat) (N : Int) (T : List Tr) : Prop where
  ex : ∃ vT m vF, Blk w g 73 #[.int .i64 N, vT, .map (some m), vF] ∧ TrisRd w vT T
  n0 : 0 ≤ N
  n1 : N ≤ 4096
  len : T.length ≤ 8192
  inr : ∀ t ∈ T, 0 ≤ t.1 ∧ t.1 < N ∧ 0 ≤ t.2.1 ∧ t.2.1 < N ∧ 0 ≤ t.2.2 ∧ t.2.2 < N
/-- Block g is the table of a surface. -/
structure Tab (w : World) (g : Nat) (N : Int) (T : List Tr) : Prop extends TabS w g N T where
  tx : ∃ vT m vF, Blk w g 73 #[.int .i64 N, vT, .map (some m), vF] ∧ TrisRd w vT T ∧ MapP Tryz.prog 75 w m (facMap T 0) ∧ IntsRd w vF (fsts N T 0)
theorem IntsRd.below {w w' : World} {v : Value} {xs : List Int} (h : IntsRd w v xs) (hb : Below w.heap.size w w') : IntsRd w' v xs := by
  obtain ⟨a, c, rfl, h1, h2⟩ := h
  refine ⟨a, c, rfl, h1, fun k x hk => ?_⟩
  obtain ⟨b, o, rfl, hl, hc⟩ := h2 k x hk
  exact ⟨b, o, rfl, Nat.lt_of_lt_of_le hl hb.size, (hb.cell (p := ⟨b, _, none⟩) hl).trans hc⟩
theorem TabS.below {w w' : World} {g : Nat} {N : Int} {T : List Tr} (h : TabS w g N T) (hb : Below w.heap.size w w') : TabS w' g N T := by
  obtain ⟨⟨vT, m, vF, h1, h2⟩, a, b, c, d⟩ := h
  exact ⟨⟨vT, m, vF, h1.below hb h1.lt, h2.below hb⟩, a, b, c, d⟩
theorem Tab.below {w w' : World} {g : Nat} {N : Int} {T : List Tr} (h : Tab w g N T) (hb : Below w.heap.size w w') : Tab w' g N T := by
  obtain ⟨hs, ⟨vT, m, vF, h1, h2, h3, h4⟩⟩ := h
  exact ⟨hs.below hb, ⟨vT, m, vF, h1.below hb h1.lt, h2.below hb, h3.below hb h3.lt, h4.below hb⟩⟩
theorem TabS.alloc {w : World} {g : Nat} {N : Int} {T : List Tr} (h : TabS w g N T) (o : Obj) : TabS (w.alloc o) g N T := h.below ((Below.refl _ _).alloc (Nat.le_refl _) _)
theorem Tab.alloc {w : World} {g : Nat} {N : Int} {T : List Tr} (h : Tab w g N T) (o : Obj) : Tab (w.alloc o) g N T := h.below ((Below.refl _ _).alloc (Nat.le_refl _) _)
theorem TabS.drew {w : World} {g : Nat} {N : Int} {T : List Tr} (h : TabS w g N T) : TabS w.drew g N T := h.below (Below.refl _ _).drew
theorem TabS.lt {w : World} {g : Nat} {N : Int} {T : List Tr} (h : TabS w g N T) : g < w.heap.size := by
  obtain ⟨vT, m, vF, h1, _⟩ := h.ex
  exact h1.lt
theorem vertN_in {T : List Tr} {N : Int} (h : ∀ t ∈ T, 0 ≤ t.1 ∧ t.1 < N ∧ 0 ≤ t.2.1 ∧ t.2.1 < N ∧ 0 ≤ t.2.2 ∧ t.2.2 < N) {c : Nat} (hc : c < 3 * T.length) : 0 ≤ vertN T c ∧ vertN T c < N := by
  have hk : c / 3 < T.length := by omega
  have := h T[c / 3] (List.getElem_mem _)
  unfold vertN triAt
  rw [List.getElem?_eq_getElem hk]
  simp only [Option.getD_some]
  split
  · exact ⟨this.1, this.2.1⟩
  · split
    · exact ⟨this.2.2.1, this.2.2.2.1⟩
    · exact ⟨this.2.2.2.2.1, this.2.2.2.2.2⟩
theorem vertI_bd {T : List Tr} {N : Int} (h : ∀ t ∈ T, 0 ≤ t.1 ∧ t.1 < N ∧ 0 ≤ t.2.1 ∧ t.2.1 < N ∧ 0 ≤ t.2.2 ∧ t.2.2 < N) (hN : 0 ≤ N) (c : Int) : -1 ≤ vertI T c ∧ vertI T c ≤ N := by
  unfold vertI hasC
  split
  · rename_i hc
    simp at hc
    have := vertN_in h (c := c.toNat) (by omega)
    omega
  · omega
theorem hasC_true {T : List Tr} {c : Int} (h0 : 0 ≤ c) (h1 : c < 3 * T.length) : hasC T c = true := by simp [hasC, h0, h1]
set_option maxRecDepth 100000 in
theorem has_any (g : Nat) (N c : Int) (T : List Tr) (w : World) (h : TabS w g N T) : Calls Tryz.prog 54 #[.pointer (some ⟨g, 0, none⟩), .int .i64 c] w fun e w' => e = .returned (.bool (hasC T c)) ∧ w = w' := by
  obtain ⟨⟨vT, m, vF, h1, ⟨a, cT, rfl, hc1, hc2, _⟩⟩, _, _, hl, _⟩ := h
  obtain ⟨lg, x0, -, x1, -⟩ : g < w.heap.size ∧ w.cell? ⟨g, 0, none⟩ = some (.int .i64 N) ∧ w.frozen? ⟨g, 0, none⟩ = false ∧ w.cell? ⟨g, 1, none⟩ = some (.slice a T.length cT) ∧ w.frozen? ⟨g, 1, none⟩ = false := ⟨h1.lt, h1.cell 0, h1.frozen 0, h1.cell 1, h1.frozen 1⟩
  obtain ⟨n, hn⟩ : ∃ n, T.length = n := ⟨_, rfl⟩
  unfold hasC
  rw [hn] at x1 hl ⊢
  clear hn h1
  by_cases c0 : 0 ≤ c
  · by_cases c1 : c < 3 * n
    · have hp : decide (0 ≤ c ∧ c < 3 * (n : Int)) = true := by simp [c0, c1]
      rw [hp]
      clear hp
      go_enter Tryz.func54, Tryz.ntmps54
      go_wp2
      go_ret
      exact ⟨by simp, rfl⟩
    · have hp : decide (0 ≤ c ∧ c < 3 * (n : Int)) = false := by simp [c0]; omega
      have hd : decide (c < 3 * (n : Int)) = false := by simpa using c1
      rw [hp]
      clear hp c1
      go_enter Tryz.func54, Tryz.ntmps54
      go_wp2
      go_ret
      exact ⟨by simp, rfl⟩
  · have hp : decide (0 ≤ c ∧ c < 3 * (n : Int)) = false := by simp; omega
    have hd : decide (0 ≤ c) = false := by simpa using c0
    rw [hp]
    clear hp c0
    go_enter Tryz.func54, Tryz.ntmps54
    go_wp2
    go_ret
    exact ⟨by simp, rfl⟩
theorem hasC_nat {T : List Tr} {c : Int} (h : hasC T c = true) : ∃ n : Nat, c = n ∧ n < 3 * T.length := by
  simp [hasC] at h
  exact ⟨c.toNat, by omega, by omega⟩
set_option maxRecDepth 100000 in
set_option maxHeartbeats 1000000 in
theorem vertex_any (g : Nat) (N c : Int) (T : List Tr) (w : World) (h : TabS w g N T) : Calls Tryz.prog 22 #[.pointer (some ⟨g, 0, none⟩), .int .i64 c] w fun e w' => e = .returned (.int .i64 (vertI T c)) ∧ w = w' := by
  have H := Lib.hid (has_any g N c T w h)
  cases hc : hasC T c with
  | false =>
    have hv : vertI T c = -1 := by simp [vertI, hc]
    have Hc := Lib.hid hc
    rw [hv]
    clear hv hc h
    go_enter Tryz.func22, Tryz.ntmps22
    go_wp2_with fail
    refine H.out.mono ?_
    rw [Hc.out]
    rintro e w' ⟨rfl, rfl⟩
    go_wp2
    go_ret
    exact ⟨by simp, rfl⟩
  | true =>
    obtain ⟨n, rfl, hn⟩ := hasC_nat hc
    obtain ⟨⟨vT, m, vF, h1, ⟨a, cT, rfl, hc1, hc2, hr⟩⟩, _, _, hl, _⟩ := h
    obtain ⟨lg, x0, -, x1, -⟩ : g < w.heap.size ∧ w.cell? ⟨g, 0, none⟩ = some (.int .i64 N) ∧ w.frozen? ⟨g, 0, none⟩ = false ∧ w.cell? ⟨g, 1, none⟩ = some (.slice a T.length cT) ∧ w.frozen? ⟨g, 1, none⟩ = false := ⟨h1.lt, h1.cell 0, h1.frozen 0, h1.cell 1, h1.frozen 1⟩
    have hk : n / 3 < T.length := by omega
    obtain ⟨t, ht⟩ : ∃ t, T[n / 3]? = some t := ⟨T[n / 3], List.getElem?_eq_getElem _⟩
    obtain ⟨x, y, z⟩ := t
    obtain ⟨b, o, rfl, hbl, s0, s1, s2⟩ := hr _ x y z ht
    have hv : vertI T (n : Int) = if n % 3 = 0 then x else if n % 3 = 1 then y else z := by simp [vertI, hc, vertN, triAt, ht]
    have Hc := Lib.hid hc
    obtain ⟨L, hL⟩ : ∃ L, T.length = L := ⟨_, rfl⟩
    obtain ⟨k, hkk⟩ : ∃ k, n / 3 = k := ⟨_, rfl⟩
    rw [hL] at x1 hk
    rw [hkk] at hk s0 s1 s2
    rw [hv]
    have e1 : (n : Int) / 3 = (k : Int) := by omega
    have hb0 : (0 : Int) ≤ (n : Int) := by omega
    have hb1 : (n : Int) ≤ 100000 := by omega
    have hk3 : (k : Int) < (L : Int) := by omega
    have hi : n % 3 = 0 ∨ n % 3 = 1 ∨ n % 3 = 2 := by omega
    clear hv hc h1 hr ht hL
    rcases hi with hi | hi | hi
    · have e2 : (n : Int) % 3 = 0 := by omega
      rw [hi]
      clear hkk hi hn
      go_enter Tryz.func22, Tryz.ntmps22
      go_wp2_with fail
      refine H.out.mono ?_
      rw [Hc.out]
      rintro e w' ⟨rfl, rfl⟩
      go_wp2
      go_ret
      exact ⟨by simp, rfl⟩
    · have e2 : (n : Int) % 3 = 1 := by omega
      rw [hi]
      clear hkk hi hn
      go_enter Tryz.func22, Tryz.ntmps22
      go_wp2_with fail
      refine H.out.mono ?_
      rw [Hc.out]
      rintro e w' ⟨rfl, rfl⟩
      go_wp2
      go_ret
      exact ⟨by simp, rfl⟩
    · have e2 : (n : Int) % 3 = 2 := by omega
      rw [hi]
      clear hkk hi hn
      go_enter Tryz.func22, Tryz.ntmps22
      go_wp2_with fail
      refine H.out.mono ?_
      rw [Hc.out]
      rintro e w' ⟨rfl, rfl⟩
      go_wp2
      go_ret
      exact ⟨by simp, rfl⟩

set_option maxRecDepth 100000 in
theorem turned_any (c b : Int) (w : World) (hc : 0 ≤ c ∧ c ≤ 1000000) (hb : 0 ≤ b ∧ b ≤ 2) : Calls Tryz.prog 55 #[.int .i64 c, .int .i64 b] w fun e w' => e = .returned (.int .i64 (c - c % 3 + (c + b) % 3)) ∧ w = w' := by
  obtain ⟨c0, c1⟩ := hc
  obtain ⟨b0, b1⟩ := hb
  have m0 := Int.emod_nonneg c (show (3 : Int) ≠ 0 by decide)
  have m1 := Int.emod_lt_of_pos c (show (0 : Int) < 3 by decide)
  have m2 := Int.emod_nonneg (c + b) (show (3 : Int) ≠ 0 by decide)
  have m3 := Int.emod_lt_of_pos (c + b) (show (0 : Int) < 3 by decide)
  go_enter Tryz.func55, Tryz.ntmps55
  go_wp2
  go_ret
  exact ⟨rfl, rfl⟩
theorem nx_int (n : Nat) : ((n : Int) - (n : Int) % 3 + ((n : Int) + 1) % 3) = ((Jor.nx n : Nat) : Int) := by unfold Jor.nx; omega
theorem pv_int (n : Nat) : ((n : Int) - (n : Int) % 3 + ((n : Int) + 2) % 3) = ((Jor.pv n : Nat) : Int) := by unfold Jor.pv; omega
set_option maxRecDepth 100000 in
theorem next_any (g : Nat) (N c : Int) (T : List Tr) (w : World) (h : TabS w g N T) : Calls Tryz.prog 23 #[.pointer (some ⟨g, 0, none⟩), .int .i64 c] w fun e w' => e = .returned (.int .i64 (nextI T c)) ∧ w = w' := by
  have H := Lib.hid (has_any g N c T w h)
  have hl := h.len
  cases hc : hasC T c with
  | false =>
    have hv : nextI T c = -1 := by simp [nextI, hc]
    have Hc := Lib.hid hc
    rw [hv]
    clear hv hc h
    go_enter Tryz.func23, Tryz.ntmps23
    go_wp2_with fail
    refine H.out.mono ?_
    rw [Hc.out]
    rintro e w' ⟨rfl, rfl⟩
    go_wp2
    go_ret
    exact ⟨by simp, rfl⟩
  | true =>
    obtain ⟨n, rfl, hn⟩ := hasC_nat hc
    have hv : nextI T (n : Int) = ((Jor.nx n : Nat) : Int) := by simp [nextI, hc]
    have Hc := Lib.hid hc
    have HT := Lib.hid (turned_any (n : Int) 1 w ⟨by omega, by omega⟩ (by decide))
    rw [hv, ← nx_int]
    generalize hz : ((n : Int) - (n : Int) % 3 + ((n : Int) + 1) % 3) = z at HT
    clear hv hc h hl hn
    clear hz
    go_enter Tryz.func23, Tryz.ntmps23
    go_wp2_with fail
    refine H.out.mono ?_
    rw [Hc.out]
    rintro e w' ⟨rfl, rfl⟩
    go_wp2_with fail
    refine HT.out.mono ?_
    rintro e w' ⟨rfl, rfl⟩
    go_wp2
    go_ret
    exact ⟨rfl, rfl⟩
set_option maxRecDepth 100000 in
theorem prev_any (g : Nat) (N c : Int) (T : List Tr) (w : World) (h : TabS w g N T) : Calls Tryz.prog 24 #[.pointer (some ⟨g, 0, none⟩), .int .i64 c] w fun e w' => e = .returned (.int .i64 (prevI T c)) ∧ w = w' := by
  have H := Lib.hid (has_any g N c T w h)
  have hl := h.len
  cases hc : hasC T c with
  | false =>
    have hv : prevI T c = -1 := by simp [prevI, hc]
    have Hc := Lib.hid hc
    rw [hv]
    clear hv hc h
    go_enter Tryz.func24, Tryz.ntmps24
    go_wp2_with fail
    refine H.out.mono ?_
    rw [Hc.out]
    rintro e w' ⟨rfl, rfl⟩
    go_wp2
    go_ret
    exact ⟨by simp, rfl⟩
  | true =>
    obtain ⟨n, rfl, hn⟩ := hasC_nat hc
    have hv : prevI T (n : Int) = ((Jor.pv n : Nat) : Int) := by simp [prevI, hc]
    have Hc := Lib.hid hc
    have HT := Lib.hid (turned_any (n : Int) 2 w ⟨by omega, by omega⟩ (by decide))
    rw [hv, ← pv_int]
    generalize hz : ((n : Int) - (n : Int) % 3 + ((n : Int) + 2) % 3) = z at HT
    clear hv hc h hl hn
    clear hz
    go_enter Tryz.func24, Tryz.ntmps24
    go_wp2_with fail
    refine H.out.mono ?_
    rw [Hc.out]
    rintro e w' ⟨rfl, rfl⟩
    go_wp2_with fail
    refine HT.out.mono ?_
    rintro e w' ⟨rfl, rfl⟩
    go_wp2
    go_ret
    exact ⟨rfl, rfl⟩
theorem MapP.drewN {P : Program} {k : TypeId} {b : Nat} {w : World} {f : Value → Option Value} (h : MapP P k w b f) (n : Nat) : MapP P k (w.drewN n) b f := h
theorem below_drewN {B : Nat} {a w : World} (h : Below B a w) (n : Nat) : Below B a (w.drewN n) := ⟨h.os, h.tape, h.output, h.size, h.block⟩
theorem zero_int (w : World) : (zeroValue 3).run Tryz.prog w = .ok (.int .i64 0) w := by kernel_rfl
theorem wfV {x : Int} (h : -1 ≤ x ∧ x ≤ 10000) : (Lit.int .i64 x).wf = true := WalkArith.wf_i64 (by omega)
set_option maxRecDepth 100000 in
set_option maxHeartbeats 1000000 in
theorem edge_any (g : Nat) (N c : Int) (T : List Tr) (w : World) (h : TabS w g N T) : Calls Tryz.prog 33 #[.pointer (some ⟨g, 0, none⟩), .int .i64 c] w fun e w' => e = .returned (pairV (edgeI T c)) ∧ Below w.heap.size w w' := by
  have ht := h.alloc (.cells #[.int .i64 0, .int .i64 0] 75)
  have hB0 : Below w.heap.size w (w.alloc (.cells #[.int .i64 0, .int .i64 0] 75)) := (Below.refl _ _).alloc (Nat.le_refl _) _
  have HT := Lib.hid ht
  have HB0 := Lib.hid hB0
  unfold edgeI pairV
  simp only
  generalize hx : vertI T (nextI T c) = x
  generalize hy : vertI T (prevI T c) = y
  have HX := Lib.hid hx
  have HY := Lib.hid hy
  clear h ht hB0 hx hy
  go_enter Tryz.func33, Tryz.ntmps33
  go_wp2_with (first
    | (go_at_call 23; refine (next_any g N c T _ HT.out).mono ?_; rintro e w' ⟨rfl, rfl⟩)
    | (go_at_call 24; refine (prev_any g N c T _ HT.out).mono ?_; rintro e w' ⟨rfl, rfl⟩)
    | (go_at_call 22; refine (vertex_any g N _ T _ HT.out).mono ?_; rintro e w' ⟨rfl, rfl⟩))
  exact bodyPost_ret (v := .agg #[.int .i64 x, .int .i64 y]) (by simp [results, Tryz.results33, go_sem, HX.out, HY.out]) rfl ⟨rfl, (Below.refl _ _).alloc (Nat.le_refl _) _⟩
set_option maxRecDepth 100000 in
set_option maxHeartbeats 1000000 in
theorem facing_any (g : Nat) (N a b : Int) (T : List Tr) (w : World) (h : Tab w g N T) (ha : -1 ≤ a ∧ a ≤ 10000) (hb : -1 ≤ b ∧ b ≤ 10000) : Calls Tryz.prog 69 #[.pointer (some ⟨g, 0, none⟩), pairV (a, b)] w fun e w' => e = .returned (.int .i64 (facI T (a, b))) ∧ Below w.heap.size w w' := by
  obtain ⟨vT, m, vF, h1, _, h3, _⟩ := (h.alloc (.cells #[.int .i64 a, .int .i64 b] 75)).tx
  have hlk := fun nq => (h3.drewN nq).lookOk (t := 71) (Keyed.of_law arrEdge.law) Tryz.underlying71 (zero_int _) (WideMaps.keyOf_pair arrEdge Tryz.underlying3 types_succ (wfV ha) (wfV hb))
  have hg := h.lt
  rw [show (.agg #[.int .i64 a, .int .i64 b] : Value) = pairV (a, b) from rfl, facMap_at] at hlk
  unfold facI
  cases hf : facFrom T 0 (a, b) with
  | none =>
    rw [hf] at hlk
    simp only [Option.map_none, Option.getD_none, Option.isSome_none] at hlk
    have c1 := h1.cell 2
    clear h h1 h3 hf
    unfold pairV at hlk ⊢
    simp only at hlk ⊢
    go_enter Tryz.func69, Tryz.ntmps69
    go_wp2
    go_quiet (fail)
    go_wp2
    go_ret
    exact ⟨rfl, below_drewN (((Below.refl _ _).alloc (Nat.le_refl _) _)) _⟩
  | some d =>
    rw [hf] at hlk
    simp only [Option.map_some, Option.getD_some, Option.isSome_some] at hlk
    have c1 := h1.cell 2
    clear h h1 h3 hf
    unfold pairV at hlk ⊢
    simp only at hlk ⊢
    go_enter Tryz.func69, Tryz.ntmps69
    go_wp2
    go_quiet (fail)
    go_wp2
    go_ret
    exact ⟨rfl, below_drewN (((Below.refl _ _).alloc (Nat.le_refl _) _)) _⟩
theorem edgeI_bd {T : List Tr} {N : Int} (h : ∀ t ∈ T, 0 ≤ t.1 ∧ t.1 < N ∧ 0 ≤ t.2.1 ∧ t.2.1 < N ∧ 0 ≤ t.2.2 ∧ t.2.2 < N) (hN : 0 ≤ N) (h1 : N ≤ 4096) (c : Int) : (-1 ≤ (edgeI T c).1 ∧ (edgeI T c).1 ≤ 10000) ∧ -1 ≤ (edgeI T c).2 ∧ (edgeI T c).2 ≤ 10000 := by
  have a := vertI_bd h hN (nextI T c)
  have b := vertI_bd h hN (prevI T c)
  unfold edgeI
  simp only
  omega
set_option maxRecDepth 100000 in
set_option maxHeartbeats 1000000 in
theorem opp_any (g : Nat) (N c : Int) (T : List Tr) (w : World) (h : Tab w g N T) : Calls Tryz.prog 43 #[.pointer (some ⟨g, 0, none⟩), .int .i64 c] w fun e w' => e = .returned (.int .i64 (oppI T c)) ∧ Below w.heap.size w w' := by
  have H := Lib.hid (edge_any g N c T w h.toTabS)
  obtain ⟨⟨p0, p1⟩, p2, p3⟩ := edgeI_bd h.inr h.n0 h.n1 c
  unfold oppI
  generalize hx : edgeI T c = e at *
  obtain ⟨x, y⟩ := e
  simp only at p0 p1 p2 p3 ⊢
  have HF := Lib.hid (fun (W : World) (hw : Below w.heap.size w W) => facing_any g N y x T W (h.below hw) ⟨p2, p3⟩ ⟨p0, p1⟩)
  generalize facI T (y, x) = z at *
  clear h hx
  go_enter Tryz.func43, Tryz.ntmps43
  go_wp2_with fail
  refine H.out.mono ?_
  rintro e w1 ⟨rfl, hb1⟩
  have b1 := Blk.new w1 75 #[.int .i64 x, .int .i64 y]
  obtain ⟨l0, x0, -, x1, -⟩ := b1.two
  have hB1 := hb1.alloc hb1.size (.cells #[.int .i64 x, .int .i64 y] 75)
  have HB1 := Lib.hid hB1
  have H2 := Lib.hid (HF.out _ hB1)
  unfold pairV
  simp only
  clear b1 hB1 hb1 HF
  go_wp2_with fail
  refine H2.out.mono ?_
  rintro e w2 ⟨rfl, hb2⟩
  have HB2 := Lib.hid (HB1.out.trans (hb2.mono HB1.out.size))
  clear hb2 x0 x1 l0
  go_wp2
  go_ret
  exact ⟨rfl, HB2.out⟩
theorem oppI_bd (T : List Tr) (c : Int) : -1 ≤ oppI T c ∧ oppI T c < 3 * (T.length : Int) := by
  unfold oppI facI facFrom
  generalize ((edgeI T c).2, (edgeI T c).1) = e
  cases h : (List.range' 0 (3 * T.length - 0)).find? fun d => edgeN T d == e with
  | none => simp only; omega
  | some d =>
    have := List.mem_of_find?_eq_some h
    rw [List.mem_range'_1] at this
    simp only
    omega
/-- The least corner at a vertex, as the table tells it. -/
def cornI (N : Int) (T : List Tr) (v : Int) : Int := if 0 ≤ v ∧ v < N then ((fstFrom T 0 v).getD 0 : Nat) else -1
set_option maxRecDepth 100000 in
set_option maxHeartbeats 1000000 in
theorem corner_any (g : Nat) (N v : Int) (T : List Tr) (w : World) (h : Tab w g N T) : Calls Tryz.prog 42 #[.pointer (some ⟨g, 0, none⟩), .int .i64 v] w fun e w' => e = .returned (.int .i64 (cornI N T v)) ∧ w = w' := by
  have hn0 := h.n0
  have hn1 := h.n1
  obtain ⟨vT, m, vF, h1, _, _, ⟨a, cF, rfl, hl, hr⟩⟩ := h.tx
  obtain ⟨m, rfl⟩ : ∃ m : Nat, N = m := ⟨N.toNat, by omega⟩
  have hlen : (fsts (m : Int) T 0).length = m := by simp [fsts]
  rw [hlen] at h1 hl
  have x3 := h1.cell 3
  have lg := h1.lt
  unfold cornI
  by_cases v0 : 0 ≤ v
  · by_cases v1 : v < m
    · obtain ⟨u, rfl⟩ : ∃ u : Nat, v = u := ⟨v.toNat, by omega⟩
      have hu : (fsts (m : Int) T 0)[u]? = some (((fstFrom T 0 u).getD 0 : Nat) : Int) := by
        unfold fsts
        rw [List.getElem?_map, List.getElem?_range (by simpa using v1)]
        rfl
      obtain ⟨b, o, rfl, hbl, hc⟩ := hr u _ hu
      rw [if_pos ⟨v0, v1⟩]
      generalize ((fstFrom T 0 u).getD 0 : Nat) = z at *
      have hd : decide ((m : Int) ≤ (u : Int)) = false := by simp; omega
      have hd2 : decide ((u : Int) < 0) = false := by simp
      clear hr hlen hu h1
      go_enter Tryz.func42, Tryz.ntmps42
      go_wp2
      go_ret
      exact ⟨rfl, rfl⟩
    · have hd : decide ((m : Int) ≤ v) = true := by simp; omega
      have hd2 : decide (v < 0) = false := by simp; omega
      rw [if_neg (fun e => v1 e.2)]
      clear hr hlen h1 v1 v0
      go_enter Tryz.func42, Tryz.ntmps42
      go_wp2
      go_ret
      exact ⟨by simp, rfl⟩
  · have hd2 : decide (v < 0) = true := by simp; omega
    rw [if_neg (fun e => v0 e.1)]
    clear hr hlen h1 v0
    go_enter Tryz.func42, Tryz.ntmps42
    go_wp2
    go_ret
    exact ⟨by simp, rfl⟩
set_option maxRecDepth 100000 in
theorem vertices_any (g : Nat) (N : Int) (T : List Tr) (w : World) (h : TabS w g N T) : Calls Tryz.prog 44 #[.pointer (some ⟨g, 0, none⟩)] w fun e w' => e = .returned (.int .i64 N) ∧ w = w' := by
  obtain ⟨⟨vT, m, vF, h1, _⟩, _⟩ := h
  have x0 := h1.cell 0
  have lg := h1.lt
  clear h1
  go_enter Tryz.func44, Tryz.ntmps44
  go_wp2
  go_ret
  exact ⟨rfl, rfl⟩
set_option maxRecDepth 100000 in
theorem triangles_any (g : Nat) (N : Int) (T : List Tr) (w : World) (h : TabS w g N T) : Calls Tryz.prog 63 #[.pointer (some ⟨g, 0, none⟩)] w fun e w' => e = .returned (.int .i64 T.length) ∧ w = w' := by
  obtain ⟨⟨vT, m, vF, h1, ⟨a, cT, rfl, _⟩⟩, _, _, hl, _⟩ := h
  have x1 := h1.cell 1
  have lg := h1.lt
  clear h1
  go_enter Tryz.func63, Tryz.ntmps63
  go_wp2
  go_ret
  exact ⟨rfl, rfl⟩
end Go.Proofs.YtpnkhgjjlionnaaGreat
namespace Go.Proofs.YtpnkhgjjlionnaaGreat
open Go.RowKit

def witV (k a b : Int) : Value := .agg #[.int .i64 k, .int .i64 a, .int .i64 b]
set_option maxRecDepth 100000 in
set_option maxHeartbeats 1000000 in
theorem check_any (N : Int) (v : Value) (T : List Tr) (w : World) (h : TrisRd w v T) (hl : T.length ≤ 8192) : Calls Tryz.prog 31 #[.agg #[.int .i64 N, v]] w fun e w' => ∃ k a b : Int, e = .returned (witV k a b) ∧ ((Surf N T ∧ k = 0 ∧ a = 0 ∧ b = 0) ∨ (¬ Surf N T ∧ 1 ≤ k)) ∧ Below w.heap.size w w' := by
  have b1 := (Blk.new w 24 #[.int .i64 N, v]).alloc (.cells #[.int .i64 0, .int .i64 0, .int .i64 0] 35)
  have b2 := Blk.new (w.alloc (.cells #[.int .i64 N, v] 24)) 35 #[.int .i64 0, .int .i64 0, .int .i64 0]
  rw [size_alloc'] at b2
  have hB0 : Below w.heap.size w ((w.alloc (.cells #[.int .i64 N, v] 24)).alloc (.cells #[.int .i64 0, .int .i64 0, .int .i64 0] 35)) := ((Below.refl _ _).alloc (Nat.le_refl _) _).alloc (by rw [size_alloc']; omega) _
  obtain ⟨l0, x0, -, x1, -⟩ := b1.two
  have hA := all_any N v T ((w.alloc (.cells #[.int .i64 N, v] 24)).alloc (.cells #[.int .i64 0, .int .i64 0, .int .i64 0] 35)) (h.below hB0) hl
  have HA := Lib.hid hA
  clear h hA
  go_enter Tryz.func31, Tryz.ntmps31
  go_wp2_with fail
  refine HA.out.mono ?_
  rintro e w2 ⟨v', ws, rfl, hr, hi, hk, hb⟩
  obtain ⟨av, cv, rfl⟩ := ownsRow_slice hr
  have hB2 := hB0.trans (hb.mono hB0.size)
  have b3 := b2.below hb b2.lt
  obtain ⟨l3, y0, f0, y1, f1, y2, f2⟩ := b3.three
  have hsz2 := hb.size
  rw [size_alloc', size_alloc'] at hsz2 hr
  have hB3 : ∀ u0 u1 u2 : Value, Below w.heap.size w (((w2.setCell ⟨w.heap.size + 1, 0, none⟩ u0).setCell ⟨w.heap.size + 1, 1, none⟩ u1).setCell ⟨w.heap.size + 1, 2, none⟩ u2) := fun u0 u1 u2 => ((hB2.setCell (by simp) _).setCell (by simp) _).setCell (by simp) _
  have HB3 := Lib.hid hB3
  have b4 : ∀ u0 u1 u2 : Value, Blk (((w2.setCell ⟨w.heap.size + 1, 0, none⟩ u0).setCell ⟨w.heap.size + 1, 1, none⟩ u1).setCell ⟨w.heap.size + 1, 2, none⟩ u2) (w.heap.size + 1) 35 #[u0, u1, u2] := fun u0 u1 u2 => by
    have := ((b3.set_ 0 u0).set_ 1 u1).set_ 2 u2
    simpa using this
  have HB4 := Lib.hid b4
  clear b4
  cases ws with
  | nil =>
    have HS := Lib.hid (hi.1 rfl)
    clear hB3 hB2 hb b1 b2 x0 x1 l0 hi hk hr hB0
    rw [List.length_nil]
    go_wp2
    obtain ⟨z, z0, -, z1, -, z2, -⟩ := (HB4.out (.int .i64 0) (.int .i64 0) (.int .i64 0)).three
    exact bodyPost_ret (v := .agg #[.int .i64 0, .int .i64 0, .int .i64 0]) (by simp [results, Tryz.results31, go_sem, z0, z1, z2]) rfl ⟨0, 0, 0, rfl, .inl ⟨HS.out, rfl, rfl, rfl⟩, HB3.out _ _ _⟩
  | cons t r =>
    have HS := Lib.hid (fun hS => List.cons_ne_nil t r (hi.2 hS))
    have hk1 := hk t (by simp)
    obtain ⟨k, a, b⟩ := t
    rw [List.length_cons] at hr
    obtain ⟨g, cap, e0, hbg, hgl⟩ := hr.form (by omega)
    cases e0
    have c0 := hr.cellAt 0 (by omega)
    have c1 := hr.cellAt 1 (by omega)
    have c2 := hr.cellAt 2 (by omega)
    have d0 : (ws3 ((k, a, b) :: r))[0]? = some (.int .i64 k) := by simp [ws3, flatT]
    have d1 : (ws3 ((k, a, b) :: r))[1]? = some (.int .i64 a) := by simp [ws3, flatT]
    have d2 : (ws3 ((k, a, b) :: r))[2]? = some (.int .i64 b) := by simp [ws3, flatT]
    rw [d0] at c0
    rw [d1] at c1
    rw [d2] at c2
    clear hB3 hB2 hb b1 b2 x0 x1 l0 hi hk hr hB0 d0 d1 d2
    go_wp2
    obtain ⟨z, z0, -, z1, -, z2, -⟩ := (HB4.out (.int .i64 k) (.int .i64 a) (.int .i64 b)).three
    exact bodyPost_ret (v := .agg #[.int .i64 k, .int .i64 a, .int .i64 b]) (by simp [results, Tryz.results31, go_sem, z0, z1, z2]) rfl ⟨k, a, b, rfl, .inr ⟨HS.out, hk1⟩, HB3.out _ _ _⟩

end Go.Proofs.YtpnkhgjjlionnaaGreat
namespace Go.Proofs.YtpnkhgjjlionnaaGreat
open Go.RowKit Go.Maps

theorem infoTri : (Tryz.prog.info? 60).map (fun i => (i.zero, i.size, i.bytes)) = some (some (.agg #[.int .i64 0, .int .i64 0, .int .i64 0]), 3, 24) := by kernel_rfl
theorem ws3_len (T : List Tr) : (ws3 T).length = T.length * 3 := by simp [ws3, flatT_length]; omega
theorem TrisRd.of_row {w : World} {base : Nat} {v : Value} {T : List Tr} (h : w.ownsRow base 60 3 v T.length (ws3 T)) : TrisRd w v T := by
  rcases h.2 with ⟨rfl, h0⟩ | ⟨g, cap, cur, rfl, hb, hg, h1, h2, _⟩
  · rw [List.eq_nil_of_length_eq_zero h0]
    exact ⟨none, 0, rfl, by simp, by simp, fun k x y z hk => by simp at hk⟩
  · unfold maxLen at h2
    refine ⟨some ⟨g, 0, none⟩, cap, rfl, h1, by omega, fun k x y z hk => ?_⟩
    obtain ⟨d0, d1, d2⟩ := ws3_at hk
    have hk' := (List.getElem?_eq_some_iff.1 hk).1
    have hl := h.1
    refine ⟨g, 0, rfl, (Array.getElem?_eq_some_iff.1 hg).1, ?_, ?_, ?_⟩
    · rw [Nat.zero_add, h.cellAt _ (by omega)]; exact d0
    · rw [Nat.zero_add, h.cellAt _ (by omega)]; exact d1
    · rw [Nat.zero_add, h.cellAt _ (by omega)]; exact d2
theorem ws3_get {T : List Tr} {j : Nat} {u : Value} (h : (ws3 T)[j]? = some u) : ∃ k x y z, T[k]? = some (x, y, z) ∧ ((j = k * 3 ∧ u = .int .i64 x) ∨ (j = k * 3 + 1 ∧ u = .int .i64 y) ∨ (j = k * 3 + 2 ∧ u = .int .i64 z)) := by
  have hj := (List.getElem?_eq_some_iff.1 h).1
  rw [ws3_len] at hj
  have hk : j / 3 < T.length := by omega
  obtain ⟨t, ht⟩ : ∃ t, T[j / 3]? = some t := ⟨T[j / 3], List.getElem?_eq_getElem _⟩
  obtain ⟨x, y, z⟩ := t
  obtain ⟨d0, d1, d2⟩ := ws3_at ht
  refine ⟨j / 3, x, y, z, ht, ?_⟩
  have : j % 3 = 0 ∨ j % 3 = 1 ∨ j % 3 = 2 := by omega
  rcases this with e | e | e
  · have e1 : j = j / 3 * 3 := by omega
    rw [e1, d0] at h
    exact .inl ⟨e1, by cases h; rfl⟩
  · have e1 : j = j / 3 * 3 + 1 := by omega
    rw [e1, d1] at h
    exact .inr (.inl ⟨e1, by cases h; rfl⟩)
  · have e1 : j = j / 3 * 3 + 2 := by omega
    rw [e1, d2] at h
    exact .inr (.inr ⟨e1, by cases h; rfl⟩)
/-- The cells behind an address that triangles are read from. -/
theorem TrisRd.cells {w : World} {ad : Addr} {n c : Nat} {T : List Tr} (h : TrisRd w (.slice (some ad) n c) T) : ∀ j u, (ws3 T)[j]? = some u → w.cell? (ad.add j) = some u := by
  intro j u hu
  obtain ⟨a, c', e0, h1, h2, h3⟩ := h
  cases e0
  obtain ⟨k, x, y, z, hk, hj⟩ := ws3_get hu
  obtain ⟨b, o, e1, hl, s0, s1, s2⟩ := h3 k x y z hk
  cases e1
  rw [Addr.add_lit]
  rcases hj with ⟨rfl, rfl⟩ | ⟨rfl, rfl⟩ | ⟨rfl, rfl⟩
  · exact s0
  · exact s1
  · exact s2
set_option maxRecDepth 100000 in
set_option maxHeartbeats 1000000 in
theorem cloneT_any (v : Value) (T : List Tr) (w : World) (h : TrisRd w v T) (hl : T.length ≤ 100000) : Calls Tryz.prog 32 #[v] w fun e w' => ∃ v', e = .returned v' ∧ w'.ownsRow w.heap.size 60 3 v' T.length (ws3 T) ∧ Below w.heap.size w w' := by
  obtain ⟨i1, hi', hy0, hy1, hy2⟩ := info_parts infoTri
  have h0 := h
  obtain ⟨a, c, rfl, hc1, hc2, hr⟩ := h
  cases a with
  | none =>
    have hT : T = [] := by
      cases T with
      | nil => rfl
      | cons t r =>
        obtain ⟨x, y, z⟩ := t
        obtain ⟨b, o, e, _⟩ := hr 0 x y z rfl
        cases e
    subst hT
    have q := fun (W : World) => Lib.run_eql_slice_nil (P := Tryz.prog) W 22 60 none 0 c 0 0 Tryz.underlying22
    clear h0 hr
    go_enter Tryz.func32, Tryz.ntmps32
    go_wp2
    go_ret
    exact ⟨_, rfl, World.ownsRow_nil _ _ _ _, Below.refl _ _⟩
  | some ad =>
    have hcell := (h0.alloc (.cells #[] 60)).cells
    have HC := Lib.hid hcell
    have hrow := World.ownsRow_lit w (base := w.heap.size) (e := 60) (size := 3) #[] 0 (Nat.le_refl _) (by decide) rfl
    have HL := Lib.hid (ws3_len T)
    obtain ⟨n, hn⟩ : ∃ n, T.length = n := ⟨_, rfl⟩
    rw [hn] at hl hc1 HL ⊢
    have hb : Below w.heap.size w (w.alloc (.cells #[] 60)) := (Below.refl _ _).alloc (Nat.le_refl _) _
    have c3 : 0 + n ≤ maxLen := by unfold maxLen; omega
    have c4 : (0 + n) * 24 ≤ 140737488355328 := by omega
    have q := fun (W : World) => Lib.run_eql_slice_nil (P := Tryz.prog) W 22 60 (some ad) n c 0 0 Tryz.underlying22
    clear h0 hr hcell hn
    go_enter Tryz.func32, Tryz.ntmps32
    go_wp2_with (at_builtin; refine wpList_append_own _ rfl (.tmp 5) (.tmp 6) 22 rfl w.heap.size 60 i1 _ 3 24 Tryz.underlying22 hi' hy0 hy1 hy2 rfl (by decide) _ 0 [] rfl hrow ad n c (ws3 T) rfl HL.out HC.out (by intro u hu; simp only [ws3, List.mem_map] at hu; obtain ⟨x, _, rfl⟩ := hu; rfl) c3 c4 (by rw [size_alloc']; omega) ?_; intro v' w' h1' h2' _; have HW := Lib.hid h1')
    go_ret
    exact ⟨_, rfl, by have := HW.out; simpa using this, hb.grown h2' hb.size (fun j e => by have := (hrow.lt j e).1; omega)⟩

theorem blk_new_at {w : World} {g : Nat} {t : TypeId} {cs : Array Value} (h : w.heap.size = g) : Blk (w.alloc (.cells cs t)) g t cs := by
  subst h
  exact Blk.new w t cs
theorem mapP_new_at {P : Program} {k : TypeId} {w : World} {b : Nat} (h : w.heap.size = b) : MapP P k (w.alloc (.map #[] 0)) b (fun _ => none) := by
  subst h
  exact MapP.made w P k
theorem row_new_at {w : World} {base g m : Nat} (h : w.heap.size = g) (hb : base ≤ g) (hm : m ≤ maxLen) : (w.alloc (.cells (madeCells #[.int .i64 0] m) 3)).ownsRow base 3 1 (.slice (some ⟨g, 0, none⟩) m m) m (List.replicate m (.int .i64 0)) := by
  subst h
  refine ⟨by simp, .inr ⟨w.heap.size, m, _, rfl, hb, heap_alloc_new w _, Nat.le_refl _, hm, ?_, ?_⟩⟩
  · have := size_madeCells #[Value.int .i64 0] m
    simpa using this
  · rw [toList_madeCells_one]
    simp
theorem own_drew {w : World} {base n s : Nat} {e : TypeId} {v : Value} {xs : List Value} (h : w.ownsRow base e s v n xs) : w.drew.ownsRow base e s v n xs := h
theorem own_below {w w' : World} {base n s : Nat} {e : TypeId} {v : Value} {xs : List Value} (h : w.ownsRow base e s v n xs) (hb : Below w.heap.size w w') : w'.ownsRow base e s v n xs :=
  h.kept (grown_of_below hb none) (by cases e : v.ownBlock; exact .inl rfl; exact .inr (by simp))
/-- The table as it is made: no face yet, no first corner. -/
def NewSt (w : World) (m : Nat) (v : Value) (T : List Tr) (s5 : Value) (W : World) : Prop :=
  ∃ g av cv mb fb, s5 = .pointer (some ⟨g, 0, none⟩) ∧ Blk W g 73 #[.int .i64 (m : Int), .slice av T.length cv, .map (some mb), .slice (some ⟨fb, 0, none⟩) m m] ∧ W.ownsRow w.heap.size 60 3 (.slice av T.length cv) T.length (ws3 T) ∧
    MapP Tryz.prog 75 W mb (fun _ => none) ∧ W.ownsRow w.heap.size 3 1 (.slice (some ⟨fb, 0, none⟩) m m) m (List.replicate m (.int .i64 0)) ∧ w.heap.size ≤ g ∧ w.heap.size ≤ mb ∧
    Blk W w.heap.size 24 #[.int .i64 (m : Int), v] ∧ Blk W (w.heap.size + 1) 35 #[.int .i64 0, .int .i64 0, .int .i64 0] ∧ Below w.heap.size w W
theorem facFrom_step {T : List Tr} {k : Nat} (hk : k < 3 * T.length) (e : Int × Int) : facFrom T k e = if edgeN T k = e then some k else facFrom T (k + 1) e := by
  unfold facFrom
  rw [show 3 * T.length - k = (3 * T.length - (k + 1)) + 1 from by omega, List.range'_succ, List.find?_cons]
  by_cases h : edgeN T k = e
  · simp [h]
  · have : (edgeN T k == e) = false := by simpa using h
    simp [h, this]
theorem fstFrom_step {T : List Tr} {k : Nat} (hk : k < 3 * T.length) (v : Int) : fstFrom T k v = if vertN T k = v then some k else fstFrom T (k + 1) v := by
  unfold fstFrom
  rw [show 3 * T.length - k = (3 * T.length - (k + 1)) + 1 from by omega, List.range'_succ, List.find?_cons]
  by_cases h : vertN T k = v
  · simp [h]
  · have : (vertN T k == v) = false := by simpa using h
    simp [h, this]
theorem facMap_step {T : List Tr} {k : Nat} (hk : k < 3 * T.length) (y : Value) : updP (facMap T (k + 1)) (pairV (edgeN T k)) (.int .i64 (k : Int)) y = facMap T k y := by
  by_cases hy : ∃ e, y = pairV e
  · obtain ⟨e, rfl⟩ := hy
    rw [facMap_at, facFrom_step hk]
    by_cases h : edgeN T k = e
    · rw [if_pos h, h, updP_same]
      rfl
    · rw [if_neg h, updP_other (fun e' => h (pairV_inj e').symm), facMap_at]
  · have h1 : facMap T k y = none := by
      unfold facMap
      rw [dif_neg hy]
    have h2 : facMap T (k + 1) y = none := by
      unfold facMap
      rw [dif_neg hy]
    rw [h1, updP_other (fun e' => hy ⟨_, e'⟩), h2]
theorem facMap_end (T : List Tr) (y : Value) : (none : Option Value) = facMap T (3 * T.length) y := by
  unfold facMap
  split
  · simp [facFrom]
  · rfl
theorem fsts_end (m : Nat) (T : List Tr) : fsts (m : Int) T (3 * T.length) = List.replicate m 0 := by
  apply List.ext_getElem?
  intro i
  unfold fsts
  by_cases hi : i < m
  · rw [List.getElem?_map, List.getElem?_range (by simpa using hi), List.getElem?_replicate, if_pos hi]
    simp [fstFrom]
  · rw [List.getElem?_eq_none (by simp; omega), List.getElem?_eq_none (by simp; omega)]
theorem fsts_step {m : Nat} {T : List Tr} {k u : Nat} (hk : k < 3 * T.length) (hu : vertN T k = (u : Int)) : (fsts (m : Int) T (k + 1)).set u (k : Int) = fsts (m : Int) T k := by
  apply List.ext_getElem?
  intro i
  unfold fsts
  rw [List.getElem?_set]
  by_cases hi : i < m
  · have h1 : ((List.range (m : Int).toNat).map fun v : Nat => (((fstFrom T k v).getD 0 : Nat) : Int))[i]? = some (((fstFrom T k i).getD 0 : Nat) : Int) := by
      rw [List.getElem?_map, List.getElem?_range (by simpa using hi)]
      rfl
    have h2 : ((List.range (m : Int).toNat).map fun v : Nat => (((fstFrom T (k + 1) v).getD 0 : Nat) : Int))[i]? = some (((fstFrom T (k + 1) i).getD 0 : Nat) : Int) := by
      rw [List.getElem?_map, List.getElem?_range (by simpa using hi)]
      rfl
    rw [h1, h2, fstFrom_step hk, hu]
    by_cases e : u = i
    · subst e
      rw [if_pos rfl, if_pos (by simpa using hi), if_pos rfl]
      rfl
    · rw [if_neg e, if_neg (by omega)]
  · have h1 : ((List.range (m : Int).toNat).map fun v : Nat => (((fstFrom T k v).getD 0 : Nat) : Int))[i]? = none := List.getElem?_eq_none (by simp; omega)
    have h2 : ((List.range (m : Int).toNat).map fun v : Nat => (((fstFrom T (k + 1) v).getD 0 : Nat) : Int))[i]? = none := List.getElem?_eq_none (by simp; omega)
    rw [h1, h2]
    split
    · rw [if_neg (by simp; omega)]
    · rfl
theorem fsts_len (m : Nat) (T : List Tr) (k : Nat) : (fsts (m : Int) T k).length = m := by simp [fsts]
theorem edgeI_nat {T : List Tr} {k : Nat} (hk : k < 3 * T.length) : edgeI T (k : Int) = edgeN T k := by
  have h1 : hasC T (k : Int) = true := hasC_true (by omega) (by omega)
  have h2 : hasC T ((Jor.nx k : Nat) : Int) = true := hasC_true (by omega) (by have := Jor.nx_lt hk; omega)
  have h3 : hasC T ((Jor.pv k : Nat) : Int) = true := hasC_true (by omega) (by have := Jor.pv_lt hk; omega)
  simp [edgeI, edgeN, nextI, prevI, vertI, h1, h2, h3]
theorem vertI_nat {T : List Tr} {k : Nat} (hk : k < 3 * T.length) : vertI T (k : Int) = vertN T k := by
  have h1 : hasC T (k : Int) = true := hasC_true (by omega) (by omega)
  simp [vertI, h1]
set_option maxRecDepth 100000 in
set_option maxHeartbeats 4000000 in
theorem new_any (N : Int) (v : Value) (T : List Tr) (w : World) (h : TrisRd w v T) (hl : T.length ≤ 8192) : Calls Tryz.prog 12 #[.agg #[.int .i64 N, v]] w fun e w' =>
    ((Surf N T ∧ ∃ g, e = .returned (.tuple #[.pointer (some ⟨g, 0, none⟩), witV 0 0 0]) ∧ Tab w' g N T ∧ w.heap.size ≤ g) ∨ (¬ Surf N T ∧ ∃ k a b : Int, 1 ≤ k ∧ e = .returned (.tuple #[.pointer none, witV k a b]))) ∧ Below w.heap.size w w' := by
  obtain ⟨i1, hi', hy0, hy1, hy2⟩ := info_parts infoInt
  have b1 := (Blk.new w 24 #[.int .i64 N, v]).alloc (.cells #[.int .i64 0, .int .i64 0, .int .i64 0] 35)
  have b2 := Blk.new (w.alloc (.cells #[.int .i64 N, v] 24)) 35 #[.int .i64 0, .int .i64 0, .int .i64 0]
  rw [size_alloc'] at b2
  have hB0 : Below w.heap.size w ((w.alloc (.cells #[.int .i64 N, v] 24)).alloc (.cells #[.int .i64 0, .int .i64 0, .int .i64 0] 35)) := ((Below.refl _ _).alloc (Nat.le_refl _) _).alloc (by rw [size_alloc']; omega) _
  obtain ⟨l0, x0, -, x1, -⟩ := b1.two
  have hC := check_any N v T ((w.alloc (.cells #[.int .i64 N, v] 24)).alloc (.cells #[.int .i64 0, .int .i64 0, .int .i64 0] 35)) (h.below hB0) hl
  have HC := Lib.hid hC
  have HT := Lib.hid h
  clear h hC
  go_enter Tryz.func12, Tryz.ntmps12
  go_wp2_with fail
  refine HC.out.mono ?_
  rintro e w2 ⟨k, a, b, rfl, hS, hb⟩
  have hB2 := hB0.trans (hb.mono hB0.size)
  have b3 := b2.below hb b2.lt
  have b4 := b1.below hb b1.lt
  unfold witV
  clear hb b1 b2 x0 x1 l0 HC
  obtain ⟨l3, y0, f0, y1, f1, y2, f2⟩ := b3.three
  obtain ⟨l4, z0, -, z1, -⟩ := b4.two
  have hsz := hB2.size
  rcases hS with ⟨hS, rfl, rfl, rfl⟩ | ⟨hS, hk⟩
  · have HS := Lib.hid hS
    have hNm : ∃ m : Nat, N = m := ⟨N.toNat, by have := hS.n0; omega⟩
    have hN1 := hS.n1
    obtain ⟨m, rfl⟩ := hNm
    clear hS
    go_upto_region 4 with fail
    have hmm := @run_makeMap Tryz.prog
    have hmk := fun (W : World) => run_make (P := Tryz.prog) W 30 3 i1 (.int .i64 0) Tryz.underlying30 hi' hy0 .i64 .i64 (m : Int) (m : Int) (by omega) (by omega) (by rw [hy2]; omega) (by omega)
    have HB2 := Lib.hid hB2
    have hB3 : Below w.heap.size w (w2.alloc (.cells #[.int .i64 0, .int .i64 0, .int .i64 0] 35)).drew := (hB2.alloc hsz _).drew
    have HB3 := Lib.hid hB3
    have HCl := Lib.hid (fun (W : World) (hW : Below w.heap.size w W) => cloneT_any v T W (HT.out.below hW) (by omega))
    have HB4 := Lib.hid b4
    have HB5 := Lib.hid b3
    obtain ⟨l5, zz0, -, zz1, -⟩ := (b4.alloc (.cells #[.int .i64 0, .int .i64 0, .int .i64 0] 35)).two
    clear hB3 b4 b3
    go_cut [5] (fun s5 W => NewSt w m v T s5 W)
    case first =>
      go_region_held3 (fun w' => w'.cell? ⟨w.heap.size, 0, none⟩ = some (.int .i64 (m : Int)) ∧ w'.cell? ⟨w.heap.size, 1, none⟩ = some v) (go_keep)
        (first
          | (go_at_call 32; refine (HCl.out _ (by repeat (first | exact HB2.out | refine Below.drew ?_ | refine Below.alloc ?_ (by first | exact hsz | (simp; omega)) _))).mono ?_; rintro e w3 ⟨vT, rfl, hrT, hb3⟩; obtain ⟨av, cv, rfl⟩ := ownsRow_slice hrT; obtain ⟨q0, q1, -, q2, -⟩ := (Blk.below (g := w.heap.size) (t := 24) (cs := #[.int .i64 (m : Int), v]) (by repeat (first | exact HB4.out | refine Blk.drew ?_ | refine Blk.alloc ?_ _)) hb3 (by simp [World.drew]; omega)).two))
      all_goals
        go_wp2_with fail
        go_meet
        have hsz3 := hb3.size
        refine ⟨_, av, cv, _, _, rfl, blk_new_at (by simp), ?_, ?_, ?_, ?_, ?_, ?_, ?_, ?_⟩
        · repeat (first | with_reducible exact hrT.mono (by first | exact hsz | (simp [World.drew]; omega) | omega) | with_reducible refine World.ownsRow.alloc ?_ _ | with_reducible refine own_drew ?_)
        · repeat (first | with_reducible exact mapP_new_at (by simp) | with_reducible refine MapP.alloc ?_ _ | with_reducible refine MapP.drew ?_ | with_reducible refine MapP.below ?_ hb3 (by first | (simp [World.drew]; done) | (simp [World.drew]; omega)))
        · repeat (first | with_reducible exact row_new_at (by simp) (by first | exact hsz | (simp [World.drew]; omega) | omega) (by unfold maxLen; omega) | with_reducible refine World.ownsRow.alloc ?_ _ | with_reducible refine own_drew ?_ | with_reducible refine own_below ?_ hb3)
        · simp [World.drew] at hsz3 ⊢; omega
        · simp [World.drew] at hsz3 ⊢; omega
        · repeat (first | with_reducible exact HB4.out | with_reducible refine Blk.alloc ?_ _ | with_reducible refine Blk.drew ?_ | with_reducible refine Blk.below ?_ hb3 (by simp [World.drew]; omega))
        · repeat (first | with_reducible exact HB5.out | with_reducible refine Blk.alloc ?_ _ | with_reducible refine Blk.drew ?_ | with_reducible refine Blk.below ?_ hb3 (by simp [World.drew]; omega))
        · repeat (first | with_reducible exact HB2.out | with_reducible refine Below.alloc ?_ (by simp [World.drew] at hsz3 ⊢; omega) _ | with_reducible refine Below.drew ?_ | with_reducible refine Below.trans ?_ (hb3.mono (by simp [World.drew]; omega)))
    case rest =>
      obtain ⟨g, av, cv, mb, fb, rfl, hbt, htr, hmp, hrow, hg0, hm0, hbs, hbw, hB⟩ := hcut
      obtain ⟨n, hn⟩ : ∃ n, T.length = n := ⟨_, rfl⟩
      have hlen := hl
      rw [hn] at hbt htr hlen
      have HN := Lib.hid hn
      have hmp0 : MapP Tryz.prog 75 wc mb (facMap T (3 * n)) := by rw [← hn]; exact hmp.congr (facMap_end T)
      have hrow0 : wc.ownsRow w.heap.size 3 1 (.slice (some ⟨fb, 0, none⟩) m m) m (intsV (fsts (m : Int) T (3 * n))) := by
        rw [← hn, fsts_end]
        simpa [intsV] using hrow
      have hin : ∀ t ∈ T, 0 ≤ t.1 ∧ t.1 < (m : Int) ∧ 0 ≤ t.2.1 ∧ t.2.1 < (m : Int) ∧ 0 ≤ t.2.2 ∧ t.2.2 < (m : Int) := fun t ht => by
        obtain ⟨⟨a1, a2⟩, ⟨a3, a4⟩, ⟨a5, a6⟩⟩ := HS.out.inr t ht
        exact ⟨a1, a2, a3, a4, a5, a6⟩
      have HIN := Lib.hid hin
      have HTR := Lib.hid htr
      obtain ⟨l6, p0, -, p1, -⟩ := hbs.two
      have hTl : ∃ vv : Option Addr × Nat, v = .slice vv.1 n vv.2 := by
        obtain ⟨a, c, e, _⟩ := HT.out
        exact ⟨(a, c), by rw [← hn]; exact e⟩
      obtain ⟨⟨a0, c0⟩, rfl⟩ := hTl
      have HM0 := Lib.hid hmp0
      have HR0 := Lib.hid hrow0
      have HBT := Lib.hid hbt
      have HBW := Lib.hid hbw
      have HB := Lib.hid hB
      clear hn hmp hrow hmp0 hrow0 hin htr hbt hbw hB zz0 zz1 l5 hbs
      go_wp2
      go_loopw [6] (fun c wr => ∃ k : Nat, k ≤ 3 * n ∧ c = .int .i64 ((k : Int) - 1) ∧ MapP Tryz.prog 75 wr mb (facMap T k) ∧ wr.ownsRow w.heap.size 3 1 (.slice (some ⟨fb, 0, none⟩) m m) m (intsV (fsts (m : Int) T k)) ∧
        Blk wr g 73 #[.int .i64 (m : Int), .slice av n cv, .map (some mb), .slice (some ⟨fb, 0, none⟩) m m] ∧ wr.ownsRow w.heap.size 60 3 (.slice av n cv) n (ws3 T) ∧ Blk wr (w.heap.size + 1) 35 #[.int .i64 0, .int .i64 0, .int .i64 0] ∧ Below w.heap.size w wr) (fun c _ => (intOf c + 1).toNat)
      case atStart => exact ⟨3 * n, Nat.le_refl _, by simp, HM0.out, HR0.out, HBT.out, HTR.out, HBW.out, HB.out⟩
      case round =>
        clear HM0 HR0 HBT HTR HBW HB p0 p1 l6
        obtain ⟨k, hk, rfl, hmp, hrow, hbt, htr, hbw, hB⟩ := hrel
        rename World => wr
        cases k with
        | zero =>
          have hTab : ∀ u0 u1 u2 : Value, Tab (((wr.setCell ⟨w.heap.size + 1, 0, none⟩ u0).setCell ⟨w.heap.size + 1, 1, none⟩ u1).setCell ⟨w.heap.size + 1, 2, none⟩ u2) g (m : Int) T := by
            intro u0 u1 u2
            have hgS : wr.grownBy (((wr.setCell ⟨w.heap.size + 1, 0, none⟩ u0).setCell ⟨w.heap.size + 1, 1, none⟩ u1).setCell ⟨w.heap.size + 1, 2, none⟩ u2) (some (w.heap.size + 1)) := gStR (gStR (gStR (World.grownBy.refl _ _)))
            have hbt' := hbt.grown hgS (by simpa using Blk.ne_ hbt hbw (by decide))
            have htr' := htr.kept hgS (.inr (own_blk_ne htr hbw (by decide)))
            have hrow' := hrow.kept hgS (.inr (own_blk_ne hrow hbw (by decide)))
            have hmp' := hmp.kept hgS (fun e => by
              cases e
              obtain ⟨es, ck, ho⟩ := hmp.obj
              rw [show wr.heap[w.heap.size + 1]? = _ from hbw] at ho
              cases ho)
            have htd := TrisRd.of_row (T := T) (by rw [HN.out]; exact htr')
            have hrd : IntsRd _ (.slice (some ⟨fb, 0, none⟩) m m) (fsts (m : Int) T 0) := IntsRd.of_row hrow' (fsts_len m T 0)
            exact { ex := ⟨_, _, _, hbt', htd⟩, n0 := by omega, n1 := hN1, len := hl, inr := HIN.out, tx := ⟨_, _, _, hbt', htd, hmp', hrd⟩ }
          have HTab := Lib.hid hTab
          have hcells := fun (u0 u1 u2 : Value) => (((hbw.set_ 0 u0).set_ 1 u1).set_ 2 u2)
          have HCE := Lib.hid hcells
          have hBx := fun (u0 u1 u2 : Value) => ((hB.setCell (p := ⟨w.heap.size + 1, 0, none⟩) (by simp) u0).setCell (p := ⟨w.heap.size + 1, 1, none⟩) (by simp) u1).setCell (p := ⟨w.heap.size + 1, 2, none⟩) (by simp) u2
          have HBX := Lib.hid hBx
          obtain ⟨lw, y0', f0', y1', f1', y2', f2'⟩ := hbw.three
          clear hTab hcells hBx hbt hmp hrow htr hbw hB
          go_wp2
          obtain ⟨z, r0, -, r1, -, r2, -⟩ : _ ∧ _ ∧ _ ∧ _ ∧ _ ∧ _ ∧ _ := Blk.three (a := .int .i64 0) (b := .int .i64 0) (c := .int .i64 0) (by simpa using HCE.out (.int .i64 0) (.int .i64 0) (.int .i64 0))
          exact bodyPost_ret (v := .tuple #[.pointer (some ⟨g, 0, none⟩), .agg #[.int .i64 0, .int .i64 0, .int .i64 0]]) (by simp [results, Tryz.results12, go_sem, r0, r1, r2]) rfl ⟨.inl ⟨HS.out, g, rfl, HTab.out _ _ _, hg0⟩, HBX.out _ _ _⟩
        | succ k =>
          have hkT : k < 3 * T.length := by have := HN.out; omega
          have htd : TrisRd wr (.slice av n cv) T := TrisRd.of_row (by rw [HN.out]; exact htr)
          have hts : TabS wr g (m : Int) T := ⟨⟨_, _, _, hbt, htd⟩, by omega, hN1, hl, HIN.out⟩
          have hgm : g ≠ mb := fun e => by
            subst e
            obtain ⟨es, c, ho⟩ := hmp.obj
            rw [show wr.heap[g]? = _ from hbt] at ho
            cases ho
          obtain ⟨x, hx⟩ : ∃ x : Int × Int, edgeN T k = x := ⟨_, rfl⟩
          obtain ⟨⟨q0, q1⟩, q2, q3⟩ := edgeI_bd HIN.out (by omega) hN1 (k : Int)
          rw [edgeI_nat hkT, hx] at q0 q1 q2 q3
          obtain ⟨x, y⟩ := x
          simp only at q0 q1 q2 q3
          have HE := Lib.hid (fun (W : World) (hW : Below wr.heap.size wr W) => (by have := edge_any g (m : Int) (k : Int) T W (hts.below hW); rw [edgeI_nat hkT, hx] at this; exact this : Calls Tryz.prog 33 #[.pointer (some ⟨g, 0, none⟩), .int .i64 (k : Int)] W fun e w' => e = .returned (pairV (x, y)) ∧ Below W.heap.size W w'))
          have hkey := WideMaps.keyOf_pair arrEdge Tryz.underlying3 types_succ (wfV ⟨q0, q1⟩) (wfV ⟨q2, q3⟩)
          have HST := Lib.hid (fun (W : World) (hW : Below wr.heap.size wr W) => (hmp.below hW hmp.lt).store (t := 71) (Keyed.of_law arrEdge.law) Tryz.underlying71 hkey (.int .i64 (k : Int)))
          have lg := hbt.lt
          have lm := hmp.lt
          have t2 := hbt.cell 2
          have t3 := hbt.cell 3
          have HBT := Lib.hid hbt
          have Hstep : Hid (∀ W, MapP Tryz.prog 75 W mb (updP (facMap T (k + 1)) (pairV (x, y)) (.int .i64 (k : Int))) → MapP Tryz.prog 75 W mb (facMap T k)) := Lib.hid (fun W h => h.congr (fun y' => by rw [← hx]; exact facMap_step hkT y'))
          have Hrow := Lib.hid hrow
          have Htr := Lib.hid htr
          have Hbw := Lib.hid hbw
          have HBr := Lib.hid hB
          have HX := Lib.hid hx
          have HTS := Lib.hid hts
          have hlen2 : (k : Int) + 1 - 1 = (k : Int) := by omega
          have hk0 : (0 : Int) ≤ (k : Int) := by omega
          have hk1 : (k : Int) ≤ 100000 := by omega
          unfold pairV at HST hkey HE
          simp only at HST hkey HE
          have hmo := Lib.hid hmp.obj
          clear hbt hmp hrow htr hbw hB hx hts htd
          go_wp2
          go_region_held3 (fun w' => w'.cell? ⟨g, 2, none⟩ = some (.map (some mb))) (go_keep)
            (first
              | (go_at_call 33; refine (HE.out _ (by exact (Below.refl _ _).drew)).mono ?_; rintro e w5 ⟨rfl, hb5⟩; have hb5' := ((Below.refl wr.heap.size wr).drew).trans hb5; have c5 := (hb5'.cell (p := ⟨g, 2, none⟩) lg).trans t2; obtain ⟨w6, hrun6, hm6, hg6, -⟩ := HST.out w5 hb5'; have c6 := hg6.cell c5 (by simpa using hgm)))
          have hbt6 := (HBT.out.below hb5' lg).grown hg6 (by simpa using hgm)
          have hgr5 := grown_of_below hb5' none
          obtain ⟨es0, ck0, hmo0⟩ := hmo.out
          have hmo5 : ∃ es clock, w5.heap[mb]? = some (.map es clock) := ⟨es0, ck0, (hb5'.block mb lm).trans hmo0⟩
          have nn : ∀ v : Value, v.ownBlock = none ∨ v.ownBlock ≠ none := fun v => by cases v.ownBlock <;> simp
          have htr5 := own_below Htr.out hb5'
          have htr6 := htr5.kept hg6 (row_map_ne htr5 hmo5)
          have hrow5 := own_below Hrow.out hb5'
          have hrow6 := hrow5.kept hg6 (row_map_ne hrow5 hmo5)
          have hbw6 := (Hbw.out.below hb5' Hbw.out.lt).grown hg6 (fun e => by cases e; have := Hbw.out; obtain ⟨es, ck, ho⟩ := hmo.out; rw [show wr.heap[w.heap.size + 1]? = _ from this] at ho; cases ho)
          have hB6 := (HBr.out.trans (hb5'.mono HBr.out.size)).grown hg6 (Nat.le_trans HBr.out.size hb5'.size) (fun j e => by cases e; exact hm0)
          have hts6 : TabS w6 g (m : Int) T := ⟨⟨_, _, _, hbt6, TrisRd.of_row (by rw [HN.out]; exact htr6)⟩, by omega, hN1, hl, HIN.out⟩
          obtain ⟨v0, v1⟩ := vertN_in HIN.out hkT
          obtain ⟨u, hu⟩ : ∃ u : Nat, vertN T k = u := ⟨(vertN T k).toNat, by omega⟩
          rw [hu] at v1
          have hum : u < m := by omega
          have HV := Lib.hid (fun (W : World) (hW : TabS W g (m : Int) T) => (by have := vertex_any g (m : Int) (k : Int) T W hW; rw [vertI_nat hkT, hu] at this; exact this : Calls Tryz.prog 22 #[.pointer (some ⟨g, 0, none⟩), .int .i64 (k : Int)] W fun e w' => e = .returned (.int .i64 (u : Int)) ∧ W = w'))
          have Hfs := Lib.hid (fsts_step (m := m) hkT hu)
          obtain ⟨z, hz⟩ : ∃ z, (intsV (fsts (m : Int) T (k + 1)))[u]? = some z := ⟨(intsV (fsts (m : Int) T (k + 1)))[u]'(by simp [intsV, fsts_len]; exact hum), List.getElem?_eq_getElem _⟩
          have hcu : w6.cell? ⟨fb, u, none⟩ = some z := by rw [hrow6.cellAt u (by omega)]; exact hz
          have hfu := hrow6.frozenAt u
          have lg6 := hbt6.lt
          have t6 := hbt6.cell 3
          have lf6 := (hrow6.lt fb rfl).2
          have HM6 := Lib.hid (Hstep.out w6 hm6)
          have hgf : g ≠ fb := fun e => own_blk_ne hrow6 hbt6 (by decide) (by rw [e]; rfl)
          have hfg : fb ≠ g := fun e => hgf e.symm
          have hgs := (hrow6.stored u (.int .i64 (k : Int)))
          have HGS := Lib.hid hgs
          have HBT6 := Lib.hid hbt6
          have HTR6 := Lib.hid htr6
          have HR6 := Lib.hid hrow6
          have HBW6 := Lib.hid hbw6
          have HB6 := Lib.hid hB6
          have HTS6 := Lib.hid hts6
          clear hbt6 htr6 hrow6 hbw6 hB6 hts6 hgs hm6 hg6 hrun6 c6 c5 hb5 hb5' htr5 hrow5 hmo5 hmo0 hgr5 nn HST HE hkey t2 t3 hu v0 hz
          go_wp2
          go_region_held3 (fun w' => w'.cell? ⟨g, 3, none⟩ = some (.slice (some ⟨fb, 0, none⟩) m m)) (go_keep)
            (first
              | (go_at_call 22; refine (HV.out _ (by exact HTS6.out.drew)).mono ?_; rintro e w7 ⟨rfl, rfl⟩))
          go_wp2
          go_roundw
          case measure => simp [intOf]
          case rel =>
            obtain ⟨hr7, hg7⟩ := HGS.out
            have hg8 := gDrew hg7
            have hsz6 := HB6.out.size
            have hfb := (HR6.out.lt fb rfl).1
            refine ⟨k, by omega, by simp, HM6.out.kept hg8 (map_row_ne HR6.out HM6.out.obj), ?_, (HBT6.out.grown hg8 (by simpa using hgf)), HTR6.out.kept hg8 (own_own_ne HTR6.out HR6.out (by decide)), HBW6.out.grown hg8 (fun e => own_blk_ne HR6.out HBW6.out (by decide) e.symm), HB6.out.grown hg8 hsz6 (fun j e => by cases e; exact hfb)⟩
            have := own_drew hr7
            rw [← Hfs.out]
            simpa [intsV, List.map_set] using this
  · have HS := Lib.hid hS
    have hk0 : (k != 0) = true := by simp; omega
    clear hS
    have hcells := fun (u0 u1 u2 : Value) => (((b3.set_ 0 u0).set_ 1 u1).set_ 2 u2)
    have HCE := Lib.hid hcells
    have hBx := fun (u0 u1 u2 : Value) => ((hB2.setCell (p := ⟨w.heap.size + 1, 0, none⟩) (by simp) u0).setCell (p := ⟨w.heap.size + 1, 1, none⟩) (by simp) u1).setCell (p := ⟨w.heap.size + 1, 2, none⟩) (by simp) u2
    have HBX := Lib.hid hBx
    clear hcells hBx b3 b4
    go_wp2
    go_region
    all_goals
      go_wp2
      have b6 := ((HCE.out (.int .i64 k) (.int .i64 a) (.int .i64 b)).alloc (.cells #[.int .i64 k, .int .i64 a, .int .i64 b] 35)).drew
      obtain ⟨z, r0, -, r1, -, r2, -⟩ : _ ∧ _ ∧ _ ∧ _ ∧ _ ∧ _ ∧ _ := Blk.three (a := .int .i64 k) (b := .int .i64 a) (c := .int .i64 b) (by simpa using b6)
      exact bodyPost_ret (v := .tuple #[.pointer none, .agg #[.int .i64 k, .int .i64 a, .int .i64 b]]) (by simp [results, Tryz.results12, go_sem, r0, r1, r2]) rfl ⟨.inr ⟨HS.out, k, a, b, hk, rfl⟩, ((HBX.out _ _ _).alloc (by simp; exact hsz) _).drew⟩
end Go.Proofs.YtpnkhgjjlionnaaGreat
namespace Go.Proofs.YtpnkhgjjlionnaaGreat
open Go.RowKit

/-! Across and back. -/
theorem edgeN_mem {T : List Tr} {c : Nat} (hc : c < 3 * T.length) : ∃ j t, T[j]? = some t ∧ j = c / 3 ∧ ((c % 3 = 0 ∧ edgeN T c = (t.2.1, t.2.2)) ∨ (c % 3 = 1 ∧ edgeN T c = (t.2.2, t.1)) ∨ (c % 3 = 2 ∧ edgeN T c = (t.1, t.2.1))) := by
  have hk : c / 3 < T.length := by omega
  refine ⟨c / 3, T[c / 3], List.getElem?_eq_getElem hk, rfl, ?_⟩
  have h1 : Jor.nx c / 3 = c / 3 := Jor.nx_div c
  have h2 : Jor.pv c / 3 = c / 3 := Jor.pv_div c
  have m1 : Jor.nx c % 3 = (c + 1) % 3 := by unfold Jor.nx; omega
  have m2 : Jor.pv c % 3 = (c + 2) % 3 := by unfold Jor.pv; omega
  have ht : T[c / 3]? = some T[c / 3] := List.getElem?_eq_getElem hk
  have : c % 3 = 0 ∨ c % 3 = 1 ∨ c % 3 = 2 := by omega
  rcases this with e | e | e
  · exact .inl ⟨e, by simp [edgeN, vertN, triAt, h1, h2, ht, show Jor.nx c % 3 = 1 from by omega, show Jor.pv c % 3 = 2 from by omega]⟩
  · exact .inr (.inl ⟨e, by simp [edgeN, vertN, triAt, h1, h2, ht, show Jor.nx c % 3 = 2 from by omega, show Jor.pv c % 3 = 0 from by omega]⟩)
  · exact .inr (.inr ⟨e, by simp [edgeN, vertN, triAt, h1, h2, ht, show Jor.nx c % 3 = 0 from by omega, show Jor.pv c % 3 = 1 from by omega]⟩)
theorem flat3_at {β : Type} [Inhabited β] {enc : Tr → List β} {k : Nat} (hk : ∀ x, (enc x).length = k) (h0 : 0 < k) : ∀ (l : List Tr) (t : Nat), t < l.length * k → (l.flatMap enc)[t]? = some ((enc (l[t / k]!))[t % k]!)
  | [], t, h => by simp at h
  | a :: l, t, h => by
    rw [List.flatMap_cons]
    by_cases ht : t < k
    · rw [List.getElem?_append_left (by rw [hk]; exact ht), Nat.div_eq_of_lt ht, Nat.mod_eq_of_lt ht]
      have : t < (enc a).length := by rw [hk]; exact ht
      simp [this]
    · rw [List.getElem?_append_right (by rw [hk]; omega), hk]
      have h1 : t - k < l.length * k := by
        simp only [List.length_cons, Nat.add_mul, Nat.one_mul] at h
        omega
      rw [flat3_at hk h0 l (t - k) h1]
      have e1 : t / k = (t - k) / k + 1 := by rw [Nat.div_eq t k, if_pos ⟨h0, by omega⟩]
      have e2 : t % k = (t - k) % k := Nat.mod_eq_sub_mod (by omega)
      rw [e1, e2]
      simp
/-- Which of a triangle's edges faces a corner. -/
def spotE : Nat → Nat := fun k => if k = 0 then 1 else if k = 1 then 2 else 0
theorem edges_at {T : List Tr} {c : Nat} (hc : c < 3 * T.length) : (T.flatMap edges3)[c / 3 * 3 + spotE (c % 3)]? = some ((edgeN T c).1, (edgeN T c).2, 0) := by
  obtain ⟨j, t, ht, rfl, h⟩ := edgeN_mem hc
  have hlen : ∀ x : Tr, (edges3 x).length = 3 := fun _ => rfl
  have hs : spotE (c % 3) < 3 := by unfold spotE; split <;> (try split) <;> omega
  have hk := (List.getElem?_eq_some_iff.1 ht).1
  rw [flat3_at (k := 3) hlen (by decide) T (c / 3 * 3 + spotE (c % 3)) (by omega)]
  have e1 : (c / 3 * 3 + spotE (c % 3)) / 3 = c / 3 := by omega
  have e2 : (c / 3 * 3 + spotE (c % 3)) % 3 = spotE (c % 3) := by omega
  rw [e1, e2, getElem!_pos T (c / 3) hk]
  have e3 : T[c / 3] = t := by rw [List.getElem?_eq_getElem hk] at ht; exact Option.some.inj ht
  rw [e3]
  rcases h with ⟨h0, h⟩ | ⟨h0, h⟩ | ⟨h0, h⟩ <;> rw [h0, h] <;> rfl
theorem edge_inj {T : List Tr} (hu : (T.flatMap edges3).Nodup) {c d : Nat} (hc : c < 3 * T.length) (hd : d < 3 * T.length) (h : edgeN T c = edgeN T d) : c = d := by
  have a := edges_at hc
  have b := edges_at hd
  rw [h] at a
  obtain ⟨h1, e1⟩ := List.getElem?_eq_some_iff.1 a
  obtain ⟨h2, e2⟩ := List.getElem?_eq_some_iff.1 b
  have hp := List.pairwise_iff_getElem.1 (List.nodup_iff_pairwise_ne.1 hu)
  have : c / 3 * 3 + spotE (c % 3) = d / 3 * 3 + spotE (d % 3) := by
    rcases Nat.lt_trichotomy (c / 3 * 3 + spotE (c % 3)) (d / 3 * 3 + spotE (d % 3)) with hlt | e | hlt
    · exact absurd (e1.trans e2.symm) (hp _ _ h1 h2 hlt)
    · exact e
    · exact absurd (e2.trans e1.symm) (hp _ _ h2 h1 hlt)
  unfold spotE at this
  split at this <;> split at this <;> (try split at this) <;> (try split at this) <;> omega
theorem facI_some {T : List Tr} {e : Int × Int} {o : Nat} (h : facI T e = (o : Int)) : o < 3 * T.length ∧ edgeN T o = e := by
  unfold facI at h
  cases hf : facFrom T 0 e with
  | none => rw [hf] at h; simp only at h; omega
  | some d =>
    rw [hf] at h
    simp only at h
    have hd : d = o := by omega
    subst hd
    unfold facFrom at hf
    have h1 := List.mem_of_find?_eq_some hf
    have h2 := List.find?_some hf
    rw [List.mem_range'_1] at h1
    exact ⟨by omega, by simpa using h2⟩
theorem facI_of {T : List Tr} (hu : (T.flatMap edges3).Nodup) {o : Nat} (ho : o < 3 * T.length) : facI T (edgeN T o) = (o : Int) := by
  unfold facI
  cases hf : facFrom T 0 (edgeN T o) with
  | none =>
    unfold facFrom at hf
    have := List.find?_eq_none.1 hf o (by rw [List.mem_range'_1]; omega)
    simp at this
  | some d =>
    unfold facFrom at hf
    have h1 := List.mem_of_find?_eq_some hf
    have h2 := List.find?_some hf
    rw [List.mem_range'_1] at h1
    have := edge_inj hu (c := d) (d := o) (by omega) ho (by simpa using h2)
    rw [this]
theorem opp_some {T : List Tr} {c o : Nat} (hc : c < 3 * T.length) (h : oppI T (c : Int) = (o : Int)) : o < 3 * T.length ∧ edgeN T o = ((edgeN T c).2, (edgeN T c).1) := by
  unfold oppI at h
  rw [edgeI_nat hc] at h
  exact facI_some h
theorem opp_back {T : List Tr} (hu : (T.flatMap edges3).Nodup) {c o : Nat} (hc : c < 3 * T.length) (h : oppI T (c : Int) = (o : Int)) : oppI T (o : Int) = (c : Int) := by
  obtain ⟨ho, he⟩ := opp_some hc h
  unfold oppI
  rw [edgeI_nat ho, he]
  exact facI_of hu hc
theorem opp_cases (T : List Tr) (c : Int) : oppI T c = -1 ∨ ∃ o : Nat, oppI T c = (o : Int) ∧ o < 3 * T.length := by
  obtain ⟨h1, h2⟩ := oppI_bd T c
  by_cases h : 0 ≤ oppI T c
  · exact .inr ⟨(oppI T c).toNat, by omega, by omega⟩
  · exact .inl (by omega)

/-! Numbered parts. -/
def Reach (T : List Tr) (i j : Nat) : Prop := ∀ S : Nat → Prop, S i → (∀ c o : Nat, c < 3 * T.length → oppI T (c : Int) = (o : Int) → S (c / 3) → S (o / 3)) → S j
theorem Reach.refl (T : List Tr) (i : Nat) : Reach T i i := fun _ h _ => h
theorem Reach.step {T : List Tr} {i c o : Nat} (h : Reach T i (c / 3)) (hc : c < 3 * T.length) (ho : oppI T (c : Int) = (o : Int)) : Reach T i (o / 3) := fun S h1 h2 => h2 c o hc ho (h S h1 h2)
def at_ (out : List Int) (j : Nat) : Int := out.getD j (-1)
/-- Each triangle has the number of its part; the parts are numbered by their least triangles. -/
structure Shl (T : List Tr) (out : List Int) : Prop where
  len : out.length = T.length
  nn : ∀ j, j < T.length → 0 ≤ at_ out j
  adj : ∀ c o : Nat, c < 3 * T.length → oppI T (c : Int) = (o : Int) → at_ out (o / 3) = at_ out (c / 3)
  new : ∀ j, j < T.length → (∃ i, i < j ∧ at_ out i = at_ out j ∧ Reach T i j) ∨ ((∀ i, i < j → at_ out i < at_ out j) ∧ (at_ out j = 0 ∨ ∃ i, i < j ∧ at_ out i + 1 = at_ out j))
theorem Shl.reach {T : List Tr} {out : List Int} (h : Shl T out) {i j : Nat} (hr : Reach T i j) : at_ out i = at_ out j :=
  hr (fun x => at_ out i = at_ out x) rfl (fun c o hc ho e => e.trans (h.adj c o hc ho).symm)
theorem Shl.one {T : List Tr} {a b : List Int} (ha : Shl T a) (hb : Shl T b) : a = b := by
  have key : ∀ j, j < T.length → at_ a j = at_ b j := by
    intro j
    induction j using Nat.strongRecOn with
    | ind j ih =>
      intro hj
      rcases ha.new j hj with ⟨i, hi, e, hr⟩ | ⟨a1, a2⟩
      · rw [← e, ← hb.reach hr]
        exact ih i hi (by omega)
      · rcases hb.new j hj with ⟨i, hi, e, hr⟩ | ⟨b1, b2⟩
        · rw [← e, ← ha.reach hr]
          exact ih i hi (by omega)
        · rcases Int.lt_trichotomy (at_ a j) (at_ b j) with hlt | e | hlt
          · have h0 := ha.nn j hj
            rcases b2 with e | ⟨i, hi, e⟩
            · omega
            · have := a1 i hi
              rw [ih i hi (by omega)] at this
              omega
          · exact e
          · have h0 := hb.nn j hj
            rcases a2 with e | ⟨i, hi, e⟩
            · omega
            · have := b1 i hi
              rw [← ih i hi (by omega)] at this
              omega
  apply List.ext_getElem?
  intro j
  by_cases hj : j < T.length
  · have h1 : j < a.length := by rw [ha.len]; exact hj
    have h2 : j < b.length := by rw [hb.len]; exact hj
    have := key j hj
    simp only [at_, List.getD, List.getElem?_eq_getElem h1, List.getElem?_eq_getElem h2, Option.getD_some] at this
    rw [List.getElem?_eq_getElem h1, List.getElem?_eq_getElem h2, this]
  · rw [List.getElem?_eq_none (by rw [ha.len]; omega), List.getElem?_eq_none (by rw [hb.len]; omega)]

/-- While the parts are gone over: f triangles are looked at, n parts are there. -/
structure OfInv (T : List Tr) (f n : Nat) (out : List Int) : Prop where
  len : out.length = T.length
  lo : ∀ j, j < T.length → -1 ≤ at_ out j ∧ at_ out j < n
  done : ∀ j, j < f → 0 ≤ at_ out j
  adj : ∀ c o : Nat, c < 3 * T.length → oppI T (c : Int) = (o : Int) → 0 ≤ at_ out (c / 3) → at_ out (o / 3) = at_ out (c / 3)
  new : ∀ j, j < T.length → 0 ≤ at_ out j → (∃ i, i < j ∧ i < f ∧ at_ out i = at_ out j ∧ Reach T i j) ∨ (j < f ∧ (∀ i, i < j → at_ out i < at_ out j) ∧ (at_ out j = 0 ∨ ∃ i, i < j ∧ at_ out i + 1 = at_ out j))
  top : n = 0 ∨ ∃ j, j < f ∧ at_ out j + 1 = n
theorem at_replicate {m j : Nat} (h : j < m) : at_ (List.replicate m (-1)) j = -1 := by simp [at_, List.getD, h]
theorem OfInv.start (T : List Tr) : OfInv T 0 0 (List.replicate T.length (-1)) where
  len := by simp
  lo := fun j hj => by rw [at_replicate hj]; omega
  done := fun j hj => by omega
  adj := fun c o hc _ h => by rw [at_replicate (by omega)] at h; omega
  new := fun j hj h => by rw [at_replicate hj] at h; omega
  top := .inl rfl
theorem OfInv.skip {T : List Tr} {f n : Nat} {out : List Int} (h : OfInv T f n out) (h0 : 0 ≤ at_ out f) : OfInv T (f + 1) n out where
  len := h.len
  lo := h.lo
  done := fun j hj => by
    by_cases e : j = f
    · rw [e]; exact h0
    · exact h.done j (by omega)
  adj := h.adj
  new := fun j hj hn => by
    rcases h.new j hj hn with ⟨i, a, b, c⟩ | ⟨a, b⟩
    · exact .inl ⟨i, a, by omega, c⟩
    · exact .inr ⟨by omega, b⟩
  top := by
    rcases h.top with e | ⟨j, hj, e⟩
    · exact .inl e
    · exact .inr ⟨j, by omega, e⟩
theorem OfInv.finish {T : List Tr} {n : Nat} {out : List Int} (h : OfInv T T.length n out) : Shl T out ∧ (n = 0 ∨ ∃ j, j < T.length ∧ at_ out j + 1 = n) ∧ ∀ j, j < T.length → at_ out j < n :=
  ⟨⟨h.len, h.done, fun c o hc ho => h.adj c o hc ho (h.done _ (by omega)), fun j hj => by
    rcases h.new j hj (h.done j hj) with ⟨i, a, _, c⟩ | ⟨_, b⟩
    · exact .inl ⟨i, a, c⟩
    · exact .inr b⟩, h.top, fun j hj => (h.lo j hj).2⟩
/-- In the midst of part n, begun at f: W wait, or were gone over; of the i-th k corners are looked at. -/
structure OfBfs (T : List Tr) (f n : Nat) (out : List Int) (W : List Nat) (out' : List Int) (i k : Nat) : Prop where
  len : out'.length = T.length
  nd : W.Nodup
  lt : ∀ u ∈ W, u < T.length
  free : ∀ u ∈ W, at_ out u = -1
  lab : ∀ u ∈ W, at_ out' u = n
  old : ∀ j, j ∉ W → at_ out' j = at_ out j
  fin : f ∈ W
  reach : ∀ u ∈ W, Reach T f u
  closed : ∀ p k' u, (p < i ∨ (p = i ∧ k' < k)) → W[p]? = some u → k' < 3 → ∀ o : Nat, oppI T ((3 * u + k' : Nat) : Int) = (o : Int) → o / 3 ∈ W
theorem at_set {out : List Int} {j i : Nat} {x : Int} (hi : i < out.length) : at_ (out.set i x) j = if j = i then x else at_ out j := by
  unfold at_
  by_cases e : j = i
  · subst e
    simp [List.getD, hi]
  · rw [if_neg e, List.getD, List.getD, List.getElem?_set_ne (fun e' => e e'.symm)]
theorem OfInv.begin_ {T : List Tr} {f n : Nat} {out : List Int} (h : OfInv T f n out) (hf : f < T.length) (h0 : at_ out f < 0) : OfBfs T f n out [f] (out.set f (n : Int)) 0 0 where
  len := by simp [h.len]
  nd := by simp
  lt := fun u hu => by rw [List.mem_singleton.1 hu]; exact hf
  free := fun u hu => by
    rw [List.mem_singleton.1 hu]
    have := (h.lo f hf).1
    omega
  lab := fun u hu => by rw [List.mem_singleton.1 hu, at_set (by rw [h.len]; exact hf), if_pos rfl]
  old := fun j hj => by rw [at_set (by rw [h.len]; exact hf), if_neg (fun e => hj (by simp [e]))]
  fin := by simp
  reach := fun u hu => by rw [List.mem_singleton.1 hu]; exact Reach.refl T f
  closed := fun p k' u hp => by omega
theorem OfBfs.step0 {T : List Tr} {f n : Nat} {out : List Int} {W : List Nat} {out' : List Int} {i k u : Nat} (h : OfBfs T f n out W out' i k) (hu : W[i]? = some u) (hn : ∀ o : Nat, oppI T ((3 * u + k : Nat) : Int) = (o : Int) → o / 3 ∈ W) : OfBfs T f n out W out' i (k + 1) :=
  ⟨h.len, h.nd, h.lt, h.free, h.lab, h.old, h.fin, h.reach, fun p k' u' hp hu' hk' o ho => by
      by_cases e : p = i ∧ k' = k
      · obtain ⟨rfl, rfl⟩ := e
        rw [hu] at hu'
        cases hu'
        exact hn o ho
      · exact h.closed p k' u' (by omega) hu' hk' o ho⟩
theorem OfBfs.next {T : List Tr} {f n : Nat} {out : List Int} {W : List Nat} {out' : List Int} {i : Nat} (h : OfBfs T f n out W out' i 3) : OfBfs T f n out W out' (i + 1) 0 :=
  ⟨h.len, h.nd, h.lt, h.free, h.lab, h.old, h.fin, h.reach, fun p k' u' hp hu' hk' o ho => h.closed p k' u' (by omega) hu' hk' o ho⟩
theorem OfBfs.old_in {T : List Tr} (hE : (T.flatMap edges3).Nodup) {f n : Nat} {out : List Int} {W : List Nat} {out' : List Int} {i k u o : Nat} (hI : OfInv T f n out) (h : OfBfs T f n out W out' i k) (hu : W[i]? = some u) (hk : k < 3) (ho : oppI T ((3 * u + k : Nat) : Int) = (o : Int)) (h0 : 0 ≤ at_ out' (o / 3)) : o / 3 ∈ W := by
  refine Classical.byContradiction fun hne => ?_
  have hm := List.mem_of_getElem? hu
  have hul := h.lt u hm
  have hc : 3 * u + k < 3 * T.length := by omega
  rw [h.old _ hne] at h0
  have := hI.adj o (3 * u + k) (opp_some hc ho).1 (opp_back hE hc ho) h0
  rw [show (3 * u + k) / 3 = u from by omega, h.free u hm] at this
  omega
theorem OfBfs.add {T : List Tr} {f n : Nat} {out : List Int} {W : List Nat} {out' : List Int} {i k u o : Nat} (hI : OfInv T f n out) (h : OfBfs T f n out W out' i k) (hu : W[i]? = some u) (hk : k < 3) (ho : oppI T ((3 * u + k : Nat) : Int) = (o : Int)) (h0 : at_ out' (o / 3) < 0) : OfBfs T f n out (W ++ [o / 3]) (out'.set (o / 3) (n : Int)) i (k + 1) := by
  have hm := List.mem_of_getElem? hu
  have hul := h.lt u hm
  have hc : 3 * u + k < 3 * T.length := by omega
  have hol := (opp_some hc ho).1
  have hot : o / 3 < T.length := by omega
  have hne : o / 3 ∉ W := fun e => by
    rw [h.lab _ e] at h0
    omega
  have hli : i < W.length := (List.getElem?_eq_some_iff.1 hu).1
  refine ⟨by simp [h.len], ?_, ?_, ?_, ?_, ?_, List.mem_append_left _ h.fin, ?_, ?_⟩
  · rw [List.nodup_append]
    exact ⟨h.nd, by simp, fun a ha b hb e => by rw [List.mem_singleton.1 hb] at e; exact hne (by rw [← e]; exact ha)⟩
  · intro x hx
    rcases List.mem_append.1 hx with hx | hx
    · exact h.lt x hx
    · rw [List.mem_singleton.1 hx]; exact hot
  · intro x hx
    rcases List.mem_append.1 hx with hx | hx
    · exact h.free x hx
    · rw [List.mem_singleton.1 hx, ← h.old _ hne]
      have := (hI.lo (o / 3) hot).1
      rw [← h.old _ hne] at this
      omega
  · intro x hx
    rw [at_set (by rw [h.len]; exact hot)]
    rcases List.mem_append.1 hx with hx | hx
    · rw [if_neg (fun e => hne (by rw [← e]; exact hx))]
      exact h.lab x hx
    · rw [List.mem_singleton.1 hx, if_pos rfl]
  · intro j hj
    rw [at_set (by rw [h.len]; exact hot), if_neg (fun e => hj (by simp [e]))]
    exact h.old j (fun e => hj (List.mem_append_left _ e))
  · intro x hx
    rcases List.mem_append.1 hx with hx | hx
    · exact h.reach x hx
    · rw [List.mem_singleton.1 hx]
      exact Reach.step (c := 3 * u + k) (by rw [show (3 * u + k) / 3 = u from by omega]; exact h.reach u hm) hc ho
  · intro p k' u' hp hu' hk' o' ho'
    have hpl : p < W.length := by omega
    rw [List.getElem?_append_left hpl] at hu'
    by_cases e : p = i ∧ k' = k
    · obtain ⟨rfl, rfl⟩ := e
      rw [hu] at hu'
      cases hu'
      rw [ho] at ho'
      have : o = o' := by omega
      rw [← this]
      simp
    · exact List.mem_append_left _ (h.closed p k' u' (by omega) hu' hk' o' ho')
theorem OfBfs.finish {T : List Tr} {f n : Nat} {out : List Int} {W : List Nat} {out' : List Int} (hI : OfInv T f n out) (hf : f < T.length) (h : OfBfs T f n out W out' W.length 0) : OfInv T (f + 1) (n + 1) out' where
  len := h.len
  lo := fun j hj => by
    by_cases e : j ∈ W
    · rw [h.lab j e]; omega
    · rw [h.old j e]
      have := hI.lo j hj
      omega
  done := fun j hj => by
    by_cases e : j ∈ W
    · rw [h.lab j e]; omega
    · rw [h.old j e]
      exact hI.done j (by
        have : j ≠ f := fun e' => e (by rw [e']; exact h.fin)
        omega)
  adj := fun c o hc ho h0 => by
    by_cases e : c / 3 ∈ W
    · obtain ⟨p, hp⟩ := List.mem_iff_getElem?.1 e
      have := h.closed p (c % 3) (c / 3) (.inl (List.getElem?_eq_some_iff.1 hp).1) hp (by omega) o (by rw [show 3 * (c / 3) + c % 3 = c from by omega]; exact ho)
      rw [h.lab _ e, h.lab _ this]
    · rw [h.old _ e] at h0
      have := hI.adj c o hc ho h0
      have hne : o / 3 ∉ W := fun e' => by
        rw [h.free _ e'] at this
        omega
      rw [h.old _ e, h.old _ hne, this]
  new := fun j hj h0 => by
    have hfree : ∀ u ∈ W, f ≤ u := fun u hu => by
      rcases Nat.lt_or_ge u f with hlt | hge
      · have := hI.done u hlt
        rw [h.free u hu] at this
        omega
      · exact hge
    by_cases e : j ∈ W
    · by_cases ef : j = f
      · right
        subst ef
        refine ⟨by omega, fun i hi => ?_, ?_⟩
        · have hni : i ∉ W := fun e' => by have := hfree i e'; omega
          rw [h.old i hni, h.lab _ e]
          exact (hI.lo i (by omega)).2
        · rw [h.lab _ e]
          rcases hI.top with e0 | ⟨i, hi, e0⟩
          · left; omega
          · right
            have hni : i ∉ W := fun e' => by have := hfree i e'; omega
            exact ⟨i, hi, by rw [h.old i hni]; exact e0⟩
      · left
        have := hfree j e
        exact ⟨f, by omega, by omega, by rw [h.lab _ e, h.lab _ h.fin], h.reach j e⟩
    · rw [h.old j e] at h0 ⊢
      rcases hI.new j hj h0 with ⟨i, a, b, c, d⟩ | ⟨a, b, c⟩
      · left
        have hni : i ∉ W := fun e' => by have := hfree i e'; omega
        exact ⟨i, a, by omega, by rw [h.old i hni]; exact c, d⟩
      · right
        have hni : ∀ i, i < j → i ∉ W := fun i hi e' => by have := hfree i e'; omega
        refine ⟨by omega, fun i hi => by rw [h.old i (hni i hi)]; exact b i hi, ?_⟩
        rcases c with c | ⟨i, hi, c⟩
        · exact .inl c
        · exact .inr ⟨i, hi, by rw [h.old i (hni i hi)]; exact c⟩
  top := .inr ⟨f, by omega, by rw [h.lab _ h.fin]; omega⟩
theorem OfBfs.wl {T : List Tr} {f n : Nat} {out : List Int} {W : List Nat} {out' : List Int} {i k : Nat} (h : OfBfs T f n out W out' i k) : W.length ≤ T.length := by
  have := Jor.nodup_le (m := List.range T.length) h.nd (fun x hx => List.mem_range.2 (h.lt x hx))
  simpa using this
end Go.Proofs.YtpnkhgjjlionnaaGreat
namespace Go.Proofs.YtpnkhgjjlionnaaGreat
open Go.RowKit

theorem made_ints (m : Nat) : (madeCells (Value.int .i64 0).cells (m * 1)).toList = List.replicate m (.int .i64 0) := by
  rw [Nat.mul_one]
  show (madeCells #[Value.int .i64 0] m).toList = _
  rw [toList_madeCells_one]
theorem intsV_at {out : List Int} {j : Nat} (h : j < out.length) : (intsV out)[j]? = some (.int .i64 (at_ out j)) := by
  unfold intsV at_
  rw [List.getElem?_map, List.getElem?_eq_getElem h]
  simp [List.getD, h]
theorem intsV_set (out : List Int) (j : Nat) (x : Int) : (intsV out).set j (.int .i64 x) = intsV (out.set j x) := by simp [intsV, List.map_set]
theorem fill_set (k F : Nat) (h : k < F) : (intsV (List.replicate k (-1) ++ List.replicate (F - k) 0)).set k (.int .i64 (-1)) = intsV (List.replicate (k + 1) (-1) ++ List.replicate (F - (k + 1)) 0) := by
  rw [intsV_set]
  congr 1
  apply List.ext_getElem?
  intro i
  rw [List.getElem?_set]
  by_cases e : k = i
  · subst e
    rw [if_pos rfl, if_pos (by simp; omega), List.getElem?_append_left (by simp), List.getElem?_replicate, if_pos (by omega)]
  · rw [if_neg e]
    by_cases hi : i < k
    · rw [List.getElem?_append_left (by simpa using hi), List.getElem?_append_left (by simp; omega), List.getElem?_replicate, List.getElem?_replicate, if_pos hi, if_pos (by omega)]
    · rw [List.getElem?_append_right (by simp; omega), List.getElem?_append_right (by simp; omega), List.getElem?_replicate, List.getElem?_replicate]
      simp only [List.length_replicate]
      by_cases h2 : i < F
      · rw [if_pos (by omega), if_pos (by omega)]
      · rw [if_neg (by omega), if_neg (by omega)]
set_option maxRecDepth 100000 in
set_option maxHeartbeats 4000000 in
theorem of_any (g : Nat) (N : Int) (T : List Tr) (w : World) (h : Tab w g N T) (hE : (T.flatMap edges3).Nodup) : Calls Tryz.prog 39 #[.pointer (some ⟨g, 0, none⟩)] w fun e w' => ∃ v out, e = .returned v ∧ w'.ownsRow w.heap.size 3 1 v T.length (intsV out) ∧ Shl T out ∧ (∀ j, j < T.length → at_ out j < T.length) ∧ Below w.heap.size w w' := by
  obtain ⟨i2, hj', hz0, hz1, hz2⟩ := info_parts infoInt
  have HT := Lib.hid h
  have H0 := Lib.hid (triangles_any g N T w h.toTabS)
  have hl := h.len
  have hgl := h.lt
  obtain ⟨F, hF⟩ : ∃ F, T.length = F := ⟨_, rfl⟩
  rw [hF] at hl H0 ⊢
  have HF := Lib.hid hF
  clear hF h
  go_enter Tryz.func39, Tryz.ntmps39
  go_wp2_with fail
  refine H0.out.mono ?_
  rintro e w0 ⟨rfl, rfl⟩
  go_wp2_with (at_make; refine wpList_make_full _ rfl (.tmp 12) (.tmp 12) 30 rfl w.heap.size 3 i2 _ 1 Tryz.underlying30 hj' hz0 hz1 .i64 .i64 _ _ F rfl rfl rfl rfl (by rw [hz2]; omega) (by unfold maxLen; omega) (Nat.le_refl _) ?_; intro w1 hr1 hg1)
  rw [made_ints] at hr1
  have hB1 : Below w.heap.size w w1 := (Below.refl _ _).grown hg1 (Nat.le_refl _) (fun j e => by cases e)
  clear hg1
  go_loopw [16] (fun ix wr => ∃ k : Nat, k ≤ F ∧ ix = .int .i64 k ∧ wr.ownsRow w.heap.size 3 1 (.slice (some ⟨w.heap.size, 0, none⟩) F F) F (intsV (List.replicate k (-1) ++ List.replicate (F - k) 0)) ∧ Below w.heap.size w wr) (fun ix _ => F - (intOf ix).toNat)
  case atStart => exact ⟨0, Nat.zero_le _, rfl, by simpa [intsV] using hr1, hB1⟩
  case round =>
    clear hr1 hB1
    obtain ⟨k, hk, rfl, hr, hB⟩ := hrel
    rename World => wr
    by_cases hlt : k < F
    · have hlen : (List.replicate k (-1 : Int) ++ List.replicate (F - k) 0).length = F := by simp; omega
      have hc : wr.cell? ⟨w.heap.size, k, none⟩ = some (.int .i64 (at_ (List.replicate k (-1) ++ List.replicate (F - k) 0) k)) := by rw [hr.cellAt k (by omega)]; exact intsV_at (by rw [hlen]; exact hlt)
      have hf := hr.frozenAt k
      have hk3 : (k : Int) < (F : Int) := by omega
      have hsz := hB.size
      have hst := hr.stored k (.int .i64 (-1))
      rw [fill_set k F hlt] at hst
      have HST := Lib.hid hst
      have HB := Lib.hid hB
      clear hr hB hlen hst
      go_wp2
      go_roundw
      case measure => simp [intOf]; omega
      case rel => exact ⟨k + 1, by omega, by go_num, HST.out.1, HB.out.grown HST.out.2 hsz (fun j e => by cases e; exact Nat.le_refl _)⟩
    · obtain rfl : k = F := by omega
      have hI : OfInv T 0 0 (List.replicate T.length (-1)) := OfInv.start T
      rw [HF.out] at hI
      have hr' : wr.ownsRow w.heap.size 3 1 (.slice (some ⟨w.heap.size, 0, none⟩) k k) k (intsV (List.replicate k (-1))) := by simpa using hr
      have HI := Lib.hid hI
      have HR := Lib.hid hr'
      have HB := Lib.hid hB
      clear hr hB hr' hI
      go_wp2
      go_loopw [5, 25] (fun v5 ix wr => ∃ (f n : Nat) (out : List Int), f ≤ k ∧ n ≤ f ∧ ix = .int .i64 f ∧ v5 = .int .i64 n ∧ wr.ownsRow w.heap.size 3 1 (.slice (some ⟨w.heap.size, 0, none⟩) k k) k (intsV out) ∧ OfInv T f n out ∧ Below w.heap.size w wr) (fun _ ix _ => k - (intOf ix).toNat)
      case atStart => exact ⟨0, 0, _, Nat.zero_le _, Nat.le_refl _, rfl, rfl, HR.out, HI.out, HB.out⟩
      case round =>
        rename World => wz
        clear HR HI HB
        obtain ⟨f, n, out, hf, hnf, rfl, rfl, hr, hI, hB⟩ := hrel
        by_cases hlt2 : f < k
        · have hol : out.length = k := by rw [hI.len, HF.out]
          have hc : wz.cell? ⟨w.heap.size, f, none⟩ = some (.int .i64 (at_ out f)) := by rw [hr.cellAt f (by omega)]; exact intsV_at (by rw [hol]; exact hlt2)
          have hfz := hr.frozenAt f
          have hf3 : (f : Int) < (k : Int) := by omega
          have hsz := hB.size
          by_cases h0 : 0 ≤ at_ out f
          · have hd : decide (0 ≤ at_ out f) = true := by simpa using h0
            have hI2 := hI.skip h0
            have HI2 := Lib.hid hI2
            have HR := Lib.hid hr
            have HB := Lib.hid hB
            generalize at_ out f = z at *
            clear hI hI2 hr hB hol
            go_wp2
            go_roundw
            case measure => simp [intOf]; omega
            case rel => exact ⟨f + 1, n, out, by omega, by omega, by go_num, rfl, HR.out, HI2.out, HB.out⟩
          · have hd : decide (0 ≤ at_ out f) = false := by simpa using h0
            have hbf := hI.begin_ (by rw [HF.out]; exact hlt2) (by omega)
            have Hbf := Lib.hid hbf
            have hst := hr.stored f (.int .i64 (n : Int))
            rw [intsV_set] at hst
            have HST := Lib.hid hst
            have HI := Lib.hid hI
            have HB := Lib.hid hB
            have hgo := (hr.lt _ rfl).2
            have hW0 : ((wz.setCell ⟨w.heap.size, f, none⟩ (.int .i64 (n : Int))).alloc (.cells #[.int .i64 f] 3)).ownsRow wz.heap.size 3 1 (.slice (some ⟨wz.heap.size, 0, none⟩) 1 1) 1 (intsV (nats [f])) := by
              have := World.ownsRow_lit (wz.setCell ⟨w.heap.size, f, none⟩ (.int .i64 (n : Int))) (base := wz.heap.size) (e := 3) (size := 1) #[.int .i64 (f : Int)] 1 (by simp) (by decide) rfl
              simpa [intsV, nats] using this
            have HW0 := Lib.hid hW0
            generalize at_ out f = z at *
            clear hI hbf hr hB hol hst hW0
            go_wp2
            go_loopw [7, 8] (fun v7 i8 wy => ∃ (v' : Value) (W : List Nat) (out' : List Int) (i : Nat), v' = v7 ∧ i ≤ W.length ∧ i8 = .int .i64 i ∧ wy.ownsRow wz.heap.size 3 1 v' W.length (intsV (nats W)) ∧ wy.ownsRow w.heap.size 3 1 (.slice (some ⟨w.heap.size, 0, none⟩) k k) k (intsV out') ∧ OfBfs T f n out W out' i 0 ∧ Below w.heap.size w wy) (fun _ i8 _ => k + 1 - (intOf i8).toNat)
            case atStart =>
              exact ⟨_, [f], _, 0, rfl, by simp, rfl, HW0.out, HST.out.1.alloc _, Hbf.out, (HB.out.grown HST.out.2 hsz (fun j e => by cases e; exact Nat.le_refl _)).alloc (by simp; exact hsz) _⟩
            case round =>
              rename World => wy
              clear HST Hbf HW0 hc hfz
              obtain ⟨v7, W, out', i, rfl, hi, rfl, hW, hr, hbf, hB⟩ := hrel
              have hwl := hbf.wl
              rw [HF.out] at hwl
              obtain ⟨L, hL⟩ : ∃ L, W.length = L := ⟨_, rfl⟩
              have HL := Lib.hid hL
              rw [hL] at hi hW hwl
              clear hL
              by_cases hiL : i < L
              · obtain ⟨u, hu⟩ : ∃ u, W[i]? = some u := ⟨W[i]'(by have := HL.out; omega), List.getElem?_eq_getElem _⟩
                have hul := hbf.lt u (List.mem_of_getElem? hu)
                rw [HF.out] at hul
                obtain ⟨aw, cw, rfl⟩ := ownsRow_slice hW
                have Hu := Lib.hid hu
                have HW := Lib.hid hW
                have HR := Lib.hid hr
                have HBF := Lib.hid hbf
                have HBy := Lib.hid hB
                have hi3 : (i : Int) < (L : Int) := by omega
                clear hu hW hr hbf hB
                go_wp2
                go_loopw [7, 45] (fun v7 k4 wx => ∃ (v' : Value) (W : List Nat) (out' : List Int) (q : Nat), v' = v7 ∧ q ≤ 3 ∧ k4 = .int .i64 q ∧ wx.ownsRow wz.heap.size 3 1 v' W.length (intsV (nats W)) ∧ wx.ownsRow w.heap.size 3 1 (.slice (some ⟨w.heap.size, 0, none⟩) k k) k (intsV out') ∧ OfBfs T f n out W out' i q ∧ W[i]? = some u ∧ Below w.heap.size w wx) (fun _ k4 _ => 3 - (intOf k4).toNat)
                case atStart => exact ⟨_, W, out', 0, rfl, by omega, rfl, by rw [HL.out]; exact HW.out, HR.out, HBF.out, Hu.out, HBy.out⟩
                case round =>
                  rename World => wx
                  clear HW HR HBF HBy Hu HL hi3 hiL hi hwl
                  clear W out'
                  obtain ⟨v7, W, out', q, rfl, hq, rfl, hW, hr, hbf, hu, hB⟩ := hrel
                  have hwl := hbf.wl
                  rw [HF.out] at hwl
                  have hiL := (List.getElem?_eq_some_iff.1 hu).1
                  by_cases hq3 : q < 3
                  · obtain ⟨gw, cw', rfl, hgw1, hgw2⟩ := hW.form (by omega)
                    have hcw := hW.cellAt i (by omega)
                    rw [show (intsV (nats W))[i]? = some (.int .i64 (u : Int)) from by simp [intsV, nats, hu]] at hcw
                    have hsx := hB.size
                    have HO := Lib.hid (opp_any g N (3 * (u : Int) + (q : Int)) T wx (HT.out.below (hB.mono (Nat.le_refl _))))
                    obtain ⟨L2, hL2⟩ : ∃ L2, W.length = L2 := ⟨_, rfl⟩
                    rw [hL2] at hW hiL hwl ⊢
                    have HL2 := Lib.hid hL2
                    have hi3 : (i : Int) < (L2 : Int) := by omega
                    have hq0 : (q : Int) < 3 := by omega
                    have hqn : (0 : Int) ≤ (q : Int) := by omega
                    have hu0 : (0 : Int) ≤ (u : Int) := by omega
                    have hu1 : (u : Int) ≤ 8192 := by omega
                    have ecast : (3 * (u : Int) + (q : Int)) = ((3 * u + q : Nat) : Int) := by push_cast; rfl
                    have HEC := Lib.hid ecast
                    have HW := Lib.hid hW
                    have HR := Lib.hid hr
                    have HBF := Lib.hid hbf
                    have HU := Lib.hid hu
                    have HBx := Lib.hid hB
                    clear hW hr hbf hu hB hL2 ecast
                    rcases opp_cases T ((3 * u + q : Nat) : Int) with ho | ⟨o, ho, hol⟩
                    · rw [HEC.out, ho] at HO
                      have Hs := Lib.hid (HBF.out.step0 HU.out (fun o e => by rw [ho] at e; omega))
                      clear ho
                      go_wp2_with fail
                      rw [HEC.out]
                      refine HO.out.mono ?_
                      rintro e w2 ⟨rfl, hb2⟩
                      have HB2 := Lib.hid hb2
                      clear hb2 hcw
                      go_wp2
                      go_roundw
                      case measure => simp [intOf]; omega
                      case rel => exact ⟨_, W, out', q + 1, rfl, by omega, by go_num, by rw [HL2.out]; exact own_below HW.out HB2.out, own_below HR.out HB2.out, Hs.out, HU.out, HBx.out.trans (HB2.out.mono hsx)⟩
                    · rw [HEC.out, ho] at HO
                      rw [HF.out] at hol
                      obtain ⟨t, ht⟩ : ∃ t, o / 3 = t := ⟨_, rfl⟩
                      have e1 : (o : Int) / 3 = (t : Int) := by omega
                      have htk : t < k := by omega
                      have ht3 : (t : Int) < (k : Int) := by omega
                      have ht0 : (0 : Int) ≤ (t : Int) := by omega
                      have ho0 : (0 : Int) ≤ (o : Int) := by omega
                      have ho1 : (o : Int) ≤ 100000 := by omega
                      have hd0 : decide (0 ≤ (o : Int)) = true := by simp
                      have holn : out'.length = k := by rw [HBF.out.len, HF.out]
                      have hco : wx.cell? ⟨w.heap.size, t, none⟩ = some (.int .i64 (at_ out' t)) := by rw [HR.out.cellAt t (by omega)]; exact intsV_at (by rw [holn]; exact htk)
                      have Hho := Lib.hid ho
                      have Hht := Lib.hid ht
                      have hgx := (HR.out.lt _ rfl).2
                      by_cases hneg : at_ out' t < 0
                      · have hd1 : decide (at_ out' t < 0) = true := by simpa using hneg
                        have Hs := Lib.hid (HBF.out.add HI.out HU.out hq3 ho (by rw [ht]; exact hneg))
                        rw [ht] at Hs
                        generalize at_ out' t = z at *
                        have c6 : L2 + 1 ≤ maxLen := by unfold maxLen; omega
                        have c7 : (L2 + 1) * 8 ≤ 140737488355328 := by omega
                        clear ho ht hneg holn
                        go_wp2_with fail
                        rw [HEC.out]
                        refine HO.out.mono ?_
                        rintro e w2 ⟨rfl, hb2⟩
                        have hco2 := (hb2.cell (p := ⟨w.heap.size, t, none⟩) hgx).trans hco
                        have hR2 := own_below HR.out hb2
                        have hfo2 := hR2.frozenAt t
                        have hst := hR2.stored t (.int .i64 (n : Int))
                        rw [intsV_set] at hst
                        have HST := Lib.hid hst
                        have hW2 := own_below HW.out hb2
                        have hgo2 := (hR2.lt _ rfl).2
                        have hW3 := hW2.kept hst.2 (.inr (by simp [Value.ownBlock]; omega))
                        have HB2 := Lib.hid hb2
                        have hsz2 := hb2.size
                        clear hb2 hcw hco hR2 hst hW2
                        go_wp2_with (at_builtin; refine wpList_append_lies _ rfl (.tmp 72) (.tmp 75) 30 rfl wz.heap.size 3 i2 _ 1 8 Tryz.underlying30 hj' hz0 hz1 hz2 rfl (by decide) _ L2 (intsV (nats W)) rfl (hW3.alloc _) ⟨w2.heap.size, 0, none⟩ 1 1 [.int .i64 t] rfl rfl (World.news_of_block (by have := heap_alloc_new (w2.setCell ⟨w.heap.size, t, none⟩ (.int .i64 (n : Int))) (.cells #[.int .i64 (t : Int)] 3); simpa using this)) (by simp [Value.oneCell']) (by decide) c6 c7 (by simp; omega) (w2.heap.size + 1) (by simp) ?_; intro g6 cap6 W6 hr6 hg6 hat6 _)
                        go_roundw
                        case measure => simp [intOf]; omega
                        case rel =>
                          have hO3 := (HST.out.1.alloc (.cells #[.int .i64 (t : Int)] 3)).kept hg6 (.inr (show some w.heap.size ≠ some gw from by simp; omega))
                          have hB3 := (((HBx.out.trans (HB2.out.mono hsx)).grown HST.out.2 (by omega) (fun j e => by cases e; exact Nat.le_refl _)).alloc (by simp; omega) (.cells #[.int .i64 (t : Int)] 3)).grown hg6 (by simp; omega) (fun j e => by have := (hW3.lt j e).1; omega)
                          refine ⟨_, W ++ [t], _, q + 1, rfl, by omega, by go_num, ?_, hO3, Hs.out, ?_, hB3⟩
                          · have hl3 : (W ++ [t]).length = L2 + 1 := by simp [HL2.out]
                            rw [hl3]
                            simpa [intsV, nats] using hr6
                          · rw [List.getElem?_append_left (by rw [HL2.out]; exact hiL)]
                            exact HU.out
                      · have hd1 : decide (at_ out' t < 0) = false := by simpa using hneg
                        have Hs := Lib.hid (HBF.out.step0 HU.out (fun o' e => by
                          rw [ho] at e
                          have : o = o' := by omega
                          subst this
                          exact HBF.out.old_in hE HI.out HU.out hq3 ho (by rw [ht]; omega)))
                        generalize at_ out' t = z at *
                        clear ho ht hneg holn
                        go_wp2_with fail
                        rw [HEC.out]
                        refine HO.out.mono ?_
                        rintro e w2 ⟨rfl, hb2⟩
                        have hco2 := (hb2.cell (p := ⟨w.heap.size, t, none⟩) hgx).trans hco
                        have HB2 := Lib.hid hb2
                        have hgo2 := (own_below HR.out hb2).lt _ rfl
                        clear hb2 hcw hco
                        go_wp2
                        go_roundw
                        case measure => simp [intOf]; omega
                        case rel => exact ⟨_, W, out', q + 1, rfl, by omega, by go_num, by rw [HL2.out]; exact own_below HW.out HB2.out, own_below HR.out HB2.out, Hs.out, HU.out, HBx.out.trans (HB2.out.mono hsx)⟩
                  · obtain rfl : q = 3 := by omega
                    have Hs := Lib.hid hbf.next
                    have HW := Lib.hid hW
                    have HR := Lib.hid hr
                    have HBx := Lib.hid hB
                    clear hbf hW hr hB hu
                    go_wp2
                    go_roundw
                    case measure => simp [intOf]; omega
                    case rel => exact ⟨v7, W, out', i + 1, rfl, by omega, by go_num, HW.out, HR.out, Hs.out, HBx.out⟩
              · obtain rfl : i = L := by omega
                have hfin := hbf
                rw [← HL.out] at hfin
                have Hs := Lib.hid (hfin.finish HI.out (by rw [HF.out]; exact hlt2))
                obtain ⟨aw, cw, rfl⟩ := ownsRow_slice hW
                have HR := Lib.hid hr
                have HBx := Lib.hid hB
                have hn0 : (n : Int) ≤ 8192 := by omega
                clear hbf hfin hW hr hB
                go_wp2
                go_roundw
                case measure => simp [intOf]; omega
                case rel => exact ⟨f + 1, n + 1, out', by omega, by omega, by go_num, by go_num, HR.out, Hs.out, HBx.out⟩
        · obtain rfl : f = k := by omega
          have hfi := OfInv.finish (by rw [HF.out]; exact hI)
          have HFI := Lib.hid hfi
          have HR := Lib.hid hr
          have HB := Lib.hid hB
          clear hfi hI hr hB
          go_wp2
          go_ret
          exact ⟨_, out, rfl, HR.out, HFI.out.1, fun j hj => by have := HFI.out.2.2 j (by rw [HF.out]; exact hj); omega, HB.out⟩
def cntL (out : List Int) : Int := out.foldl (fun n k => max n (k + 1)) 0
theorem cntL_take {out : List Int} {j : Nat} (h : j < out.length) : cntL (out.take (j + 1)) = max (cntL (out.take j)) (at_ out j + 1) := by
  unfold cntL
  rw [List.take_succ_eq_append_getElem h, List.foldl_append]
  simp [at_, List.getD, h]
theorem cntL_bd {out : List Int} {m : Int} (h : ∀ j, j < out.length → at_ out j < m) (hm : 0 ≤ m) : ∀ j, j ≤ out.length → 0 ≤ cntL (out.take j) ∧ cntL (out.take j) ≤ m
  | 0, _ => by simp [cntL]; omega
  | j + 1, hj => by
    have ih := cntL_bd h hm j (by omega)
    have := h j (by omega)
    rw [cntL_take (by omega)]
    omega
set_option maxRecDepth 100000 in
set_option maxHeartbeats 1000000 in
theorem count_any (g : Nat) (N : Int) (T : List Tr) (w : World) (h : Tab w g N T) (hE : (T.flatMap edges3).Nodup) : Calls Tryz.prog 40 #[.pointer (some ⟨g, 0, none⟩)] w fun e w' => ∃ out, e = .returned (.int .i64 (cntL out)) ∧ Shl T out ∧ (∀ j, j < T.length → at_ out j < T.length) ∧ Below w.heap.size w w' := by
  have H0 := Lib.hid (of_any g N T w h hE)
  have hl := h.len
  obtain ⟨F, hF⟩ : ∃ F, T.length = F := ⟨_, rfl⟩
  rw [hF] at hl H0 ⊢
  have HF := Lib.hid hF
  clear hF h
  go_enter Tryz.func40, Tryz.ntmps40
  go_wp2_with fail
  refine H0.out.mono ?_
  rintro e w1 ⟨v, out, rfl, hr, hS, hlt, hb⟩
  obtain ⟨av, cv, rfl⟩ := ownsRow_slice hr
  have hol : out.length = F := by rw [hS.len, HF.out]
  have hbd := cntL_bd (out := out) (m := (F : Int)) (fun j hj => hlt j (by omega)) (by omega)
  have HOL := Lib.hid hol
  have HBD := Lib.hid hbd
  have HR := Lib.hid hr
  have HS := Lib.hid hS
  have HLT := Lib.hid hlt
  clear hol hbd hr hS hlt H0
  go_wp2
  go_loop [3, 9] (fun n i => ∃ j : Nat, j ≤ F ∧ i = .int .i64 j ∧ n = .int .i64 (cntL (out.take j))) (fun _ i => F - (intOf i).toNat)
  case atStart => exact ⟨0, Nat.zero_le _, rfl, by simp [cntL]⟩
  case round =>
    obtain ⟨j, hj, rfl, rfl⟩ := hrel
    by_cases hjF : j < F
    · obtain ⟨g0, cap, e0, hg1, hg2⟩ := HR.out.form (by omega)
      cases e0
      have hc := HR.out.cellAt j (by omega)
      rw [intsV_at (by rw [HOL.out]; exact hjF)] at hc
      have Hst := Lib.hid (cntL_take (out := out) (j := j) (by rw [HOL.out]; exact hjF))
      obtain ⟨b0, b1⟩ := HBD.out j (by rw [HOL.out]; exact hj)
      obtain ⟨b2, b3⟩ := HBD.out (j + 1) (by rw [HOL.out]; exact hjF)
      have hk1 := HLT.out j hjF
      have hk0 := HS.out.nn j (by rw [HF.out]; exact hjF)
      rw [Hst.out] at b2 b3
      have hj3 : (j : Int) < (F : Int) := by omega
      generalize cntL (out.take j) = z at *
      generalize at_ out j = y at *
      go_wp2
      go_round
      case measure => simp [intOf]; omega
      case rel => exact ⟨j + 1, by omega, by go_num, by rw [Hst.out]⟩
    · obtain rfl : j = F := by omega
      have e : out.take j = out := List.take_of_length_le (by rw [HOL.out]; omega)
      have HE := Lib.hid e
      clear e
      go_wp2
      go_ret
      exact ⟨out, by rw [HE.out]; rfl, HS.out, HLT.out, hb⟩
end Go.Proofs.YtpnkhgjjlionnaaGreat
namespace Go.Proofs.YtpnkhgjjlionnaaGreat
namespace Jor
section
variable {F N : Nat} {opp vert : Nat → Nat}

theorem xs_mem {n : Nat} {p : Nat → Bool} : ∀ {X : List Nat}, X.Nodup → (∀ c ∈ X, c < n) → xs (List.range n) (fun c => p c && decide (c ∈ X)) = xs X p
  | [], _, _ => by
    rw [xs_nil]
    exact xs_false fun c _ => by simp
  | a :: r, hn, hl => by
    obtain ⟨h1, h2⟩ := List.nodup_cons.1 hn
    have ih := xs_mem (p := p) h2 (fun c hc => hl c (List.mem_cons_of_mem _ hc))
    have e : xs (List.range n) (fun c => p c && decide (c ∈ a :: r)) = xs (List.range n) (fun c => xor (p c && decide (c = a)) (p c && decide (c ∈ r))) := by
      refine xs_congr fun c _ => ?_
      by_cases h : c = a
      · subst h
        simp [h1]
      · simp [h]
    rw [e, xs_xor, ih, xs_cons]
    congr 1
    rw [xs_one (a := a) List.nodup_range (List.mem_range.2 (hl a (List.mem_cons_self ..))) (fun c _ hc => by simp [hc])]
    simp

/-- Where the edge across from a corner begins, and ends. -/
def hd (vert : Nat → Nat) (c : Nat) : Nat := vert (nx c)
def tl (vert : Nat → Nat) (c : Nat) : Nat := vert (pv c)
/-- A corner whose triangle was not gone over, and the one across was. -/
def Bd (F : Nat) (opp : Nat → Nat) (D : List Nat) (c : Nat) : Prop := c < 3 * F ∧ c / 3 ∉ D ∧ opp c / 3 ∈ D
def Come (F : Nat) (vert : Nat → Nat) (D : List Nat) (v : Nat) : Prop := ∃ d, d < 3 * F ∧ d / 3 ∈ D ∧ vert d = v
/-- Round and round. -/
def Cyc (vert : Nat → Nat) (X : List Nat) : Prop := ∃ c r, X = c :: r ∧ X.map (tl vert) = r.map (hd vert) ++ [hd vert c]
theorem Cyc.perm {X : List Nat} (h : Cyc vert X) : (X.map (tl vert)).Perm (X.map (hd vert)) := by
  obtain ⟨c, r, rfl, e⟩ := h
  rw [e, List.map_cons]
  exact List.perm_append_singleton ..
/-- What a surface is, besides, that is walked over. -/
structure Walks (F N : Nat) (opp vert : Nat → Nat) : Prop extends Closed F N opp vert where
  euler : 2 * N = F + 4
  pos : 0 < F
  ei : ∀ c d, c < 3 * F → d < 3 * F → hd vert c = hd vert d → tl vert c = tl vert d → c = d
  ar : ∀ (v : Nat) (S : Nat → Prop), (∃ c, c < 3 * F ∧ vert c = v ∧ S (c / 3)) → (∀ c, c < 3 * F → vert c = v → S (c / 3) → S (opp (nx c) / 3) ∧ S (opp (pv c) / 3)) → ∀ c, c < 3 * F → vert c = v → S (c / 3)
/-- While a walk is on its way: D are the triangles gone over, Xs the loops. -/
structure WInv (F : Nat) (opp vert : Nat → Nat) (d0 : Nat) (D : List Nat) (Xs : List (List Nat)) : Prop where
  dnd : D.Nodup
  dlt : ∀ t ∈ D, t < F
  root : d0 ∈ D
  conn : ∀ S : Nat → Prop, S d0 → (∀ c, c < 3 * F → c / 3 ∈ D → opp c / 3 ∈ D → S (c / 3) → S (opp c / 3)) → ∀ t ∈ D, S t
  len : ∀ X ∈ Xs, 3 ≤ X.length
  cyc : ∀ X ∈ Xs, Cyc vert X
  vnd : ∀ X ∈ Xs, (X.map (hd vert)).Nodup
  nd : Xs.flatten.Nodup
  bd : ∀ c, c ∈ Xs.flatten ↔ Bd F opp D c
variable {d0 : Nat} {D : List Nat} {Xs : List (List Nat)}
theorem WInv.mem (h : WInv F opp vert d0 D Xs) {X : List Nat} (hX : X ∈ Xs) {c : Nat} (hc : c ∈ X) : Bd F opp D c := (h.bd c).1 (List.mem_flatten.2 ⟨X, hX, hc⟩)
theorem nodup_of_map {f : Nat → Nat} {l : List Nat} (h : (l.map f).Nodup) : l.Nodup := List.Pairwise.of_map f (fun a b hab e => hab (by rw [e])) h
theorem WInv.colour (K : Walks F N opp vert) (h : WInv F opp vert d0 D Xs) {X : List Nat} (hX : X ∈ Xs) :
    ∃ f : Nat → Bool, (∀ t ∈ D, f t = f d0) ∧ ∀ c, c < 3 * F → xor (f (c / 3)) (f (opp c / 3)) = (decide (c ∈ X) || decide (opp c ∈ X)) := by
  have hnd : X.Nodup := nodup_of_map (h.vnd X hX)
  have hlt : ∀ c ∈ X, c < 3 * F := fun c hc => (h.mem hX hc).1
  have hx : ∀ c, c < 3 * F → c ∈ X → opp c ∉ X := fun c hc h1 h2 => (h.mem hX h2).2.1 (h.mem hX h1).2.2
  obtain ⟨f, hf⟩ := jordan K.toClosed K.pos K.euler (κ := fun c => decide (c ∈ X) || decide (opp c ∈ X))
    (fun c hc => by simp only [K.inv c hc]; exact Bool.or_comm ..) (fun v hv => by
      have e1 : par F vert (fun c => decide (c ∈ X) || decide (opp c ∈ X)) v = xs (List.range (3 * F)) (fun c => xor (hd vert c == v && decide (c ∈ X)) (hd vert c == v && decide (opp c ∈ X))) := by
        unfold par
        refine xs_congr fun c hc => ?_
        have := hx c (List.mem_range.1 hc)
        unfold hd
        by_cases m1 : c ∈ X
        · simp [m1, this m1]
        · simp [m1]
      have e2 : xs (List.range (3 * F)) (fun c => hd vert c == v && decide (opp c ∈ X)) = xs (List.range (3 * F)) (fun c => tl vert c == v && decide (c ∈ X)) := by
        rw [← xs_perm (perm_map_range opp opp K.lt K.lt K.inv K.inv) (p := fun c => hd vert c == v && decide (opp c ∈ X)), xs_map]
        refine xs_congr fun c hc => ?_
        have hc := List.mem_range.1 hc
        unfold hd tl
        rw [K.vn c hc, K.inv c hc]
      rw [e1, xs_xor, e2, xs_mem hnd hlt, xs_mem hnd hlt]
      have e3 : xs X (fun c => hd vert c == v) = xs X (fun c => tl vert c == v) := by
        rw [← xs_map (hd vert) (p := fun c => c == v), ← xs_map (tl vert) (p := fun c => c == v)]
        exact xs_perm (h.cyc X hX).perm.symm
      rw [e3]
      simp)
  refine ⟨f, ?_, hf⟩
  refine h.conn (fun t => f t = f d0) rfl ?_
  intro c hc h1 h2 e
  have := hf c hc
  have m1 : c ∉ X := fun m => (h.mem hX m).2.1 h1
  have m2 : opp c ∉ X := fun m => (h.mem hX m).2.1 h2
  simp only [m1, m2, decide_false, Bool.or_false] at this
  rw [← e]
  revert this
  cases f (c / 3) <;> cases f (opp c / 3) <;> simp
/-- Two open gates of one triangle lie in one loop. -/
theorem WInv.only (K : Walks F N opp vert) (h : WInv F opp vert d0 D Xs) {X : List Nat} (hX : X ∈ Xs) {c0 c1 : Nat} (h0 : c0 ∈ X) (h1 : Bd F opp D c1) (e : c1 / 3 = c0 / 3) : c1 ∈ X := by
  obtain ⟨f, fD, hf⟩ := h.colour K hX
  have b0 := h.mem hX h0
  have k0 := hf c0 b0.1
  have k1 := hf c1 h1.1
  rw [fD _ b0.2.2] at k0
  rw [fD _ h1.2.2, e] at k1
  have m2 : opp c1 ∉ X := fun m => (h.mem hX m).2.1 h1.2.2
  rw [k0] at k1
  simp only [h0, m2, decide_true, Bool.true_or, decide_false, Bool.or_false] at k1
  simpa using k1.symm
theorem Cyc.tl_mem {X : List Nat} (h : Cyc vert X) {c : Nat} (hc : c ∈ X) : tl vert c ∈ X.map (hd vert) := h.perm.mem_iff.1 (List.mem_map_of_mem hc)
/-- A vertex that was come to, of a triangle at a loop, lies in that loop. -/
theorem WInv.touch (K : Walks F N opp vert) (h : WInv F opp vert d0 D Xs) {X : List Nat} (hX : X ∈ Xs) {c0 c : Nat} (h0 : c0 ∈ X) (hc : c < 3 * F) (e : c / 3 = c0 / 3) (hv : Come F vert D (vert c)) : vert c ∈ X.map (hd vert) := by
  refine Classical.byContradiction fun hne => ?_
  obtain ⟨f, fD, hf⟩ := h.colour K hX
  have b0 := h.mem hX h0
  have k0 := hf c0 b0.1
  rw [fD _ b0.2.2] at k0
  obtain ⟨d, hd1, hd2, hd3⟩ := hv
  have key : ∀ g, g < 3 * F → (hd vert g = vert c ∨ tl vert g = vert c) → f (g / 3) = f (opp g / 3) := by
    intro g hg hgv
    have m1 : g ∉ X := fun m => by
      rcases hgv with e | e
      · exact hne (by rw [← e]; exact List.mem_map_of_mem m)
      · exact hne (by rw [← e]; exact (h.cyc X hX).tl_mem m)
    have m2 : opp g ∉ X := fun m => by
      rcases hgv with e | e
      · have := (h.cyc X hX).tl_mem m
        unfold tl at this
        rw [K.vp g hg] at this
        exact hne (by rw [← e]; exact this)
      · have : hd vert (opp g) ∈ X.map (hd vert) := List.mem_map_of_mem m
        unfold hd at this
        rw [K.vn g hg] at this
        exact hne (by rw [← e]; exact this)
    have := hf g hg
    simp only [m1, m2, decide_false, Bool.or_false] at this
    revert this
    cases f (g / 3) <;> cases f (opp g / 3) <;> simp
  have hS := K.ar (vert c) (fun t => f t = f d0) ⟨d, hd1, hd3, fD _ hd2⟩ (fun g hg hgv hS => by
    refine ⟨?_, ?_⟩
    · rw [← key (nx g) (nx_lt hg) (.inr (by unfold tl; rw [pv_nx]; exact hgv)), nx_div]
      exact hS
    · rw [← key (pv g) (pv_lt hg) (.inl (by unfold hd; rw [nx_pv]; exact hgv)), pv_div]
      exact hS) c hc rfl
  rw [e] at hS
  have hS' : f (c0 / 3) = f d0 := hS
  rw [hS'] at k0
  simp [h0] at k0

/-! One triangle more. -/
theorem bd_step (K : Walks F N opp vert) {c0 : Nat} (h0 : Bd F opp D c0) (c : Nat) :
    Bd F opp (c0 / 3 :: D) c ↔ (Bd F opp D c ∧ c ≠ c0 ∧ c ≠ pv c0 ∧ c ≠ nx c0) ∨ (c = opp (pv c0) ∧ ¬ Bd F opp D (pv c0)) ∨ (c = opp (nx c0) ∧ ¬ Bd F opp D (nx c0)) := by
  obtain ⟨hl, hn, hi⟩ := h0
  have same : ∀ g, g / 3 = c0 / 3 ↔ g = c0 ∨ g = pv c0 ∨ g = nx c0 := fun g => by unfold nx pv; omega
  have ha : pv c0 < 3 * F := pv_lt hl
  have hb : nx c0 < 3 * F := nx_lt hl
  constructor
  · rintro ⟨c1, c2, c3⟩
    have c2' : c / 3 ≠ c0 / 3 ∧ c / 3 ∉ D := by simpa using c2
    have hne := fun e => c2'.1 ((same c).2 e)
    rcases List.mem_cons.1 c3 with c3 | c3
    · rcases (same _).1 c3 with e | e | e
      · exact absurd (show c / 3 ∈ D by rw [← K.inv c c1, e]; exact hi) c2'.2
      · have e2 : c = opp (pv c0) := by rw [← e, K.inv c c1]
        exact .inr (.inl ⟨e2, fun hbd => c2'.2 (by rw [e2]; exact hbd.2.2)⟩)
      · have e2 : c = opp (nx c0) := by rw [← e, K.inv c c1]
        exact .inr (.inr ⟨e2, fun hbd => c2'.2 (by rw [e2]; exact hbd.2.2)⟩)
    · exact .inl ⟨⟨c1, c2'.2, c3⟩, fun e => hne (.inl e), fun e => hne (.inr (.inl e)), fun e => hne (.inr (.inr e))⟩
  · rintro (⟨⟨c1, c2, c3⟩, e1, e2, e3⟩ | ⟨rfl, hbd⟩ | ⟨rfl, hbd⟩)
    · refine ⟨c1, ?_, List.mem_cons_of_mem _ c3⟩
      rw [List.mem_cons, not_or]
      exact ⟨fun e => by rcases (same c).1 e with e | e | e; exact e1 e; exact e2 e; exact e3 e, c2⟩
    · refine ⟨K.lt _ ha, ?_, ?_⟩
      · rw [List.mem_cons, not_or]
        exact ⟨fun e => K.apart _ ha (by rw [e, pv_div]), fun hm => hbd ⟨ha, by rw [pv_div]; exact hn, hm⟩⟩
      · rw [K.inv _ ha, pv_div]
        exact List.mem_cons_self ..
    · refine ⟨K.lt _ hb, ?_, ?_⟩
      · rw [List.mem_cons, not_or]
        exact ⟨fun e => K.apart _ hb (by rw [e, nx_div]), fun hm => hbd ⟨hb, by rw [nx_div]; exact hn, hm⟩⟩
      · rw [K.inv _ hb, nx_div]
        exact List.mem_cons_self ..
/-- .. and what the loops must be then. -/
theorem WInv.step (K : Walks F N opp vert) (h : WInv F opp vert d0 D Xs) {c0 : Nat} (h0 : Bd F opp D c0) {Ys : List (List Nat)}
    (len : ∀ X ∈ Ys, 3 ≤ X.length) (cyc : ∀ X ∈ Ys, Cyc vert X) (vnd : ∀ X ∈ Ys, (X.map (hd vert)).Nodup) (nd : Ys.flatten.Nodup)
    (bd : ∀ c, c ∈ Ys.flatten ↔ (Bd F opp D c ∧ c ≠ c0 ∧ c ≠ pv c0 ∧ c ≠ nx c0) ∨ (c = opp (pv c0) ∧ ¬ Bd F opp D (pv c0)) ∨ (c = opp (nx c0) ∧ ¬ Bd F opp D (nx c0))) : WInv F opp vert d0 (c0 / 3 :: D) Ys where
  dnd := List.nodup_cons.2 ⟨h0.2.1, h.dnd⟩
  dlt := fun t ht => by
    rcases List.mem_cons.1 ht with rfl | ht
    · have := h0.1
      omega
    · exact h.dlt t ht
  root := List.mem_cons_of_mem _ h.root
  conn := fun S s0 sc t ht => by
    have hD := h.conn S s0 (fun c c1 c2 c3 => sc c c1 (List.mem_cons_of_mem _ c2) (List.mem_cons_of_mem _ c3))
    rcases List.mem_cons.1 ht with rfl | ht
    · have := sc (opp c0) (K.lt _ h0.1) (List.mem_cons_of_mem _ h0.2.2) (by rw [K.inv _ h0.1]; exact List.mem_cons_self ..) (hD _ h0.2.2)
      rwa [K.inv _ h0.1] at this
    · exact hD t ht
  len := len
  cyc := cyc
  vnd := vnd
  nd := nd
  bd := fun c => (bd c).trans (bd_step K h0 c).symm
end
end Jor
end Go.Proofs.YtpnkhgjjlionnaaGreat
namespace Go.Proofs.YtpnkhgjjlionnaaGreat
namespace Jor
section
variable {F N : Nat} {opp vert : Nat → Nat} {d0 : Nat} {D : List Nat}

/-- What a step makes of the loops: the vertex was come to, and stands at e. -/
def parted (opp : Nat → Nat) (c0 : Nat) (r1 : List Nat) (e : Nat) (r2 : List Nat) (W : List (List Nat)) : List (List Nat) :=
  (if r2 = [] then [] else [opp (pv c0) :: e :: r2]) ++ ((if r1.length = 1 then [] else [opp (nx c0) :: r1]) ++ W)
theorem bd_not_opp (K : Walks F N opp vert) {c0 g : Nat} (h0 : c0 / 3 ∉ D) (hg : g < 3 * F) (e : g / 3 = c0 / 3) : ¬ Bd F opp D (opp g) := fun h => h0 (by rw [← e, ← K.inv g hg]; exact h.2.2)
theorem map_inj_nodup {f : Nat → Nat} {l : List Nat} (h : (l.map f).Nodup) {a b : Nat} (ha : a ∈ l) (hb : b ∈ l) (e : f a = f b) : a = b := by
  induction l with
  | nil => cases ha
  | cons x l ih =>
    rw [List.map_cons, List.nodup_cons] at h
    rcases List.mem_cons.1 ha with ea | ha1
    · rcases List.mem_cons.1 hb with eb | hb1
      · rw [ea, eb]
      · exact absurd (by rw [← ea, e]; exact List.mem_map_of_mem hb1) h.1
    · rcases List.mem_cons.1 hb with eb | hb1
      · exact absurd (by rw [← eb, ← e]; exact List.mem_map_of_mem ha1) h.1
      · exact ih h.2 ha1 hb1
theorem parted_nodup {oa ob c0 e : Nat} {r1 r2 : List Nat} {W : List (List Nat)} (h : ((c0 :: (r1 ++ e :: r2)) ++ W.flatten).Nodup) (ha : oa ∉ (c0 :: (r1 ++ e :: r2)) ++ W.flatten) (hb : ob ∉ (c0 :: (r1 ++ e :: r2)) ++ W.flatten) (hab : oa ≠ ob) :
    ((if r2 = [] then [] else [oa :: e :: r2]) ++ ((if r1.length = 1 then [] else [ob :: r1]) ++ W)).flatten.Nodup := by
  have full : ((oa :: e :: r2) ++ ((ob :: r1) ++ W.flatten)).Nodup := by
    have h1 : (oa :: ob :: ((r1 ++ e :: r2) ++ W.flatten)).Nodup := by
      simp only [List.cons_append, List.mem_cons, List.nodup_cons, not_or] at h ha hb ⊢
      exact ⟨⟨hab, ha.2⟩, hb.2, h.2⟩
    refine (List.Perm.nodup_iff ?_).1 h1
    refine List.Perm.cons _ ?_
    have p1 : ((r1 ++ e :: r2) ++ W.flatten).Perm ((e :: r2) ++ (r1 ++ W.flatten)) := by
      rw [← List.append_assoc]
      exact List.Perm.append_right _ List.perm_append_comm
    refine (List.Perm.cons ob p1).trans ?_
    exact (List.perm_middle (l₁ := e :: r2) (l₂ := r1 ++ W.flatten) (a := ob)).symm
  refine List.Sublist.nodup ?_ full
  simp only [List.flatten_append]
  refine List.Sublist.append ?_ (List.Sublist.append ?_ (List.Sublist.refl _))
  · split
    · exact List.nil_sublist _
    · simp
  · split
    · exact List.nil_sublist _
    · simp
theorem opp_ne (K : Walks F N opp vert) {a b : Nat} (ha : a < 3 * F) (hb : b < 3 * F) (h : a ≠ b) : opp a ≠ opp b := fun e => h (by rw [← K.inv a ha, e, K.inv b hb])

theorem WInv.next (K : Walks F N opp vert) {c0 : Nat} {r : List Nat} {W : List (List Nat)} (h : WInv F opp vert d0 D ((c0 :: r) :: W)) :
    (¬ Come F vert D (vert c0) ∧ WInv F opp vert d0 (c0 / 3 :: D) ((opp (pv c0) :: opp (nx c0) :: r) :: W)) ∨
    (Come F vert D (vert c0) ∧ ∃ r1 e r2, r = r1 ++ e :: r2 ∧ hd vert e = vert c0 ∧ r1 ≠ [] ∧ WInv F opp vert d0 (c0 / 3 :: D) (parted opp c0 r1 e r2 W)) := by
  have hX : (c0 :: r) ∈ (c0 :: r) :: W := List.mem_cons_self ..
  have h0 : Bd F opp D c0 := h.mem hX (List.mem_cons_self ..)
  have hl0 := h0.1
  have ha : pv c0 < 3 * F := pv_lt hl0
  have hb : nx c0 < 3 * F := nx_lt hl0
  have hlen := h.len _ hX
  have hvnd := h.vnd _ hX
  obtain ⟨c', r', e', hcyc⟩ := h.cyc _ hX
  cases e'
  have hda : hd vert (opp (pv c0)) = hd vert c0 := by unfold hd; rw [K.vn _ ha, pv_pv]
  have hta : tl vert (opp (pv c0)) = vert c0 := by unfold tl; rw [K.vp _ ha, nx_pv]
  have hdb : hd vert (opp (nx c0)) = vert c0 := by unfold hd; rw [K.vn _ hb, pv_nx]
  have htb : tl vert (opp (nx c0)) = tl vert c0 := by unfold tl; rw [K.vp _ hb, nx_nx]
  have hab : opp (pv c0) ≠ opp (nx c0) := opp_ne K ha hb (by unfold nx pv; omega)
  have oa := bd_not_opp K h0.2.1 ha (pv_div c0)
  have ob := bd_not_opp K h0.2.1 hb (nx_div c0)
  have hnd := h.nd
  have hbd := h.bd
  simp only [List.flatten_cons, List.cons_append, List.nodup_cons] at hnd
  by_cases hcome : Come F vert D (vert c0)
  · refine .inr ⟨hcome, ?_⟩
    have ht := h.touch K hX (List.mem_cons_self ..) hl0 rfl hcome
    have hne : hd vert c0 ≠ vert c0 := K.simple c0 hl0
    have hne2 : tl vert c0 ≠ vert c0 := fun e => K.simple (pv c0) ha (by rw [nx_pv]; exact e.symm)
    rw [List.map_cons, List.mem_cons] at ht
    rcases ht with ht | ht
    · exact absurd ht.symm hne
    obtain ⟨e, he, hev⟩ := List.mem_map.1 ht
    obtain ⟨r1, r2, rfl⟩ := List.append_of_mem he
    have hr1 : r1 ≠ [] := by
      rintro rfl
      simp only [List.nil_append, List.map_cons, List.cons_append, List.cons.injEq] at hcyc
      exact hne2 (hcyc.1.trans hev)
    obtain ⟨b, r1', rfl⟩ := List.exists_cons_of_ne_nil hr1
    simp only [List.map_cons, List.map_append, List.cons_append, List.cons.injEq] at hcyc
    obtain ⟨cy1, cy2⟩ := hcyc
    have cy2' : (tl vert b :: r1'.map (tl vert)) ++ (tl vert e :: r2.map (tl vert)) = (r1'.map (hd vert) ++ [hd vert e]) ++ (r2.map (hd vert) ++ [hd vert c0]) := by
      simpa using cy2
    obtain ⟨cy3, cy4⟩ := List.append_inj cy2' (by simp)
    have hbm : b ∈ c0 :: ((b :: r1') ++ e :: r2) := by simp
    have hem : e ∈ c0 :: ((b :: r1') ++ e :: r2) := by simp
    have hv' := hvnd
    simp only [List.map_cons, List.map_append, List.cons_append, List.nodup_cons, List.nodup_append, List.mem_cons, List.mem_append, not_or] at hv'
    have hB : Bd F opp D (nx c0) ↔ r1' = [] := by
      constructor
      · intro hbB
        have m := h.only K hX (List.mem_cons_self ..) hbB (nx_div c0)
        have e1 : nx c0 = b := map_inj_nodup hvnd m hbm (by rw [← cy1]; unfold hd tl; rw [nx_nx])
        have e2 : tl vert b = hd vert e := by rw [← e1, hev]; unfold tl; rw [pv_nx]
        cases r1' with
        | nil => rfl
        | cons b2 r1'' =>
          simp only [List.map_cons, List.cons_append, List.cons.injEq] at cy3
          have : hd vert b2 = hd vert e := cy3.1.symm.trans e2
          have := map_inj_nodup hvnd (a := b2) (b := e) (by simp) hem this
          subst this
          grind
      · rintro rfl
        simp only [List.map_nil, List.nil_append, List.cons.injEq, and_true] at cy3
        have e1 := K.ei b (nx c0) (h.mem hX hbm).1 hb (by rw [← cy1]; unfold hd tl; rw [nx_nx]) (by rw [cy3, hev]; unfold tl; rw [pv_nx])
        rw [← e1]
        exact h.mem hX hbm
    have hA : Bd F opp D (pv c0) ↔ r2 = [] := by
      constructor
      · intro hbA
        have m := h.only K hX (List.mem_cons_self ..) hbA (pv_div c0)
        have e1 : pv c0 = e := map_inj_nodup hvnd m hem (by rw [hev]; unfold hd; rw [nx_pv])
        have e2 : tl vert e = hd vert c0 := by rw [← e1]; unfold tl hd; rw [pv_pv]
        cases r2 with
        | nil => rfl
        | cons b2 r2' =>
          simp only [List.map_cons, List.cons_append, List.cons.injEq] at cy4
          have : hd vert b2 = hd vert c0 := cy4.1.symm.trans e2
          have := map_inj_nodup hvnd (a := b2) (b := c0) (by simp) (by simp) this
          subst this
          grind
      · rintro rfl
        simp only [List.map_nil, List.nil_append, List.cons.injEq, and_true] at cy4
        have e1 := K.ei e (pv c0) (h.mem hX hem).1 ha (by rw [hev]; unfold hd; rw [nx_pv]) (by rw [cy4]; unfold tl hd; rw [pv_pv])
        rw [← e1]
        exact h.mem hX hem
    have hB' : r1' = [] → b = nx c0 := fun e0 => by
      have m := h.only K hX (List.mem_cons_self ..) (hB.2 e0) (nx_div c0)
      exact (map_inj_nodup hvnd m hbm (by rw [← cy1]; unfold hd tl; rw [nx_nx])).symm
    have hA' : r2 = [] → e = pv c0 := fun e0 => by
      have m := h.only K hX (List.mem_cons_self ..) (hA.2 e0) (pv_div c0)
      exact (map_inj_nodup hvnd m hem (by rw [hev]; unfold hd; rw [nx_pv])).symm
    refine ⟨b :: r1', e, r2, rfl, hev, hr1, h.step K h0 ?_ ?_ ?_ ?_ ?_⟩
    · intro X hX'
      unfold parted at hX'
      rw [List.mem_append, List.mem_append] at hX'
      rcases hX' with hX' | hX' | hX'
      · split at hX'
        · cases hX'
        · rw [List.mem_singleton] at hX'
          subst hX'
          rename_i h2
          have := List.length_pos_iff.2 h2
          simp only [List.length_cons]
          omega
      · split at hX'
        · cases hX'
        · rw [List.mem_singleton] at hX'
          subst hX'
          rename_i h2
          simp only [List.length_cons] at h2 ⊢
          omega
      · exact h.len X (List.mem_cons_of_mem _ hX')
    · intro X hX'
      unfold parted at hX'
      rw [List.mem_append, List.mem_append] at hX'
      rcases hX' with hX' | hX' | hX'
      · split at hX'
        · cases hX'
        · rw [List.mem_singleton] at hX'
          subst hX'
          exact ⟨_, _, rfl, by simp only [List.map_cons, List.cons_append, hta, hev, hda, cy4]⟩
      · split at hX'
        · cases hX'
        · rw [List.mem_singleton] at hX'
          subst hX'
          exact ⟨_, _, rfl, by simp only [List.map_cons, List.cons_append, htb, cy1, hdb, cy3, hev]⟩
      · exact h.cyc X (List.mem_cons_of_mem _ hX')
    · intro X hX'
      unfold parted at hX'
      rw [List.mem_append, List.mem_append] at hX'
      rcases hX' with hX' | hX' | hX'
      · split at hX'
        · cases hX'
        · rw [List.mem_singleton] at hX'
          subst hX'
          simp only [List.map_cons, hda, List.nodup_cons, List.mem_cons, not_or]
          grind
      · split at hX'
        · cases hX'
        · rw [List.mem_singleton] at hX'
          subst hX'
          simp only [List.map_cons, hdb, List.nodup_cons, List.mem_cons, not_or]
          grind
      · exact h.vnd X (List.mem_cons_of_mem _ hX')
    · have e1 : ((c0 :: ((b :: r1') ++ e :: r2)) :: W).flatten = (c0 :: ((b :: r1') ++ e :: r2)) ++ W.flatten := List.flatten_cons
      have nn := h.nd
      rw [e1] at nn hbd
      exact parted_nodup nn (fun m => oa ((hbd _).1 m)) (fun m => ob ((hbd _).1 m)) hab
    · intro c
      have hc := hbd c
      have hbdA := hbd (pv c0)
      have hbdB := hbd (nx c0)
      simp only [List.flatten_cons, List.cons_append, List.append_assoc, List.mem_cons, List.mem_append] at hc
      simp only [List.cons_append, List.append_assoc, List.mem_cons, List.mem_append, not_or, List.nodup_cons, List.nodup_append] at hnd
      unfold parted
      rw [hA, hB, ← hc]
      have hc1 : (r1'.length + 1 = 1) ↔ r1' = [] := by
        constructor
        · intro e0
          exact List.eq_nil_of_length_eq_zero (by omega)
        · rintro rfl
          rfl
      have hnA : r2 ≠ [] → ∀ x, Bd F opp D x → x ≠ pv c0 := fun e0 x hx e1 => e0 (hA.1 (by rw [← e1]; exact hx))
      have hnB : r1' ≠ [] → ∀ x, Bd F opp D x → x ≠ nx c0 := fun e0 x hx e1 => e0 (hB.1 (by rw [← e1]; exact hx))
      have hcb := hc
      simp only [List.flatten_append, List.mem_append, List.length_cons]
      by_cases z1 : r1' = [] <;> by_cases z2 : r2 = [] <;> simp only [z1, z2, if_true, if_false, List.flatten_nil, List.flatten_cons, List.append_nil, List.mem_cons, List.not_mem_nil, false_or, List.cons_append, List.length_nil, hc1] at * <;> grind
  · refine .inl ⟨hcome, h.step K h0 ?_ ?_ ?_ ?_ ?_⟩
    · intro X hX'
      rcases List.mem_cons.1 hX' with rfl | hX'
      · simp only [List.length_cons] at hlen ⊢
        omega
      · exact h.len X (List.mem_cons_of_mem _ hX')
    · intro X hX'
      rcases List.mem_cons.1 hX' with rfl | hX'
      · refine ⟨_, _, rfl, ?_⟩
        rw [List.map_cons] at hcyc
        simp only [List.map_cons, hta, htb, hda, hdb, List.cons_append]
        rw [hcyc]
      · exact h.cyc X (List.mem_cons_of_mem _ hX')
    · intro X hX'
      rcases List.mem_cons.1 hX' with rfl | hX'
      · have hnv : ∀ c ∈ c0 :: r, hd vert c ≠ vert c0 := fun c hc e => hcome ⟨pv (opp c), pv_lt (K.lt _ (h.mem hX hc).1), by rw [pv_div]; exact (h.mem hX hc).2.2, by rw [K.vp _ (h.mem hX hc).1]; exact e⟩
        have h1 := hnv c0 (List.mem_cons_self ..)
        have h2 : vert c0 ∉ r.map (hd vert) := fun hm => by
          obtain ⟨c, hc, e⟩ := List.mem_map.1 hm
          exact hnv c (List.mem_cons_of_mem _ hc) e
        simp only [List.map_cons, List.nodup_cons, hda, hdb, List.mem_cons, not_or] at hvnd ⊢
        exact ⟨⟨h1, hvnd.1⟩, h2, hvnd.2⟩
      · exact h.vnd X (List.mem_cons_of_mem _ hX')
    · have na : ∀ c, Bd F opp D c → c ≠ opp (pv c0) := fun c hc e => oa (by rw [← e]; exact hc)
      have nb : ∀ c, Bd F opp D c → c ≠ opp (nx c0) := fun c hc e => ob (by rw [← e]; exact hc)
      simp only [List.flatten_cons, List.cons_append, List.mem_cons, List.mem_append] at hbd
      simp only [List.flatten_cons, List.cons_append, List.nodup_cons, List.mem_cons, List.mem_append] at hnd ⊢
      grind
    · intro c
      have hc := hbd c
      have hnA : ¬ Bd F opp D (pv c0) := fun hb' => hcome ⟨pv (opp (pv c0)), pv_lt (K.lt _ ha), by rw [pv_div]; exact hb'.2.2, hta⟩
      have hnB : ¬ Bd F opp D (nx c0) := fun hb' => hcome ⟨nx (opp (nx c0)), nx_lt (K.lt _ hb), by rw [nx_div]; exact hb'.2.2, hdb⟩
      have e1 : ∀ x, Bd F opp D x → x ≠ pv c0 := fun x hx e => hnA (by rw [← e]; exact hx)
      have e2 : ∀ x, Bd F opp D x → x ≠ nx c0 := fun x hx e => hnB (by rw [← e]; exact hx)
      simp only [List.flatten_cons, List.cons_append, List.mem_cons, List.mem_append] at hc ⊢
      simp only [List.mem_append, not_or] at hnd
      grind
end
end Jor
end Go.Proofs.YtpnkhgjjlionnaaGreat
namespace Go.Proofs.YtpnkhgjjlionnaaGreat
namespace Jor
section
variable {F N : Nat} {opp vert : Nat → Nat} {d0 : Nat} {D : List Nat}

theorem WInv.start (K : Walks F N opp vert) {c : Nat} (hc : c < 3 * F) : WInv F opp vert (c / 3) [c / 3] [[opp (pv c), opp (nx c), opp c]] := by
  have ha : pv c < 3 * F := pv_lt hc
  have hb : nx c < 3 * F := nx_lt hc
  have hda : hd vert (opp (pv c)) = vert (nx c) := by unfold hd; rw [K.vn _ ha, pv_pv]
  have hta : tl vert (opp (pv c)) = vert c := by unfold tl; rw [K.vp _ ha, nx_pv]
  have hdb : hd vert (opp (nx c)) = vert c := by unfold hd; rw [K.vn _ hb, pv_nx]
  have htb : tl vert (opp (nx c)) = vert (pv c) := by unfold tl; rw [K.vp _ hb, nx_nx]
  have hdc : hd vert (opp c) = vert (pv c) := by unfold hd; rw [K.vn _ hc]
  have htc : tl vert (opp c) = vert (nx c) := by unfold tl; rw [K.vp _ hc]
  have s0 := K.simple c hc
  have s1 := K.simple (nx c) hb
  have s2 := K.simple (pv c) ha
  rw [nx_nx] at s1
  rw [nx_pv] at s2
  refine ⟨by simp, fun t ht => by rw [List.mem_singleton.1 ht]; omega, by simp, ?_, ?_, ?_, ?_, ?_, ?_⟩
  · intro S s0 _ t ht
    rw [List.mem_singleton.1 ht]
    exact s0
  · intro X hX
    rw [List.mem_singleton.1 hX]
    simp
  · intro X hX
    rw [List.mem_singleton.1 hX]
    exact ⟨_, _, rfl, by simp [hda, hdb, hta, htb, hdc, htc]⟩
  · intro X hX
    rw [List.mem_singleton.1 hX]
    simp only [List.map_cons, List.map_nil, hda, hdb, hdc]
    simp [s0, s2, Ne.symm s1]
  · have e1 : opp (pv c) ≠ opp (nx c) := opp_ne K ha hb (by unfold nx pv; omega)
    have e2 : opp (pv c) ≠ opp c := opp_ne K ha hc (pv_ne c)
    have e3 : opp (nx c) ≠ opp c := opp_ne K hb hc (nx_ne c)
    simp [e1, e2, e3]
  · intro x
    simp only [List.flatten_cons, List.flatten_nil, List.append_nil, List.mem_cons, List.not_mem_nil, or_false]
    constructor
    · rintro (rfl | rfl | rfl)
      · exact ⟨K.lt _ ha, by rw [List.mem_singleton]; exact fun e => K.apart _ ha (by rw [e, pv_div]), by rw [K.inv _ ha, pv_div]; simp⟩
      · exact ⟨K.lt _ hb, by rw [List.mem_singleton]; exact fun e => K.apart _ hb (by rw [e, nx_div]), by rw [K.inv _ hb, nx_div]; simp⟩
      · exact ⟨K.lt _ hc, by rw [List.mem_singleton]; exact fun e => K.apart _ hc e, by rw [K.inv _ hc]; simp⟩
    · rintro ⟨h1, h2, h3⟩
      rw [List.mem_singleton] at h3
      have : opp x = pv c ∨ opp x = nx c ∨ opp x = c := by unfold nx pv; omega
      rw [← K.inv x h1]
      rcases this with e | e | e <;> rw [e] <;> simp
/-- Where no loop is left, all was gone over. -/
theorem WInv.finish (K : Walks F N opp vert) (h : WInv F opp vert d0 D []) : ∀ t, t < F → t ∈ D := by
  have key : ∀ c, c < 3 * F → ¬ (c / 3 ∉ D ∧ opp c / 3 ∈ D) := fun c hc hn => by
    have := (h.bd c).2 ⟨hc, hn.1, hn.2⟩
    simp at this
  by_cases z : 0 ∈ D
  · refine K.conn (fun t => t ∈ D) z ?_
    intro c hc hm
    refine Classical.byContradiction fun hn => key (opp c) (K.lt c hc) ⟨hn, by rw [K.inv c hc]; exact hm⟩
  · exfalso
    have := K.conn (fun t => t ∉ D) z (fun c hc hm hn => key c hc ⟨hm, hn⟩) d0 (h.dlt _ h.root)
    exact this h.root
theorem WInv.finish_len (K : Walks F N opp vert) (h : WInv F opp vert d0 D []) : D.length = F := by
  have h1 := nodup_le (m := List.range F) h.dnd (fun x hx => List.mem_range.2 (h.dlt x hx))
  have h2 := nodup_le (l := List.range F) (m := D) List.nodup_range (fun x hx => h.finish K x (List.mem_range.1 hx))
  simp at h1 h2
  omega
theorem WInv.len_le {Xs : List (List Nat)} (h : WInv F opp vert d0 D Xs) : D.length ≤ F := by
  have h1 := nodup_le (m := List.range F) h.dnd (fun x hx => List.mem_range.2 (h.dlt x hx))
  simpa using h1
/-- Where a loop is left, not all was gone over. -/
theorem WInv.len_lt {X : List Nat} {W : List (List Nat)} (h : WInv F opp vert d0 D (X :: W)) : D.length < F := by
  have hl := h.len X (List.mem_cons_self ..)
  cases X with
  | nil => simp at hl
  | cons c r =>
    have hb := h.mem (List.mem_cons_self ..) (List.mem_cons_self ..)
    have h1 := nodup_le (l := c / 3 :: D) (m := List.range F) (List.nodup_cons.2 ⟨hb.2.1, h.dnd⟩) (fun x hx => by
      rcases List.mem_cons.1 hx with rfl | hx
      · have := hb.1
        rw [List.mem_range]
        omega
      · exact List.mem_range.2 (h.dlt x hx))
    simp at h1
    omega
/-- Who was come to, one triangle later. -/
theorem come_step (K : Walks F N opp vert) {c0 : Nat} (h0 : Bd F opp D c0) (u : Nat) : Come F vert (c0 / 3 :: D) u ↔ Come F vert D u ∨ u = vert c0 := by
  have hl := h0.1
  constructor
  · rintro ⟨d, h1, h2, rfl⟩
    rcases List.mem_cons.1 h2 with h2 | h2
    · have : d = c0 ∨ d = nx c0 ∨ d = pv c0 := by unfold nx pv; omega
      rcases this with rfl | rfl | rfl
      · exact .inr rfl
      · exact .inl ⟨pv (opp c0), pv_lt (K.lt _ hl), by rw [pv_div]; exact h0.2.2, K.vp _ hl⟩
      · exact .inl ⟨nx (opp c0), nx_lt (K.lt _ hl), by rw [nx_div]; exact h0.2.2, K.vn _ hl⟩
    · exact .inl ⟨d, h1, h2, rfl⟩
  · rintro (⟨d, h1, h2, h3⟩ | rfl)
    · exact ⟨d, h1, List.mem_cons_of_mem _ h2, h3⟩
    · exact ⟨c0, hl, List.mem_cons_self .., rfl⟩
theorem come_start {c : Nat} (hc : c < 3 * F) (u : Nat) : Come F vert [c / 3] u ↔ u = vert c ∨ u = vert (nx c) ∨ u = vert (pv c) := by
  constructor
  · rintro ⟨d, h1, h2, rfl⟩
    rw [List.mem_singleton] at h2
    have : d = c ∨ d = nx c ∨ d = pv c := by unfold nx pv; omega
    rcases this with rfl | rfl | rfl
    · exact .inl rfl
    · exact .inr (.inl rfl)
    · exact .inr (.inr rfl)
  · rintro (rfl | rfl | rfl)
    · exact ⟨c, hc, by simp, rfl⟩
    · exact ⟨nx c, nx_lt hc, by simp [nx_div], rfl⟩
    · exact ⟨pv c, pv_lt hc, by simp [pv_div], rfl⟩
end
end Jor
end Go.Proofs.YtpnkhgjjlionnaaGreat
namespace Go.Proofs.YtpnkhgjjlionnaaGreat
namespace Jor

def Rot (π : Nat → Nat) (C : List Nat) : Prop := ∃ c r, C = c :: r ∧ C.map π = r ++ [c]
theorem Rot.turn {π : Nat → Nat} {x y : List Nat} (h : Rot π (x ++ y)) : Rot π (y ++ x) := by
  cases y with
  | nil => simpa using h
  | cons d y' =>
    cases x with
    | nil => simpa using h
    | cons c x' =>
      obtain ⟨c', r, e, hm⟩ := h
      simp only [List.cons_append, List.cons.injEq] at e
      obtain ⟨rfl, rfl⟩ := e
      have hm' : (c :: x').map π ++ (d :: y').map π = (x' ++ [d]) ++ (y' ++ [c]) := by
        rw [← List.map_append]
        simpa using hm
      obtain ⟨h1, h2⟩ := List.append_inj hm' (by simp)
      exact ⟨d, y' ++ c :: x', rfl, by rw [List.map_append, h1, h2]; simp⟩
/-- A round whose last one is a. -/
theorem Rot.last {π : Nat → Nat} {C : List Nat} (h : Rot π C) {a : Nat} (ha : a ∈ C) : ∃ p, Rot π (p ++ [a]) ∧ (p ++ [a]).Perm C := by
  obtain ⟨x, y, rfl⟩ := List.append_of_mem ha
  have h' : Rot π ((x ++ [a]) ++ y) := by simpa using h
  refine ⟨y ++ x, by simpa using h'.turn, ?_⟩
  have : (y ++ (x ++ [a])).Perm ((x ++ [a]) ++ y) := List.perm_append_comm
  simpa using this
/-- Two, one behind the other, at b and at a: apart, where the images of a and b are exchanged. -/
def swp2 (π : Nat → Nat) (a b : Nat) : Nat → Nat := fun x => if x = a then π b else if x = b then π a else π x
theorem swp2_off {π : Nat → Nat} {a b : Nat} {l : List Nat} (ha : a ∉ l) (hb : b ∉ l) : l.map (swp2 π a b) = l.map π := by
  refine List.map_congr_left fun x hx => ?_
  unfold swp2
  rw [if_neg (fun e => ha (by rw [← e]; exact hx)), if_neg (fun e => hb (by rw [← e]; exact hx))]
theorem swp2_a (π : Nat → Nat) (a b : Nat) : swp2 π a b a = π b := by simp [swp2]
theorem swp2_b (π : Nat → Nat) (a b : Nat) : swp2 π a b b = π a := by
  unfold swp2
  by_cases e : b = a
  · rw [if_pos e, e]
  · rw [if_neg e, if_pos rfl]
/-- What a list that ends in a is made of. -/
theorem snoc_head (p : List Nat) (a : Nat) : ∃ c r, p ++ [a] = c :: r := by
  cases p with
  | nil => exact ⟨a, [], rfl⟩
  | cons c r => exact ⟨c, r ++ [a], rfl⟩
theorem Rot.snoc {π : Nat → Nat} {p : List Nat} {a c : Nat} {r : List Nat} (e : p ++ [a] = c :: r) : Rot π (p ++ [a]) ↔ p.map π ++ [π a] = r ++ [c] := by
  constructor
  · rintro ⟨c', r', e', h⟩
    rw [e] at e'
    injection e' with e1 e2
    subst e1
    subst e2
    simpa using h
  · intro h
    exact ⟨c, r, e, by simpa using h⟩
theorem Rot.snoc2 {π : Nat → Nat} {p q : List Nat} {a b c d : Nat} {r s : List Nat} (e : p ++ [a] = c :: r) (f : q ++ [b] = d :: s) : Rot π ((p ++ [a]) ++ (q ++ [b])) ↔ p.map π ++ [π a] = r ++ [d] ∧ q.map π ++ [π b] = s ++ [c] := by
  have hr : p.length = r.length := by have := congrArg List.length e; simpa using this
  constructor
  · rintro ⟨c', r', e', h⟩
    rw [e, f] at e'
    simp only [List.cons_append, List.cons.injEq] at e'
    obtain ⟨rfl, rfl⟩ := e'
    have h' : (p.map π ++ [π a]) ++ (q.map π ++ [π b]) = (r ++ [d]) ++ (s ++ [c]) := by simpa using h
    exact List.append_inj h' (by simp [hr])
  · rintro ⟨h1, h2⟩
    refine ⟨c, r ++ d :: s, by rw [e, f]; rfl, ?_⟩
    have : ((p ++ [a]) ++ (q ++ [b])).map π = (p.map π ++ [π a]) ++ (q.map π ++ [π b]) := by simp
    rw [this, h1, h2]
    simp
theorem Rot.split {π : Nat → Nat} {p q : List Nat} {a b : Nat} (hn : ((p ++ [b]) ++ (q ++ [a])).Nodup) (h : Rot π ((p ++ [b]) ++ (q ++ [a]))) : Rot (swp2 π a b) (p ++ [b]) ∧ Rot (swp2 π a b) (q ++ [a]) := by
  obtain ⟨c, r, e⟩ := snoc_head p b
  obtain ⟨d, s, f⟩ := snoc_head q a
  obtain ⟨h1, h2⟩ := (Rot.snoc2 e f).1 h
  simp only [List.nodup_append, List.mem_append, List.mem_singleton, List.append_assoc] at hn
  have u1 : a ∉ p ∧ b ∉ p ∧ a ∉ q ∧ b ∉ q := by grind
  have hp : p.map π = r := (List.append_inj' h1 rfl).1
  have hb : π b = d := by simpa using (List.append_inj' h1 rfl).2
  have hq : q.map π = s := (List.append_inj' h2 rfl).1
  have ha : π a = c := by simpa using (List.append_inj' h2 rfl).2
  refine ⟨(Rot.snoc e).2 ?_, (Rot.snoc f).2 ?_⟩
  · rw [swp2_off u1.1 u1.2.1, swp2_b, hp, ha]
  · rw [swp2_off u1.2.2.1 u1.2.2.2, swp2_a, hq, hb]
theorem Rot.join {π : Nat → Nat} {p q : List Nat} {a b : Nat} (hn : ((p ++ [a]) ++ (q ++ [b])).Nodup) (h : Rot π (p ++ [a])) (h' : Rot π (q ++ [b])) : Rot (swp2 π a b) ((p ++ [a]) ++ (q ++ [b])) := by
  obtain ⟨c, r, e⟩ := snoc_head p a
  obtain ⟨d, s, f⟩ := snoc_head q b
  have h1 := (Rot.snoc e).1 h
  have h2 := (Rot.snoc f).1 h'
  simp only [List.nodup_append, List.mem_append, List.mem_singleton, List.append_assoc] at hn
  have u1 : a ∉ p ∧ b ∉ p ∧ a ∉ q ∧ b ∉ q := by grind
  have hp : p.map π = r := (List.append_inj' h1 rfl).1
  have ha : π a = c := by simpa using (List.append_inj' h1 rfl).2
  have hq : q.map π = s := (List.append_inj' h2 rfl).1
  have hb : π b = d := by simpa using (List.append_inj' h2 rfl).2
  refine (Rot.snoc2 e f).2 ⟨?_, ?_⟩
  · rw [swp2_off u1.1 u1.2.1, swp2_a, hp, hb]
  · rw [swp2_off u1.2.2.1 u1.2.2.2, swp2_b, hq, ha]
theorem Rot.other {π : Nat → Nat} {C : List Nat} {a b : Nat} (ha : a ∉ C) (hb : b ∉ C) (h : Rot π C) : Rot (swp2 π a b) C := by
  obtain ⟨c, r, e, hm⟩ := h
  exact ⟨c, r, e, by rw [swp2_off ha hb]; exact hm⟩
/-- All rounds of a permutation of the first n. -/
structure Rounds (π : Nat → Nat) (n : Nat) (Cs : List (List Nat)) : Prop where
  rot : ∀ C ∈ Cs, Rot π C
  nd : Cs.flatten.Nodup
  all : ∀ x, x ∈ Cs.flatten ↔ x < n
theorem Rounds.perm {π : Nat → Nat} {n : Nat} {Cs Ds : List (List Nat)} (h : Rounds π n Cs) (rot : ∀ C ∈ Ds, Rot π C) (p : Ds.flatten.Perm Cs.flatten) : Rounds π n Ds :=
  ⟨rot, p.nodup_iff.2 h.nd, fun x => (p.mem_iff).trans (h.all x)⟩
theorem flatten_perm {Cs Ds : List (List Nat)} (h : Cs.Perm Ds) : Cs.flatten.Perm Ds.flatten := by
  induction h with
  | nil => exact List.Perm.refl _
  | cons x _ ih => simpa using ih.append_left x
  | swap x y l =>
    simp only [List.flatten_cons, ← List.append_assoc]
    exact List.Perm.append_right _ List.perm_append_comm
  | trans _ _ i1 i2 => exact i1.trans i2
/-- One round ahead, turned so that a is its last one. -/
theorem Rounds.front {π : Nat → Nat} {n : Nat} {Cs : List (List Nat)} (h : Rounds π n Cs) {a : Nat} (ha : a < n) : ∃ p Ds, Rounds π n ((p ++ [a]) :: Ds) ∧ Ds.length + 1 = Cs.length := by
  obtain ⟨C, hC, haC⟩ := List.mem_flatten.1 ((h.all a).2 ha)
  obtain ⟨s, t, rfl⟩ := List.append_of_mem hC
  obtain ⟨p, hp1, hp2⟩ := (h.rot C hC).last haC
  refine ⟨p, s ++ t, h.perm ?_ ?_, by simp; omega⟩
  · intro X hX
    rcases List.mem_cons.1 hX with rfl | hX
    · exact hp1
    · refine h.rot X ?_
      rcases List.mem_append.1 hX with hX | hX
      · exact List.mem_append_left _ hX
      · exact List.mem_append_right _ (List.mem_cons_of_mem _ hX)
  · have p1 : ((p ++ [a]) :: (s ++ t)).flatten.Perm (C :: (s ++ t)).flatten := by
      simp only [List.flatten_cons]
      exact hp2.append_right _
    exact p1.trans (flatten_perm List.perm_middle.symm)
/-- An exchange splits a round, or joins two. -/
theorem Rounds.swap {π : Nat → Nat} {n : Nat} {Cs : List (List Nat)} (h : Rounds π n Cs) {a b : Nat} (ha : a < n) (hb : b < n) (hab : a ≠ b) : ∃ Ds, Rounds (swp2 π a b) n Ds ∧ (Ds.length + Cs.length) % 2 = 1 := by
  obtain ⟨p, Ds, hD, hl⟩ := h.front ha
  have hnd := hD.nd
  rw [List.flatten_cons] at hnd
  by_cases hbp : b ∈ p
  · obtain ⟨x, y, rfl⟩ := List.append_of_mem hbp
    have hr := hD.rot _ (List.mem_cons_self ..)
    have e1 : (x ++ b :: y) ++ [a] = (x ++ [b]) ++ (y ++ [a]) := by simp
    have hn1 : ((x ++ [b]) ++ (y ++ [a])).Nodup := by rw [← e1]; exact (List.nodup_append.1 hnd).1
    rw [e1] at hr
    obtain ⟨s1, s2⟩ := Rot.split hn1 hr
    refine ⟨(x ++ [b]) :: (y ++ [a]) :: Ds, ⟨?_, ?_, ?_⟩, by simp only [List.length_cons]; omega⟩
    · intro X hX
      rcases List.mem_cons.1 hX with rfl | hX
      · exact s1
      · rcases List.mem_cons.1 hX with rfl | hX
        · exact s2
        · have hx : ∀ z ∈ X, z ∉ (x ++ b :: y) ++ [a] := fun z hz hm => (List.nodup_append.1 hnd).2.2 z hm z (List.mem_flatten.2 ⟨X, hX, hz⟩) rfl
          exact Rot.other (fun m => hx a m (by simp)) (fun m => hx b m (by simp)) (hD.rot X (List.mem_cons_of_mem _ hX))
    · simpa using hnd
    · intro z
      rw [← hD.all z]
      simp
  · have hbD : b ∈ Ds.flatten := by
      have := (hD.all b).2 hb
      rw [List.flatten_cons, List.mem_append, List.mem_append, List.mem_singleton] at this
      rcases this with (h1 | h1) | h1
      · exact absurd h1 hbp
      · exact absurd h1.symm hab
      · exact h1
    obtain ⟨C, hC, hbC⟩ := List.mem_flatten.1 hbD
    obtain ⟨s, t, rfl⟩ := List.append_of_mem hC
    obtain ⟨q, hq1, hq2⟩ := (hD.rot C (List.mem_cons_of_mem _ hC)).last hbC
    have pm : (((p ++ [a]) ++ (q ++ [b])) :: (s ++ t)).flatten.Perm ((p ++ [a]) :: (s ++ C :: t)).flatten := by
      simp only [List.flatten_cons, List.append_assoc]
      refine List.Perm.append_left p (List.Perm.append_left [a] ?_)
      have p1 : (q ++ ([b] ++ (s ++ t).flatten)).Perm (C :: (s ++ t)).flatten := by
        rw [List.flatten_cons, ← List.append_assoc]
        exact hq2.append_right _
      exact p1.trans (flatten_perm List.perm_middle.symm)
    have hnd2 : (((p ++ [a]) ++ (q ++ [b])) :: (s ++ t)).flatten.Nodup := pm.nodup_iff.2 hD.nd
    rw [List.flatten_cons] at hnd2
    refine ⟨((p ++ [a]) ++ (q ++ [b])) :: (s ++ t), ⟨?_, by rw [List.flatten_cons]; exact hnd2, fun z => pm.mem_iff.trans (hD.all z)⟩, by simp only [List.length_cons, List.length_append] at hl ⊢; omega⟩
    intro X hX
    rcases List.mem_cons.1 hX with rfl | hX
    · exact Rot.join (List.nodup_append.1 hnd2).1 (hD.rot _ (List.mem_cons_self ..)) hq1
    · have hx : ∀ z ∈ X, z ∉ (p ++ [a]) ++ (q ++ [b]) := fun z hz hm => (List.nodup_append.1 hnd2).2.2 z hm z (List.mem_flatten.2 ⟨X, hX, hz⟩) rfl
      refine Rot.other (fun m => hx a m (by simp)) (fun m => hx b m (by simp)) (hD.rot X (List.mem_cons_of_mem _ ?_))
      rcases List.mem_append.1 hX with hX | hX
      · exact List.mem_append_left _ hX
      · exact List.mem_append_right _ (List.mem_cons_of_mem _ hX)
theorem Rounds.congr {π ρ : Nat → Nat} {n : Nat} {Cs : List (List Nat)} (h : Rounds π n Cs) (e : ∀ x, x < n → ρ x = π x) : Rounds ρ n Cs :=
  ⟨fun C hC => by
    obtain ⟨c, r, e1, hm⟩ := h.rot C hC
    refine ⟨c, r, e1, ?_⟩
    rw [← hm]
    exact List.map_congr_left fun x hx => e x ((h.all x).1 (List.mem_flatten.2 ⟨C, hC, hx⟩)), h.nd, h.all⟩
end Jor
end Go.Proofs.YtpnkhgjjlionnaaGreat
