/-
  Texts joined by program, what the law uses alone: All MapP Tab Is New OfM Of RtM.
-/
import Derived.Deep.RegionHeld3
import Derived.Deep.QuietTactic
import Derived.BigQuiet
import Derived.Deep.DeepCutAuto
import Derived.BigRegion
import Derived.RegionTactic
import Derived.Deep.Onto
import Derived.Test.YtpnkhgjjlionnaaG2
import Derived.Test.YtpnkhgjjlionnaaShelf
import Derived.Test.YtpnkhgjjlionnaaG1
namespace Go.Proofs.Ytpnkhgjjlionnaa
open Go.RowKit Go.Sort Go.Lib

/-- Triangles that are a surface. -/
structure Surf (N : Int) (T : List Tr) : Prop where
  n0 : 0 ≤ N
  n1 : N ≤ 4096
  len : T.length ≤ 8192
  inr : ∀ t ∈ T, in3 N t
  simple : ∀ t ∈ T, simple3 t
  twice : (T.flatMap edges3).Nodup
  mirrored : (T.flatMap key3).Nodup
  lonely : ∀ u : Int, inR N u → u ∈ flatT T
  pinch : ∀ u : Int, inR N u → ConnV T u (atV T u)

set_option maxRecDepth 100000 in
theorem or_any (x y : Int) (g : Nat) (W : World) (hb : Blk W g 3 #[.int .i64 x, .int .i64 y]) : Calls Try.prog 102 #[.slice (some ⟨g, 0, none⟩) 2 2] W fun e w' => e = .returned (.int .i64 (if x = 0 then y else x)) ∧ w' = W := by
  obtain ⟨l0, x0, -, x1, -⟩ := hb.two
  go_enter Try.func102, Try.ntmps102
  go_wp2
  go_loop [8] (fun i => ∃ k : Nat, k ≤ 2 ∧ i = .int .i64 k ∧ (1 ≤ k → x = 0) ∧ (2 ≤ k → y = 0)) (fun i => 2 - (intOf i).toNat)
  case atStart => exact ⟨0, by omega, rfl, by omega, by omega⟩
  case round =>
    obtain ⟨k, hk, rfl, h1, h2⟩ := hrel
    have hk3 : k = 0 ∨ k = 1 ∨ k = 2 := by omega
    rcases hk3 with rfl | rfl | rfl
    · by_cases hx : x = 0
      · subst hx
        clear h1 h2
        go_wp2
        go_round
        case rel => exact ⟨1, by omega, by simp, fun _ => (by simp), by omega⟩
        case measure => simp [intOf]
      · have hb1 : (x != 0) = true := by simpa using hx
        have HX := Lib.hid hx
        clear h1 h2 hx
        go_wp2
        go_ret
        exact ⟨rfl, rfl⟩
    · have hx := h1 (by omega)
      subst hx
      clear h1 h2
      by_cases hy : y = 0
      · subst hy
        go_wp2
        go_round
        case rel => exact ⟨2, by omega, by simp, fun _ => (by simp), fun _ => (by simp)⟩
        case measure => simp [intOf]
      · have hb1 : (y != 0) = true := by simpa using hy
        have HY := Lib.hid hy
        clear hy
        go_wp2
        go_ret
        exact ⟨by simp, rfl⟩
    · have hx := h1 (by omega)
      have hy := h2 (by omega)
      subst hx
      subst hy
      clear h1 h2
      go_wp2
      go_ret
      exact ⟨by simp, rfl⟩

def cmpW (a b : Tr) : Int := if cmpI a.2.2 b.2.2 = 0 then cmpI a.2.1 b.2.1 else cmpI a.2.2 b.2.2
def encW (t : Tr) : List Value := [.int .i64 t.1, .int .i64 t.2.1, .int .i64 t.2.2]
set_option maxRecDepth 100000 in
set_option maxHeartbeats 1000000 in
theorem cmpAll_any (a b : Tr) (W : World) : Calls Try.prog 101 #[triV a, triV b] W fun e w' => e = .returned (.int .i64 (cmpW a b)) ∧ ∃ q os', w' = grow (W.drewN q) os' := by
  obtain ⟨k1, x1, y1⟩ := a
  obtain ⟨k2, x2, y2⟩ := b
  unfold triV cmpW
  simp only
  generalize hp : cmpI y1 y2 = p
  generalize hq : cmpI x1 x2 = q
  have HP := Lib.hid hp
  have HQ := Lib.hid hq
  clear hp hq
  have cp : ∀ W', Calls Try.prog 91 #[.int .i64 y1, .int .i64 y2] W' fun e w' => e = .returned (.int .i64 p) ∧ w' = W' := fun W' => by have := compareI_any y1 y2 W'; rw [HP.out] at this; exact this
  have cq : ∀ W', Calls Try.prog 91 #[.int .i64 x1, .int .i64 x2] W' fun e w' => e = .returned (.int .i64 q) ∧ w' = W' := fun W' => by have := compareI_any x1 x2 W'; rw [HQ.out] at this; exact this
  generalize hr : (if p = 0 then q else p) = r
  have co : ∀ g W', Blk W' g 3 #[.int .i64 p, .int .i64 q] → Calls Try.prog 102 #[.slice (some ⟨g, 0, none⟩) 2 2] W' fun e w' => e = .returned (.int .i64 r) ∧ w' = W' := fun g W' hb => by have := or_any p q g W' hb; rw [hr] at this; exact this
  have CO := Lib.hid co
  clear co hr
  have CP := Lib.hid cp
  have CQ := Lib.hid cq
  clear cp cq
  go_enter Try.func101, Try.ntmps101
  go_wp2
  have b1 := (Blk.new W 44 #[.int .i64 k1, .int .i64 x1, .int .i64 y1]).alloc (.cells #[.int .i64 k2, .int .i64 x2, .int .i64 y2] 44)
  have b2 := Blk.new (W.alloc (.cells #[.int .i64 k1, .int .i64 x1, .int .i64 y1] 44)) 44 #[.int .i64 k2, .int .i64 x2, .int .i64 y2]
  rw [size_alloc'] at b2
  obtain ⟨l0, z0, -, z1, -, z2, -⟩ := b1.three
  obtain ⟨l1, u0, -, u1, -, u2, -⟩ := b2.three
  clear b1 b2
  have bor := (Blk.new (((W.alloc (.cells #[.int .i64 k1, .int .i64 x1, .int .i64 y1] 44)).alloc (.cells #[.int .i64 k2, .int .i64 x2, .int .i64 y2] 44)).drew) 3 #[.int .i64 p, .int .i64 q])
  rw [show (((W.alloc (.cells #[.int .i64 k1, .int .i64 x1, .int .i64 y1] 44)).alloc (.cells #[.int .i64 k2, .int .i64 x2, .int .i64 y2] 44)).drew).heap.size = W.heap.size + 2 from by simp [World.drew]] at bor
  go_region_held3 (fun w' => w'.cell? ⟨W.heap.size, 1, none⟩ = some (.int .i64 x1) ∧ w'.cell? ⟨W.heap.size, 2, none⟩ = some (.int .i64 y1) ∧ w'.cell? ⟨W.heap.size + 1, 1, none⟩ = some (.int .i64 x2) ∧ w'.cell? ⟨W.heap.size + 1, 2, none⟩ = some (.int .i64 y2)) (go_keep)
    (first
      | (go_at_call 91; refine (compareI_any _ _ _).mono ?_; rintro e w' ⟨rfl, rfl⟩)
      | (go_at_call 102; rw [HP.out, HQ.out]; refine (CO.out (W.heap.size + 1 + 1) _ (by exact bor)).mono ?_; rintro e w' ⟨rfl, rfl⟩))
  all_goals
    go_wp2
    go_ret
    exact ⟨rfl, 1, _, by simp only [alloc_eq_grow, grow_grow]; rfl⟩
theorem ws3_flat (ws : List Tr) : ws3 ws = ws.flatMap encW := by
  induction ws with
  | nil => rfl
  | cons a l ih =>
    have : ws3 (a :: l) = encW a ++ ws3 l := by simp [ws3, flatT, encW]
    rw [this, ih, List.flatMap_cons]
theorem cmpI_lt (x y : Int) : cmpI x y < 0 ↔ x < y := by
  unfold cmpI
  split
  · simp; omega
  · split <;> simp <;> omega
theorem cmpI_eq (x y : Int) : cmpI x y = 0 ↔ x = y := by
  unfold cmpI
  split
  · simp; omega
  · split <;> simp <;> omega
theorem cmpW_lt (a b : Tr) : cmpW a b < 0 ↔ a.2.2 < b.2.2 ∨ (a.2.2 = b.2.2 ∧ a.2.1 < b.2.1) := by
  unfold cmpW
  by_cases h : cmpI a.2.2 b.2.2 = 0
  · rw [if_pos h, cmpI_lt]
    have := (cmpI_eq _ _).1 h
    omega
  · rw [if_neg h, cmpI_lt]
    have : ¬ a.2.2 = b.2.2 := fun e => h ((cmpI_eq _ _).2 e)
    omega
theorem swoW : SWO (ltOf cmpW) where
  irrefl x := by simp only [ltOf, decide_eq_false_iff_not, cmpW_lt]; omega
  trans x y z h1 h2 := by simp only [ltOf, decide_eq_true_eq, cmpW_lt] at *; omega
  ntrans x y z h1 h2 := by simp only [ltOf, decide_eq_false_iff_not, cmpW_lt] at *; omega
theorem isAggWit (w : World) : (isAgg 44).run Try.prog w = .ok true w := by kernel_rfl
theorem sizeWit (w : World) : (Go.sizeOf 44).run Try.prog w = .ok 3 w := by kernel_rfl
theorem sortW_any (base : Nat) (v : Value) (ws : List Tr) (w : World) (hown : w.ownsRow base 44 3 v ws.length (ws3 ws)) (hl : ws.length < 4611686018427387904) :
    Calls Try.prog 100 #[v, .func (.func 101) #[] #[]] w fun e w' => e = .returned (.tuple #[]) ∧ ∃ ws' : List Tr, ws'.Perm ws ∧ w'.ownsRow base 44 3 v ws.length (ws3 ws') ∧ w.grownBy w' v.ownBlock := by
  rcases hown.2 with ⟨rfl, h0⟩ | ⟨g, cap, cur, rfl, hb, hg, _⟩
  · rw [h0]
    refine (Try.slices_SortFunc_none (α := Tr) none 0 _ w).mono ?_
    rintro e w' ⟨rfl, rfl⟩
    rw [h0] at hown
    exact ⟨rfl, ws, List.Perm.refl _, hown, World.grownBy.refl _ _⟩
  · have hgl : g < w.heap.size := (Array.getElem?_eq_some_iff.1 hg).1
    have hown2 : w.ownsRow base 44 3 (.slice (some ⟨g, 0, none⟩) ws.length cap) ws.length (ws.toArray.toList.flatMap encW) := by
      rw [← ws3_flat]
      exact hown
    have hH := holdsK_of_own (enc := encW) (k := 3) (fun _ => rfl) (by decide) hown2
    have eg : ∀ args w, (callFunc 101 args).run Try.prog w = .ok (.enter 101 args) w := enters_of Try.func101 (by kernel_rfl) rfl
    have hc := Try.slices_SortFunc (α := Tr) 3 isAggWit sizeWit encW (fun _ => rfl) (fun x v hv => by simp [encW] at hv; rcases hv with rfl | rfl | rfl <;> rfl) cmpW swoW 101 #[] g 0 cap ws.toArray w eg (fun m os dk _ x y => cmpAll_any x y _) hH hgl (by simpa using hl)
    rw [List.size_toArray] at hc
    refine hc.mono ?_
    rintro e w' ⟨rfl, d', n, os, ⟨hs, _, hp⟩, _, rfl⟩
    obtain ⟨h1, h2⟩ := ownsRow_sortedK (enc := encW) (k := 3) (fun _ => rfl) (by decide) (m := n) (os := os) hown2 hs
    refine ⟨rfl, d'.toList, ?_, by rw [ws3_flat]; exact h1, h2⟩
    have e1 : d'.extract 0 ws.length = d' := by
      have : ws.length = d'.size := by rw [hs]; simp
      rw [this]
      simp
    have e2 : ws.toArray.extract 0 ws.length = ws.toArray := by simp
    rw [e1, e2] at hp
    exact hp

set_option maxRecDepth 100000 in
theorem index_bad (N : Int) (v : Value) (T : List Tr) (w : World) (h : TrisRd w v T) (hN : ¬ (0 ≤ N ∧ N ≤ 4096)) (_hl : T.length ≤ 8192) : Calls Try.prog 94 #[.agg #[.int .i64 N, v]] w fun e w' => ∃ v', e = .returned v' ∧ w'.ownsRow w.heap.size 44 3 v' 1 (ws3 [(1, -1, 0)]) ∧ Below w.heap.size w w' := by
  obtain ⟨a, c, rfl, hc1, hc2, hr⟩ := h
  have b1 := Blk.new w 24 #[.int .i64 N, .slice a T.length c]
  obtain ⟨l0, x0, -, x1, -⟩ := b1.two
  have hB0 : Below w.heap.size w (w.alloc (.cells #[.int .i64 N, .slice a T.length c] 24)) := (Below.refl _ _).alloc (Nat.le_refl _) _
  have hrow := World.ownsRow_lit (w.alloc (.cells #[.int .i64 N, .slice a T.length c] 24)) (base := w.heap.size) (e := 44) (size := 3) #[.int .i64 1, .int .i64 (-1), .int .i64 0] 1 (by simp) (by decide) rfl
  rw [size_alloc'] at hrow
  have Hrow := Lib.hid hrow
  have HB := Lib.hid (hB0.alloc hB0.size (.cells #[.int .i64 1, .int .i64 (-1), .int .i64 0] 44))
  clear hrow hB0 b1 hr
  by_cases h1 : N < 0
  · go_enter Try.func94, Try.ntmps94
    go_wp2
    go_ret
    exact ⟨_, rfl, Hrow.out, HB.out⟩
  · have h2 : 4096 < N := by omega
    go_enter Try.func94, Try.ntmps94
    go_wp2
    go_ret
    exact ⟨_, rfl, Hrow.out, HB.out⟩

theorem ownsRow_slice {w : World} {base n s : Nat} {e : TypeId} {v : Value} {xs : List Value} (h : w.ownsRow base e s v n xs) : ∃ a c, v = .slice a n c := by
  rcases h.2 with ⟨rfl, h0⟩ | ⟨g, cap, cur, rfl, _⟩
  · rw [h0]
    exact ⟨_, _, rfl⟩
  · exact ⟨_, _, rfl⟩
/-- The j-th of the kinds: nothing is wrong. -/
def kindOk (N : Int) (T : List Tr) : Nat → Prop
  | 0 => (0 ≤ N ∧ N ≤ 4096) ∧ ∀ t ∈ T, in3 N t
  | 1 => ∀ t ∈ T, simple3 t
  | 2 => (T.flatMap edges3).Nodup
  | 3 => (T.flatMap key3).Nodup
  | 4 => ∀ u : Int, inR N u → u ∈ flatT T
  | _ => ∀ u : Int, inR N u → ConnV T u (atV T u)
theorem surf_kinds {N : Int} {T : List Tr} (hl : T.length ≤ 8192) : Surf N T ↔ ∀ i, i < 6 → kindOk N T i := by
  constructor
  · intro h i hi
    have : i = 0 ∨ i = 1 ∨ i = 2 ∨ i = 3 ∨ i = 4 ∨ i = 5 := by omega
    rcases this with rfl | rfl | rfl | rfl | rfl | rfl
    · exact ⟨⟨h.n0, h.n1⟩, h.inr⟩
    · exact h.simple
    · exact h.twice
    · exact h.mirrored
    · exact h.lonely
    · exact h.pinch
  · intro h
    obtain ⟨⟨a, b⟩, c⟩ := h 0 (by omega)
    exact ⟨a, b, hl, c, h 1 (by omega), h 2 (by omega), h 3 (by omega), h 4 (by omega), h 5 (by omega)⟩
set_option maxRecDepth 100000 in
set_option maxHeartbeats 4000000 in
theorem all_any (N : Int) (v : Value) (T : List Tr) (w : World) (h : TrisRd w v T) (hl : T.length ≤ 8192) : Calls Try.prog 69 #[.agg #[.int .i64 N, v]] w fun e w' => ∃ v' ws, e = .returned v' ∧ w'.ownsRow w.heap.size 44 3 v' ws.length (ws3 ws) ∧ (ws = [] ↔ Surf N T) ∧ (∀ x ∈ ws, 1 ≤ x.1) ∧ Below w.heap.size w w' := by
  have b1 := Blk.new w 24 #[.int .i64 N, v]
  have hB0 : Below w.heap.size w (w.alloc (.cells #[.int .i64 N, v] 24)) := (Below.refl _ _).alloc (Nat.le_refl _) _
  obtain ⟨l0, x0, -, x1, -⟩ := b1.two
  have HT := Lib.hid h
  clear h
  go_enter Try.func69, Try.ntmps69
  go_wp2
  have bx := b1.alloc (.cells #[.func (.func 94) #[] #[], .func (.func 95) #[] #[], .func (.func 96) #[] #[], .func (.func 97) #[] #[], .func (.func 98) #[] #[], .func (.func 99) #[] #[]] 115)
  have bf := Blk.new (w.alloc (.cells #[.int .i64 N, v] 24)) 115 #[.func (.func 94) #[] #[], .func (.func 95) #[] #[], .func (.func 96) #[] #[], .func (.func 97) #[] #[], .func (.func 98) #[] #[], .func (.func 99) #[] #[]]
  rw [size_alloc'] at bf
  have hB1 := hB0.alloc hB0.size (.cells #[.func (.func 94) #[] #[], .func (.func 95) #[] #[], .func (.func 96) #[] #[], .func (.func 97) #[] #[], .func (.func 98) #[] #[], .func (.func 99) #[] #[]] 115)
  obtain ⟨W1, hW1⟩ : ∃ W1, W1 = (w.alloc (.cells #[.int .i64 N, v] 24)).alloc (.cells #[.func (.func 94) #[] #[], .func (.func 95) #[] #[], .func (.func 96) #[] #[], .func (.func 97) #[] #[], .func (.func 98) #[] #[], .func (.func 99) #[] #[]] 115) := ⟨_, rfl⟩
  rw [← hW1] at bx bf hB1 ⊢
  have HB1 := Lib.hid hB1
  clear hW1 hB0 b1 hB1 l0 x0 x1
  go_loopw [8] (fun i wr => ∃ j : Nat, j ≤ 6 ∧ i = .int .i64 j ∧ (∀ i, i < j → kindOk N T i) ∧ Below W1.heap.size W1 wr) (fun i _ => 6 - (intOf i).toNat)
  case atStart => exact ⟨0, by omega, rfl, fun i hi => by omega, Below.refl _ _⟩
  case round =>
    obtain ⟨j, hj, rfl, hf, hB⟩ := hrel
    rename World => wr
    have Hf := Lib.hid hf
    clear hf
    obtain ⟨lx, y0, -, y1, -⟩ := (bx.below hB bx.lt).two
    have bfr := bf.below hB bf.lt
    have f0 := bfr.cell 0
    have f1 := bfr.cell 1
    have f2 := bfr.cell 2
    have f3 := bfr.cell 3
    have f4 := bfr.cell 4
    have f5 := bfr.cell 5
    have htr := HT.out.below (HB1.out.trans (hB.mono HB1.out.size))
    clear bfr
    have hj' : j = 0 ∨ j = 1 ∨ j = 2 ∨ j = 3 ∨ j = 4 ∨ j = 5 ∨ j = 6 := by omega
    rcases hj' with rfl | rfl | rfl | rfl | rfl | rfl | rfl
    · by_cases hk : 0 ≤ N ∧ N ≤ 4096
      · go_wp2_with fail
        refine (index_any N v T wr htr hk hl).mono ?_
        rintro e w2 ⟨v', rfl, ⟨ws, hr, hi, hk2, hlw⟩, hb⟩
        clear y0 y1 f0 f1 f2 f3 f4 f5 htr lx
        obtain ⟨av, cv, rfl⟩ := ownsRow_slice hr
        have hB2 := hB.trans (hb.mono hB.size)
        by_cases hws : ws = []
        · subst hws
          have Hok : Hid (∀ i, i < 1 → kindOk N T i) := Lib.hid (fun i hi' => by
            rcases Nat.lt_or_ge i 0 with h | h
            · exact Hf.out i h
            · obtain rfl : i = 0 := by omega
              exact ⟨hk, hi.1 rfl⟩)
          clear hi hr hk2 hb
          rw [List.length_nil]
          go_wp2
          go_roundw
          case measure => simp [intOf]
          case rel => exact ⟨1, by omega, by simp, Hok.out, hB2⟩
        · have hn0 : ¬ Surf N T := fun hS => hws (hi.2 ((surf_kinds hl).1 hS 0 (by omega)).2)
          have Hn0 := Lib.hid hn0
          have Hws := Lib.hid hws
          have hlen : ws.length < 4611686018427387904 := by omega
          have hpos : 0 < ws.length := List.length_pos_iff.2 hws
          have H := Lib.hid (sortW_any wr.heap.size _ ws w2 hr hlen)
          have Hr := Lib.hid hr
          have hBw := HB1.out.trans (hB2.mono HB1.out.size)
          have hszr := hB.size
          have hszw := HB1.out.size
          obtain ⟨n, hn⟩ : ∃ n, ws.length = n := ⟨_, rfl⟩
          rw [hn] at hpos Hr H ⊢
          have HN := Lib.hid hn
          clear hn hlen hn0 hws hi hr hb
          go_wp2_with (go_at_call 100; refine H.out.mono ?_; rintro e w3 ⟨rfl, ws', hp, hr3, hg3⟩)
          go_ret
          have hl3 : ws'.length = n := by rw [hp.length_eq, HN.out]
          refine ⟨_, ws', rfl, by rw [hl3]; exact hr3.mono (by omega), ⟨fun e => absurd (by rw [e] at hp; exact hp.symm.eq_nil) Hws.out, fun hS => absurd hS Hn0.out⟩, fun x hx => by rw [hk2 x (hp.mem_iff.1 hx)]; decide, hBw.grown hg3 hBw.size (fun jj e => by have := (Hr.out.lt jj e).1; omega)⟩
      · have hn0 : ¬ Surf N T := fun hS => hk ⟨hS.n0, hS.n1⟩
        have Hn0 := Lib.hid hn0
        have H1 := Lib.hid (index_bad N v T wr htr hk hl)
        clear hn0 hk
        go_wp2_with fail
        refine H1.out.mono ?_
        rintro e w2 ⟨v', rfl, hr, hb⟩
        obtain ⟨av, cv, rfl⟩ := ownsRow_slice hr
        have hB2 := hB.trans (hb.mono hB.size)
        have H := Lib.hid (sortW_any wr.heap.size _ [(1, -1, 0)] w2 hr (by decide))
        have Hr := Lib.hid hr
        have hBw := HB1.out.trans (hB2.mono HB1.out.size)
        have hszr := hB.size
        have hszw := HB1.out.size
        clear hr hb y0 y1 f0 f1 f2 f3 f4 f5 htr lx
        go_wp2_with (go_at_call 100; refine H.out.mono ?_; rintro e w3 ⟨rfl, ws', hp, hr3, hg3⟩)
        go_ret
        have hl3 : ws'.length = 1 := by rw [hp.length_eq]; rfl
        have hsz1 := HB1.out.size
        refine ⟨_, ws', rfl, by rw [hl3]; exact hr3.mono (by omega), ⟨fun e => absurd (by rw [e] at hp; exact hp.symm.eq_nil) (by simp), fun hS => absurd hS Hn0.out⟩, fun x hx => by have := hp.mem_iff.1 hx; rw [List.mem_singleton.1 this]; decide, hBw.grown hg3 hBw.size (fun jj e => by have := (Hr.out.lt jj e).1; omega)⟩
    · have H0 := Lib.hid (loop_any N v T wr htr (by omega))
      clear htr
      go_wp2_with fail
      refine H0.out.mono ?_
      rintro e w2 ⟨v', rfl, ⟨ws, hr, hi, hk2, hlw⟩, hb⟩
      clear y0 y1 f0 f1 f2 f3 f4 f5 lx
      obtain ⟨av, cv, rfl⟩ := ownsRow_slice hr
      have hB2 := hB.trans (hb.mono hB.size)
      by_cases hws : ws = []
      · subst hws
        have Hok : Hid (∀ i, i < 2 → kindOk N T i) := Lib.hid (fun i hi' => by
          rcases Nat.lt_or_ge i 1 with h | h
          · exact Hf.out i h
          · obtain rfl : i = 1 := by omega
            exact (hi.1 rfl))
        clear hi hr hk2 hb
        rw [List.length_nil]
        go_wp2
        go_roundw
        case measure => simp [intOf]
        case rel => exact ⟨2, by omega, by simp, Hok.out, hB2⟩
      · have hn0 : ¬ Surf N T := fun hS => hws (hi.2 ((surf_kinds hl).1 hS 1 (by omega)))
        have Hn0 := Lib.hid hn0
        have Hws := Lib.hid hws
        have hlen : ws.length < 4611686018427387904 := by omega
        have hpos : 0 < ws.length := List.length_pos_iff.2 hws
        have H := Lib.hid (sortW_any wr.heap.size _ ws w2 hr hlen)
        have Hr := Lib.hid hr
        have hBw := HB1.out.trans (hB2.mono HB1.out.size)
        have hszr := hB.size
        have hszw := HB1.out.size
        obtain ⟨n, hn⟩ : ∃ n, ws.length = n := ⟨_, rfl⟩
        rw [hn] at hpos Hr H ⊢
        have HN := Lib.hid hn
        clear hn hlen hn0 hws hi hr hb
        go_wp2_with (go_at_call 100; refine H.out.mono ?_; rintro e w3 ⟨rfl, ws', hp, hr3, hg3⟩)
        go_ret
        have hl3 : ws'.length = n := by rw [hp.length_eq, HN.out]
        refine ⟨_, ws', rfl, by rw [hl3]; exact hr3.mono (by omega), ⟨fun e => absurd (by rw [e] at hp; exact hp.symm.eq_nil) Hws.out, fun hS => absurd hS Hn0.out⟩, fun x hx => by rw [hk2 x (hp.mem_iff.1 hx)]; decide, hBw.grown hg3 hBw.size (fun jj e => by have := (Hr.out.lt jj e).1; omega)⟩
    · have H0 := Lib.hid (twice_any N v T wr htr (Hf.out 0 (by omega)).1 hl (Hf.out 0 (by omega)).2)
      clear htr
      go_wp2_with fail
      refine H0.out.mono ?_
      rintro e w2 ⟨v', rfl, ⟨ws, hr, hi, hk2, hlw⟩, hb⟩
      clear y0 y1 f0 f1 f2 f3 f4 f5 lx
      obtain ⟨av, cv, rfl⟩ := ownsRow_slice hr
      have hB2 := hB.trans (hb.mono hB.size)
      by_cases hws : ws = []
      · subst hws
        have Hok : Hid (∀ i, i < 3 → kindOk N T i) := Lib.hid (fun i hi' => by
          rcases Nat.lt_or_ge i 2 with h | h
          · exact Hf.out i h
          · obtain rfl : i = 2 := by omega
            exact (hi.1 rfl))
        clear hi hr hk2 hb
        rw [List.length_nil]
        go_wp2
        go_roundw
        case measure => simp [intOf]
        case rel => exact ⟨3, by omega, by simp, Hok.out, hB2⟩
      · have hn0 : ¬ Surf N T := fun hS => hws (hi.2 ((surf_kinds hl).1 hS 2 (by omega)))
        have Hn0 := Lib.hid hn0
        have Hws := Lib.hid hws
        have hlen : ws.length < 4611686018427387904 := by omega
        have hpos : 0 < ws.length := List.length_pos_iff.2 hws
        have H := Lib.hid (sortW_any wr.heap.size _ ws w2 hr hlen)
        have Hr := Lib.hid hr
        have hBw := HB1.out.trans (hB2.mono HB1.out.size)
        have hszr := hB.size
        have hszw := HB1.out.size
        obtain ⟨n, hn⟩ : ∃ n, ws.length = n := ⟨_, rfl⟩
        rw [hn] at hpos Hr H ⊢
        have HN := Lib.hid hn
        clear hn hlen hn0 hws hi hr hb
        go_wp2_with (go_at_call 100; refine H.out.mono ?_; rintro e w3 ⟨rfl, ws', hp, hr3, hg3⟩)
        go_ret
        have hl3 : ws'.length = n := by rw [hp.length_eq, HN.out]
        refine ⟨_, ws', rfl, by rw [hl3]; exact hr3.mono (by omega), ⟨fun e => absurd (by rw [e] at hp; exact hp.symm.eq_nil) Hws.out, fun hS => absurd hS Hn0.out⟩, fun x hx => by rw [hk2 x (hp.mem_iff.1 hx)]; decide, hBw.grown hg3 hBw.size (fun jj e => by have := (Hr.out.lt jj e).1; omega)⟩
    · have H0 := Lib.hid (mirrored_any N v T wr htr (Hf.out 0 (by omega)).1 hl (Hf.out 0 (by omega)).2)
      clear htr
      go_wp2_with fail
      refine H0.out.mono ?_
      rintro e w2 ⟨v', rfl, ⟨ws, hr, hi, hk2, hlw⟩, hb⟩
      clear y0 y1 f0 f1 f2 f3 f4 f5 lx
      obtain ⟨av, cv, rfl⟩ := ownsRow_slice hr
      have hB2 := hB.trans (hb.mono hB.size)
      by_cases hws : ws = []
      · subst hws
        have Hok : Hid (∀ i, i < 4 → kindOk N T i) := Lib.hid (fun i hi' => by
          rcases Nat.lt_or_ge i 3 with h | h
          · exact Hf.out i h
          · obtain rfl : i = 3 := by omega
            exact (hi.1 rfl))
        clear hi hr hk2 hb
        rw [List.length_nil]
        go_wp2
        go_roundw
        case measure => simp [intOf]
        case rel => exact ⟨4, by omega, by simp, Hok.out, hB2⟩
      · have hn0 : ¬ Surf N T := fun hS => hws (hi.2 ((surf_kinds hl).1 hS 3 (by omega)))
        have Hn0 := Lib.hid hn0
        have Hws := Lib.hid hws
        have hlen : ws.length < 4611686018427387904 := by omega
        have hpos : 0 < ws.length := List.length_pos_iff.2 hws
        have H := Lib.hid (sortW_any wr.heap.size _ ws w2 hr hlen)
        have Hr := Lib.hid hr
        have hBw := HB1.out.trans (hB2.mono HB1.out.size)
        have hszr := hB.size
        have hszw := HB1.out.size
        obtain ⟨n, hn⟩ : ∃ n, ws.length = n := ⟨_, rfl⟩
        rw [hn] at hpos Hr H ⊢
        have HN := Lib.hid hn
        clear hn hlen hn0 hws hi hr hb
        go_wp2_with (go_at_call 100; refine H.out.mono ?_; rintro e w3 ⟨rfl, ws', hp, hr3, hg3⟩)
        go_ret
        have hl3 : ws'.length = n := by rw [hp.length_eq, HN.out]
        refine ⟨_, ws', rfl, by rw [hl3]; exact hr3.mono (by omega), ⟨fun e => absurd (by rw [e] at hp; exact hp.symm.eq_nil) Hws.out, fun hS => absurd hS Hn0.out⟩, fun x hx => by rw [hk2 x (hp.mem_iff.1 hx)]; decide, hBw.grown hg3 hBw.size (fun jj e => by have := (Hr.out.lt jj e).1; omega)⟩
    · have H0 := Lib.hid (lonely_any N v T wr htr (Hf.out 0 (by omega)).1 hl (Hf.out 0 (by omega)).2)
      clear htr
      go_wp2_with fail
      refine H0.out.mono ?_
      rintro e w2 ⟨v', rfl, ⟨ws, hr, hi, hk2, hlw⟩, hb⟩
      clear y0 y1 f0 f1 f2 f3 f4 f5 lx
      obtain ⟨av, cv, rfl⟩ := ownsRow_slice hr
      have hB2 := hB.trans (hb.mono hB.size)
      by_cases hws : ws = []
      · subst hws
        have Hok : Hid (∀ i, i < 5 → kindOk N T i) := Lib.hid (fun i hi' => by
          rcases Nat.lt_or_ge i 4 with h | h
          · exact Hf.out i h
          · obtain rfl : i = 4 := by omega
            exact (hi.1 rfl))
        clear hi hr hk2 hb
        rw [List.length_nil]
        go_wp2
        go_roundw
        case measure => simp [intOf]
        case rel => exact ⟨5, by omega, by simp, Hok.out, hB2⟩
      · have hn0 : ¬ Surf N T := fun hS => hws (hi.2 ((surf_kinds hl).1 hS 4 (by omega)))
        have Hn0 := Lib.hid hn0
        have Hws := Lib.hid hws
        have hlen : ws.length < 4611686018427387904 := by omega
        have hpos : 0 < ws.length := List.length_pos_iff.2 hws
        have H := Lib.hid (sortW_any wr.heap.size _ ws w2 hr hlen)
        have Hr := Lib.hid hr
        have hBw := HB1.out.trans (hB2.mono HB1.out.size)
        have hszr := hB.size
        have hszw := HB1.out.size
        obtain ⟨n, hn⟩ : ∃ n, ws.length = n := ⟨_, rfl⟩
        rw [hn] at hpos Hr H ⊢
        have HN := Lib.hid hn
        clear hn hlen hn0 hws hi hr hb
        go_wp2_with (go_at_call 100; refine H.out.mono ?_; rintro e w3 ⟨rfl, ws', hp, hr3, hg3⟩)
        go_ret
        have hl3 : ws'.length = n := by rw [hp.length_eq, HN.out]
        refine ⟨_, ws', rfl, by rw [hl3]; exact hr3.mono (by omega), ⟨fun e => absurd (by rw [e] at hp; exact hp.symm.eq_nil) Hws.out, fun hS => absurd hS Hn0.out⟩, fun x hx => by rw [hk2 x (hp.mem_iff.1 hx)]; decide, hBw.grown hg3 hBw.size (fun jj e => by have := (Hr.out.lt jj e).1; omega)⟩
    · have H0 := Lib.hid (pinch_any N v T wr htr (Hf.out 0 (by omega)).1 hl (Hf.out 0 (by omega)).2 (Hf.out 1 (by omega)) (Hf.out 4 (by omega)))
      clear htr
      go_wp2_with fail
      refine H0.out.mono ?_
      rintro e w2 ⟨v', rfl, ⟨ws, hr, hi, hk2, hlw⟩, hb⟩
      clear y0 y1 f0 f1 f2 f3 f4 f5 lx
      obtain ⟨av, cv, rfl⟩ := ownsRow_slice hr
      have hB2 := hB.trans (hb.mono hB.size)
      by_cases hws : ws = []
      · subst hws
        have Hok : Hid (∀ i, i < 6 → kindOk N T i) := Lib.hid (fun i hi' => by
          rcases Nat.lt_or_ge i 5 with h | h
          · exact Hf.out i h
          · obtain rfl : i = 5 := by omega
            exact (hi.1 rfl))
        clear hi hr hk2 hb
        rw [List.length_nil]
        go_wp2
        go_roundw
        case measure => simp [intOf]
        case rel => exact ⟨6, by omega, by simp, Hok.out, hB2⟩
      · have hn0 : ¬ Surf N T := fun hS => hws (hi.2 ((surf_kinds hl).1 hS 5 (by omega)))
        have Hn0 := Lib.hid hn0
        have Hws := Lib.hid hws
        have hlen : ws.length < 4611686018427387904 := by omega
        have hpos : 0 < ws.length := List.length_pos_iff.2 hws
        have H := Lib.hid (sortW_any wr.heap.size _ ws w2 hr hlen)
        have Hr := Lib.hid hr
        have hBw := HB1.out.trans (hB2.mono HB1.out.size)
        have hszr := hB.size
        have hszw := HB1.out.size
        obtain ⟨n, hn⟩ : ∃ n, ws.length = n := ⟨_, rfl⟩
        rw [hn] at hpos Hr H ⊢
        have HN := Lib.hid hn
        clear hn hlen hn0 hws hi hr hb
        go_wp2_with (go_at_call 100; refine H.out.mono ?_; rintro e w3 ⟨rfl, ws', hp, hr3, hg3⟩)
        go_ret
        have hl3 : ws'.length = n := by rw [hp.length_eq, HN.out]
        refine ⟨_, ws', rfl, by rw [hl3]; exact hr3.mono (by omega), ⟨fun e => absurd (by rw [e] at hp; exact hp.symm.eq_nil) Hws.out, fun hS => absurd hS Hn0.out⟩, fun x hx => by rw [hk2 x (hp.mem_iff.1 hx)]; decide, hBw.grown hg3 hBw.size (fun jj e => by have := (Hr.out.lt jj e).1; omega)⟩
    · have hS := (surf_kinds hl).2 Hf.out
      have HS := Lib.hid hS
      have HBw := Lib.hid (HB1.out.trans (hB.mono HB1.out.size))
      clear hS y0 y1 f0 f1 f2 f3 f4 f5 htr hB lx
      go_wp2
      go_ret
      exact ⟨_, [], rfl, World.ownsRow_nil _ _ _ _, ⟨fun _ => HS.out, fun _ => rfl⟩, by simp, HBw.out⟩
end Go.Proofs.Ytpnkhgjjlionnaa
namespace Go.Proofs.Ytpnkhgjjlionnaa
open Go.RowKit Go.Maps
open Go.MapKept (Stamped)

open Classical in
noncomputable def updP (f : Value → Option Value) (key v : Value) : Value → Option Value := fun y => if y = key then some v else f y
theorem updP_same (f : Value → Option Value) (key v : Value) : updP f key v key = some v := by simp [updP]
theorem updP_other {f : Value → Option Value} {key y v : Value} (h : y ≠ key) : updP f key v y = f y := by simp [updP, h]
/-- Block b is a map from keys of type k: it holds what f says. -/
def MapP (P : Program) (k : TypeId) (w : World) (b : Nat) (f : Value → Option Value) : Prop :=
  ∃ es clock, w.heap[b]? = some (.map es clock) ∧ Stamped es clock ∧ (∀ x ∈ es.toList, ∃ l, keyOf P k x.key = some l) ∧ (∀ x ∈ es.toList, f x.key = some x.val) ∧ ∀ key, (∀ x ∈ es.toList, x.key ≠ key) → f key = none
section
variable {P : Program} {k : TypeId} {b : Nat} {w : World} {f : Value → Option Value}
theorem MapP.made (w : World) (P : Program) (k : TypeId) : MapP P k (w.alloc (.map #[] 0)) w.heap.size (fun _ => none) := ⟨#[], 0, heap_alloc_new w _, MapKept.stamped_empty 0, by simp, by simp, fun _ _ => rfl⟩
theorem MapP.obj (h : MapP P k w b f) : ∃ es clock, w.heap[b]? = some (.map es clock) := by
  obtain ⟨es, clock, hb, _⟩ := h
  exact ⟨es, clock, hb⟩
theorem MapP.lt (h : MapP P k w b f) : b < w.heap.size := by
  obtain ⟨es, clock, hb, _⟩ := h
  exact (Array.getElem?_eq_some_iff.1 hb).1
theorem MapP.kept {w' : World} {row : Option Nat} (h : MapP P k w b f) (hg : w.grownBy w' row) (hne : some b ≠ row) : MapP P k w' b f := by
  have hlt := h.lt
  obtain ⟨es, clock, hb, h1⟩ := h
  exact ⟨es, clock, (hg.block b hlt hne).trans hb, h1⟩
theorem MapP.below {w' : World} {B : Nat} (h : MapP P k w b f) (hb : Below B w w') (hB : b < B) : MapP P k w' b f := by
  obtain ⟨es, clock, hb', h1⟩ := h
  exact ⟨es, clock, (hb.block b hB).trans hb', h1⟩
theorem MapP.alloc (h : MapP P k w b f) (o : Obj) : MapP P k (w.alloc o) b f := h.kept (World.grownBy_alloc w o none) (by simp)
theorem MapP.drew (h : MapP P k w b f) : MapP P k w.drew b f := h
theorem MapP.congr {f' : Value → Option Value} (h : MapP P k w b f) (he : ∀ y, f y = f' y) : MapP P k w b f' := by
  have : f = f' := funext he
  rw [← this]
  exact h
theorem MapP.look {t E : TypeId} {z : Value} (h : MapP P k w b f) (K : Keyed P k) (ht : P.underlying t = some (.map k E)) (hz : (zeroValue E).run P w = .ok z w) {key : Value} {kl : Lit} (hkey : keyOf P k key = some kl) :
    (Instr.lookup t (.map (some b)) key false).run P w = .ok ((f key).getD z) w := by
  obtain ⟨es, clock, hb, h1, h2, h3, h4⟩ := h
  rcases K.find w hkey es.toList h2 with ⟨g1, g2⟩ | ⟨j, e0, g1, g2, g3⟩
  · rw [h4 key g2]
    simp [Instr.lookup, run_underlying ht, MapKept.run_getObj_map hb, K.check w _ hkey, g1, hz, Result.andThen]
  · have := h3 e0 (List.mem_of_getElem? g2)
    rw [g3] at this
    rw [this]
    simp [Instr.lookup, run_underlying ht, MapKept.run_getObj_map hb, K.check w _ hkey, g1, Result.andThen]
theorem MapP.lookOk {t E : TypeId} {z : Value} (h : MapP P k w b f) (K : Keyed P k) (ht : P.underlying t = some (.map k E)) (hz : (zeroValue E).run P w = .ok z w) {key : Value} {kl : Lit} (hkey : keyOf P k key = some kl) :
    (Instr.lookup t (.map (some b)) key true).run P w = .ok (.tuple #[(f key).getD z, .bool (f key).isSome]) w := by
  obtain ⟨es, clock, hb, h1, h2, h3, h4⟩ := h
  rcases K.find w hkey es.toList h2 with ⟨g1, g2⟩ | ⟨j, e0, g1, g2, g3⟩
  · rw [h4 key g2]
    simp [Instr.lookup, run_underlying ht, MapKept.run_getObj_map hb, K.check w _ hkey, g1, hz, Result.andThen]
  · have := h3 e0 (List.mem_of_getElem? g2)
    rw [g3] at this
    rw [this]
    simp [Instr.lookup, run_underlying ht, MapKept.run_getObj_map hb, K.check w _ hkey, g1, Result.andThen]
theorem MapP.store {t E : TypeId} (h : MapP P k w b f) (K : Keyed P k) (ht : P.underlying t = some (.map k E)) {key : Value} {kl : Lit} (hkey : keyOf P k key = some kl) (v : Value) :
    ∃ w', (Instr.mapUpdate t (.map (some b)) key v).run P w = .ok () w' ∧ MapP P k w' b (updP f key v) ∧ w.grownBy w' (some b) ∧ w'.heap.size = w.heap.size := by
  obtain ⟨es, clock, hb, h1, h2, h3, h4⟩ := h
  obtain ⟨s1, s2, s3⟩ := (MapKept.stamped_iff es clock).1 h1
  rcases K.find w hkey es.toList h2 with ⟨g1, g2⟩ | ⟨j, e0, g1, g2, g3⟩
  · refine ⟨ChangeMaps.setBlock w b (.map (es.push ⟨key, v, clock⟩) (clock + 1)), by simp [Instr.mapUpdate, run_underlying ht, MapKept.run_getObj_map hb, K.check w _ hkey, g1, MapKept.run_setObj_map _ hb, Result.andThen, ChangeMaps.setBlock],
      ⟨_, _, ChangeMaps.heap_setBlock_same hb _, MapKept.stamped_push h1 g2, ?_, ?_, ?_⟩, setBlock_grown hb _, by simp [ChangeMaps.setBlock]⟩
    · intro x hx
      simp only [Array.toList_push, List.mem_append, List.mem_singleton] at hx
      rcases hx with hx | rfl
      · exact h2 x hx
      · exact ⟨_, hkey⟩
    · intro x hx
      simp only [Array.toList_push, List.mem_append, List.mem_singleton] at hx
      rcases hx with hx | rfl
      · rw [updP_other (g2 x hx)]
        exact h3 x hx
      · exact updP_same _ _ _
    · intro u hu
      have huk : u ≠ key := fun e2 => hu ⟨key, v, clock⟩ (by simp) e2.symm
      rw [updP_other huk]
      exact h4 u (fun x hx => hu x (by simp [hx]))
  · have hset' : (es.modify j (fun e => { e with val := v })).toList = es.toList.set j { e0 with val := v } := by
      rw [Array.toList_modify, ChangeMaps.modify_eq_set _ _ _ _ g2]
    have hsame : es.modify j (fun e => { e with key := key, val := v }) = es.modify j (fun e => { e with val := v }) := by
      apply Array.ext'
      rw [hset', Array.toList_modify, ChangeMaps.modify_eq_set _ _ _ _ g2, ← g3]
    have hj : es[j]? = some e0 := by simpa using g2
    have hmem : ∀ x ∈ (es.modify j (fun e => { e with val := v })).toList, x = { e0 with val := v } ∨ (x ∈ es.toList ∧ x.key ≠ key) := by
      intro x hx
      rw [hset'] at hx
      rcases mem_set_apart s3 g2 hx with h | ⟨h, h'⟩
      · exact .inl h
      · exact .inr ⟨h, by rw [← g3]; exact h'⟩
    have m0 := List.mem_of_getElem? g2
    refine ⟨ChangeMaps.setBlock w b (.map (es.modify j (fun e => { e with val := v })) clock), ?_,
      ⟨_, _, ChangeMaps.heap_setBlock_same hb _, MapKept.stamped_modify h1 j _ (fun _ _ => rfl) (fun _ _ _ => rfl), ?_, ?_, ?_⟩, setBlock_grown hb _, by simp [ChangeMaps.setBlock]⟩
    · simp [Instr.mapUpdate, run_underlying ht, MapKept.run_getObj_map hb, K.check w _ hkey, g1, hj, g3, K.stays w hkey, hsame, MapKept.run_setObj_map _ hb, Result.andThen, ChangeMaps.setBlock]
    · intro x hx
      rcases hmem x hx with rfl | ⟨hx, _⟩
      · exact h2 e0 m0
      · exact h2 x hx
    · intro x hx
      rcases hmem x hx with rfl | ⟨hx, hne⟩
      · simp only [g3]
        exact updP_same _ _ _
      · rw [updP_other hne]
        exact h3 x hx
    · intro u hu
      have huk : u ≠ key := fun e2 => hu { e0 with val := v } (by rw [hset']; exact List.mem_iff_getElem?.2 ⟨j, by rw [List.getElem?_set, if_pos rfl, if_pos (List.getElem?_eq_some_iff.1 g2).1]⟩) (by rw [e2]; exact g3)
      rw [updP_other huk]
      refine h4 u (fun x hx e2 => ?_)
      obtain ⟨i, hi⟩ := List.mem_iff_getElem?.1 hx
      have hij : j ≠ i := fun e3 => by
        subst e3
        rw [g2] at hi
        cases hi
        exact huk (e2.symm.trans g3)
      exact hu x (by rw [hset']; exact List.mem_iff_getElem?.2 ⟨i, by rw [List.getElem?_set, if_neg hij]; exact hi⟩) e2
theorem wpList_storeP {ops : Array Oper} {rest : List Oper} {o : Oper} {a : Act} {Q : Exit → Act → World → Prop} (h : MapP P k w b f)
    (hg : o.guard = none) (m x v : Operand) (t E : TypeId) (hop : o.op = Op.mapUpdate t m x v ∨ o.op = Op.insert t m x v) (K : Keyed P k) (ht : P.underlying t = some (.map k E))
    (hm : a.eval m = .map (some b)) (key vv : Value) (hx : a.eval x = key) (hv : a.eval v = vv) {kl : Lit} (hkey : keyOf P k key = some kl)
    (hK : ∀ w', MapP P k w' b (updP f key vv) → w.grownBy w' (some b) → w.heap.size ≤ w'.heap.size → wpList P ops Q rest (a.put o.dst undef) w') : wpList P ops Q (o :: rest) a w := by
  refine wpList_plain hg fun K' hK' => ?_
  obtain ⟨w', hrun, r1, r2, r3⟩ := h.store K ht hkey vv
  unfold Oper.wp
  rcases hop with hop | hop <;> simp [execOp, hop, hm, hx, hv, hrun, Result.andThen] <;> exact hK' _ _ (hK w' r1 r2 (by omega))
end
end Go.Proofs.Ytpnkhgjjlionnaa
namespace Go.Proofs.Ytpnkhgjjlionnaa
open Go.RowKit Go.Maps

/-! What a table tells, in plain words. -/
def triAt (T : List Tr) (c : Nat) : Tr := T[c / 3]?.getD (0, 0, 0)
def vertN (T : List Tr) (c : Nat) : Int := if c % 3 = 0 then (triAt T c).1 else if c % 3 = 1 then (triAt T c).2.1 else (triAt T c).2.2
def hasC (T : List Tr) (c : Int) : Bool := decide (0 ≤ c ∧ c < 3 * T.length)
def vertI (T : List Tr) (c : Int) : Int := if hasC T c = true then vertN T c.toNat else -1
def nextI (T : List Tr) (c : Int) : Int := if hasC T c = true then (Jor.nx c.toNat : Nat) else -1
def prevI (T : List Tr) (c : Int) : Int := if hasC T c = true then (Jor.pv c.toNat : Nat) else -1
def edgeI (T : List Tr) (c : Int) : Int × Int := (vertI T (nextI T c), vertI T (prevI T c))
def edgeN (T : List Tr) (c : Nat) : Int × Int := (vertN T (Jor.nx c), vertN T (Jor.pv c))
/-- The first corner from c on that faces an edge; that has a vertex. -/
def facFrom (T : List Tr) (c : Nat) (e : Int × Int) : Option Nat := (List.range' c (3 * T.length - c)).find? fun d => edgeN T d == e
def fstFrom (T : List Tr) (c : Nat) (v : Int) : Option Nat := (List.range' c (3 * T.length - c)).find? fun d => vertN T d == v
def facI (T : List Tr) (e : Int × Int) : Int := match facFrom T 0 e with
  | some c => (c : Int)
  | none => -1
def oppI (T : List Tr) (c : Int) : Int := facI T ((edgeI T c).2, (edgeI T c).1)
open Classical in
/-- The faces as a map holds them. -/
noncomputable def facMap (T : List Tr) (c : Nat) : Value → Option Value := fun y => if h : ∃ e, y = pairV e then (facFrom T c h.choose).map (fun d : Nat => Value.int .i64 (d : Int)) else none
theorem pairV_inj {a b : Int × Int} (h : pairV a = pairV b) : a = b := by
  obtain ⟨a1, a2⟩ := a
  obtain ⟨b1, b2⟩ := b
  simpa [pairV] using h
theorem facMap_at (T : List Tr) (c : Nat) (e : Int × Int) : facMap T c (pairV e) = (facFrom T c e).map (fun d : Nat => Value.int .i64 (d : Int)) := by
  unfold facMap
  have h : ∃ e', pairV e = pairV e' := ⟨e, rfl⟩
  rw [dif_pos h]
  have := pairV_inj h.choose_spec
  rw [← this]
def fsts (N : Int) (T : List Tr) (c : Nat) : List Int := (List.range N.toNat).map fun v : Nat => ((fstFrom T c v).getD 0 : Int)

theorem arrEdge : WideMaps.ArrKey Try.prog 88 3 2 := ⟨Try.underlying88, by kernel_rfl, by kernel_rfl, by kernel_rfl⟩
/-- Block g is a table, its triangles can be read. -/
structure TabS (w : World) (g : Nat) (N : Int) (T : List Tr) : Prop where
  ex : ∃ vT m vF, Blk w g 86 #[.int .i64 N, vT, .map (some m), vF] ∧ TrisRd w vT T
  n0 : 0 ≤ N
  n1 : N ≤ 4096
  len : T.length ≤ 8192
  inr : ∀ t ∈ T, 0 ≤ t.1 ∧ t.1 < N ∧ 0 ≤ t.2.1 ∧ t.2.1 < N ∧ 0 ≤ t.2.2 ∧ t.2.2 < N
/-- Block g is the table of a surface. -/
structure Tab (w : World) (g : Nat) (N : Int) (T : List Tr) : Prop extends TabS w g N T where
  tx : ∃ vT m vF, Blk w g 86 #[.int .i64 N, vT, .map (some m), vF] ∧ TrisRd w vT T ∧ MapP Try.prog 88 w m (facMap T 0) ∧ IntsRd w vF (fsts N T 0)
theorem IntsRd.below {w w' : World} {v : Value} {xs : List Int} (h : IntsRd w v xs) (hb : Below w.heap.size w w') : IntsRd w' v xs := by
  obtain ⟨a, c, rfl, h1, h2⟩ := h
  refine ⟨a, c, rfl, h1, fun k x hk => ?_⟩
  obtain ⟨b, o, rfl, hl, hc⟩ := h2 k x hk
  exact ⟨b, o, rfl, Nat.lt_of_lt_of_le hl hb.size, (hb.cell (p := ⟨b, _, none⟩) hl).trans hc⟩
theorem TabS.below {w w' : World} {g : Nat} {N : Int} {T : List Tr} (h : TabS w g N T) (hb : Below w.heap.size w w') : TabS w' g N T := by
  obtain ⟨⟨vT, m, vF, h1, h2⟩, a, b, c, d⟩ := h
  exact ⟨⟨vT, m, vF, h1.below hb h1.lt, h2.below hb⟩, a, b, c, d⟩
theorem Tab.below {w w' : World} {g : Nat} {N : Int} {T : List Tr} (h : Tab w g N T) (hb : Below w.heap.size w w') : Tab w' g N T := by
  obtain ⟨hs, ⟨vT, m, vF, h1, h2, h3, h4⟩⟩ := h
  exact ⟨hs.below hb, ⟨vT, m, vF, h1.below hb h1.lt, h2.below hb, h3.below hb h3.lt, h4.below hb⟩⟩
theorem TabS.alloc {w : World} {g : Nat} {N : Int} {T : List Tr} (h : TabS w g N T) (o : Obj) : TabS (w.alloc o) g N T := h.below ((Below.refl _ _).alloc (Nat.le_refl _) _)
theorem Tab.alloc {w : World} {g : Nat} {N : Int} {T : List Tr} (h : Tab w g N T) (o : Obj) : Tab (w.alloc o) g N T := h.below ((Below.refl _ _).alloc (Nat.le_refl _) _)
theorem TabS.drew {w : World} {g : Nat} {N : Int} {T : List Tr} (h : TabS w g N T) : TabS w.drew g N T := h.below (Below.refl _ _).drew
theorem TabS.lt {w : World} {g : Nat} {N : Int} {T : List Tr} (h : TabS w g N T) : g < w.heap.size := by
  obtain ⟨vT, m, vF, h1, _⟩ := h.ex
  exact h1.lt
theorem vertN_in {T : List Tr} {N : Int} (h : ∀ t ∈ T, 0 ≤ t.1 ∧ t.1 < N ∧ 0 ≤ t.2.1 ∧ t.2.1 < N ∧ 0 ≤ t.2.2 ∧ t.2.2 < N) {c : Nat} (hc : c < 3 * T.length) : 0 ≤ vertN T c ∧ vertN T c < N := by
  have hk : c / 3 < T.length := by omega
  have := h T[c / 3] (List.getElem_mem _)
  unfold vertN triAt
  rw [List.getElem?_eq_getElem hk]
  simp only [Option.getD_some]
  split
  · exact ⟨this.1, this.2.1⟩
  · split
    · exact ⟨this.2.2.1, this.2.2.2.1⟩
    · exact ⟨this.2.2.2.2.1, this.2.2.2.2.2⟩
theorem vertI_bd {T : List Tr} {N : Int} (h : ∀ t ∈ T, 0 ≤ t.1 ∧ t.1 < N ∧ 0 ≤ t.2.1 ∧ t.2.1 < N ∧ 0 ≤ t.2.2 ∧ t.2.2 < N) (hN : 0 ≤ N) (c : Int) : -1 ≤ vertI T c ∧ vertI T c ≤ N := by
  unfold vertI hasC
  split
  · rename_i hc
    simp at hc
    have := vertN_in h (c := c.toNat) (by omega)
    omega
  · omega
theorem hasC_true {T : List Tr} {c : Int} (h0 : 0 ≤ c) (h1 : c < 3 * T.length) : hasC T c = true := by simp [hasC, h0, h1]
set_option maxRecDepth 100000 in
theorem has_any (g : Nat) (N c : Int) (T : List Tr) (w : World) (h : TabS w g N T) : Calls Try.prog 79 #[.pointer (some ⟨g, 0, none⟩), .int .i64 c] w fun e w' => e = .returned (.bool (hasC T c)) ∧ w = w' := by
  obtain ⟨⟨vT, m, vF, h1, ⟨a, cT, rfl, hc1, hc2, _⟩⟩, _, _, hl, _⟩ := h
  obtain ⟨lg, x0, -, x1, -⟩ : g < w.heap.size ∧ w.cell? ⟨g, 0, none⟩ = some (.int .i64 N) ∧ w.frozen? ⟨g, 0, none⟩ = false ∧ w.cell? ⟨g, 1, none⟩ = some (.slice a T.length cT) ∧ w.frozen? ⟨g, 1, none⟩ = false := ⟨h1.lt, h1.cell 0, h1.frozen 0, h1.cell 1, h1.frozen 1⟩
  obtain ⟨n, hn⟩ : ∃ n, T.length = n := ⟨_, rfl⟩
  unfold hasC
  rw [hn] at x1 hl ⊢
  clear hn h1
  by_cases c0 : 0 ≤ c
  · by_cases c1 : c < 3 * n
    · have hp : decide (0 ≤ c ∧ c < 3 * (n : Int)) = true := by simp [c0, c1]
      rw [hp]
      clear hp
      go_enter Try.func79, Try.ntmps79
      go_wp2
      go_ret
      exact ⟨by simp, rfl⟩
    · have hp : decide (0 ≤ c ∧ c < 3 * (n : Int)) = false := by simp [c0]; omega
      have hd : decide (c < 3 * (n : Int)) = false := by simpa using c1
      rw [hp]
      clear hp c1
      go_enter Try.func79, Try.ntmps79
      go_wp2
      go_ret
      exact ⟨by simp, rfl⟩
  · have hp : decide (0 ≤ c ∧ c < 3 * (n : Int)) = false := by simp; omega
    have hd : decide (0 ≤ c) = false := by simpa using c0
    rw [hp]
    clear hp c0
    go_enter Try.func79, Try.ntmps79
    go_wp2
    go_ret
    exact ⟨by simp, rfl⟩
theorem hasC_nat {T : List Tr} {c : Int} (h : hasC T c = true) : ∃ n : Nat, c = n ∧ n < 3 * T.length := by
  simp [hasC] at h
  exact ⟨c.toNat, by omega, by omega⟩
set_option maxRecDepth 100000 in
set_option maxHeartbeats 1000000 in
theorem vertex_any (g : Nat) (N c : Int) (T : List Tr) (w : World) (h : TabS w g N T) : Calls Try.prog 44 #[.pointer (some ⟨g, 0, none⟩), .int .i64 c] w fun e w' => e = .returned (.int .i64 (vertI T c)) ∧ w = w' := by
  have H := Lib.hid (has_any g N c T w h)
  cases hc : hasC T c with
  | false =>
    have hv : vertI T c = -1 := by simp [vertI, hc]
    have Hc := Lib.hid hc
    rw [hv]
    clear hv hc h
    go_enter Try.func44, Try.ntmps44
    go_wp2_with fail
    refine H.out.mono ?_
    rw [Hc.out]
    rintro e w' ⟨rfl, rfl⟩
    go_wp2
    go_ret
    exact ⟨by simp, rfl⟩
  | true =>
    obtain ⟨n, rfl, hn⟩ := hasC_nat hc
    obtain ⟨⟨vT, m, vF, h1, ⟨a, cT, rfl, hc1, hc2, hr⟩⟩, _, _, hl, _⟩ := h
    obtain ⟨lg, x0, -, x1, -⟩ : g < w.heap.size ∧ w.cell? ⟨g, 0, none⟩ = some (.int .i64 N) ∧ w.frozen? ⟨g, 0, none⟩ = false ∧ w.cell? ⟨g, 1, none⟩ = some (.slice a T.length cT) ∧ w.frozen? ⟨g, 1, none⟩ = false := ⟨h1.lt, h1.cell 0, h1.frozen 0, h1.cell 1, h1.frozen 1⟩
    have hk : n / 3 < T.length := by omega
    obtain ⟨t, ht⟩ : ∃ t, T[n / 3]? = some t := ⟨T[n / 3], List.getElem?_eq_getElem _⟩
    obtain ⟨x, y, z⟩ := t
    obtain ⟨b, o, rfl, hbl, s0, s1, s2⟩ := hr _ x y z ht
    have hv : vertI T (n : Int) = if n % 3 = 0 then x else if n % 3 = 1 then y else z := by simp [vertI, hc, vertN, triAt, ht]
    have Hc := Lib.hid hc
    obtain ⟨L, hL⟩ : ∃ L, T.length = L := ⟨_, rfl⟩
    obtain ⟨k, hkk⟩ : ∃ k, n / 3 = k := ⟨_, rfl⟩
    rw [hL] at x1 hk
    rw [hkk] at hk s0 s1 s2
    rw [hv]
    have e1 : (n : Int) / 3 = (k : Int) := by omega
    have hb0 : (0 : Int) ≤ (n : Int) := by omega
    have hb1 : (n : Int) ≤ 100000 := by omega
    have hk3 : (k : Int) < (L : Int) := by omega
    have hi : n % 3 = 0 ∨ n % 3 = 1 ∨ n % 3 = 2 := by omega
    clear hv hc h1 hr ht hL
    rcases hi with hi | hi | hi
    · have e2 : (n : Int) % 3 = 0 := by omega
      rw [hi]
      clear hkk hi hn
      go_enter Try.func44, Try.ntmps44
      go_wp2_with fail
      refine H.out.mono ?_
      rw [Hc.out]
      rintro e w' ⟨rfl, rfl⟩
      go_wp2
      go_ret
      exact ⟨by simp, rfl⟩
    · have e2 : (n : Int) % 3 = 1 := by omega
      rw [hi]
      clear hkk hi hn
      go_enter Try.func44, Try.ntmps44
      go_wp2_with fail
      refine H.out.mono ?_
      rw [Hc.out]
      rintro e w' ⟨rfl, rfl⟩
      go_wp2
      go_ret
      exact ⟨by simp, rfl⟩
    · have e2 : (n : Int) % 3 = 2 := by omega
      rw [hi]
      clear hkk hi hn
      go_enter Try.func44, Try.ntmps44
      go_wp2_with fail
      refine H.out.mono ?_
      rw [Hc.out]
      rintro e w' ⟨rfl, rfl⟩
      go_wp2
      go_ret
      exact ⟨by simp, rfl⟩

set_option maxRecDepth 100000 in
theorem turned_any (c b : Int) (w : World) (hc : 0 ≤ c ∧ c ≤ 1000000) (hb : 0 ≤ b ∧ b ≤ 2) : Calls Try.prog 92 #[.int .i64 c, .int .i64 b] w fun e w' => e = .returned (.int .i64 (c - c % 3 + (c + b) % 3)) ∧ w = w' := by
  obtain ⟨c0, c1⟩ := hc
  obtain ⟨b0, b1⟩ := hb
  have m0 := Int.emod_nonneg c (show (3 : Int) ≠ 0 by decide)
  have m1 := Int.emod_lt_of_pos c (show (0 : Int) < 3 by decide)
  have m2 := Int.emod_nonneg (c + b) (show (3 : Int) ≠ 0 by decide)
  have m3 := Int.emod_lt_of_pos (c + b) (show (0 : Int) < 3 by decide)
  go_enter Try.func92, Try.ntmps92
  go_wp2
  go_ret
  exact ⟨rfl, rfl⟩
theorem nx_int (n : Nat) : ((n : Int) - (n : Int) % 3 + ((n : Int) + 1) % 3) = ((Jor.nx n : Nat) : Int) := by unfold Jor.nx; omega
theorem pv_int (n : Nat) : ((n : Int) - (n : Int) % 3 + ((n : Int) + 2) % 3) = ((Jor.pv n : Nat) : Int) := by unfold Jor.pv; omega
set_option maxRecDepth 100000 in
theorem next_any (g : Nat) (N c : Int) (T : List Tr) (w : World) (h : TabS w g N T) : Calls Try.prog 63 #[.pointer (some ⟨g, 0, none⟩), .int .i64 c] w fun e w' => e = .returned (.int .i64 (nextI T c)) ∧ w = w' := by
  have H := Lib.hid (has_any g N c T w h)
  have hl := h.len
  cases hc : hasC T c with
  | false =>
    have hv : nextI T c = -1 := by simp [nextI, hc]
    have Hc := Lib.hid hc
    rw [hv]
    clear hv hc h
    go_enter Try.func63, Try.ntmps63
    go_wp2_with fail
    refine H.out.mono ?_
    rw [Hc.out]
    rintro e w' ⟨rfl, rfl⟩
    go_wp2
    go_ret
    exact ⟨by simp, rfl⟩
  | true =>
    obtain ⟨n, rfl, hn⟩ := hasC_nat hc
    have hv : nextI T (n : Int) = ((Jor.nx n : Nat) : Int) := by simp [nextI, hc]
    have Hc := Lib.hid hc
    have HT := Lib.hid (turned_any (n : Int) 1 w ⟨by omega, by omega⟩ (by decide))
    rw [hv, ← nx_int]
    generalize hz : ((n : Int) - (n : Int) % 3 + ((n : Int) + 1) % 3) = z at HT
    clear hv hc h hl hn
    clear hz
    go_enter Try.func63, Try.ntmps63
    go_wp2_with fail
    refine H.out.mono ?_
    rw [Hc.out]
    rintro e w' ⟨rfl, rfl⟩
    go_wp2_with fail
    refine HT.out.mono ?_
    rintro e w' ⟨rfl, rfl⟩
    go_wp2
    go_ret
    exact ⟨rfl, rfl⟩
set_option maxRecDepth 100000 in
theorem prev_any (g : Nat) (N c : Int) (T : List Tr) (w : World) (h : TabS w g N T) : Calls Try.prog 64 #[.pointer (some ⟨g, 0, none⟩), .int .i64 c] w fun e w' => e = .returned (.int .i64 (prevI T c)) ∧ w = w' := by
  have H := Lib.hid (has_any g N c T w h)
  have hl := h.len
  cases hc : hasC T c with
  | false =>
    have hv : prevI T c = -1 := by simp [prevI, hc]
    have Hc := Lib.hid hc
    rw [hv]
    clear hv hc h
    go_enter Try.func64, Try.ntmps64
    go_wp2_with fail
    refine H.out.mono ?_
    rw [Hc.out]
    rintro e w' ⟨rfl, rfl⟩
    go_wp2
    go_ret
    exact ⟨by simp, rfl⟩
  | true =>
    obtain ⟨n, rfl, hn⟩ := hasC_nat hc
    have hv : prevI T (n : Int) = ((Jor.pv n : Nat) : Int) := by simp [prevI, hc]
    have Hc := Lib.hid hc
    have HT := Lib.hid (turned_any (n : Int) 2 w ⟨by omega, by omega⟩ (by decide))
    rw [hv, ← pv_int]
    generalize hz : ((n : Int) - (n : Int) % 3 + ((n : Int) + 2) % 3) = z at HT
    clear hv hc h hl hn
    clear hz
    go_enter Try.func64, Try.ntmps64
    go_wp2_with fail
    refine H.out.mono ?_
    rw [Hc.out]
    rintro e w' ⟨rfl, rfl⟩
    go_wp2_with fail
    refine HT.out.mono ?_
    rintro e w' ⟨rfl, rfl⟩
    go_wp2
    go_ret
    exact ⟨rfl, rfl⟩
theorem MapP.drewN {P : Program} {k : TypeId} {b : Nat} {w : World} {f : Value → Option Value} (h : MapP P k w b f) (n : Nat) : MapP P k (w.drewN n) b f := h
theorem below_drewN {B : Nat} {a w : World} (h : Below B a w) (n : Nat) : Below B a (w.drewN n) := ⟨h.os, h.tape, h.output, h.size, h.block⟩
theorem zero_int (w : World) : (zeroValue 3).run Try.prog w = .ok (.int .i64 0) w := by kernel_rfl
theorem wfV {x : Int} (h : -1 ≤ x ∧ x ≤ 10000) : (Lit.int .i64 x).wf = true := WalkArith.wf_i64 (by omega)
set_option maxRecDepth 100000 in
set_option maxHeartbeats 1000000 in
theorem edge_any (g : Nat) (N c : Int) (T : List Tr) (w : World) (h : TabS w g N T) : Calls Try.prog 43 #[.pointer (some ⟨g, 0, none⟩), .int .i64 c] w fun e w' => e = .returned (pairV (edgeI T c)) ∧ Below w.heap.size w w' := by
  have ht := h.alloc (.cells #[.int .i64 0, .int .i64 0] 88)
  have hB0 : Below w.heap.size w (w.alloc (.cells #[.int .i64 0, .int .i64 0] 88)) := (Below.refl _ _).alloc (Nat.le_refl _) _
  have HT := Lib.hid ht
  have HB0 := Lib.hid hB0
  unfold edgeI pairV
  simp only
  generalize hx : vertI T (nextI T c) = x
  generalize hy : vertI T (prevI T c) = y
  have HX := Lib.hid hx
  have HY := Lib.hid hy
  clear h ht hB0 hx hy
  go_enter Try.func43, Try.ntmps43
  go_wp2_with (first
    | (go_at_call 63; refine (next_any g N c T _ HT.out).mono ?_; rintro e w' ⟨rfl, rfl⟩)
    | (go_at_call 64; refine (prev_any g N c T _ HT.out).mono ?_; rintro e w' ⟨rfl, rfl⟩)
    | (go_at_call 44; refine (vertex_any g N _ T _ HT.out).mono ?_; rintro e w' ⟨rfl, rfl⟩))
  exact bodyPost_ret (v := .agg #[.int .i64 x, .int .i64 y]) (by simp [results, Try.results43, go_sem, HX.out, HY.out]) rfl ⟨rfl, (Below.refl _ _).alloc (Nat.le_refl _) _⟩
set_option maxRecDepth 100000 in
set_option maxHeartbeats 1000000 in
theorem facing_any (g : Nat) (N a b : Int) (T : List Tr) (w : World) (h : Tab w g N T) (ha : -1 ≤ a ∧ a ≤ 10000) (hb : -1 ≤ b ∧ b ≤ 10000) : Calls Try.prog 81 #[.pointer (some ⟨g, 0, none⟩), pairV (a, b)] w fun e w' => e = .returned (.int .i64 (facI T (a, b))) ∧ Below w.heap.size w w' := by
  obtain ⟨vT, m, vF, h1, _, h3, _⟩ := (h.alloc (.cells #[.int .i64 a, .int .i64 b] 88)).tx
  have hlk := fun nq => (h3.drewN nq).lookOk (t := 84) (Keyed.of_law arrEdge.law) Try.underlying84 (zero_int _) (WideMaps.keyOf_pair arrEdge Try.underlying3 types_succ (wfV ha) (wfV hb))
  have hg := h.lt
  rw [show (.agg #[.int .i64 a, .int .i64 b] : Value) = pairV (a, b) from rfl, facMap_at] at hlk
  unfold facI
  cases hf : facFrom T 0 (a, b) with
  | none =>
    rw [hf] at hlk
    simp only [Option.map_none, Option.getD_none, Option.isSome_none] at hlk
    have c1 := h1.cell 2
    clear h h1 h3 hf
    unfold pairV at hlk ⊢
    simp only at hlk ⊢
    go_enter Try.func81, Try.ntmps81
    go_wp2
    go_quiet (fail)
    go_wp2
    go_ret
    exact ⟨rfl, below_drewN (((Below.refl _ _).alloc (Nat.le_refl _) _)) _⟩
  | some d =>
    rw [hf] at hlk
    simp only [Option.map_some, Option.getD_some, Option.isSome_some] at hlk
    have c1 := h1.cell 2
    clear h h1 h3 hf
    unfold pairV at hlk ⊢
    simp only at hlk ⊢
    go_enter Try.func81, Try.ntmps81
    go_wp2
    go_quiet (fail)
    go_wp2
    go_ret
    exact ⟨rfl, below_drewN (((Below.refl _ _).alloc (Nat.le_refl _) _)) _⟩
theorem edgeI_bd {T : List Tr} {N : Int} (h : ∀ t ∈ T, 0 ≤ t.1 ∧ t.1 < N ∧ 0 ≤ t.2.1 ∧ t.2.1 < N ∧ 0 ≤ t.2.2 ∧ t.2.2 < N) (hN : 0 ≤ N) (h1 : N ≤ 4096) (c : Int) : (-1 ≤ (edgeI T c).1 ∧ (edgeI T c).1 ≤ 10000) ∧ -1 ≤ (edgeI T c).2 ∧ (edgeI T c).2 ≤ 10000 := by
  have a := vertI_bd h hN (nextI T c)
  have b := vertI_bd h hN (prevI T c)
  unfold edgeI
  simp only
  omega
set_option maxRecDepth 100000 in
set_option maxHeartbeats 1000000 in
theorem opp_any (g : Nat) (N c : Int) (T : List Tr) (w : World) (h : Tab w g N T) : Calls Try.prog 49 #[.pointer (some ⟨g, 0, none⟩), .int .i64 c] w fun e w' => e = .returned (.int .i64 (oppI T c)) ∧ Below w.heap.size w w' := by
  have H := Lib.hid (edge_any g N c T w h.toTabS)
  obtain ⟨⟨p0, p1⟩, p2, p3⟩ := edgeI_bd h.inr h.n0 h.n1 c
  unfold oppI
  generalize hx : edgeI T c = e at *
  obtain ⟨x, y⟩ := e
  simp only at p0 p1 p2 p3 ⊢
  have HF := Lib.hid (fun (W : World) (hw : Below w.heap.size w W) => facing_any g N y x T W (h.below hw) ⟨p2, p3⟩ ⟨p0, p1⟩)
  generalize facI T (y, x) = z at *
  clear h hx
  go_enter Try.func49, Try.ntmps49
  go_wp2_with fail
  refine H.out.mono ?_
  rintro e w1 ⟨rfl, hb1⟩
  have b1 := Blk.new w1 88 #[.int .i64 x, .int .i64 y]
  obtain ⟨l0, x0, -, x1, -⟩ := b1.two
  have hB1 := hb1.alloc hb1.size (.cells #[.int .i64 x, .int .i64 y] 88)
  have HB1 := Lib.hid hB1
  have H2 := Lib.hid (HF.out _ hB1)
  unfold pairV
  simp only
  clear b1 hB1 hb1 HF
  go_wp2_with fail
  refine H2.out.mono ?_
  rintro e w2 ⟨rfl, hb2⟩
  have HB2 := Lib.hid (HB1.out.trans (hb2.mono HB1.out.size))
  clear hb2 x0 x1 l0
  go_wp2
  go_ret
  exact ⟨rfl, HB2.out⟩
theorem oppI_bd (T : List Tr) (c : Int) : -1 ≤ oppI T c ∧ oppI T c < 3 * (T.length : Int) := by
  unfold oppI facI facFrom
  generalize ((edgeI T c).2, (edgeI T c).1) = e
  cases h : (List.range' 0 (3 * T.length - 0)).find? fun d => edgeN T d == e with
  | none => simp only; omega
  | some d =>
    have := List.mem_of_find?_eq_some h
    rw [List.mem_range'_1] at this
    simp only
    omega
set_option maxRecDepth 100000 in
theorem triangles_any (g : Nat) (N : Int) (T : List Tr) (w : World) (h : TabS w g N T) : Calls Try.prog 80 #[.pointer (some ⟨g, 0, none⟩)] w fun e w' => e = .returned (.int .i64 T.length) ∧ w = w' := by
  obtain ⟨⟨vT, m, vF, h1, ⟨a, cT, rfl, _⟩⟩, _, _, hl, _⟩ := h
  have x1 := h1.cell 1
  have lg := h1.lt
  clear h1
  go_enter Try.func80, Try.ntmps80
  go_wp2
  go_ret
  exact ⟨rfl, rfl⟩
end Go.Proofs.Ytpnkhgjjlionnaa
namespace Go.Proofs.Ytpnkhgjjlionnaa
open Go.RowKit

def witV (k a b : Int) : Value := .agg #[.int .i64 k, .int .i64 a, .int .i64 b]
set_option maxRecDepth 100000 in
set_option maxHeartbeats 1000000 in
theorem check_any (N : Int) (v : Value) (T : List Tr) (w : World) (h : TrisRd w v T) (hl : T.length ≤ 8192) : Calls Try.prog 33 #[.agg #[.int .i64 N, v]] w fun e w' => ∃ k a b : Int, e = .returned (witV k a b) ∧ ((Surf N T ∧ k = 0 ∧ a = 0 ∧ b = 0) ∨ (¬ Surf N T ∧ 1 ≤ k)) ∧ Below w.heap.size w w' := by
  have b1 := (Blk.new w 24 #[.int .i64 N, v]).alloc (.cells #[.int .i64 0, .int .i64 0, .int .i64 0] 44)
  have b2 := Blk.new (w.alloc (.cells #[.int .i64 N, v] 24)) 44 #[.int .i64 0, .int .i64 0, .int .i64 0]
  rw [size_alloc'] at b2
  have hB0 : Below w.heap.size w ((w.alloc (.cells #[.int .i64 N, v] 24)).alloc (.cells #[.int .i64 0, .int .i64 0, .int .i64 0] 44)) := ((Below.refl _ _).alloc (Nat.le_refl _) _).alloc (by rw [size_alloc']; omega) _
  obtain ⟨l0, x0, -, x1, -⟩ := b1.two
  have hA := all_any N v T ((w.alloc (.cells #[.int .i64 N, v] 24)).alloc (.cells #[.int .i64 0, .int .i64 0, .int .i64 0] 44)) (h.below hB0) hl
  have HA := Lib.hid hA
  clear h hA
  go_enter Try.func33, Try.ntmps33
  go_wp2_with fail
  refine HA.out.mono ?_
  rintro e w2 ⟨v', ws, rfl, hr, hi, hk, hb⟩
  obtain ⟨av, cv, rfl⟩ := ownsRow_slice hr
  have hB2 := hB0.trans (hb.mono hB0.size)
  have b3 := b2.below hb b2.lt
  obtain ⟨l3, y0, f0, y1, f1, y2, f2⟩ := b3.three
  have hsz2 := hb.size
  rw [size_alloc', size_alloc'] at hsz2 hr
  have hB3 : ∀ u0 u1 u2 : Value, Below w.heap.size w (((w2.setCell ⟨w.heap.size + 1, 0, none⟩ u0).setCell ⟨w.heap.size + 1, 1, none⟩ u1).setCell ⟨w.heap.size + 1, 2, none⟩ u2) := fun u0 u1 u2 => ((hB2.setCell (by simp) _).setCell (by simp) _).setCell (by simp) _
  have HB3 := Lib.hid hB3
  have b4 : ∀ u0 u1 u2 : Value, Blk (((w2.setCell ⟨w.heap.size + 1, 0, none⟩ u0).setCell ⟨w.heap.size + 1, 1, none⟩ u1).setCell ⟨w.heap.size + 1, 2, none⟩ u2) (w.heap.size + 1) 44 #[u0, u1, u2] := fun u0 u1 u2 => by
    have := ((b3.set_ 0 u0).set_ 1 u1).set_ 2 u2
    simpa using this
  have HB4 := Lib.hid b4
  clear b4
  cases ws with
  | nil =>
    have HS := Lib.hid (hi.1 rfl)
    clear hB3 hB2 hb b1 b2 x0 x1 l0 hi hk hr hB0
    rw [List.length_nil]
    go_wp2
    obtain ⟨z, z0, -, z1, -, z2, -⟩ := (HB4.out (.int .i64 0) (.int .i64 0) (.int .i64 0)).three
    exact bodyPost_ret (v := .agg #[.int .i64 0, .int .i64 0, .int .i64 0]) (by simp [results, Try.results33, go_sem, z0, z1, z2]) rfl ⟨0, 0, 0, rfl, .inl ⟨HS.out, rfl, rfl, rfl⟩, HB3.out _ _ _⟩
  | cons t r =>
    have HS := Lib.hid (fun hS => List.cons_ne_nil t r (hi.2 hS))
    have hk1 := hk t (by simp)
    obtain ⟨k, a, b⟩ := t
    rw [List.length_cons] at hr
    obtain ⟨g, cap, e0, hbg, hgl⟩ := hr.form (by omega)
    cases e0
    have c0 := hr.cellAt 0 (by omega)
    have c1 := hr.cellAt 1 (by omega)
    have c2 := hr.cellAt 2 (by omega)
    have d0 : (ws3 ((k, a, b) :: r))[0]? = some (.int .i64 k) := by simp [ws3, flatT]
    have d1 : (ws3 ((k, a, b) :: r))[1]? = some (.int .i64 a) := by simp [ws3, flatT]
    have d2 : (ws3 ((k, a, b) :: r))[2]? = some (.int .i64 b) := by simp [ws3, flatT]
    rw [d0] at c0
    rw [d1] at c1
    rw [d2] at c2
    clear hB3 hB2 hb b1 b2 x0 x1 l0 hi hk hr hB0 d0 d1 d2
    go_wp2
    obtain ⟨z, z0, -, z1, -, z2, -⟩ := (HB4.out (.int .i64 k) (.int .i64 a) (.int .i64 b)).three
    exact bodyPost_ret (v := .agg #[.int .i64 k, .int .i64 a, .int .i64 b]) (by simp [results, Try.results33, go_sem, z0, z1, z2]) rfl ⟨k, a, b, rfl, .inr ⟨HS.out, hk1⟩, HB3.out _ _ _⟩

theorem is_any (N : Int) (v : Value) (T : List Tr) (w : World) (h : TrisRd w v T) (hl : T.length ≤ 8192) : Calls Try.prog 13 #[.agg #[.int .i64 N, v]] w fun e w' => ∃ b : Bool, e = .returned (.bool b) ∧ (b = true ↔ Surf N T) ∧ Below w.heap.size w w' := by
  have b1 := Blk.new w 24 #[.int .i64 N, v]
  have hB0 : Below w.heap.size w (w.alloc (.cells #[.int .i64 N, v] 24)) := (Below.refl _ _).alloc (Nat.le_refl _) _
  obtain ⟨l0, x0, -, x1, -⟩ := b1.two
  have HA := Lib.hid (check_any N v T (w.alloc (.cells #[.int .i64 N, v] 24)) (h.below hB0) hl)
  clear h b1
  go_enter Try.func13, Try.ntmps13
  go_wp2_with fail
  refine HA.out.mono ?_
  rintro e w2 ⟨k, a, b, rfl, hS, hb⟩
  have HB := Lib.hid (hB0.trans (hb.mono hB0.size))
  unfold witV
  clear hb hB0 x0 x1 l0
  rcases hS with ⟨hS, rfl, rfl, rfl⟩ | ⟨hS, hk⟩
  · have HS := Lib.hid hS
    clear hS
    go_wp2
    go_ret
    exact ⟨true, rfl, ⟨fun _ => HS.out, fun _ => rfl⟩, HB.out⟩
  · have HS := Lib.hid hS
    have hk0 : (k == 0) = false := by simp; omega
    clear hS
    go_wp2
    go_ret
    exact ⟨false, by simp, ⟨fun e => Bool.noConfusion e, fun h => absurd h HS.out⟩, HB.out⟩
end Go.Proofs.Ytpnkhgjjlionnaa
namespace Go.Proofs.Ytpnkhgjjlionnaa
open Go.RowKit Go.Maps

theorem infoTri : (Try.prog.info? 61).map (fun i => (i.zero, i.size, i.bytes)) = some (some (.agg #[.int .i64 0, .int .i64 0, .int .i64 0]), 3, 24) := by kernel_rfl
theorem ws3_len (T : List Tr) : (ws3 T).length = T.length * 3 := by simp [ws3, flatT_length]; omega
theorem TrisRd.of_row {w : World} {base : Nat} {v : Value} {T : List Tr} (h : w.ownsRow base 61 3 v T.length (ws3 T)) : TrisRd w v T := by
  rcases h.2 with ⟨rfl, h0⟩ | ⟨g, cap, cur, rfl, hb, hg, h1, h2, _⟩
  · rw [List.eq_nil_of_length_eq_zero h0]
    exact ⟨none, 0, rfl, by simp, by simp, fun k x y z hk => by simp at hk⟩
  · unfold maxLen at h2
    refine ⟨some ⟨g, 0, none⟩, cap, rfl, h1, by omega, fun k x y z hk => ?_⟩
    obtain ⟨d0, d1, d2⟩ := ws3_at hk
    have hk' := (List.getElem?_eq_some_iff.1 hk).1
    have hl := h.1
    refine ⟨g, 0, rfl, (Array.getElem?_eq_some_iff.1 hg).1, ?_, ?_, ?_⟩
    · rw [Nat.zero_add, h.cellAt _ (by omega)]; exact d0
    · rw [Nat.zero_add, h.cellAt _ (by omega)]; exact d1
    · rw [Nat.zero_add, h.cellAt _ (by omega)]; exact d2
theorem ws3_get {T : List Tr} {j : Nat} {u : Value} (h : (ws3 T)[j]? = some u) : ∃ k x y z, T[k]? = some (x, y, z) ∧ ((j = k * 3 ∧ u = .int .i64 x) ∨ (j = k * 3 + 1 ∧ u = .int .i64 y) ∨ (j = k * 3 + 2 ∧ u = .int .i64 z)) := by
  have hj := (List.getElem?_eq_some_iff.1 h).1
  rw [ws3_len] at hj
  have hk : j / 3 < T.length := by omega
  obtain ⟨t, ht⟩ : ∃ t, T[j / 3]? = some t := ⟨T[j / 3], List.getElem?_eq_getElem _⟩
  obtain ⟨x, y, z⟩ := t
  obtain ⟨d0, d1, d2⟩ := ws3_at ht
  refine ⟨j / 3, x, y, z, ht, ?_⟩
  have : j % 3 = 0 ∨ j % 3 = 1 ∨ j % 3 = 2 := by omega
  rcases this with e | e | e
  · have e1 : j = j / 3 * 3 := by omega
    rw [e1, d0] at h
    exact .inl ⟨e1, by cases h; rfl⟩
  · have e1 : j = j / 3 * 3 + 1 := by omega
    rw [e1, d1] at h
    exact .inr (.inl ⟨e1, by cases h; rfl⟩)
  · have e1 : j = j / 3 * 3 + 2 := by omega
    rw [e1, d2] at h
    exact .inr (.inr ⟨e1, by cases h; rfl⟩)
/-- The cells behind an address that triangles are read from. -/
theorem TrisRd.cells {w : World} {ad : Addr} {n c : Nat} {T : List Tr} (h : TrisRd w (.slice (some ad) n c) T) : ∀ j u, (ws3 T)[j]? = some u → w.cell? (ad.add j) = some u := by
  intro j u hu
  obtain ⟨a, c', e0, h1, h2, h3⟩ := h
  cases e0
  obtain ⟨k, x, y, z, hk, hj⟩ := ws3_get hu
  obtain ⟨b, o, e1, hl, s0, s1, s2⟩ := h3 k x y z hk
  cases e1
  rw [Addr.add_lit]
  rcases hj with ⟨rfl, rfl⟩ | ⟨rfl, rfl⟩ | ⟨rfl, rfl⟩
  · exact s0
  · exact s1
  · exact s2
set_option maxRecDepth 100000 in
set_option maxHeartbeats 1000000 in
theorem cloneT_any (v : Value) (T : List Tr) (w : World) (h : TrisRd w v T) (hl : T.length ≤ 100000) : Calls Try.prog 42 #[v] w fun e w' => ∃ v', e = .returned v' ∧ w'.ownsRow w.heap.size 61 3 v' T.length (ws3 T) ∧ Below w.heap.size w w' := by
  obtain ⟨i1, hi', hy0, hy1, hy2⟩ := info_parts infoTri
  have h0 := h
  obtain ⟨a, c, rfl, hc1, hc2, hr⟩ := h
  cases a with
  | none =>
    have hT : T = [] := by
      cases T with
      | nil => rfl
      | cons t r =>
        obtain ⟨x, y, z⟩ := t
        obtain ⟨b, o, e, _⟩ := hr 0 x y z rfl
        cases e
    subst hT
    have q := fun (W : World) => Lib.run_eql_slice_nil (P := Try.prog) W 22 61 none 0 c 0 0 Try.underlying22
    clear h0 hr
    go_enter Try.func42, Try.ntmps42
    go_wp2
    go_ret
    exact ⟨_, rfl, World.ownsRow_nil _ _ _ _, Below.refl _ _⟩
  | some ad =>
    have hcell := (h0.alloc (.cells #[] 61)).cells
    have HC := Lib.hid hcell
    have hrow := World.ownsRow_lit w (base := w.heap.size) (e := 61) (size := 3) #[] 0 (Nat.le_refl _) (by decide) rfl
    have HL := Lib.hid (ws3_len T)
    obtain ⟨n, hn⟩ : ∃ n, T.length = n := ⟨_, rfl⟩
    rw [hn] at hl hc1 HL ⊢
    have hb : Below w.heap.size w (w.alloc (.cells #[] 61)) := (Below.refl _ _).alloc (Nat.le_refl _) _
    have c3 : 0 + n ≤ maxLen := by unfold maxLen; omega
    have c4 : (0 + n) * 24 ≤ 140737488355328 := by omega
    have q := fun (W : World) => Lib.run_eql_slice_nil (P := Try.prog) W 22 61 (some ad) n c 0 0 Try.underlying22
    clear h0 hr hcell hn
    go_enter Try.func42, Try.ntmps42
    go_wp2_with (at_builtin; refine wpList_append_own _ rfl (.tmp 5) (.tmp 6) 22 rfl w.heap.size 61 i1 _ 3 24 Try.underlying22 hi' hy0 hy1 hy2 rfl (by decide) _ 0 [] rfl hrow ad n c (ws3 T) rfl HL.out HC.out (by intro u hu; simp only [ws3, List.mem_map] at hu; obtain ⟨x, _, rfl⟩ := hu; rfl) c3 c4 (by rw [size_alloc']; omega) ?_; intro v' w' h1' h2' _; have HW := Lib.hid h1')
    go_ret
    exact ⟨_, rfl, by have := HW.out; simpa using this, hb.grown h2' hb.size (fun j e => by have := (hrow.lt j e).1; omega)⟩

theorem blk_new_at {w : World} {g : Nat} {t : TypeId} {cs : Array Value} (h : w.heap.size = g) : Blk (w.alloc (.cells cs t)) g t cs := by
  subst h
  exact Blk.new w t cs
theorem mapP_new_at {P : Program} {k : TypeId} {w : World} {b : Nat} (h : w.heap.size = b) : MapP P k (w.alloc (.map #[] 0)) b (fun _ => none) := by
  subst h
  exact MapP.made w P k
theorem row_new_at {w : World} {base g m : Nat} (h : w.heap.size = g) (hb : base ≤ g) (hm : m ≤ maxLen) : (w.alloc (.cells (madeCells #[.int .i64 0] m) 3)).ownsRow base 3 1 (.slice (some ⟨g, 0, none⟩) m m) m (List.replicate m (.int .i64 0)) := by
  subst h
  refine ⟨by simp, .inr ⟨w.heap.size, m, _, rfl, hb, heap_alloc_new w _, Nat.le_refl _, hm, ?_, ?_⟩⟩
  · have := size_madeCells #[Value.int .i64 0] m
    simpa using this
  · rw [toList_madeCells_one]
    simp
theorem own_drew {w : World} {base n s : Nat} {e : TypeId} {v : Value} {xs : List Value} (h : w.ownsRow base e s v n xs) : w.drew.ownsRow base e s v n xs := h
theorem own_below {w w' : World} {base n s : Nat} {e : TypeId} {v : Value} {xs : List Value} (h : w.ownsRow base e s v n xs) (hb : Below w.heap.size w w') : w'.ownsRow base e s v n xs :=
  h.kept (grown_of_below hb none) (by cases e : v.ownBlock; exact .inl rfl; exact .inr (by simp))
/-- The table as it is made: no face yet, no first corner. -/
def NewSt (w : World) (m : Nat) (v : Value) (T : List Tr) (s5 : Value) (W : World) : Prop :=
  ∃ g av cv mb fb, s5 = .pointer (some ⟨g, 0, none⟩) ∧ Blk W g 86 #[.int .i64 (m : Int), .slice av T.length cv, .map (some mb), .slice (some ⟨fb, 0, none⟩) m m] ∧ W.ownsRow w.heap.size 61 3 (.slice av T.length cv) T.length (ws3 T) ∧
    MapP Try.prog 88 W mb (fun _ => none) ∧ W.ownsRow w.heap.size 3 1 (.slice (some ⟨fb, 0, none⟩) m m) m (List.replicate m (.int .i64 0)) ∧ w.heap.size ≤ g ∧ w.heap.size ≤ mb ∧
    Blk W w.heap.size 24 #[.int .i64 (m : Int), v] ∧ Blk W (w.heap.size + 1) 44 #[.int .i64 0, .int .i64 0, .int .i64 0] ∧ Below w.heap.size w W
theorem facFrom_step {T : List Tr} {k : Nat} (hk : k < 3 * T.length) (e : Int × Int) : facFrom T k e = if edgeN T k = e then some k else facFrom T (k + 1) e := by
  unfold facFrom
  rw [show 3 * T.length - k = (3 * T.length - (k + 1)) + 1 from by omega, List.range'_succ, List.find?_cons]
  by_cases h : edgeN T k = e
  · simp [h]
  · have : (edgeN T k == e) = false := by simpa using h
    simp [h, this]
theorem fstFrom_step {T : List Tr} {k : Nat} (hk : k < 3 * T.length) (v : Int) : fstFrom T k v = if vertN T k = v then some k else fstFrom T (k + 1) v := by
  unfold fstFrom
  rw [show 3 * T.length - k = (3 * T.length - (k + 1)) + 1 from by omega, List.range'_succ, List.find?_cons]
  by_cases h : vertN T k = v
  · simp [h]
  · have : (vertN T k == v) = false := by simpa using h
    simp [h, this]
theorem facMap_step {T : List Tr} {k : Nat} (hk : k < 3 * T.length) (y : Value) : updP (facMap T (k + 1)) (pairV (edgeN T k)) (.int .i64 (k : Int)) y = facMap T k y := by
  by_cases hy : ∃ e, y = pairV e
  · obtain ⟨e, rfl⟩ := hy
    rw [facMap_at, facFrom_step hk]
    by_cases h : edgeN T k = e
    · rw [if_pos h, h, updP_same]
      rfl
    · rw [if_neg h, updP_other (fun e' => h (pairV_inj e').symm), facMap_at]
  · have h1 : facMap T k y = none := by
      unfold facMap
      rw [dif_neg hy]
    have h2 : facMap T (k + 1) y = none := by
      unfold facMap
      rw [dif_neg hy]
    rw [h1, updP_other (fun e' => hy ⟨_, e'⟩), h2]
theorem facMap_end (T : List Tr) (y : Value) : (none : Option Value) = facMap T (3 * T.length) y := by
  unfold facMap
  split
  · simp [facFrom]
  · rfl
theorem fsts_end (m : Nat) (T : List Tr) : fsts (m : Int) T (3 * T.length) = List.replicate m 0 := by
  apply List.ext_getElem?
  intro i
  unfold fsts
  by_cases hi : i < m
  · rw [List.getElem?_map, List.getElem?_range (by simpa using hi), List.getElem?_replicate, if_pos hi]
    simp [fstFrom]
  · rw [List.getElem?_eq_none (by simp; omega), List.getElem?_eq_none (by simp; omega)]
theorem fsts_step {m : Nat} {T : List Tr} {k u : Nat} (hk : k < 3 * T.length) (hu : vertN T k = (u : Int)) : (fsts (m : Int) T (k + 1)).set u (k : Int) = fsts (m : Int) T k := by
  apply List.ext_getElem?
  intro i
  unfold fsts
  rw [List.getElem?_set]
  by_cases hi : i < m
  · have h1 : ((List.range (m : Int).toNat).map fun v : Nat => (((fstFrom T k v).getD 0 : Nat) : Int))[i]? = some (((fstFrom T k i).getD 0 : Nat) : Int) := by
      rw [List.getElem?_map, List.getElem?_range (by simpa using hi)]
      rfl
    have h2 : ((List.range (m : Int).toNat).map fun v : Nat => (((fstFrom T (k + 1) v).getD 0 : Nat) : Int))[i]? = some (((fstFrom T (k + 1) i).getD 0 : Nat) : Int) := by
      rw [List.getElem?_map, List.getElem?_range (by simpa using hi)]
      rfl
    rw [h1, h2, fstFrom_step hk, hu]
    by_cases e : u = i
    · subst e
      rw [if_pos rfl, if_pos (by simpa using hi), if_pos rfl]
      rfl
    · rw [if_neg e, if_neg (by omega)]
  · have h1 : ((List.range (m : Int).toNat).map fun v : Nat => (((fstFrom T k v).getD 0 : Nat) : Int))[i]? = none := List.getElem?_eq_none (by simp; omega)
    have h2 : ((List.range (m : Int).toNat).map fun v : Nat => (((fstFrom T (k + 1) v).getD 0 : Nat) : Int))[i]? = none := List.getElem?_eq_none (by simp; omega)
    rw [h1, h2]
    split
    · rw [if_neg (by simp; omega)]
    · rfl
theorem fsts_len (m : Nat) (T : List Tr) (k : Nat) : (fsts (m : Int) T k).length = m := by simp [fsts]
theorem edgeI_nat {T : List Tr} {k : Nat} (hk : k < 3 * T.length) : edgeI T (k : Int) = edgeN T k := by
  have h1 : hasC T (k : Int) = true := hasC_true (by omega) (by omega)
  have h2 : hasC T ((Jor.nx k : Nat) : Int) = true := hasC_true (by omega) (by have := Jor.nx_lt hk; omega)
  have h3 : hasC T ((Jor.pv k : Nat) : Int) = true := hasC_true (by omega) (by have := Jor.pv_lt hk; omega)
  simp [edgeI, edgeN, nextI, prevI, vertI, h1, h2, h3]
theorem vertI_nat {T : List Tr} {k : Nat} (hk : k < 3 * T.length) : vertI T (k : Int) = vertN T k := by
  have h1 : hasC T (k : Int) = true := hasC_true (by omega) (by omega)
  simp [vertI, h1]
set_option maxRecDepth 100000 in
set_option maxHeartbeats 4000000 in
theorem new_any (N : Int) (v : Value) (T : List Tr) (w : World) (h : TrisRd w v T) (hl : T.length ≤ 8192) : Calls Try.prog 22 #[.agg #[.int .i64 N, v]] w fun e w' =>
    ((Surf N T ∧ ∃ g, e = .returned (.tuple #[.pointer (some ⟨g, 0, none⟩), witV 0 0 0]) ∧ Tab w' g N T ∧ w.heap.size ≤ g) ∨ (¬ Surf N T ∧ ∃ k a b : Int, 1 ≤ k ∧ e = .returned (.tuple #[.pointer none, witV k a b]))) ∧ Below w.heap.size w w' := by
  obtain ⟨i1, hi', hy0, hy1, hy2⟩ := info_parts infoInt
  have b1 := (Blk.new w 24 #[.int .i64 N, v]).alloc (.cells #[.int .i64 0, .int .i64 0, .int .i64 0] 44)
  have b2 := Blk.new (w.alloc (.cells #[.int .i64 N, v] 24)) 44 #[.int .i64 0, .int .i64 0, .int .i64 0]
  rw [size_alloc'] at b2
  have hB0 : Below w.heap.size w ((w.alloc (.cells #[.int .i64 N, v] 24)).alloc (.cells #[.int .i64 0, .int .i64 0, .int .i64 0] 44)) := ((Below.refl _ _).alloc (Nat.le_refl _) _).alloc (by rw [size_alloc']; omega) _
  obtain ⟨l0, x0, -, x1, -⟩ := b1.two
  have hC := check_any N v T ((w.alloc (.cells #[.int .i64 N, v] 24)).alloc (.cells #[.int .i64 0, .int .i64 0, .int .i64 0] 44)) (h.below hB0) hl
  have HC := Lib.hid hC
  have HT := Lib.hid h
  clear h hC
  go_enter Try.func22, Try.ntmps22
  go_wp2_with fail
  refine HC.out.mono ?_
  rintro e w2 ⟨k, a, b, rfl, hS, hb⟩
  have hB2 := hB0.trans (hb.mono hB0.size)
  have b3 := b2.below hb b2.lt
  have b4 := b1.below hb b1.lt
  unfold witV
  clear hb b1 b2 x0 x1 l0 HC
  obtain ⟨l3, y0, f0, y1, f1, y2, f2⟩ := b3.three
  obtain ⟨l4, z0, -, z1, -⟩ := b4.two
  have hsz := hB2.size
  rcases hS with ⟨hS, rfl, rfl, rfl⟩ | ⟨hS, hk⟩
  · have HS := Lib.hid hS
    have hNm : ∃ m : Nat, N = m := ⟨N.toNat, by have := hS.n0; omega⟩
    have hN1 := hS.n1
    obtain ⟨m, rfl⟩ := hNm
    clear hS
    go_upto_region 4 with fail
    have hmm := @run_makeMap Try.prog
    have hmk := fun (W : World) => run_make (P := Try.prog) W 35 3 i1 (.int .i64 0) Try.underlying35 hi' hy0 .i64 .i64 (m : Int) (m : Int) (by omega) (by omega) (by rw [hy2]; omega) (by omega)
    have HB2 := Lib.hid hB2
    have hB3 : Below w.heap.size w (w2.alloc (.cells #[.int .i64 0, .int .i64 0, .int .i64 0] 44)).drew := (hB2.alloc hsz _).drew
    have HB3 := Lib.hid hB3
    have HCl := Lib.hid (fun (W : World) (hW : Below w.heap.size w W) => cloneT_any v T W (HT.out.below hW) (by omega))
    have HB4 := Lib.hid b4
    have HB5 := Lib.hid b3
    obtain ⟨l5, zz0, -, zz1, -⟩ := (b4.alloc (.cells #[.int .i64 0, .int .i64 0, .int .i64 0] 44)).two
    clear hB3 b4 b3
    go_cut [5] (fun s5 W => NewSt w m v T s5 W)
    case first =>
      go_region_held3 (fun w' => w'.cell? ⟨w.heap.size, 0, none⟩ = some (.int .i64 (m : Int)) ∧ w'.cell? ⟨w.heap.size, 1, none⟩ = some v) (go_keep)
        (first
          | (go_at_call 42; refine (HCl.out _ (by repeat (first | exact HB2.out | refine Below.drew ?_ | refine Below.alloc ?_ (by first | exact hsz | (simp; omega)) _))).mono ?_; rintro e w3 ⟨vT, rfl, hrT, hb3⟩; obtain ⟨av, cv, rfl⟩ := ownsRow_slice hrT; obtain ⟨q0, q1, -, q2, -⟩ := (Blk.below (g := w.heap.size) (t := 24) (cs := #[.int .i64 (m : Int), v]) (by repeat (first | exact HB4.out | refine Blk.drew ?_ | refine Blk.alloc ?_ _)) hb3 (by simp [World.drew]; omega)).two))
      all_goals
        go_wp2_with fail
        go_meet
        have hsz3 := hb3.size
        refine ⟨_, av, cv, _, _, rfl, blk_new_at (by simp), ?_, ?_, ?_, ?_, ?_, ?_, ?_, ?_⟩
        · repeat (first | with_reducible exact hrT.mono (by first | exact hsz | (simp [World.drew]; omega) | omega) | with_reducible refine World.ownsRow.alloc ?_ _ | with_reducible refine own_drew ?_)
        · repeat (first | with_reducible exact mapP_new_at (by simp) | with_reducible refine MapP.alloc ?_ _ | with_reducible refine MapP.drew ?_ | with_reducible refine MapP.below ?_ hb3 (by first | (simp [World.drew]; done) | (simp [World.drew]; omega)))
        · repeat (first | with_reducible exact row_new_at (by simp) (by first | exact hsz | (simp [World.drew]; omega) | omega) (by unfold maxLen; omega) | with_reducible refine World.ownsRow.alloc ?_ _ | with_reducible refine own_drew ?_ | with_reducible refine own_below ?_ hb3)
        · simp [World.drew] at hsz3 ⊢; omega
        · simp [World.drew] at hsz3 ⊢; omega
        · repeat (first | with_reducible exact HB4.out | with_reducible refine Blk.alloc ?_ _ | with_reducible refine Blk.drew ?_ | with_reducible refine Blk.below ?_ hb3 (by simp [World.drew]; omega))
        · repeat (first | with_reducible exact HB5.out | with_reducible refine Blk.alloc ?_ _ | with_reducible refine Blk.drew ?_ | with_reducible refine Blk.below ?_ hb3 (by simp [World.drew]; omega))
        · repeat (first | with_reducible exact HB2.out | with_reducible refine Below.alloc ?_ (by simp [World.drew] at hsz3 ⊢; omega) _ | with_reducible refine Below.drew ?_ | with_reducible refine Below.trans ?_ (hb3.mono (by simp [World.drew]; omega)))
    case rest =>
      obtain ⟨g, av, cv, mb, fb, rfl, hbt, htr, hmp, hrow, hg0, hm0, hbs, hbw, hB⟩ := hcut
      obtain ⟨n, hn⟩ : ∃ n, T.length = n := ⟨_, rfl⟩
      have hlen := hl
      rw [hn] at hbt htr hlen
      have HN := Lib.hid hn
      have hmp0 : MapP Try.prog 88 wc mb (facMap T (3 * n)) := by rw [← hn]; exact hmp.congr (facMap_end T)
      have hrow0 : wc.ownsRow w.heap.size 3 1 (.slice (some ⟨fb, 0, none⟩) m m) m (intsV (fsts (m : Int) T (3 * n))) := by
        rw [← hn, fsts_end]
        simpa [intsV] using hrow
      have hin : ∀ t ∈ T, 0 ≤ t.1 ∧ t.1 < (m : Int) ∧ 0 ≤ t.2.1 ∧ t.2.1 < (m : Int) ∧ 0 ≤ t.2.2 ∧ t.2.2 < (m : Int) := fun t ht => by
        obtain ⟨⟨a1, a2⟩, ⟨a3, a4⟩, ⟨a5, a6⟩⟩ := HS.out.inr t ht
        exact ⟨a1, a2, a3, a4, a5, a6⟩
      have HIN := Lib.hid hin
      have HTR := Lib.hid htr
      obtain ⟨l6, p0, -, p1, -⟩ := hbs.two
      have hTl : ∃ vv : Option Addr × Nat, v = .slice vv.1 n vv.2 := by
        obtain ⟨a, c, e, _⟩ := HT.out
        exact ⟨(a, c), by rw [← hn]; exact e⟩
      obtain ⟨⟨a0, c0⟩, rfl⟩ := hTl
      have HM0 := Lib.hid hmp0
      have HR0 := Lib.hid hrow0
      have HBT := Lib.hid hbt
      have HBW := Lib.hid hbw
      have HB := Lib.hid hB
      clear hn hmp hrow hmp0 hrow0 hin htr hbt hbw hB zz0 zz1 l5 hbs
      go_wp2
      go_loopw [6] (fun c wr => ∃ k : Nat, k ≤ 3 * n ∧ c = .int .i64 ((k : Int) - 1) ∧ MapP Try.prog 88 wr mb (facMap T k) ∧ wr.ownsRow w.heap.size 3 1 (.slice (some ⟨fb, 0, none⟩) m m) m (intsV (fsts (m : Int) T k)) ∧
        Blk wr g 86 #[.int .i64 (m : Int), .slice av n cv, .map (some mb), .slice (some ⟨fb, 0, none⟩) m m] ∧ wr.ownsRow w.heap.size 61 3 (.slice av n cv) n (ws3 T) ∧ Blk wr (w.heap.size + 1) 44 #[.int .i64 0, .int .i64 0, .int .i64 0] ∧ Below w.heap.size w wr) (fun c _ => (intOf c + 1).toNat)
      case atStart => exact ⟨3 * n, Nat.le_refl _, by simp, HM0.out, HR0.out, HBT.out, HTR.out, HBW.out, HB.out⟩
      case round =>
        clear HM0 HR0 HBT HTR HBW HB p0 p1 l6
        obtain ⟨k, hk, rfl, hmp, hrow, hbt, htr, hbw, hB⟩ := hrel
        rename World => wr
        cases k with
        | zero =>
          have hTab : ∀ u0 u1 u2 : Value, Tab (((wr.setCell ⟨w.heap.size + 1, 0, none⟩ u0).setCell ⟨w.heap.size + 1, 1, none⟩ u1).setCell ⟨w.heap.size + 1, 2, none⟩ u2) g (m : Int) T := by
            intro u0 u1 u2
            have hgS : wr.grownBy (((wr.setCell ⟨w.heap.size + 1, 0, none⟩ u0).setCell ⟨w.heap.size + 1, 1, none⟩ u1).setCell ⟨w.heap.size + 1, 2, none⟩ u2) (some (w.heap.size + 1)) := gStR (gStR (gStR (World.grownBy.refl _ _)))
            have hbt' := hbt.grown hgS (by simpa using Blk.ne_ hbt hbw (by decide))
            have htr' := htr.kept hgS (.inr (own_blk_ne htr hbw (by decide)))
            have hrow' := hrow.kept hgS (.inr (own_blk_ne hrow hbw (by decide)))
            have hmp' := hmp.kept hgS (fun e => by
              cases e
              obtain ⟨es, ck, ho⟩ := hmp.obj
              rw [show wr.heap[w.heap.size + 1]? = _ from hbw] at ho
              cases ho)
            have htd := TrisRd.of_row (T := T) (by rw [HN.out]; exact htr')
            have hrd : IntsRd _ (.slice (some ⟨fb, 0, none⟩) m m) (fsts (m : Int) T 0) := IntsRd.of_row hrow' (fsts_len m T 0)
            exact { ex := ⟨_, _, _, hbt', htd⟩, n0 := by omega, n1 := hN1, len := hl, inr := HIN.out, tx := ⟨_, _, _, hbt', htd, hmp', hrd⟩ }
          have HTab := Lib.hid hTab
          have hcells := fun (u0 u1 u2 : Value) => (((hbw.set_ 0 u0).set_ 1 u1).set_ 2 u2)
          have HCE := Lib.hid hcells
          have hBx := fun (u0 u1 u2 : Value) => ((hB.setCell (p := ⟨w.heap.size + 1, 0, none⟩) (by simp) u0).setCell (p := ⟨w.heap.size + 1, 1, none⟩) (by simp) u1).setCell (p := ⟨w.heap.size + 1, 2, none⟩) (by simp) u2
          have HBX := Lib.hid hBx
          obtain ⟨lw, y0', f0', y1', f1', y2', f2'⟩ := hbw.three
          clear hTab hcells hBx hbt hmp hrow htr hbw hB
          go_wp2
          obtain ⟨z, r0, -, r1, -, r2, -⟩ : _ ∧ _ ∧ _ ∧ _ ∧ _ ∧ _ ∧ _ := Blk.three (a := .int .i64 0) (b := .int .i64 0) (c := .int .i64 0) (by simpa using HCE.out (.int .i64 0) (.int .i64 0) (.int .i64 0))
          exact bodyPost_ret (v := .tuple #[.pointer (some ⟨g, 0, none⟩), .agg #[.int .i64 0, .int .i64 0, .int .i64 0]]) (by simp [results, Try.results22, go_sem, r0, r1, r2]) rfl ⟨.inl ⟨HS.out, g, rfl, HTab.out _ _ _, hg0⟩, HBX.out _ _ _⟩
        | succ k =>
          have hkT : k < 3 * T.length := by have := HN.out; omega
          have htd : TrisRd wr (.slice av n cv) T := TrisRd.of_row (by rw [HN.out]; exact htr)
          have hts : TabS wr g (m : Int) T := ⟨⟨_, _, _, hbt, htd⟩, by omega, hN1, hl, HIN.out⟩
          have hgm : g ≠ mb := fun e => by
            subst e
            obtain ⟨es, c, ho⟩ := hmp.obj
            rw [show wr.heap[g]? = _ from hbt] at ho
            cases ho
          obtain ⟨x, hx⟩ : ∃ x : Int × Int, edgeN T k = x := ⟨_, rfl⟩
          obtain ⟨⟨q0, q1⟩, q2, q3⟩ := edgeI_bd HIN.out (by omega) hN1 (k : Int)
          rw [edgeI_nat hkT, hx] at q0 q1 q2 q3
          obtain ⟨x, y⟩ := x
          simp only at q0 q1 q2 q3
          have HE := Lib.hid (fun (W : World) (hW : Below wr.heap.size wr W) => (by have := edge_any g (m : Int) (k : Int) T W (hts.below hW); rw [edgeI_nat hkT, hx] at this; exact this : Calls Try.prog 43 #[.pointer (some ⟨g, 0, none⟩), .int .i64 (k : Int)] W fun e w' => e = .returned (pairV (x, y)) ∧ Below W.heap.size W w'))
          have hkey := WideMaps.keyOf_pair arrEdge Try.underlying3 types_succ (wfV ⟨q0, q1⟩) (wfV ⟨q2, q3⟩)
          have HST := Lib.hid (fun (W : World) (hW : Below wr.heap.size wr W) => (hmp.below hW hmp.lt).store (t := 84) (Keyed.of_law arrEdge.law) Try.underlying84 hkey (.int .i64 (k : Int)))
          have lg := hbt.lt
          have lm := hmp.lt
          have t2 := hbt.cell 2
          have t3 := hbt.cell 3
          have HBT := Lib.hid hbt
          have Hstep : Hid (∀ W, MapP Try.prog 88 W mb (updP (facMap T (k + 1)) (pairV (x, y)) (.int .i64 (k : Int))) → MapP Try.prog 88 W mb (facMap T k)) := Lib.hid (fun W h => h.congr (fun y' => by rw [← hx]; exact facMap_step hkT y'))
          have Hrow := Lib.hid hrow
          have Htr := Lib.hid htr
          have Hbw := Lib.hid hbw
          have HBr := Lib.hid hB
          have HX := Lib.hid hx
          have HTS := Lib.hid hts
          have hlen2 : (k : Int) + 1 - 1 = (k : Int) := by omega
          have hk0 : (0 : Int) ≤ (k : Int) := by omega
          have hk1 : (k : Int) ≤ 100000 := by omega
          unfold pairV at HST hkey HE
          simp only at HST hkey HE
          have hmo := Lib.hid hmp.obj
          clear hbt hmp hrow htr hbw hB hx hts htd
          go_wp2
          go_region_held3 (fun w' => w'.cell? ⟨g, 2, none⟩ = some (.map (some mb))) (go_keep)
            (first
              | (go_at_call 43; refine (HE.out _ (by exact (Below.refl _ _).drew)).mono ?_; rintro e w5 ⟨rfl, hb5⟩; have hb5' := ((Below.refl wr.heap.size wr).drew).trans hb5; have c5 := (hb5'.cell (p := ⟨g, 2, none⟩) lg).trans t2; obtain ⟨w6, hrun6, hm6, hg6, -⟩ := HST.out w5 hb5'; have c6 := hg6.cell c5 (by simpa using hgm)))
          have hbt6 := (HBT.out.below hb5' lg).grown hg6 (by simpa using hgm)
          have hgr5 := grown_of_below hb5' none
          obtain ⟨es0, ck0, hmo0⟩ := hmo.out
          have hmo5 : ∃ es clock, w5.heap[mb]? = some (.map es clock) := ⟨es0, ck0, (hb5'.block mb lm).trans hmo0⟩
          have nn : ∀ v : Value, v.ownBlock = none ∨ v.ownBlock ≠ none := fun v => by cases v.ownBlock <;> simp
          have htr5 := own_below Htr.out hb5'
          have htr6 := htr5.kept hg6 (row_map_ne htr5 hmo5)
          have hrow5 := own_below Hrow.out hb5'
          have hrow6 := hrow5.kept hg6 (row_map_ne hrow5 hmo5)
          have hbw6 := (Hbw.out.below hb5' Hbw.out.lt).grown hg6 (fun e => by cases e; have := Hbw.out; obtain ⟨es, ck, ho⟩ := hmo.out; rw [show wr.heap[w.heap.size + 1]? = _ from this] at ho; cases ho)
          have hB6 := (HBr.out.trans (hb5'.mono HBr.out.size)).grown hg6 (Nat.le_trans HBr.out.size hb5'.size) (fun j e => by cases e; exact hm0)
          have hts6 : TabS w6 g (m : Int) T := ⟨⟨_, _, _, hbt6, TrisRd.of_row (by rw [HN.out]; exact htr6)⟩, by omega, hN1, hl, HIN.out⟩
          obtain ⟨v0, v1⟩ := vertN_in HIN.out hkT
          obtain ⟨u, hu⟩ : ∃ u : Nat, vertN T k = u := ⟨(vertN T k).toNat, by omega⟩
          rw [hu] at v1
          have hum : u < m := by omega
          have HV := Lib.hid (fun (W : World) (hW : TabS W g (m : Int) T) => (by have := vertex_any g (m : Int) (k : Int) T W hW; rw [vertI_nat hkT, hu] at this; exact this : Calls Try.prog 44 #[.pointer (some ⟨g, 0, none⟩), .int .i64 (k : Int)] W fun e w' => e = .returned (.int .i64 (u : Int)) ∧ W = w'))
          have Hfs := Lib.hid (fsts_step (m := m) hkT hu)
          obtain ⟨z, hz⟩ : ∃ z, (intsV (fsts (m : Int) T (k + 1)))[u]? = some z := ⟨(intsV (fsts (m : Int) T (k + 1)))[u]'(by simp [intsV, fsts_len]; exact hum), List.getElem?_eq_getElem _⟩
          have hcu : w6.cell? ⟨fb, u, none⟩ = some z := by rw [hrow6.cellAt u (by omega)]; exact hz
          have hfu := hrow6.frozenAt u
          have lg6 := hbt6.lt
          have t6 := hbt6.cell 3
          have lf6 := (hrow6.lt fb rfl).2
          have HM6 := Lib.hid (Hstep.out w6 hm6)
          have hgf : g ≠ fb := fun e => own_blk_ne hrow6 hbt6 (by decide) (by rw [e]; rfl)
          have hfg : fb ≠ g := fun e => hgf e.symm
          have hgs := (hrow6.stored u (.int .i64 (k : Int)))
          have HGS := Lib.hid hgs
          have HBT6 := Lib.hid hbt6
          have HTR6 := Lib.hid htr6
          have HR6 := Lib.hid hrow6
          have HBW6 := Lib.hid hbw6
          have HB6 := Lib.hid hB6
          have HTS6 := Lib.hid hts6
          clear hbt6 htr6 hrow6 hbw6 hB6 hts6 hgs hm6 hg6 hrun6 c6 c5 hb5 hb5' htr5 hrow5 hmo5 hmo0 hgr5 nn HST HE hkey t2 t3 hu v0 hz
          go_wp2
          go_region_held3 (fun w' => w'.cell? ⟨g, 3, none⟩ = some (.slice (some ⟨fb, 0, none⟩) m m)) (go_keep)
            (first
              | (go_at_call 44; refine (HV.out _ (by exact HTS6.out.drew)).mono ?_; rintro e w7 ⟨rfl, rfl⟩))
          go_wp2
          go_roundw
          case measure => simp [intOf]
          case rel =>
            obtain ⟨hr7, hg7⟩ := HGS.out
            have hg8 := gDrew hg7
            have hsz6 := HB6.out.size
            have hfb := (HR6.out.lt fb rfl).1
            refine ⟨k, by omega, by simp, HM6.out.kept hg8 (map_row_ne HR6.out HM6.out.obj), ?_, (HBT6.out.grown hg8 (by simpa using hgf)), HTR6.out.kept hg8 (own_own_ne HTR6.out HR6.out (by decide)), HBW6.out.grown hg8 (fun e => own_blk_ne HR6.out HBW6.out (by decide) e.symm), HB6.out.grown hg8 hsz6 (fun j e => by cases e; exact hfb)⟩
            have := own_drew hr7
            rw [← Hfs.out]
            simpa [intsV, List.map_set] using this
  · have HS := Lib.hid hS
    have hk0 : (k != 0) = true := by simp; omega
    clear hS
    have hcells := fun (u0 u1 u2 : Value) => (((b3.set_ 0 u0).set_ 1 u1).set_ 2 u2)
    have HCE := Lib.hid hcells
    have hBx := fun (u0 u1 u2 : Value) => ((hB2.setCell (p := ⟨w.heap.size + 1, 0, none⟩) (by simp) u0).setCell (p := ⟨w.heap.size + 1, 1, none⟩) (by simp) u1).setCell (p := ⟨w.heap.size + 1, 2, none⟩) (by simp) u2
    have HBX := Lib.hid hBx
    clear hcells hBx b3 b4
    go_wp2
    go_region
    all_goals
      go_wp2
      have b6 := ((HCE.out (.int .i64 k) (.int .i64 a) (.int .i64 b)).alloc (.cells #[.int .i64 k, .int .i64 a, .int .i64 b] 44)).drew
      obtain ⟨z, r0, -, r1, -, r2, -⟩ : _ ∧ _ ∧ _ ∧ _ ∧ _ ∧ _ ∧ _ := Blk.three (a := .int .i64 k) (b := .int .i64 a) (c := .int .i64 b) (by simpa using b6)
      exact bodyPost_ret (v := .tuple #[.pointer none, .agg #[.int .i64 k, .int .i64 a, .int .i64 b]]) (by simp [results, Try.results22, go_sem, r0, r1, r2]) rfl ⟨.inr ⟨HS.out, k, a, b, hk, rfl⟩, ((HBX.out _ _ _).alloc (by simp; exact hsz) _).drew⟩
end Go.Proofs.Ytpnkhgjjlionnaa
namespace Go.Proofs.Ytpnkhgjjlionnaa
open Go.RowKit

/-! Across and back. -/
theorem edgeN_mem {T : List Tr} {c : Nat} (hc : c < 3 * T.length) : ∃ j t, T[j]? = some t ∧ j = c / 3 ∧ ((c % 3 = 0 ∧ edgeN T c = (t.2.1, t.2.2)) ∨ (c % 3 = 1 ∧ edgeN T c = (t.2.2, t.1)) ∨ (c % 3 = 2 ∧ edgeN T c = (t.1, t.2.1))) := by
  have hk : c / 3 < T.length := by omega
  refine ⟨c / 3, T[c / 3], List.getElem?_eq_getElem hk, rfl, ?_⟩
  have h1 : Jor.nx c / 3 = c / 3 := Jor.nx_div c
  have h2 : Jor.pv c / 3 = c / 3 := Jor.pv_div c
  have m1 : Jor.nx c % 3 = (c + 1) % 3 := by unfold Jor.nx; omega
  have m2 : Jor.pv c % 3 = (c + 2) % 3 := by unfold Jor.pv; omega
  have ht : T[c / 3]? = some T[c / 3] := List.getElem?_eq_getElem hk
  have : c % 3 = 0 ∨ c % 3 = 1 ∨ c % 3 = 2 := by omega
  rcases this with e | e | e
  · exact .inl ⟨e, by simp [edgeN, vertN, triAt, h1, h2, ht, show Jor.nx c % 3 = 1 from by omega, show Jor.pv c % 3 = 2 from by omega]⟩
  · exact .inr (.inl ⟨e, by simp [edgeN, vertN, triAt, h1, h2, ht, show Jor.nx c % 3 = 2 from by omega, show Jor.pv c % 3 = 0 from by omega]⟩)
  · exact .inr (.inr ⟨e, by simp [edgeN, vertN, triAt, h1, h2, ht, show Jor.nx c % 3 = 0 from by omega, show Jor.pv c % 3 = 1 from by omega]⟩)
theorem flat3_at {β : Type} [Inhabited β] {enc : Tr → List β} {k : Nat} (hk : ∀ x, (enc x).length = k) (h0 : 0 < k) : ∀ (l : List Tr) (t : Nat), t < l.length * k → (l.flatMap enc)[t]? = some ((enc (l[t / k]!))[t % k]!)
  | [], t, h => by simp at h
  | a :: l, t, h => by
    rw [List.flatMap_cons]
    by_cases ht : t < k
    · rw [List.getElem?_append_left (by rw [hk]; exact ht), Nat.div_eq_of_lt ht, Nat.mod_eq_of_lt ht]
      have : t < (enc a).length := by rw [hk]; exact ht
      simp [this]
    · rw [List.getElem?_append_right (by rw [hk]; omega), hk]
      have h1 : t - k < l.length * k := by
        simp only [List.length_cons, Nat.add_mul, Nat.one_mul] at h
        omega
      rw [flat3_at hk h0 l (t - k) h1]
      have e1 : t / k = (t - k) / k + 1 := by rw [Nat.div_eq t k, if_pos ⟨h0, by omega⟩]
      have e2 : t % k = (t - k) % k := Nat.mod_eq_sub_mod (by omega)
      rw [e1, e2]
      simp
/-- Which of a triangle's edges faces a corner. -/
def spotE : Nat → Nat := fun k => if k = 0 then 1 else if k = 1 then 2 else 0
theorem edges_at {T : List Tr} {c : Nat} (hc : c < 3 * T.length) : (T.flatMap edges3)[c / 3 * 3 + spotE (c % 3)]? = some ((edgeN T c).1, (edgeN T c).2, 0) := by
  obtain ⟨j, t, ht, rfl, h⟩ := edgeN_mem hc
  have hlen : ∀ x : Tr, (edges3 x).length = 3 := fun _ => rfl
  have hs : spotE (c % 3) < 3 := by unfold spotE; split <;> (try split) <;> omega
  have hk := (List.getElem?_eq_some_iff.1 ht).1
  rw [flat3_at (k := 3) hlen (by decide) T (c / 3 * 3 + spotE (c % 3)) (by omega)]
  have e1 : (c / 3 * 3 + spotE (c % 3)) / 3 = c / 3 := by omega
  have e2 : (c / 3 * 3 + spotE (c % 3)) % 3 = spotE (c % 3) := by omega
  rw [e1, e2, getElem!_pos T (c / 3) hk]
  have e3 : T[c / 3] = t := by rw [List.getElem?_eq_getElem hk] at ht; exact Option.some.inj ht
  rw [e3]
  rcases h with ⟨h0, h⟩ | ⟨h0, h⟩ | ⟨h0, h⟩ <;> rw [h0, h] <;> rfl
theorem edge_inj {T : List Tr} (hu : (T.flatMap edges3).Nodup) {c d : Nat} (hc : c < 3 * T.length) (hd : d < 3 * T.length) (h : edgeN T c = edgeN T d) : c = d := by
  have a := edges_at hc
  have b := edges_at hd
  rw [h] at a
  obtain ⟨h1, e1⟩ := List.getElem?_eq_some_iff.1 a
  obtain ⟨h2, e2⟩ := List.getElem?_eq_some_iff.1 b
  have hp := List.pairwise_iff_getElem.1 (List.nodup_iff_pairwise_ne.1 hu)
  have : c / 3 * 3 + spotE (c % 3) = d / 3 * 3 + spotE (d % 3) := by
    rcases Nat.lt_trichotomy (c / 3 * 3 + spotE (c % 3)) (d / 3 * 3 + spotE (d % 3)) with hlt | e | hlt
    · exact absurd (e1.trans e2.symm) (hp _ _ h1 h2 hlt)
    · exact e
    · exact absurd (e2.trans e1.symm) (hp _ _ h2 h1 hlt)
  unfold spotE at this
  split at this <;> split at this <;> (try split at this) <;> (try split at this) <;> omega
theorem facI_some {T : List Tr} {e : Int × Int} {o : Nat} (h : facI T e = (o : Int)) : o < 3 * T.length ∧ edgeN T o = e := by
  unfold facI at h
  cases hf : facFrom T 0 e with
  | none => rw [hf] at h; simp only at h; omega
  | some d =>
    rw [hf] at h
    simp only at h
    have hd : d = o := by omega
    subst hd
    unfold facFrom at hf
    have h1 := List.mem_of_find?_eq_some hf
    have h2 := List.find?_some hf
    rw [List.mem_range'_1] at h1
    exact ⟨by omega, by simpa using h2⟩
theorem facI_of {T : List Tr} (hu : (T.flatMap edges3).Nodup) {o : Nat} (ho : o < 3 * T.length) : facI T (edgeN T o) = (o : Int) := by
  unfold facI
  cases hf : facFrom T 0 (edgeN T o) with
  | none =>
    unfold facFrom at hf
    have := List.find?_eq_none.1 hf o (by rw [List.mem_range'_1]; omega)
    simp at this
  | some d =>
    unfold facFrom at hf
    have h1 := List.mem_of_find?_eq_some hf
    have h2 := List.find?_some hf
    rw [List.mem_range'_1] at h1
    have := edge_inj hu (c := d) (d := o) (by omega) ho (by simpa using h2)
    rw [this]
theorem opp_some {T : List Tr} {c o : Nat} (hc : c < 3 * T.length) (h : oppI T (c : Int) = (o : Int)) : o < 3 * T.length ∧ edgeN T o = ((edgeN T c).2, (edgeN T c).1) := by
  unfold oppI at h
  rw [edgeI_nat hc] at h
  exact facI_some h
theorem opp_back {T : List Tr} (hu : (T.flatMap edges3).Nodup) {c o : Nat} (hc : c < 3 * T.length) (h : oppI T (c : Int) = (o : Int)) : oppI T (o : Int) = (c : Int) := by
  obtain ⟨ho, he⟩ := opp_some hc h
  unfold oppI
  rw [edgeI_nat ho, he]
  exact facI_of hu hc
theorem opp_cases (T : List Tr) (c : Int) : oppI T c = -1 ∨ ∃ o : Nat, oppI T c = (o : Int) ∧ o < 3 * T.length := by
  obtain ⟨h1, h2⟩ := oppI_bd T c
  by_cases h : 0 ≤ oppI T c
  · exact .inr ⟨(oppI T c).toNat, by omega, by omega⟩
  · exact .inl (by omega)

/-! Numbered parts. -/
def Reach (T : List Tr) (i j : Nat) : Prop := ∀ S : Nat → Prop, S i → (∀ c o : Nat, c < 3 * T.length → oppI T (c : Int) = (o : Int) → S (c / 3) → S (o / 3)) → S j
theorem Reach.refl (T : List Tr) (i : Nat) : Reach T i i := fun _ h _ => h
theorem Reach.step {T : List Tr} {i c o : Nat} (h : Reach T i (c / 3)) (hc : c < 3 * T.length) (ho : oppI T (c : Int) = (o : Int)) : Reach T i (o / 3) := fun S h1 h2 => h2 c o hc ho (h S h1 h2)
def at_ (out : List Int) (j : Nat) : Int := out.getD j (-1)
/-- Each triangle has the number of its part; the parts are numbered by their least triangles. -/
structure Shl (T : List Tr) (out : List Int) : Prop where
  len : out.length = T.length
  nn : ∀ j, j < T.length → 0 ≤ at_ out j
  adj : ∀ c o : Nat, c < 3 * T.length → oppI T (c : Int) = (o : Int) → at_ out (o / 3) = at_ out (c / 3)
  new : ∀ j, j < T.length → (∃ i, i < j ∧ at_ out i = at_ out j ∧ Reach T i j) ∨ ((∀ i, i < j → at_ out i < at_ out j) ∧ (at_ out j = 0 ∨ ∃ i, i < j ∧ at_ out i + 1 = at_ out j))
theorem Shl.reach {T : List Tr} {out : List Int} (h : Shl T out) {i j : Nat} (hr : Reach T i j) : at_ out i = at_ out j :=
  hr (fun x => at_ out i = at_ out x) rfl (fun c o hc ho e => e.trans (h.adj c o hc ho).symm)
theorem Shl.one {T : List Tr} {a b : List Int} (ha : Shl T a) (hb : Shl T b) : a = b := by
  have key : ∀ j, j < T.length → at_ a j = at_ b j := by
    intro j
    induction j using Nat.strongRecOn with
    | ind j ih =>
      intro hj
      rcases ha.new j hj with ⟨i, hi, e, hr⟩ | ⟨a1, a2⟩
      · rw [← e, ← hb.reach hr]
        exact ih i hi (by omega)
      · rcases hb.new j hj with ⟨i, hi, e, hr⟩ | ⟨b1, b2⟩
        · rw [← e, ← ha.reach hr]
          exact ih i hi (by omega)
        · rcases Int.lt_trichotomy (at_ a j) (at_ b j) with hlt | e | hlt
          · have h0 := ha.nn j hj
            rcases b2 with e | ⟨i, hi, e⟩
            · omega
            · have := a1 i hi
              rw [ih i hi (by omega)] at this
              omega
          · exact e
          · have h0 := hb.nn j hj
            rcases a2 with e | ⟨i, hi, e⟩
            · omega
            · have := b1 i hi
              rw [← ih i hi (by omega)] at this
              omega
  apply List.ext_getElem?
  intro j
  by_cases hj : j < T.length
  · have h1 : j < a.length := by rw [ha.len]; exact hj
    have h2 : j < b.length := by rw [hb.len]; exact hj
    have := key j hj
    simp only [at_, List.getD, List.getElem?_eq_getElem h1, List.getElem?_eq_getElem h2, Option.getD_some] at this
    rw [List.getElem?_eq_getElem h1, List.getElem?_eq_getElem h2, this]
  · rw [List.getElem?_eq_none (by rw [ha.len]; omega), List.getElem?_eq_none (by rw [hb.len]; omega)]

/-- While the parts are gone over: f triangles are looked at, n parts are there. -/
structure OfInv (T : List Tr) (f n : Nat) (out : List Int) : Prop where
  len : out.length = T.length
  lo : ∀ j, j < T.length → -1 ≤ at_ out j ∧ at_ out j < n
  done : ∀ j, j < f → 0 ≤ at_ out j
  adj : ∀ c o : Nat, c < 3 * T.length → oppI T (c : Int) = (o : Int) → 0 ≤ at_ out (c / 3) → at_ out (o / 3) = at_ out (c / 3)
  new : ∀ j, j < T.length → 0 ≤ at_ out j → (∃ i, i < j ∧ i < f ∧ at_ out i = at_ out j ∧ Reach T i j) ∨ (j < f ∧ (∀ i, i < j → at_ out i < at_ out j) ∧ (at_ out j = 0 ∨ ∃ i, i < j ∧ at_ out i + 1 = at_ out j))
  top : n = 0 ∨ ∃ j, j < f ∧ at_ out j + 1 = n
theorem at_replicate {m j : Nat} (h : j < m) : at_ (List.replicate m (-1)) j = -1 := by simp [at_, List.getD, h]
theorem OfInv.start (T : List Tr) : OfInv T 0 0 (List.replicate T.length (-1)) where
  len := by simp
  lo := fun j hj => by rw [at_replicate hj]; omega
  done := fun j hj => by omega
  adj := fun c o hc _ h => by rw [at_replicate (by omega)] at h; omega
  new := fun j hj h => by rw [at_replicate hj] at h; omega
  top := .inl rfl
theorem OfInv.skip {T : List Tr} {f n : Nat} {out : List Int} (h : OfInv T f n out) (h0 : 0 ≤ at_ out f) : OfInv T (f + 1) n out where
  len := h.len
  lo := h.lo
  done := fun j hj => by
    by_cases e : j = f
    · rw [e]; exact h0
    · exact h.done j (by omega)
  adj := h.adj
  new := fun j hj hn => by
    rcases h.new j hj hn with ⟨i, a, b, c⟩ | ⟨a, b⟩
    · exact .inl ⟨i, a, by omega, c⟩
    · exact .inr ⟨by omega, b⟩
  top := by
    rcases h.top with e | ⟨j, hj, e⟩
    · exact .inl e
    · exact .inr ⟨j, by omega, e⟩
theorem OfInv.finish {T : List Tr} {n : Nat} {out : List Int} (h : OfInv T T.length n out) : Shl T out ∧ (n = 0 ∨ ∃ j, j < T.length ∧ at_ out j + 1 = n) ∧ ∀ j, j < T.length → at_ out j < n :=
  ⟨⟨h.len, h.done, fun c o hc ho => h.adj c o hc ho (h.done _ (by omega)), fun j hj => by
    rcases h.new j hj (h.done j hj) with ⟨i, a, _, c⟩ | ⟨_, b⟩
    · exact .inl ⟨i, a, c⟩
    · exact .inr b⟩, h.top, fun j hj => (h.lo j hj).2⟩
/-- In the midst of part n, begun at f: W wait, or were gone over; of the i-th k corners are looked at. -/
structure OfBfs (T : List Tr) (f n : Nat) (out : List Int) (W : List Nat) (out' : List Int) (i k : Nat) : Prop where
  len : out'.length = T.length
  nd : W.Nodup
  lt : ∀ u ∈ W, u < T.length
  free : ∀ u ∈ W, at_ out u = -1
  lab : ∀ u ∈ W, at_ out' u = n
  old : ∀ j, j ∉ W → at_ out' j = at_ out j
  fin : f ∈ W
  reach : ∀ u ∈ W, Reach T f u
  closed : ∀ p k' u, (p < i ∨ (p = i ∧ k' < k)) → W[p]? = some u → k' < 3 → ∀ o : Nat, oppI T ((3 * u + k' : Nat) : Int) = (o : Int) → o / 3 ∈ W
theorem at_set {out : List Int} {j i : Nat} {x : Int} (hi : i < out.length) : at_ (out.set i x) j = if j = i then x else at_ out j := by
  unfold at_
  by_cases e : j = i
  · subst e
    simp [List.getD, hi]
  · rw [if_neg e, List.getD, List.getD, List.getElem?_set_ne (fun e' => e e'.symm)]
theorem OfInv.begin_ {T : List Tr} {f n : Nat} {out : List Int} (h : OfInv T f n out) (hf : f < T.length) (h0 : at_ out f < 0) : OfBfs T f n out [f] (out.set f (n : Int)) 0 0 where
  len := by simp [h.len]
  nd := by simp
  lt := fun u hu => by rw [List.mem_singleton.1 hu]; exact hf
  free := fun u hu => by
    rw [List.mem_singleton.1 hu]
    have := (h.lo f hf).1
    omega
  lab := fun u hu => by rw [List.mem_singleton.1 hu, at_set (by rw [h.len]; exact hf), if_pos rfl]
  old := fun j hj => by rw [at_set (by rw [h.len]; exact hf), if_neg (fun e => hj (by simp [e]))]
  fin := by simp
  reach := fun u hu => by rw [List.mem_singleton.1 hu]; exact Reach.refl T f
  closed := fun p k' u hp => by omega
theorem OfBfs.step0 {T : List Tr} {f n : Nat} {out : List Int} {W : List Nat} {out' : List Int} {i k u : Nat} (h : OfBfs T f n out W out' i k) (hu : W[i]? = some u) (hn : ∀ o : Nat, oppI T ((3 * u + k : Nat) : Int) = (o : Int) → o / 3 ∈ W) : OfBfs T f n out W out' i (k + 1) :=
  ⟨h.len, h.nd, h.lt, h.free, h.lab, h.old, h.fin, h.reach, fun p k' u' hp hu' hk' o ho => by
      by_cases e : p = i ∧ k' = k
      · obtain ⟨rfl, rfl⟩ := e
        rw [hu] at hu'
        cases hu'
        exact hn o ho
      · exact h.closed p k' u' (by omega) hu' hk' o ho⟩
theorem OfBfs.next {T : List Tr} {f n : Nat} {out : List Int} {W : List Nat} {out' : List Int} {i : Nat} (h : OfBfs T f n out W out' i 3) : OfBfs T f n out W out' (i + 1) 0 :=
  ⟨h.len, h.nd, h.lt, h.free, h.lab, h.old, h.fin, h.reach, fun p k' u' hp hu' hk' o ho => h.closed p k' u' (by omega) hu' hk' o ho⟩
theorem OfBfs.old_in {T : List Tr} (hE : (T.flatMap edges3).Nodup) {f n : Nat} {out : List Int} {W : List Nat} {out' : List Int} {i k u o : Nat} (hI : OfInv T f n out) (h : OfBfs T f n out W out' i k) (hu : W[i]? = some u) (hk : k < 3) (ho : oppI T ((3 * u + k : Nat) : Int) = (o : Int)) (h0 : 0 ≤ at_ out' (o / 3)) : o / 3 ∈ W := by
  refine Classical.byContradiction fun hne => ?_
  have hm := List.mem_of_getElem? hu
  have hul := h.lt u hm
  have hc : 3 * u + k < 3 * T.length := by omega
  rw [h.old _ hne] at h0
  have := hI.adj o (3 * u + k) (opp_some hc ho).1 (opp_back hE hc ho) h0
  rw [show (3 * u + k) / 3 = u from by omega, h.free u hm] at this
  omega
theorem OfBfs.add {T : List Tr} {f n : Nat} {out : List Int} {W : List Nat} {out' : List Int} {i k u o : Nat} (hI : OfInv T f n out) (h : OfBfs T f n out W out' i k) (hu : W[i]? = some u) (hk : k < 3) (ho : oppI T ((3 * u + k : Nat) : Int) = (o : Int)) (h0 : at_ out' (o / 3) < 0) : OfBfs T f n out (W ++ [o / 3]) (out'.set (o / 3) (n : Int)) i (k + 1) := by
  have hm := List.mem_of_getElem? hu
  have hul := h.lt u hm
  have hc : 3 * u + k < 3 * T.length := by omega
  have hol := (opp_some hc ho).1
  have hot : o / 3 < T.length := by omega
  have hne : o / 3 ∉ W := fun e => by
    rw [h.lab _ e] at h0
    omega
  have hli : i < W.length := (List.getElem?_eq_some_iff.1 hu).1
  refine ⟨by simp [h.len], ?_, ?_, ?_, ?_, ?_, List.mem_append_left _ h.fin, ?_, ?_⟩
  · rw [List.nodup_append]
    exact ⟨h.nd, by simp, fun a ha b hb e => by rw [List.mem_singleton.1 hb] at e; exact hne (by rw [← e]; exact ha)⟩
  · intro x hx
    rcases List.mem_append.1 hx with hx | hx
    · exact h.lt x hx
    · rw [List.mem_singleton.1 hx]; exact hot
  · intro x hx
    rcases List.mem_append.1 hx with hx | hx
    · exact h.free x hx
    · rw [List.mem_singleton.1 hx, ← h.old _ hne]
      have := (hI.lo (o / 3) hot).1
      rw [← h.old _ hne] at this
      omega
  · intro x hx
    rw [at_set (by rw [h.len]; exact hot)]
    rcases List.mem_append.1 hx with hx | hx
    · rw [if_neg (fun e => hne (by rw [← e]; exact hx))]
      exact h.lab x hx
    · rw [List.mem_singleton.1 hx, if_pos rfl]
  · intro j hj
    rw [at_set (by rw [h.len]; exact hot), if_neg (fun e => hj (by simp [e]))]
    exact h.old j (fun e => hj (List.mem_append_left _ e))
  · intro x hx
    rcases List.mem_append.1 hx with hx | hx
    · exact h.reach x hx
    · rw [List.mem_singleton.1 hx]
      exact Reach.step (c := 3 * u + k) (by rw [show (3 * u + k) / 3 = u from by omega]; exact h.reach u hm) hc ho
  · intro p k' u' hp hu' hk' o' ho'
    have hpl : p < W.length := by omega
    rw [List.getElem?_append_left hpl] at hu'
    by_cases e : p = i ∧ k' = k
    · obtain ⟨rfl, rfl⟩ := e
      rw [hu] at hu'
      cases hu'
      rw [ho] at ho'
      have : o = o' := by omega
      rw [← this]
      simp
    · exact List.mem_append_left _ (h.closed p k' u' (by omega) hu' hk' o' ho')
theorem OfBfs.finish {T : List Tr} {f n : Nat} {out : List Int} {W : List Nat} {out' : List Int} (hI : OfInv T f n out) (hf : f < T.length) (h : OfBfs T f n out W out' W.length 0) : OfInv T (f + 1) (n + 1) out' where
  len := h.len
  lo := fun j hj => by
    by_cases e : j ∈ W
    · rw [h.lab j e]; omega
    · rw [h.old j e]
      have := hI.lo j hj
      omega
  done := fun j hj => by
    by_cases e : j ∈ W
    · rw [h.lab j e]; omega
    · rw [h.old j e]
      exact hI.done j (by
        have : j ≠ f := fun e' => e (by rw [e']; exact h.fin)
        omega)
  adj := fun c o hc ho h0 => by
    by_cases e : c / 3 ∈ W
    · obtain ⟨p, hp⟩ := List.mem_iff_getElem?.1 e
      have := h.closed p (c % 3) (c / 3) (.inl (List.getElem?_eq_some_iff.1 hp).1) hp (by omega) o (by rw [show 3 * (c / 3) + c % 3 = c from by omega]; exact ho)
      rw [h.lab _ e, h.lab _ this]
    · rw [h.old _ e] at h0
      have := hI.adj c o hc ho h0
      have hne : o / 3 ∉ W := fun e' => by
        rw [h.free _ e'] at this
        omega
      rw [h.old _ e, h.old _ hne, this]
  new := fun j hj h0 => by
    have hfree : ∀ u ∈ W, f ≤ u := fun u hu => by
      rcases Nat.lt_or_ge u f with hlt | hge
      · have := hI.done u hlt
        rw [h.free u hu] at this
        omega
      · exact hge
    by_cases e : j ∈ W
    · by_cases ef : j = f
      · right
        subst ef
        refine ⟨by omega, fun i hi => ?_, ?_⟩
        · have hni : i ∉ W := fun e' => by have := hfree i e'; omega
          rw [h.old i hni, h.lab _ e]
          exact (hI.lo i (by omega)).2
        · rw [h.lab _ e]
          rcases hI.top with e0 | ⟨i, hi, e0⟩
          · left; omega
          · right
            have hni : i ∉ W := fun e' => by have := hfree i e'; omega
            exact ⟨i, hi, by rw [h.old i hni]; exact e0⟩
      · left
        have := hfree j e
        exact ⟨f, by omega, by omega, by rw [h.lab _ e, h.lab _ h.fin], h.reach j e⟩
    · rw [h.old j e] at h0 ⊢
      rcases hI.new j hj h0 with ⟨i, a, b, c, d⟩ | ⟨a, b, c⟩
      · left
        have hni : i ∉ W := fun e' => by have := hfree i e'; omega
        exact ⟨i, a, by omega, by rw [h.old i hni]; exact c, d⟩
      · right
        have hni : ∀ i, i < j → i ∉ W := fun i hi e' => by have := hfree i e'; omega
        refine ⟨by omega, fun i hi => by rw [h.old i (hni i hi)]; exact b i hi, ?_⟩
        rcases c with c | ⟨i, hi, c⟩
        · exact .inl c
        · exact .inr ⟨i, hi, by rw [h.old i (hni i hi)]; exact c⟩
  top := .inr ⟨f, by omega, by rw [h.lab _ h.fin]; omega⟩
theorem OfBfs.wl {T : List Tr} {f n : Nat} {out : List Int} {W : List Nat} {out' : List Int} {i k : Nat} (h : OfBfs T f n out W out' i k) : W.length ≤ T.length := by
  have := Jor.nodup_le (m := List.range T.length) h.nd (fun x hx => List.mem_range.2 (h.lt x hx))
  simpa using this
end Go.Proofs.Ytpnkhgjjlionnaa
namespace Go.Proofs.Ytpnkhgjjlionnaa
open Go.RowKit

theorem made_ints (m : Nat) : (madeCells (Value.int .i64 0).cells (m * 1)).toList = List.replicate m (.int .i64 0) := by
  rw [Nat.mul_one]
  show (madeCells #[Value.int .i64 0] m).toList = _
  rw [toList_madeCells_one]
theorem intsV_at {out : List Int} {j : Nat} (h : j < out.length) : (intsV out)[j]? = some (.int .i64 (at_ out j)) := by
  unfold intsV at_
  rw [List.getElem?_map, List.getElem?_eq_getElem h]
  simp [List.getD, h]
theorem intsV_set (out : List Int) (j : Nat) (x : Int) : (intsV out).set j (.int .i64 x) = intsV (out.set j x) := by simp [intsV, List.map_set]
theorem fill_set (k F : Nat) (h : k < F) : (intsV (List.replicate k (-1) ++ List.replicate (F - k) 0)).set k (.int .i64 (-1)) = intsV (List.replicate (k + 1) (-1) ++ List.replicate (F - (k + 1)) 0) := by
  rw [intsV_set]
  congr 1
  apply List.ext_getElem?
  intro i
  rw [List.getElem?_set]
  by_cases e : k = i
  · subst e
    rw [if_pos rfl, if_pos (by simp; omega), List.getElem?_append_left (by simp), List.getElem?_replicate, if_pos (by omega)]
  · rw [if_neg e]
    by_cases hi : i < k
    · rw [List.getElem?_append_left (by simpa using hi), List.getElem?_append_left (by simp; omega), List.getElem?_replicate, List.getElem?_replicate, if_pos hi, if_pos (by omega)]
    · rw [List.getElem?_append_right (by simp; omega), List.getElem?_append_right (by simp; omega), List.getElem?_replicate, List.getElem?_replicate]
      simp only [List.length_replicate]
      by_cases h2 : i < F
      · rw [if_pos (by omega), if_pos (by omega)]
      · rw [if_neg (by omega), if_neg (by omega)]
set_option maxRecDepth 100000 in
set_option maxHeartbeats 4000000 in
theorem of_any (g : Nat) (N : Int) (T : List Tr) (w : World) (h : Tab w g N T) (hE : (T.flatMap edges3).Nodup) : Calls Try.prog 45 #[.pointer (some ⟨g, 0, none⟩)] w fun e w' => ∃ v out, e = .returned v ∧ w'.ownsRow w.heap.size 3 1 v T.length (intsV out) ∧ Shl T out ∧ (∀ j, j < T.length → at_ out j < T.length) ∧ Below w.heap.size w w' := by
  obtain ⟨i2, hj', hz0, hz1, hz2⟩ := info_parts infoInt
  have HT := Lib.hid h
  have H0 := Lib.hid (triangles_any g N T w h.toTabS)
  have hl := h.len
  have hgl := h.lt
  obtain ⟨F, hF⟩ : ∃ F, T.length = F := ⟨_, rfl⟩
  rw [hF] at hl H0 ⊢
  have HF := Lib.hid hF
  clear hF h
  go_enter Try.func45, Try.ntmps45
  go_wp2_with fail
  refine H0.out.mono ?_
  rintro e w0 ⟨rfl, rfl⟩
  go_wp2_with (at_make; refine wpList_make_full _ rfl (.tmp 12) (.tmp 12) 35 rfl w.heap.size 3 i2 _ 1 Try.underlying35 hj' hz0 hz1 .i64 .i64 _ _ F rfl rfl rfl rfl (by rw [hz2]; omega) (by unfold maxLen; omega) (Nat.le_refl _) ?_; intro w1 hr1 hg1)
  rw [made_ints] at hr1
  have hB1 : Below w.heap.size w w1 := (Below.refl _ _).grown hg1 (Nat.le_refl _) (fun j e => by cases e)
  clear hg1
  go_loopw [16] (fun ix wr => ∃ k : Nat, k ≤ F ∧ ix = .int .i64 k ∧ wr.ownsRow w.heap.size 3 1 (.slice (some ⟨w.heap.size, 0, none⟩) F F) F (intsV (List.replicate k (-1) ++ List.replicate (F - k) 0)) ∧ Below w.heap.size w wr) (fun ix _ => F - (intOf ix).toNat)
  case atStart => exact ⟨0, Nat.zero_le _, rfl, by simpa [intsV] using hr1, hB1⟩
  case round =>
    clear hr1 hB1
    obtain ⟨k, hk, rfl, hr, hB⟩ := hrel
    rename World => wr
    by_cases hlt : k < F
    · have hlen : (List.replicate k (-1 : Int) ++ List.replicate (F - k) 0).length = F := by simp; omega
      have hc : wr.cell? ⟨w.heap.size, k, none⟩ = some (.int .i64 (at_ (List.replicate k (-1) ++ List.replicate (F - k) 0) k)) := by rw [hr.cellAt k (by omega)]; exact intsV_at (by rw [hlen]; exact hlt)
      have hf := hr.frozenAt k
      have hk3 : (k : Int) < (F : Int) := by omega
      have hsz := hB.size
      have hst := hr.stored k (.int .i64 (-1))
      rw [fill_set k F hlt] at hst
      have HST := Lib.hid hst
      have HB := Lib.hid hB
      clear hr hB hlen hst
      go_wp2
      go_roundw
      case measure => simp [intOf]; omega
      case rel => exact ⟨k + 1, by omega, by go_num, HST.out.1, HB.out.grown HST.out.2 hsz (fun j e => by cases e; exact Nat.le_refl _)⟩
    · obtain rfl : k = F := by omega
      have hI : OfInv T 0 0 (List.replicate T.length (-1)) := OfInv.start T
      rw [HF.out] at hI
      have hr' : wr.ownsRow w.heap.size 3 1 (.slice (some ⟨w.heap.size, 0, none⟩) k k) k (intsV (List.replicate k (-1))) := by simpa using hr
      have HI := Lib.hid hI
      have HR := Lib.hid hr'
      have HB := Lib.hid hB
      clear hr hB hr' hI
      go_wp2
      go_loopw [5, 25] (fun v5 ix wr => ∃ (f n : Nat) (out : List Int), f ≤ k ∧ n ≤ f ∧ ix = .int .i64 f ∧ v5 = .int .i64 n ∧ wr.ownsRow w.heap.size 3 1 (.slice (some ⟨w.heap.size, 0, none⟩) k k) k (intsV out) ∧ OfInv T f n out ∧ Below w.heap.size w wr) (fun _ ix _ => k - (intOf ix).toNat)
      case atStart => exact ⟨0, 0, _, Nat.zero_le _, Nat.le_refl _, rfl, rfl, HR.out, HI.out, HB.out⟩
      case round =>
        rename World => wz
        clear HR HI HB
        obtain ⟨f, n, out, hf, hnf, rfl, rfl, hr, hI, hB⟩ := hrel
        by_cases hlt2 : f < k
        · have hol : out.length = k := by rw [hI.len, HF.out]
          have hc : wz.cell? ⟨w.heap.size, f, none⟩ = some (.int .i64 (at_ out f)) := by rw [hr.cellAt f (by omega)]; exact intsV_at (by rw [hol]; exact hlt2)
          have hfz := hr.frozenAt f
          have hf3 : (f : Int) < (k : Int) := by omega
          have hsz := hB.size
          by_cases h0 : 0 ≤ at_ out f
          · have hd : decide (0 ≤ at_ out f) = true := by simpa using h0
            have hI2 := hI.skip h0
            have HI2 := Lib.hid hI2
            have HR := Lib.hid hr
            have HB := Lib.hid hB
            generalize at_ out f = z at *
            clear hI hI2 hr hB hol
            go_wp2
            go_roundw
            case measure => simp [intOf]; omega
            case rel => exact ⟨f + 1, n, out, by omega, by omega, by go_num, rfl, HR.out, HI2.out, HB.out⟩
          · have hd : decide (0 ≤ at_ out f) = false := by simpa using h0
            have hbf := hI.begin_ (by rw [HF.out]; exact hlt2) (by omega)
            have Hbf := Lib.hid hbf
            have hst := hr.stored f (.int .i64 (n : Int))
            rw [intsV_set] at hst
            have HST := Lib.hid hst
            have HI := Lib.hid hI
            have HB := Lib.hid hB
            have hgo := (hr.lt _ rfl).2
            have hW0 : ((wz.setCell ⟨w.heap.size, f, none⟩ (.int .i64 (n : Int))).alloc (.cells #[.int .i64 f] 3)).ownsRow wz.heap.size 3 1 (.slice (some ⟨wz.heap.size, 0, none⟩) 1 1) 1 (intsV (nats [f])) := by
              have := World.ownsRow_lit (wz.setCell ⟨w.heap.size, f, none⟩ (.int .i64 (n : Int))) (base := wz.heap.size) (e := 3) (size := 1) #[.int .i64 (f : Int)] 1 (by simp) (by decide) rfl
              simpa [intsV, nats] using this
            have HW0 := Lib.hid hW0
            generalize at_ out f = z at *
            clear hI hbf hr hB hol hst hW0
            go_wp2
            go_loopw [7, 8] (fun v7 i8 wy => ∃ (v' : Value) (W : List Nat) (out' : List Int) (i : Nat), v' = v7 ∧ i ≤ W.length ∧ i8 = .int .i64 i ∧ wy.ownsRow wz.heap.size 3 1 v' W.length (intsV (nats W)) ∧ wy.ownsRow w.heap.size 3 1 (.slice (some ⟨w.heap.size, 0, none⟩) k k) k (intsV out') ∧ OfBfs T f n out W out' i 0 ∧ Below w.heap.size w wy) (fun _ i8 _ => k + 1 - (intOf i8).toNat)
            case atStart =>
              exact ⟨_, [f], _, 0, rfl, by simp, rfl, HW0.out, HST.out.1.alloc _, Hbf.out, (HB.out.grown HST.out.2 hsz (fun j e => by cases e; exact Nat.le_refl _)).alloc (by simp; exact hsz) _⟩
            case round =>
              rename World => wy
              clear HST Hbf HW0 hc hfz
              obtain ⟨v7, W, out', i, rfl, hi, rfl, hW, hr, hbf, hB⟩ := hrel
              have hwl := hbf.wl
              rw [HF.out] at hwl
              obtain ⟨L, hL⟩ : ∃ L, W.length = L := ⟨_, rfl⟩
              have HL := Lib.hid hL
              rw [hL] at hi hW hwl
              clear hL
              by_cases hiL : i < L
              · obtain ⟨u, hu⟩ : ∃ u, W[i]? = some u := ⟨W[i]'(by have := HL.out; omega), List.getElem?_eq_getElem _⟩
                have hul := hbf.lt u (List.mem_of_getElem? hu)
                rw [HF.out] at hul
                obtain ⟨aw, cw, rfl⟩ := ownsRow_slice hW
                have Hu := Lib.hid hu
                have HW := Lib.hid hW
                have HR := Lib.hid hr
                have HBF := Lib.hid hbf
                have HBy := Lib.hid hB
                have hi3 : (i : Int) < (L : Int) := by omega
                clear hu hW hr hbf hB
                go_wp2
                go_loopw [7, 45] (fun v7 k4 wx => ∃ (v' : Value) (W : List Nat) (out' : List Int) (q : Nat), v' = v7 ∧ q ≤ 3 ∧ k4 = .int .i64 q ∧ wx.ownsRow wz.heap.size 3 1 v' W.length (intsV (nats W)) ∧ wx.ownsRow w.heap.size 3 1 (.slice (some ⟨w.heap.size, 0, none⟩) k k) k (intsV out') ∧ OfBfs T f n out W out' i q ∧ W[i]? = some u ∧ Below w.heap.size w wx) (fun _ k4 _ => 3 - (intOf k4).toNat)
                case atStart => exact ⟨_, W, out', 0, rfl, by omega, rfl, by rw [HL.out]; exact HW.out, HR.out, HBF.out, Hu.out, HBy.out⟩
                case round =>
                  rename World => wx
                  clear HW HR HBF HBy Hu HL hi3 hiL hi hwl
                  clear W out'
                  obtain ⟨v7, W, out', q, rfl, hq, rfl, hW, hr, hbf, hu, hB⟩ := hrel
                  have hwl := hbf.wl
                  rw [HF.out] at hwl
                  have hiL := (List.getElem?_eq_some_iff.1 hu).1
                  by_cases hq3 : q < 3
                  · obtain ⟨gw, cw', rfl, hgw1, hgw2⟩ := hW.form (by omega)
                    have hcw := hW.cellAt i (by omega)
                    rw [show (intsV (nats W))[i]? = some (.int .i64 (u : Int)) from by simp [intsV, nats, hu]] at hcw
                    have hsx := hB.size
                    have HO := Lib.hid (opp_any g N (3 * (u : Int) + (q : Int)) T wx (HT.out.below (hB.mono (Nat.le_refl _))))
                    obtain ⟨L2, hL2⟩ : ∃ L2, W.length = L2 := ⟨_, rfl⟩
                    rw [hL2] at hW hiL hwl ⊢
                    have HL2 := Lib.hid hL2
                    have hi3 : (i : Int) < (L2 : Int) := by omega
                    have hq0 : (q : Int) < 3 := by omega
                    have hqn : (0 : Int) ≤ (q : Int) := by omega
                    have hu0 : (0 : Int) ≤ (u : Int) := by omega
                    have hu1 : (u : Int) ≤ 8192 := by omega
                    have ecast : (3 * (u : Int) + (q : Int)) = ((3 * u + q : Nat) : Int) := by push_cast; rfl
                    have HEC := Lib.hid ecast
                    have HW := Lib.hid hW
                    have HR := Lib.hid hr
                    have HBF := Lib.hid hbf
                    have HU := Lib.hid hu
                    have HBx := Lib.hid hB
                    clear hW hr hbf hu hB hL2 ecast
                    rcases opp_cases T ((3 * u + q : Nat) : Int) with ho | ⟨o, ho, hol⟩
                    · rw [HEC.out, ho] at HO
                      have Hs := Lib.hid (HBF.out.step0 HU.out (fun o e => by rw [ho] at e; omega))
                      clear ho
                      go_wp2_with fail
                      rw [HEC.out]
                      refine HO.out.mono ?_
                      rintro e w2 ⟨rfl, hb2⟩
                      have HB2 := Lib.hid hb2
                      clear hb2 hcw
                      go_wp2
                      go_roundw
                      case measure => simp [intOf]; omega
                      case rel => exact ⟨_, W, out', q + 1, rfl, by omega, by go_num, by rw [HL2.out]; exact own_below HW.out HB2.out, own_below HR.out HB2.out, Hs.out, HU.out, HBx.out.trans (HB2.out.mono hsx)⟩
                    · rw [HEC.out, ho] at HO
                      rw [HF.out] at hol
                      obtain ⟨t, ht⟩ : ∃ t, o / 3 = t := ⟨_, rfl⟩
                      have e1 : (o : Int) / 3 = (t : Int) := by omega
                      have htk : t < k := by omega
                      have ht3 : (t : Int) < (k : Int) := by omega
                      have ht0 : (0 : Int) ≤ (t : Int) := by omega
                      have ho0 : (0 : Int) ≤ (o : Int) := by omega
                      have ho1 : (o : Int) ≤ 100000 := by omega
                      have hd0 : decide (0 ≤ (o : Int)) = true := by simp
                      have holn : out'.length = k := by rw [HBF.out.len, HF.out]
                      have hco : wx.cell? ⟨w.heap.size, t, none⟩ = some (.int .i64 (at_ out' t)) := by rw [HR.out.cellAt t (by omega)]; exact intsV_at (by rw [holn]; exact htk)
                      have Hho := Lib.hid ho
                      have Hht := Lib.hid ht
                      have hgx := (HR.out.lt _ rfl).2
                      by_cases hneg : at_ out' t < 0
                      · have hd1 : decide (at_ out' t < 0) = true := by simpa using hneg
                        have Hs := Lib.hid (HBF.out.add HI.out HU.out hq3 ho (by rw [ht]; exact hneg))
                        rw [ht] at Hs
                        generalize at_ out' t = z at *
                        have c6 : L2 + 1 ≤ maxLen := by unfold maxLen; omega
                        have c7 : (L2 + 1) * 8 ≤ 140737488355328 := by omega
                        clear ho ht hneg holn
                        go_wp2_with fail
                        rw [HEC.out]
                        refine HO.out.mono ?_
                        rintro e w2 ⟨rfl, hb2⟩
                        have hco2 := (hb2.cell (p := ⟨w.heap.size, t, none⟩) hgx).trans hco
                        have hR2 := own_below HR.out hb2
                        have hfo2 := hR2.frozenAt t
                        have hst := hR2.stored t (.int .i64 (n : Int))
                        rw [intsV_set] at hst
                        have HST := Lib.hid hst
                        have hW2 := own_below HW.out hb2
                        have hgo2 := (hR2.lt _ rfl).2
                        have hW3 := hW2.kept hst.2 (.inr (by simp [Value.ownBlock]; omega))
                        have HB2 := Lib.hid hb2
                        have hsz2 := hb2.size
                        clear hb2 hcw hco hR2 hst hW2
                        go_wp2_with (at_builtin; refine wpList_append_lies _ rfl (.tmp 72) (.tmp 75) 35 rfl wz.heap.size 3 i2 _ 1 8 Try.underlying35 hj' hz0 hz1 hz2 rfl (by decide) _ L2 (intsV (nats W)) rfl (hW3.alloc _) ⟨w2.heap.size, 0, none⟩ 1 1 [.int .i64 t] rfl rfl (World.news_of_block (by have := heap_alloc_new (w2.setCell ⟨w.heap.size, t, none⟩ (.int .i64 (n : Int))) (.cells #[.int .i64 (t : Int)] 3); simpa using this)) (by simp [Value.oneCell']) (by decide) c6 c7 (by simp; omega) (w2.heap.size + 1) (by simp) ?_; intro g6 cap6 W6 hr6 hg6 hat6 _)
                        go_roundw
                        case measure => simp [intOf]; omega
                        case rel =>
                          have hO3 := (HST.out.1.alloc (.cells #[.int .i64 (t : Int)] 3)).kept hg6 (.inr (show some w.heap.size ≠ some gw from by simp; omega))
                          have hB3 := (((HBx.out.trans (HB2.out.mono hsx)).grown HST.out.2 (by omega) (fun j e => by cases e; exact Nat.le_refl _)).alloc (by simp; omega) (.cells #[.int .i64 (t : Int)] 3)).grown hg6 (by simp; omega) (fun j e => by have := (hW3.lt j e).1; omega)
                          refine ⟨_, W ++ [t], _, q + 1, rfl, by omega, by go_num, ?_, hO3, Hs.out, ?_, hB3⟩
                          · have hl3 : (W ++ [t]).length = L2 + 1 := by simp [HL2.out]
                            rw [hl3]
                            simpa [intsV, nats] using hr6
                          · rw [List.getElem?_append_left (by rw [HL2.out]; exact hiL)]
                            exact HU.out
                      · have hd1 : decide (at_ out' t < 0) = false := by simpa using hneg
                        have Hs := Lib.hid (HBF.out.step0 HU.out (fun o' e => by
                          rw [ho] at e
                          have : o = o' := by omega
                          subst this
                          exact HBF.out.old_in hE HI.out HU.out hq3 ho (by rw [ht]; omega)))
                        generalize at_ out' t = z at *
                        clear ho ht hneg holn
                        go_wp2_with fail
                        rw [HEC.out]
                        refine HO.out.mono ?_
                        rintro e w2 ⟨rfl, hb2⟩
                        have hco2 := (hb2.cell (p := ⟨w.heap.size, t, none⟩) hgx).trans hco
                        have HB2 := Lib.hid hb2
                        have hgo2 := (own_below HR.out hb2).lt _ rfl
                        clear hb2 hcw hco
                        go_wp2
                        go_roundw
                        case measure => simp [intOf]; omega
                        case rel => exact ⟨_, W, out', q + 1, rfl, by omega, by go_num, by rw [HL2.out]; exact own_below HW.out HB2.out, own_below HR.out HB2.out, Hs.out, HU.out, HBx.out.trans (HB2.out.mono hsx)⟩
                  · obtain rfl : q = 3 := by omega
                    have Hs := Lib.hid hbf.next
                    have HW := Lib.hid hW
                    have HR := Lib.hid hr
                    have HBx := Lib.hid hB
                    clear hbf hW hr hB hu
                    go_wp2
                    go_roundw
                    case measure => simp [intOf]; omega
                    case rel => exact ⟨v7, W, out', i + 1, rfl, by omega, by go_num, HW.out, HR.out, Hs.out, HBx.out⟩
              · obtain rfl : i = L := by omega
                have hfin := hbf
                rw [← HL.out] at hfin
                have Hs := Lib.hid (hfin.finish HI.out (by rw [HF.out]; exact hlt2))
                obtain ⟨aw, cw, rfl⟩ := ownsRow_slice hW
                have HR := Lib.hid hr
                have HBx := Lib.hid hB
                have hn0 : (n : Int) ≤ 8192 := by omega
                clear hbf hfin hW hr hB
                go_wp2
                go_roundw
                case measure => simp [intOf]; omega
                case rel => exact ⟨f + 1, n + 1, out', by omega, by omega, by go_num, by go_num, HR.out, Hs.out, HBx.out⟩
        · obtain rfl : f = k := by omega
          have hfi := OfInv.finish (by rw [HF.out]; exact hI)
          have HFI := Lib.hid hfi
          have HR := Lib.hid hr
          have HB := Lib.hid hB
          clear hfi hI hr hB
          go_wp2
          go_ret
          exact ⟨_, out, rfl, HR.out, HFI.out.1, fun j hj => by have := HFI.out.2.2 j (by rw [HF.out]; exact hj); omega, HB.out⟩
def cntL (out : List Int) : Int := out.foldl (fun n k => max n (k + 1)) 0
theorem cntL_take {out : List Int} {j : Nat} (h : j < out.length) : cntL (out.take (j + 1)) = max (cntL (out.take j)) (at_ out j + 1) := by
  unfold cntL
  rw [List.take_succ_eq_append_getElem h, List.foldl_append]
  simp [at_, List.getD, h]
theorem cntL_bd {out : List Int} {m : Int} (h : ∀ j, j < out.length → at_ out j < m) (hm : 0 ≤ m) : ∀ j, j ≤ out.length → 0 ≤ cntL (out.take j) ∧ cntL (out.take j) ≤ m
  | 0, _ => by simp [cntL]; omega
  | j + 1, hj => by
    have ih := cntL_bd h hm j (by omega)
    have := h j (by omega)
    rw [cntL_take (by omega)]
    omega
set_option maxRecDepth 100000 in
set_option maxHeartbeats 1000000 in
theorem count_any (g : Nat) (N : Int) (T : List Tr) (w : World) (h : Tab w g N T) (hE : (T.flatMap edges3).Nodup) : Calls Try.prog 46 #[.pointer (some ⟨g, 0, none⟩)] w fun e w' => ∃ out, e = .returned (.int .i64 (cntL out)) ∧ Shl T out ∧ (∀ j, j < T.length → at_ out j < T.length) ∧ Below w.heap.size w w' := by
  have H0 := Lib.hid (of_any g N T w h hE)
  have hl := h.len
  obtain ⟨F, hF⟩ : ∃ F, T.length = F := ⟨_, rfl⟩
  rw [hF] at hl H0 ⊢
  have HF := Lib.hid hF
  clear hF h
  go_enter Try.func46, Try.ntmps46
  go_wp2_with fail
  refine H0.out.mono ?_
  rintro e w1 ⟨v, out, rfl, hr, hS, hlt, hb⟩
  obtain ⟨av, cv, rfl⟩ := ownsRow_slice hr
  have hol : out.length = F := by rw [hS.len, HF.out]
  have hbd := cntL_bd (out := out) (m := (F : Int)) (fun j hj => hlt j (by omega)) (by omega)
  have HOL := Lib.hid hol
  have HBD := Lib.hid hbd
  have HR := Lib.hid hr
  have HS := Lib.hid hS
  have HLT := Lib.hid hlt
  clear hol hbd hr hS hlt H0
  go_wp2
  go_loop [3, 9] (fun n i => ∃ j : Nat, j ≤ F ∧ i = .int .i64 j ∧ n = .int .i64 (cntL (out.take j))) (fun _ i => F - (intOf i).toNat)
  case atStart => exact ⟨0, Nat.zero_le _, rfl, by simp [cntL]⟩
  case round =>
    obtain ⟨j, hj, rfl, rfl⟩ := hrel
    by_cases hjF : j < F
    · obtain ⟨g0, cap, e0, hg1, hg2⟩ := HR.out.form (by omega)
      cases e0
      have hc := HR.out.cellAt j (by omega)
      rw [intsV_at (by rw [HOL.out]; exact hjF)] at hc
      have Hst := Lib.hid (cntL_take (out := out) (j := j) (by rw [HOL.out]; exact hjF))
      obtain ⟨b0, b1⟩ := HBD.out j (by rw [HOL.out]; exact hj)
      obtain ⟨b2, b3⟩ := HBD.out (j + 1) (by rw [HOL.out]; exact hjF)
      have hk1 := HLT.out j hjF
      have hk0 := HS.out.nn j (by rw [HF.out]; exact hjF)
      rw [Hst.out] at b2 b3
      have hj3 : (j : Int) < (F : Int) := by omega
      generalize cntL (out.take j) = z at *
      generalize at_ out j = y at *
      go_wp2
      go_round
      case measure => simp [intOf]; omega
      case rel => exact ⟨j + 1, by omega, by go_num, by rw [Hst.out]⟩
    · obtain rfl : j = F := by omega
      have e : out.take j = out := List.take_of_length_le (by rw [HOL.out]; omega)
      have HE := Lib.hid e
      clear e
      go_wp2
      go_ret
      exact ⟨out, by rw [HE.out]; rfl, HS.out, HLT.out, hb⟩
end Go.Proofs.Ytpnkhgjjlionnaa
namespace Go.Proofs.Ytpnkhgjjlionnaa
open Go.RowKit

def trisOf (L : List Nat) : List Nat := L.map (· / 3)
/-- Over a corner: the one across is the next one, where its triangle was not come to. -/
def ovr (T : List Tr) (L : List Nat) (c : Int) : List Nat := if 0 ≤ oppI T c ∧ (oppI T c).toNat / 3 ∉ trisOf L then L ++ [(oppI T c).toNat] else L
def rtF (T : List Tr) : Nat → Nat → List Nat → List Nat
  | 0, _, L => L
  | n + 1, i, L => match L[i]? with
    | none => L
    | some d => rtF T n (i + 1) (ovr T (ovr T L (Jor.nx d : Nat)) (Jor.pv d : Nat))
/-- The corners of the shell of a corner, in order. -/
def rtL (T : List Tr) (c : Nat) : List Nat := rtF T (T.length + 1) 0 (ovr T [c] (c : Int))
structure LOk (T : List Tr) (L : List Nat) : Prop where
  nd : (trisOf L).Nodup
  lt : ∀ d ∈ L, d < 3 * T.length
theorem LOk.one {T : List Tr} {c : Nat} (h : c < 3 * T.length) : LOk T [c] := ⟨by simp [trisOf], fun d hd => by rw [List.mem_singleton.1 hd]; exact h⟩
theorem LOk.len {T : List Tr} {L : List Nat} (h : LOk T L) : L.length ≤ T.length := by
  have := Jor.nodup_le (m := List.range T.length) h.nd (fun x hx => by
    simp only [trisOf, List.mem_map] at hx
    obtain ⟨d, hd, rfl⟩ := hx
    have := h.lt d hd
    rw [List.mem_range]
    omega)
  simpa [trisOf] using this
theorem LOk.ovr {T : List Tr} {L : List Nat} (h : LOk T L) (c : Int) : LOk T (ovr T L c) := by
  unfold Proofs.Ytpnkhgjjlionnaa.ovr
  split
  · rename_i hc
    rcases opp_cases T c with e | ⟨o, e, ho⟩
    · rw [e] at hc
      omega
    · rw [e] at hc ⊢
      simp only [Int.toNat_natCast] at hc ⊢
      refine ⟨?_, fun d hd => ?_⟩
      · unfold trisOf at hc ⊢
        rw [List.map_append, List.nodup_append]
        exact ⟨h.nd, by simp, fun a ha b hb e2 => by
          simp only [List.map_cons, List.map_nil, List.mem_singleton] at hb
          subst hb
          subst e2
          exact hc.2 ha⟩
      · rcases List.mem_append.1 hd with hd | hd
        · exact h.lt d hd
        · rw [List.mem_singleton.1 hd]
          exact ho
  · exact h
theorem ovr_none {T : List Tr} {L : List Nat} {c : Int} (h : oppI T c = -1) : ovr T L c = L := by
  unfold ovr
  rw [h, if_neg (by omega)]
theorem ovr_had {T : List Tr} {L : List Nat} {c : Int} {o : Nat} (h : oppI T c = (o : Int)) (hm : o / 3 ∈ trisOf L) : ovr T L c = L := by
  unfold ovr
  rw [h, if_neg (by simp only [Int.toNat_natCast]; exact fun e => e.2 hm)]
theorem ovr_add {T : List Tr} {L : List Nat} {c : Int} {o : Nat} (h : oppI T c = (o : Int)) (hm : o / 3 ∉ trisOf L) : ovr T L c = L ++ [o] := by
  unfold ovr
  rw [h, if_pos ⟨by omega, by simpa using hm⟩]
  simp
theorem rtF_at {T : List Tr} {n i d : Nat} {L : List Nat} (h : L[i]? = some d) : rtF T (n + 1) i L = rtF T n (i + 1) (ovr T (ovr T L (Jor.nx d : Nat)) (Jor.pv d : Nat)) := by
  simp only [rtF, h]
theorem rtF_end {T : List Tr} {n i : Nat} {L : List Nat} (h : L.length ≤ i) : rtF T n i L = L := by
  cases n with
  | zero => rfl
  | succ n => simp only [rtF, List.getElem?_eq_none h]
theorem LOk.rtF {T : List Tr} : ∀ (n i : Nat) {L : List Nat}, LOk T L → LOk T (rtF T n i L)
  | 0, _, _, h => h
  | n + 1, i, L, h => by
    unfold Proofs.Ytpnkhgjjlionnaa.rtF
    cases hd : L[i]? with
    | none => exact h
    | some d => exact LOk.rtF n (i + 1) ((h.ovr _).ovr _)
theorem LOk.rtL {T : List Tr} {c : Nat} (h : c < 3 * T.length) : LOk T (rtL T c) := LOk.rtF _ _ ((LOk.one h).ovr _)

/-! Vertices, numbered as they come. -/
def addV (old : List Int) (v : Int) : List Int := if v ∈ old then old else old ++ [v]
def spot : List Int → Int → Nat
  | [], _ => 0
  | a :: l, v => if a = v then 0 else spot l v + 1
theorem spot_mem {old : List Int} {v : Int} (more : List Int) (h : v ∈ old) : spot (old ++ more) v = spot old v := by
  induction old with
  | nil => cases h
  | cons a l ih =>
    simp only [List.cons_append, spot]
    by_cases e : a = v
    · rw [if_pos e, if_pos e]
    · rw [if_neg e, if_neg e, ih (by rcases List.mem_cons.1 h with e2 | h; exact absurd e2.symm e; exact h)]
theorem spot_lt {old : List Int} {v : Int} (h : v ∈ old) : spot old v < old.length := by
  induction old with
  | nil => cases h
  | cons a l ih =>
    simp only [spot, List.length_cons]
    by_cases e : a = v
    · rw [if_pos e]
      omega
    · rw [if_neg e]
      have := ih (by rcases List.mem_cons.1 h with e2 | h; exact absurd e2.symm e; exact h)
      omega
/-- One triangle more: the old numbers, and the triangle in new ones. -/
def numT (T : List Tr) (old : List Int) (d : Nat) : List Int := addV (addV (addV old (vertN T d)) (vertN T (Jor.nx d))) (vertN T (Jor.pv d))
def triT (T : List Tr) (old : List Int) (d : Nat) : Tr :=
  ((spot (addV old (vertN T d)) (vertN T d) : Nat), (spot (addV (addV old (vertN T d)) (vertN T (Jor.nx d))) (vertN T (Jor.nx d)) : Nat), (spot (numT T old d) (vertN T (Jor.pv d)) : Nat))
def numL (T : List Tr) : List Nat → List Int × List Tr → List Int × List Tr
  | [], s => s
  | d :: r, s => numL T r (numT T s.1 d, s.2 ++ [triT T s.1 d])
def rtN (T : List Tr) (c : Nat) : List Int × List Tr := numL T (rtL T c) ([], [])
theorem addV_mem {old : List Int} {v : Int} : v ∈ addV old v := by
  unfold addV
  split
  · assumption
  · simp
theorem addV_nodup {old : List Int} {v : Int} (h : old.Nodup) : (addV old v).Nodup := by
  unfold addV
  split
  · exact h
  · rename_i hn
    rw [List.nodup_append]
    exact ⟨h, by simp, fun a ha b hb e => by rw [List.mem_singleton.1 hb] at e; exact hn (by rw [← e]; exact ha)⟩
theorem addV_len {old : List Int} {v : Int} : old.length ≤ (addV old v).length ∧ (addV old v).length ≤ old.length + 1 := by
  unfold addV
  split
  · omega
  · simp
theorem spot_new {old : List Int} {v : Int} (h : v ∉ old) : spot (old ++ [v]) v = old.length := by
  induction old with
  | nil => simp [spot]
  | cons a l ih =>
    simp only [List.cons_append, spot, List.length_cons]
    rw [if_neg (fun e => h (by rw [e]; exact List.mem_cons_self ..)), ih (fun hm => h (List.mem_cons_of_mem _ hm))]
theorem numL_append (T : List Tr) (a b : List Nat) (s : List Int × List Tr) : numL T (a ++ b) s = numL T b (numL T a s) := by
  induction a generalizing s with
  | nil => rfl
  | cons d r ih => exact ih _
theorem numL_take {T : List Tr} {L : List Nat} {k d : Nat} (h : L[k]? = some d) (s : List Int × List Tr) : numL T (L.take (k + 1)) s = (numT T (numL T (L.take k) s).1 d, (numL T (L.take k) s).2 ++ [triT T (numL T (L.take k) s).1 d]) := by
  obtain ⟨hk, he⟩ := List.getElem?_eq_some_iff.1 h
  rw [List.take_succ_eq_append_getElem hk, he, numL_append]
  rfl
theorem numL_len (T : List Tr) : ∀ (L : List Nat) (s : List Int × List Tr), (numL T L s).2.length = s.2.length + L.length ∧ (numL T L s).1.length ≤ s.1.length + 3 * L.length
  | [], s => by simp [numL]
  | d :: r, s => by
    obtain ⟨a, b⟩ := numL_len T r (numT T s.1 d, s.2 ++ [triT T s.1 d])
    unfold numL
    have h1 := (addV_len (old := s.1) (v := vertN T d)).2
    have h2 := (addV_len (old := addV s.1 (vertN T d)) (v := vertN T (Jor.nx d))).2
    have h3 := (addV_len (old := addV (addV s.1 (vertN T d)) (vertN T (Jor.nx d))) (v := vertN T (Jor.pv d))).2
    have e1 : (s.2 ++ [triT T s.1 d]).length = s.2.length + 1 := by simp
    have e2 : (d :: r).length = r.length + 1 := rfl
    have e3 : numT T s.1 d = addV (addV (addV s.1 (vertN T d)) (vertN T (Jor.nx d))) (vertN T (Jor.pv d)) := rfl
    simp only at a b
    rw [e1] at a
    rw [e3] at b
    rw [e2]
    rw [e3] at a
    refine ⟨?_, ?_⟩
    · rw [e3]
      omega
    · rw [e3]
      omega
theorem numL_nodup (T : List Tr) : ∀ (L : List Nat) (s : List Int × List Tr), s.1.Nodup → (numL T L s).1.Nodup
  | [], _, h => h
  | _d :: r, _s, h => numL_nodup T r _ (addV_nodup (addV_nodup (addV_nodup h)))
/-- What the map of new numbers holds. -/
def nowMap (old : List Int) : Value → Option Value := fun y => match y with
  | .int .i64 v => if v ∈ old then some (.int .i64 (spot old v : Nat)) else none
  | _ => none
theorem nowMap_add {old : List Int} {v : Int} (h : v ∉ old) (y : Value) : updP (nowMap old) (.int .i64 v) (.int .i64 (old.length : Int)) y = nowMap (old ++ [v]) y := by
  by_cases e : y = .int .i64 v
  · subst e
    rw [updP_same]
    simp only [nowMap]
    rw [if_pos (by simp), spot_new h]
  · rw [updP_other e]
    unfold nowMap
    split
    · rename_i u
      have hne : u ≠ v := fun e2 => e (by rw [e2])
      by_cases hu : u ∈ old
      · rw [if_pos hu, if_pos (List.mem_append_left _ hu)]
        rw [spot_mem [v] hu]
      · rw [if_neg hu, if_neg (by simp [hu, hne])]
    · rfl
def addVs (old : List Int) (l : List Int) : List Int := l.foldl addV old
def spots : List Int → List Int → List Nat
  | _, [] => []
  | old, v :: r => spot (addV old v) v :: spots (addV old v) r
theorem addVs_snoc (old l : List Int) (v : Int) : addVs old (l ++ [v]) = addV (addVs old l) v := by simp [addVs]
theorem spots_snoc (old l : List Int) (v : Int) : spots old (l ++ [v]) = spots old l ++ [spot (addV (addVs old l) v) v] := by
  induction l generalizing old with
  | nil => rfl
  | cons a r ih =>
    simp only [List.cons_append, spots, ih]
    rfl
theorem spots_len (old l : List Int) : (spots old l).length = l.length := by
  induction l generalizing old with
  | nil => rfl
  | cons a r ih => simp [spots, ih]
/-- A triangle's cells, the first q of them filled. -/
def cellsQ (old l : List Int) (q : Nat) : List Value := ((spots old (l.take q)).map fun n : Nat => Value.int .i64 (n : Int)) ++ List.replicate (3 - q) (.int .i64 0)
theorem cellsQ_step {old l : List Int} {q : Nat} {v : Int} (h : l[q]? = some v) (hq : q < 3) : (cellsQ old l q).set q (.int .i64 (spot (addVs old (l.take (q + 1))) v : Nat)) = cellsQ old l (q + 1) := by
  obtain ⟨hk, he⟩ := List.getElem?_eq_some_iff.1 h
  have e1 : l.take (q + 1) = l.take q ++ [v] := by rw [List.take_succ_eq_append_getElem hk, he]
  unfold cellsQ
  rw [e1, spots_snoc, addVs_snoc]
  have hl : (spots old (l.take q)).length = q := by rw [spots_len, List.length_take]; omega
  have e2 : List.replicate (3 - q) (Value.int .i64 0) = .int .i64 0 :: List.replicate (3 - (q + 1)) (.int .i64 0) := by
    rw [show 3 - q = (3 - (q + 1)) + 1 from by omega]
    rfl
  rw [e2, List.set_append_right _ _ (by simp [hl])]
  simp [hl]
theorem cellsQ_len (old l : List Int) {q : Nat} (hq : q ≤ 3) (hl : q ≤ l.length) : (cellsQ old l q).length = 3 := by
  unfold cellsQ
  simp [spots_len]
  omega
end Go.Proofs.Ytpnkhgjjlionnaa
