/-
  gypsumref23.falls, by walking its text.
-/
import Derived.Test.YtgjcigokjfhfkaaFalls
namespace Go.Proofs.Ytgjcigokjfhfkaa
open Go.RowKit Go.Maps

/-- The pairs looked at so far hit no edge. -/
def calmY (u t : Tr) (x y : Nat) : Prop := ∀ y', y' < y → hitAt u t x y' = false
def calmX (u t : Tr) (x : Nat) : Prop := ∀ x', x' < x → calmY u t x' 3
theorem cntY_le (u t : Tr) (x : Nat) : ∀ y, cntY u t x y ≤ y := by
  intro y
  induction y with
  | zero => exact Nat.le_refl _
  | succ y ih => simp only [cntY]; split <;> omega
theorem cntX_le (u t : Tr) : ∀ x, cntX u t x ≤ 3 * x := by
  intro x
  induction x with
  | zero => exact Nat.le_refl _
  | succ x ih => have := cntY_le u t x 3; simp only [cntX]; omega
theorem falls_hit {u t : Tr} {x y : Nat} (hx : x < 3) (hy : y < 3) (h : hitAt u t x y = true) : fallsOne u t = true := by
  have h1 : x = 0 ∨ x = 1 ∨ x = 2 := by omega
  have h2 : y = 0 ∨ y = 1 ∨ y = 2 := by omega
  unfold fallsOne
  rcases h1 with rfl | rfl | rfl <;> rcases h2 with rfl | rfl | rfl <;> simp [h]
theorem falls_calm {u t : Tr} (h : calmX u t 3) : fallsOne u t = (cntX u t 3 == 3) := by
  unfold fallsOne
  rw [h 0 (by omega) 0 (by omega), h 0 (by omega) 1 (by omega), h 0 (by omega) 2 (by omega), h 1 (by omega) 0 (by omega), h 1 (by omega) 1 (by omega), h 1 (by omega) 2 (by omega), h 2 (by omega) 0 (by omega), h 2 (by omega) 1 (by omega), h 2 (by omega) 2 (by omega)]
  rfl
theorem fallsL_take {T : List Tr} {t u : Tr} {k : Nat} (hu : T[k]? = some u) : fallsL (T.take (k + 1)) t = (fallsL (T.take k) t || fallsOne u t) := by
  obtain ⟨hk, he⟩ := List.getElem?_eq_some_iff.1 hu
  unfold fallsL
  rw [List.take_succ_eq_append_getElem hk, List.any_append, he]
  simp
theorem fallsL_mono {T : List Tr} {t : Tr} {k n : Nat} (hk : k ≤ n) (h : fallsL (T.take k) t = true) : fallsL (T.take n) t = true := by
  unfold fallsL at *
  rw [List.any_eq_true] at *
  obtain ⟨u, hu, h2⟩ := h
  have : T.take k = (T.take n).take k := by rw [List.take_take, Nat.min_eq_left hk]
  rw [this] at hu
  exact ⟨u, List.mem_of_mem_take hu, h2⟩

set_option maxRecDepth 100000 in
set_option maxHeartbeats 8000000 in
theorem falls_any (g n c : Nat) (T : List Tr) (a b d : Int) (w : World) (hn : n ≤ 100000) (hg : g < w.heap.size)
    (hc : ∀ k, k < n → ∃ x y z, T[k]? = some (x, y, z) ∧ w.cell? ⟨g, k * 3, none⟩ = some (.int .i64 x) ∧ w.cell? ⟨g, k * 3 + 1, none⟩ = some (.int .i64 y) ∧ w.cell? ⟨g, k * 3 + 2, none⟩ = some (.int .i64 z)) :
    Calls Try.prog 39 #[.slice (some ⟨g, 0, none⟩) n c, .agg #[.int .i64 a, .int .i64 b, .int .i64 d]] w fun e w' => e = .returned (.bool (fallsL (T.take n) (a, b, d))) ∧ Below w.heap.size w w' := by
  have HC := Lib.hid hc
  have hb0 := Blk.new w 57 #[.int .i64 a, .int .i64 b, .int .i64 d]
  have hB0 : Below w.heap.size w (w.alloc (.cells #[.int .i64 a, .int .i64 b, .int .i64 d] 57)) := (Below.refl _ _).alloc (Nat.le_refl _) _
  clear hc
  go_enter Try.func39, Try.ntmps39
  go_wp2
  go_loopw [5] (fun i wr => ∃ k : Nat, k ≤ n ∧ i = .int .i64 k ∧ fallsL (T.take k) (a, b, d) = false ∧ Blk wr w.heap.size 57 #[.int .i64 a, .int .i64 b, .int .i64 d] ∧ Below w.heap.size w wr) (fun i _ => n - (intOf i).toNat)
  case atStart => exact ⟨0, Nat.zero_le _, rfl, by simp [fallsL], hb0, hB0⟩
  case round =>
    obtain ⟨k, hk, rfl, hno, hbk, hB⟩ := hrel
    by_cases hlt : k < n
    · obtain ⟨p, q, r, hT, s0, s1, s2⟩ := HC.out k hlt
      have hft := fallsL_take (t := (a, b, d)) hT
      rw [hno, Bool.false_or] at hft
      have Hft := Lib.hid hft
      have HBk := Lib.hid hbk
      have HB := Lib.hid hB
      have s0' := (hB.cell (p := ⟨g, k * 3, none⟩) hg).trans s0
      have s1' := (hB.cell (p := ⟨g, k * 3 + 1, none⟩) hg).trans s1
      have s2' := (hB.cell (p := ⟨g, k * 3 + 2, none⟩) hg).trans s2
      have S0 := Lib.hid s0'
      have S1 := Lib.hid s1'
      have S2 := Lib.hid s2'
      have hk3 : (k : Int) < (n : Int) := by omega
      have hk0 : (0 : Int) ≤ (k : Int) := by omega
      have hgr : g < wr.heap.size := Nat.lt_of_lt_of_le hg hB.size
      have hwr : w.heap.size < wr.heap.size := hbk.lt
      clear hno hft hbk hB s0 s1 s2 s0' s1' s2' hT
      rename World => wA
      go_wp2
      go_loopw [6, 7] (fun sv xv w2 => ∃ x : Nat, x ≤ 3 ∧ xv = .int .i64 x ∧ sv = .int .i64 (cntX (p, q, r) (a, b, d) x : Nat) ∧ calmX (p, q, r) (a, b, d) x ∧ Below wA.heap.size wA w2) (fun _ xv _ => 3 - (intOf xv).toNat)
      case atStart => exact ⟨0, by omega, rfl, rfl, fun x' h => by omega, Below.refl _ _⟩
      case round =>
        obtain ⟨x, hx, rfl, rfl, hcx, hB2⟩ := hrel
        by_cases hx3 : x < 3
        · have HCx := Lib.hid hcx
          have HB2 := Lib.hid hB2
          have hcl := cntX_le (p, q, r) (a, b, d) x
          clear hcx hB2
          rename World => wX
          have hxx : x = 0 ∨ x = 1 ∨ x = 2 := by omega
          rcases hxx with rfl | rfl | rfl
          · push_cast
            go_wp2
            go_loopw [6, 8] (fun sv yv w3 => ∃ y : Nat, y ≤ 3 ∧ yv = .int .i64 y ∧ sv = .int .i64 ((cntX (p, q, r) (a, b, d) 0 + cntY (p, q, r) (a, b, d) 0 y : Nat) : Int) ∧ calmY (p, q, r) (a, b, d) 0 y ∧ Below wA.heap.size wA w3) (fun _ yv _ => 3 - (intOf yv).toNat)
            case atStart => exact ⟨0, by omega, rfl, rfl, fun y' h => by omega, HB2.out⟩
            case round =>
              obtain ⟨y, hy, rfl, rfl, hcy, hB3⟩ := hrel
              by_cases hy3 : y < 3
              · have hcl2 := cntY_le (p, q, r) (a, b, d) 0 y
                have HCy := Lib.hid hcy
                have HB3 := Lib.hid hB3
                have s0 := (HB3.out.cell (p := ⟨g, k * 3, none⟩) hgr).trans S0.out
                have s1 := (HB3.out.cell (p := ⟨g, k * 3 + 1, none⟩) hgr).trans S1.out
                have s2 := (HB3.out.cell (p := ⟨g, k * 3 + 2, none⟩) hgr).trans S2.out
                obtain ⟨l0, e0, -, e1, -, e2, -⟩ := (HBk.out.below HB3.out hwr).three
                have hstep : cntY (p, q, r) (a, b, d) 0 (y + 1) = cntY (p, q, r) (a, b, d) 0 y + (if eqAt (p, q, r) (a, b, d) 0 y = true then 1 else 0) := rfl
                have hhit : hitAt (p, q, r) (a, b, d) 0 y = (eqAt (p, q, r) (a, b, d) 0 y && eqAt (p, q, r) (a, b, d) ((0 + 1) % 3) ((y + 1) % 3)) := rfl
                have Hstep := Lib.hid hstep
                have Hhit := Lib.hid hhit
                clear hcy hB3 hstep hhit
                have hyy : y = 0 ∨ y = 1 ∨ y = 2 := by omega
                obtain ⟨cc, hcc⟩ : ∃ cc, cntX (p, q, r) (a, b, d) 0 + cntY (p, q, r) (a, b, d) 0 y = cc := ⟨_, rfl⟩
                have hcc9 : cc ≤ 12 := by omega
                have hR : ∀ (e : Bool), eqAt (p, q, r) (a, b, d) 0 y = e → hitAt (p, q, r) (a, b, d) 0 y = false → ∀ W, Below wA.heap.size wA W → ∃ y' : Nat, y' ≤ 3 ∧ Value.int .i64 ((y : Int) + 1) = .int .i64 y' ∧ Value.int .i64 (if e = true then (cc : Int) + 1 else cc) = .int .i64 ((cntX (p, q, r) (a, b, d) 0 + cntY (p, q, r) (a, b, d) 0 y' : Nat) : Int) ∧ calmY (p, q, r) (a, b, d) 0 y' ∧ Below wA.heap.size wA W := by
                  intro e he hh W hW
                  refine ⟨y + 1, by omega, by go_num, ?_, fun y' h => ?_, hW⟩
                  · rw [Hstep.out, he]
                    cases e
                    · simp only [Bool.false_eq_true, if_false]; rw [Nat.add_zero, hcc]
                    · simp only [if_true]; rw [← Nat.add_assoc, hcc]; simp
                  · rcases Nat.lt_or_ge y' y with h1 | h1
                    · exact HCy.out y' h1
                    · obtain rfl : y' = y := by omega
                      exact hh
                have hY : hitAt (p, q, r) (a, b, d) 0 y = true → fallsL (T.take n) (a, b, d) = true := fun hh => fallsL_mono (by omega) (Hft.out.trans (falls_hit hx3 hy3 hh))
                rw [hcc]
                have Hcc := Lib.hid hcc
                have HR := Lib.hid hR
                have HY := Lib.hid hY
                have HBB := Lib.hid (HB3.out.drew.drew)
                have hwlt := HB.out.size
                clear hcl hcl2 hcc hR hY
                rename World => wY
                cases hE : eqAt (p, q, r) (a, b, d) 0 y
                · have hh : hitAt (p, q, r) (a, b, d) 0 y = false := by rw [Hhit.out, hE]; rfl
                  have HRR := Lib.hid (HR.out false hE hh)
                  clear hh Hhit HY
                  rcases hyy with rfl | rfl | rfl
                  all_goals
                    simp only [eqAt, nth3] at hE
                    go_wp2
                    go_region
                    go_wp2
                    go_region
                    go_wp2
                    go_roundw
                    case measure => simp [intOf]
                    case rel => exact HRR.out _ HBB.out
                · cases hE2 : eqAt (p, q, r) (a, b, d) ((0 + 1) % 3) ((y + 1) % 3)
                  · have hh : hitAt (p, q, r) (a, b, d) 0 y = false := by rw [Hhit.out, hE, hE2]; rfl
                    have HRR := Lib.hid (HR.out true hE hh)
                    clear hh Hhit HY
                    rcases hyy with rfl | rfl | rfl
                    all_goals
                      simp only [eqAt, nth3, Nat.reduceAdd, Nat.reduceMod] at hE hE2
                      go_wp2
                      go_region
                      go_wp2
                      go_region
                      go_wp2
                      go_roundw
                      case measure => simp [intOf]
                      case rel => exact HRR.out _ HBB.out
                  · have hh : hitAt (p, q, r) (a, b, d) 0 y = true := by rw [Hhit.out, hE, hE2]; rfl
                    have HYY := Lib.hid (HY.out hh)
                    clear hh Hhit HR
                    rcases hyy with rfl | rfl | rfl
                    all_goals
                      simp only [eqAt, nth3, Nat.reduceAdd, Nat.reduceMod] at hE hE2
                      go_wp2
                      go_region
                      go_wp2
                      go_region
                      go_wp2
                      go_ret
                      exact ⟨by rw [HYY.out]; rfl, below_on HB.out HB.out.size HBB.out⟩
              · obtain rfl : y = 3 := by omega
                have HCy := Lib.hid hcy
                have HB3 := Lib.hid hB3
                clear hcy hB3
                go_wp2
                go_roundw
                case measure => simp [intOf]
                case rel =>
                  refine ⟨0 + 1, by omega, by go_num, rfl, fun x' h => ?_, HB3.out⟩
                  rcases Nat.lt_or_ge x' 0 with h1 | h1
                  · exact HCx.out x' h1
                  · obtain rfl : x' = 0 := by omega
                    exact HCy.out
          · push_cast
            go_wp2
            go_loopw [6, 8] (fun sv yv w3 => ∃ y : Nat, y ≤ 3 ∧ yv = .int .i64 y ∧ sv = .int .i64 ((cntX (p, q, r) (a, b, d) 1 + cntY (p, q, r) (a, b, d) 1 y : Nat) : Int) ∧ calmY (p, q, r) (a, b, d) 1 y ∧ Below wA.heap.size wA w3) (fun _ yv _ => 3 - (intOf yv).toNat)
            case atStart => exact ⟨0, by omega, rfl, rfl, fun y' h => by omega, HB2.out⟩
            case round =>
              obtain ⟨y, hy, rfl, rfl, hcy, hB3⟩ := hrel
              by_cases hy3 : y < 3
              · have hcl2 := cntY_le (p, q, r) (a, b, d) 1 y
                have HCy := Lib.hid hcy
                have HB3 := Lib.hid hB3
                have s0 := (HB3.out.cell (p := ⟨g, k * 3, none⟩) hgr).trans S0.out
                have s1 := (HB3.out.cell (p := ⟨g, k * 3 + 1, none⟩) hgr).trans S1.out
                have s2 := (HB3.out.cell (p := ⟨g, k * 3 + 2, none⟩) hgr).trans S2.out
                obtain ⟨l0, e0, -, e1, -, e2, -⟩ := (HBk.out.below HB3.out hwr).three
                have hstep : cntY (p, q, r) (a, b, d) 1 (y + 1) = cntY (p, q, r) (a, b, d) 1 y + (if eqAt (p, q, r) (a, b, d) 1 y = true then 1 else 0) := rfl
                have hhit : hitAt (p, q, r) (a, b, d) 1 y = (eqAt (p, q, r) (a, b, d) 1 y && eqAt (p, q, r) (a, b, d) ((1 + 1) % 3) ((y + 1) % 3)) := rfl
                have Hstep := Lib.hid hstep
                have Hhit := Lib.hid hhit
                clear hcy hB3 hstep hhit
                have hyy : y = 0 ∨ y = 1 ∨ y = 2 := by omega
                obtain ⟨cc, hcc⟩ : ∃ cc, cntX (p, q, r) (a, b, d) 1 + cntY (p, q, r) (a, b, d) 1 y = cc := ⟨_, rfl⟩
                have hcc9 : cc ≤ 12 := by omega
                have hR : ∀ (e : Bool), eqAt (p, q, r) (a, b, d) 1 y = e → hitAt (p, q, r) (a, b, d) 1 y = false → ∀ W, Below wA.heap.size wA W → ∃ y' : Nat, y' ≤ 3 ∧ Value.int .i64 ((y : Int) + 1) = .int .i64 y' ∧ Value.int .i64 (if e = true then (cc : Int) + 1 else cc) = .int .i64 ((cntX (p, q, r) (a, b, d) 1 + cntY (p, q, r) (a, b, d) 1 y' : Nat) : Int) ∧ calmY (p, q, r) (a, b, d) 1 y' ∧ Below wA.heap.size wA W := by
                  intro e he hh W hW
                  refine ⟨y + 1, by omega, by go_num, ?_, fun y' h => ?_, hW⟩
                  · rw [Hstep.out, he]
                    cases e
                    · simp only [Bool.false_eq_true, if_false]; rw [Nat.add_zero, hcc]
                    · simp only [if_true]; rw [← Nat.add_assoc, hcc]; simp
                  · rcases Nat.lt_or_ge y' y with h1 | h1
                    · exact HCy.out y' h1
                    · obtain rfl : y' = y := by omega
                      exact hh
                have hY : hitAt (p, q, r) (a, b, d) 1 y = true → fallsL (T.take n) (a, b, d) = true := fun hh => fallsL_mono (by omega) (Hft.out.trans (falls_hit hx3 hy3 hh))
                rw [hcc]
                have Hcc := Lib.hid hcc
                have HR := Lib.hid hR
                have HY := Lib.hid hY
                have HBB := Lib.hid (HB3.out.drew.drew)
                have hwlt := HB.out.size
                clear hcl hcl2 hcc hR hY
                rename World => wY
                cases hE : eqAt (p, q, r) (a, b, d) 1 y
                · have hh : hitAt (p, q, r) (a, b, d) 1 y = false := by rw [Hhit.out, hE]; rfl
                  have HRR := Lib.hid (HR.out false hE hh)
                  clear hh Hhit HY
                  rcases hyy with rfl | rfl | rfl
                  all_goals
                    simp only [eqAt, nth3] at hE
                    go_wp2
                    go_region
                    go_wp2
                    go_region
                    go_wp2
                    go_roundw
                    case measure => simp [intOf]
                    case rel => exact HRR.out _ HBB.out
                · cases hE2 : eqAt (p, q, r) (a, b, d) ((1 + 1) % 3) ((y + 1) % 3)
                  · have hh : hitAt (p, q, r) (a, b, d) 1 y = false := by rw [Hhit.out, hE, hE2]; rfl
                    have HRR := Lib.hid (HR.out true hE hh)
                    clear hh Hhit HY
                    rcases hyy with rfl | rfl | rfl
                    all_goals
                      simp only [eqAt, nth3, Nat.reduceAdd, Nat.reduceMod] at hE hE2
                      go_wp2
                      go_region
                      go_wp2
                      go_region
                      go_wp2
                      go_roundw
                      case measure => simp [intOf]
                      case rel => exact HRR.out _ HBB.out
                  · have hh : hitAt (p, q, r) (a, b, d) 1 y = true := by rw [Hhit.out, hE, hE2]; rfl
                    have HYY := Lib.hid (HY.out hh)
                    clear hh Hhit HR
                    rcases hyy with rfl | rfl | rfl
                    all_goals
                      simp only [eqAt, nth3, Nat.reduceAdd, Nat.reduceMod] at hE hE2
                      go_wp2
                      go_region
                      go_wp2
                      go_region
                      go_wp2
                      go_ret
                      exact ⟨by rw [HYY.out]; rfl, below_on HB.out HB.out.size HBB.out⟩
              · obtain rfl : y = 3 := by omega
                have HCy := Lib.hid hcy
                have HB3 := Lib.hid hB3
                clear hcy hB3
                go_wp2
                go_roundw
                case measure => simp [intOf]
                case rel =>
                  refine ⟨1 + 1, by omega, by go_num, rfl, fun x' h => ?_, HB3.out⟩
                  rcases Nat.lt_or_ge x' 1 with h1 | h1
                  · exact HCx.out x' h1
                  · obtain rfl : x' = 1 := by omega
                    exact HCy.out
          · push_cast
            go_wp2
            go_loopw [6, 8] (fun sv yv w3 => ∃ y : Nat, y ≤ 3 ∧ yv = .int .i64 y ∧ sv = .int .i64 ((cntX (p, q, r) (a, b, d) 2 + cntY (p, q, r) (a, b, d) 2 y : Nat) : Int) ∧ calmY (p, q, r) (a, b, d) 2 y ∧ Below wA.heap.size wA w3) (fun _ yv _ => 3 - (intOf yv).toNat)
            case atStart => exact ⟨0, by omega, rfl, rfl, fun y' h => by omega, HB2.out⟩
            case round =>
              obtain ⟨y, hy, rfl, rfl, hcy, hB3⟩ := hrel
              by_cases hy3 : y < 3
              · have hcl2 := cntY_le (p, q, r) (a, b, d) 2 y
                have HCy := Lib.hid hcy
                have HB3 := Lib.hid hB3
                have s0 := (HB3.out.cell (p := ⟨g, k * 3, none⟩) hgr).trans S0.out
                have s1 := (HB3.out.cell (p := ⟨g, k * 3 + 1, none⟩) hgr).trans S1.out
                have s2 := (HB3.out.cell (p := ⟨g, k * 3 + 2, none⟩) hgr).trans S2.out
                obtain ⟨l0, e0, -, e1, -, e2, -⟩ := (HBk.out.below HB3.out hwr).three
                have hstep : cntY (p, q, r) (a, b, d) 2 (y + 1) = cntY (p, q, r) (a, b, d) 2 y + (if eqAt (p, q, r) (a, b, d) 2 y = true then 1 else 0) := rfl
                have hhit : hitAt (p, q, r) (a, b, d) 2 y = (eqAt (p, q, r) (a, b, d) 2 y && eqAt (p, q, r) (a, b, d) ((2 + 1) % 3) ((y + 1) % 3)) := rfl
                have Hstep := Lib.hid hstep
                have Hhit := Lib.hid hhit
                clear hcy hB3 hstep hhit
                have hyy : y = 0 ∨ y = 1 ∨ y = 2 := by omega
                obtain ⟨cc, hcc⟩ : ∃ cc, cntX (p, q, r) (a, b, d) 2 + cntY (p, q, r) (a, b, d) 2 y = cc := ⟨_, rfl⟩
                have hcc9 : cc ≤ 12 := by omega
                have hR : ∀ (e : Bool), eqAt (p, q, r) (a, b, d) 2 y = e → hitAt (p, q, r) (a, b, d) 2 y = false → ∀ W, Below wA.heap.size wA W → ∃ y' : Nat, y' ≤ 3 ∧ Value.int .i64 ((y : Int) + 1) = .int .i64 y' ∧ Value.int .i64 (if e = true then (cc : Int) + 1 else cc) = .int .i64 ((cntX (p, q, r) (a, b, d) 2 + cntY (p, q, r) (a, b, d) 2 y' : Nat) : Int) ∧ calmY (p, q, r) (a, b, d) 2 y' ∧ Below wA.heap.size wA W := by
                  intro e he hh W hW
                  refine ⟨y + 1, by omega, by go_num, ?_, fun y' h => ?_, hW⟩
                  · rw [Hstep.out, he]
                    cases e
                    · simp only [Bool.false_eq_true, if_false]; rw [Nat.add_zero, hcc]
                    · simp only [if_true]; rw [← Nat.add_assoc, hcc]; simp
                  · rcases Nat.lt_or_ge y' y with h1 | h1
                    · exact HCy.out y' h1
                    · obtain rfl : y' = y := by omega
                      exact hh
                have hY : hitAt (p, q, r) (a, b, d) 2 y = true → fallsL (T.take n) (a, b, d) = true := fun hh => fallsL_mono (by omega) (Hft.out.trans (falls_hit hx3 hy3 hh))
                rw [hcc]
                have Hcc := Lib.hid hcc
                have HR := Lib.hid hR
                have HY := Lib.hid hY
                have HBB := Lib.hid (HB3.out.drew.drew)
                have hwlt := HB.out.size
                clear hcl hcl2 hcc hR hY
                rename World => wY
                cases hE : eqAt (p, q, r) (a, b, d) 2 y
                · have hh : hitAt (p, q, r) (a, b, d) 2 y = false := by rw [Hhit.out, hE]; rfl
                  have HRR := Lib.hid (HR.out false hE hh)
                  clear hh Hhit HY
                  rcases hyy with rfl | rfl | rfl
                  all_goals
                    simp only [eqAt, nth3] at hE
                    go_wp2
                    go_region
                    go_wp2
                    go_region
                    go_wp2
                    go_roundw
                    case measure => simp [intOf]
                    case rel => exact HRR.out _ HBB.out
                · cases hE2 : eqAt (p, q, r) (a, b, d) ((2 + 1) % 3) ((y + 1) % 3)
                  · have hh : hitAt (p, q, r) (a, b, d) 2 y = false := by rw [Hhit.out, hE, hE2]; rfl
                    have HRR := Lib.hid (HR.out true hE hh)
                    clear hh Hhit HY
                    rcases hyy with rfl | rfl | rfl
                    all_goals
                      simp only [eqAt, nth3, Nat.reduceAdd, Nat.reduceMod] at hE hE2
                      go_wp2
                      go_region
                      go_wp2
                      go_region
                      go_wp2
                      go_roundw
                      case measure => simp [intOf]
                      case rel => exact HRR.out _ HBB.out
                  · have hh : hitAt (p, q, r) (a, b, d) 2 y = true := by rw [Hhit.out, hE, hE2]; rfl
                    have HYY := Lib.hid (HY.out hh)
                    clear hh Hhit HR
                    rcases hyy with rfl | rfl | rfl
                    all_goals
                      simp only [eqAt, nth3, Nat.reduceAdd, Nat.reduceMod] at hE hE2
                      go_wp2
                      go_region
                      go_wp2
                      go_region
                      go_wp2
                      go_ret
                      exact ⟨by rw [HYY.out]; rfl, below_on HB.out HB.out.size HBB.out⟩
              · obtain rfl : y = 3 := by omega
                have HCy := Lib.hid hcy
                have HB3 := Lib.hid hB3
                clear hcy hB3
                go_wp2
                go_roundw
                case measure => simp [intOf]
                case rel =>
                  refine ⟨2 + 1, by omega, by go_num, rfl, fun x' h => ?_, HB3.out⟩
                  rcases Nat.lt_or_ge x' 2 with h1 | h1
                  · exact HCx.out x' h1
                  · obtain rfl : x' = 2 := by omega
                    exact HCy.out
        · obtain rfl : x = 3 := by omega
          have hf1 := falls_calm hcx
          have HB2 := Lib.hid hB2
          have hcl := cntX_le (p, q, r) (a, b, d) 3
          have Hf1 := Lib.hid hf1
          clear hcx hB2 hf1
          have HBB := Lib.hid (below_on HB.out HB.out.size HB2.out)
          have HBL := Lib.hid (HBk.out.below HB2.out hwr)
          obtain ⟨c3, hc3⟩ : ∃ c3, cntX (p, q, r) (a, b, d) 3 = c3 := ⟨_, rfl⟩
          rw [hc3] at Hf1 hcl ⊢
          by_cases h3 : c3 = 3
          · have hbt : ((c3 : Int) == 3) = true := by simp; omega
            have hft : fallsL (T.take n) (a, b, d) = true := fallsL_mono (show k + 1 ≤ n by omega) (by rw [Hft.out, Hf1.out]; simp [h3])
            have HFT := Lib.hid hft
            clear h3 hft hc3
            go_wp2
            go_ret
            exact ⟨by rw [HFT.out]; rfl, HBB.out⟩
          · have hbf : ((c3 : Int) == 3) = false := by simp; omega
            have hft : fallsL (T.take (k + 1)) (a, b, d) = false := by rw [Hft.out, Hf1.out]; simp [h3]
            have HFT := Lib.hid hft
            clear h3 hft hc3
            go_wp2
            go_roundw
            case measure => simp [intOf]; omega
            case rel => exact ⟨k + 1, by omega, by go_num, HFT.out, HBL.out, HBB.out⟩
    · obtain rfl : k = n := by omega
      have Hno := Lib.hid hno
      have HB := Lib.hid hB
      clear hno hB
      go_wp2
      go_ret
      exact ⟨by rw [Hno.out]; rfl, HB.out⟩
end Go.Proofs.Ytgjcigokjfhfkaa
