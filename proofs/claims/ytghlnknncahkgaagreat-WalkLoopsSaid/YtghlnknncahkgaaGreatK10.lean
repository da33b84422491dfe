/-
  Texts joined by program: F21 Insert Way StpC WayS StpL StpR.
-/
import Derived.Test.YtghlnknncahkgaaGreatK9
import Derived.Lib.QuietBelow
import Derived.Test.YtghlnknncahkgaaGreatK1
import Derived.Lib.Hide
import Derived.Shelf.Spec.SlicesInsert
import Derived.Shelf.Spec.SlicesInsertGrow
import Derived.Test.YtghlnknncahkgaaGreatK8
import Derived.Test.YtghlnknncahkgaaGreatK2
import Derived.Test.YtghlnknncahkgaaGreatK7
import Derived.BigQuiet
import Derived.Deep.RegionHeld3
import Derived.Test.YtghlnknncahkgaaGreatShelf
import Derived.Deep.AppendLies
import Derived.Deep.RegionLaw
/-
  gypsumref21.Edges, Simple, by walking their texts: the document's word for a simple surface.
-/
namespace Go.Proofs.YtghlnknncahkgaaGreat
open Go.RowKit Go.Maps

/-- Who faces the edge behind a corner, the other way round. -/
def fc (T : List Tr) (i k : Nat) : Int := facI T (tv (trs T i) ((k + 1) % 3), tv (trs T i) k)
theorem fc_opp {T : List Tr} {i k : Nat} (hi : i < T.length) (hk : k < 3) : fc T i k = oppI T ((3 * i + (k + 2) % 3 : Nat) : Int) := by
  have hc : 3 * i + (k + 2) % 3 < 3 * T.length := by omega
  have e1 : edgeI T ((3 * i + (k + 2) % 3 : Nat) : Int) = edgeN T (3 * i + (k + 2) % 3) := edgeI_nat hc
  unfold oppI fc
  rw [e1]
  unfold edgeN
  have a0 : Jor.nx (3 * i + (k + 2) % 3) = 3 * i + k := by unfold Jor.nx; omega
  have b0 : Jor.pv (3 * i + (k + 2) % 3) = 3 * i + (k + 1) % 3 := by unfold Jor.pv; omega
  rw [a0, b0, tv_vert (by omega), tv_vert hk]
theorem closed_fc {T : List Tr} : ClosedT T ↔ ∀ i, i < T.length → ∀ k, k < 3 → 0 ≤ fc T i k := by
  constructor
  · intro h i hi k hk
    rw [fc_opp hi hk]
    exact h _ (by omega)
  · intro h c hc
    have := h (c / 3) (by omega) ((c % 3 + 1) % 3) (by omega)
    rw [fc_opp (by omega) (by omega)] at this
    have e : 3 * (c / 3) + ((c % 3 + 1) % 3 + 2) % 3 = c := by omega
    rw [e] at this
    exact this
/-- The flag, while it is looked at. -/
def Clo (T : List Tr) (i k : Nat) (b : Bool) : Prop := b = true ↔ (∀ i', i' < i → ∀ k, k < 3 → 0 ≤ fc T i' k) ∧ ∀ k', k' < k → 0 ≤ fc T i k'
theorem Clo.start (T : List Tr) : Clo T 0 0 true := ⟨fun _ => ⟨fun _ h => absurd h (by omega), fun _ h => absurd h (by omega)⟩, fun _ => rfl⟩
theorem Clo.row {T : List Tr} {i : Nat} {b : Bool} (h : Clo T i 3 b) : Clo T (i + 1) 0 b := by
  unfold Clo at h ⊢
  rw [h]
  constructor
  · rintro ⟨h1, h2⟩
    refine ⟨fun i' hi' k hk => ?_, fun _ h => absurd h (by omega)⟩
    rcases Nat.lt_or_ge i' i with e | e
    · exact h1 i' e k hk
    · obtain rfl : i' = i := by omega
      exact h2 k hk
  · rintro ⟨h1, -⟩
    exact ⟨fun i' hi' => h1 i' (by omega), fun k' hk' => h1 i (by omega) k' hk'⟩
theorem Clo.good {T : List Tr} {i k : Nat} {b : Bool} (h : Clo T i k b) (h0 : 0 ≤ fc T i k) : Clo T i (k + 1) b := by
  unfold Clo at h ⊢
  rw [h]
  constructor
  · rintro ⟨h1, h2⟩
    refine ⟨h1, fun k' hk' => ?_⟩
    rcases Nat.lt_or_ge k' k with e | e
    · exact h2 k' e
    · obtain rfl : k' = k := by omega
      exact h0
  · rintro ⟨h1, h2⟩
    exact ⟨h1, fun k' hk' => h2 k' (by omega)⟩
theorem Clo.bad {T : List Tr} {i k : Nat} (h0 : fc T i k < 0) : Clo T i (k + 1) false := by
  refine ⟨fun h => (by cases h), fun ⟨_, h2⟩ => ?_⟩
  have := h2 k (by omega)
  omega
set_option maxRecDepth 100000 in
set_option maxHeartbeats 8000000 in
theorem edges21_any (N : Int) (v : Value) (T : List Tr) (w : World) (h : TrisRd w v T) (hl : T.length ≤ 40) : Calls Tryz.prog 53 #[.agg #[.int .i64 N, v]] w fun e w' =>
    ∃ b : Bool, e = .returned (.tuple #[.int .i64 ((T.length : Int) * 3 / 2), .bool b]) ∧ (b = true ↔ ClosedT T) ∧ Below w.heap.size w w' := by
  have b1 := Blk.new w 24 #[.int .i64 N, v]
  have hB0 : Below w.heap.size w (w.alloc (.cells #[.int .i64 N, v] 24)) := (Below.refl _ _).alloc (Nat.le_refl _) _
  have HF := Lib.hid (fun (W : World) (a b : Int) (hW : Below w.heap.size w W) => facing21_any N a b v T W (h.below hW) (by omega))
  obtain ⟨ad, c, rfl, hc1, hc2, hr⟩ := h
  have HRr : Hid (∀ i, i < T.length → ∃ x y z b o, trs T i = (x, y, z) ∧ ad = some ⟨b, o, none⟩ ∧ b < w.heap.size ∧ w.cell? ⟨b, o + i * 3, none⟩ = some (.int .i64 x) ∧ w.cell? ⟨b, o + i * 3 + 1, none⟩ = some (.int .i64 y) ∧ w.cell? ⟨b, o + i * 3 + 2, none⟩ = some (.int .i64 z)) := Lib.hid (fun i hi => by
    obtain ⟨⟨x, y, z⟩, ht⟩ : ∃ t, T[i]? = some t := ⟨T[i], List.getElem?_eq_getElem _⟩
    obtain ⟨b, o, e, hb, s0, s1, s2⟩ := hr i x y z ht
    exact ⟨x, y, z, b, o, by unfold trs; rw [List.getD_eq_getElem?_getD, ht]; rfl, e, hb, s0, s1, s2⟩)
  have HCl := Lib.hid (closed_fc (T := T))
  obtain ⟨n, hn⟩ : ∃ n, T.length = n := ⟨_, rfl⟩
  rw [hn] at hl hc1 hB0 b1 HRr HF HCl ⊢
  have HB0 := Lib.hid hB0
  have Hb1 := Lib.hid b1
  obtain ⟨l0, x0, -, x1, -⟩ := b1.two
  clear hr hn b1 hB0
  go_enter Tryz.func53, Tryz.ntmps53
  go_wp2
  go_loopw [4, 5] (fun v4 i wr => ∃ (k : Nat) (b : Bool), k ≤ n ∧ i = .int .i64 k ∧ v4 = .bool b ∧ Blk wr w.heap.size 24 #[.int .i64 N, .slice ad n c] ∧ Below w.heap.size w wr ∧ Clo T k 0 b) (fun _ i _ => n - (intOf i).toNat)
  case atStart => exact ⟨0, true, Nat.zero_le _, rfl, rfl, Hb1.out, HB0.out, Clo.start T⟩
  case round =>
    obtain ⟨k, b, hk, rfl, rfl, hS, hB, hC⟩ := hrel
    rename World => wr
    clear x0 x1 l0
    obtain ⟨ls, s0, -, s1, -⟩ := hS.two
    have HS := Lib.hid hS
    have HB := Lib.hid hB
    have HC := Lib.hid hC
    have hsz := hB.size
    clear hS hB hC
    by_cases hlt : k < n
    · have hk3 : (k : Int) < (n : Int) := by omega
      have hk0 : (0 : Int) ≤ (k : Int) := by omega
      go_wp2
      go_loopw [4, 6] (fun v4 i wq => ∃ (j : Nat) (b : Bool), j ≤ 3 ∧ i = .int .i64 j ∧ v4 = .bool b ∧ Blk wq w.heap.size 24 #[.int .i64 N, .slice ad n c] ∧ Below w.heap.size w wq ∧ Clo T k j b) (fun _ i _ => 3 - (intOf i).toNat)
      case atStart => exact ⟨0, b, by omega, rfl, rfl, HS.out, HB.out, HC.out⟩
      case round =>
        clear s0 s1 ls hsz HS HB HC
        obtain ⟨j, b2, hj, rfl, rfl, hS, hB, hC⟩ := hrel
        rename World => wq
        obtain ⟨ls, s0, -, s1, -⟩ := hS.two
        have HS := Lib.hid hS
        have HB := Lib.hid hB
        have HC := Lib.hid hC
        have hsz := hB.size
        by_cases hj3 : j < 3
        · obtain ⟨x, y, z, bb, o, ht, rfl, hbl, r0, r1, r2⟩ := HRr.out k hlt
          have r0' := (hB.cell (p := ⟨bb, _, none⟩) hbl).trans r0
          have r1' := (hB.cell (p := ⟨bb, _, none⟩) hbl).trans r1
          have r2' := (hB.cell (p := ⟨bb, _, none⟩) hbl).trans r2
          have hbl2 : bb < wq.heap.size := by omega
          have HT := Lib.hid ht
          clear r0 r1 r2 hS hB hC ht
          have hfc : ∃ z0 : Int, facI T (tv (x, y, z) ((j + 1) % 3), tv (x, y, z) j) = z0 := ⟨_, rfl⟩
          obtain ⟨z0, hz0⟩ := hfc
          have HZ : Hid (fc T k j = z0) := Lib.hid (by unfold fc; rw [HT.out]; exact hz0)
          have HF1 := Lib.hid (fun (W : World) (hW : Below w.heap.size w W) => (show Calls Tryz.prog 55 #[.agg #[.int .i64 N, .slice (some ⟨bb, o, none⟩) n c], .int .i64 (tv (x, y, z) ((j + 1) % 3)), .int .i64 (tv (x, y, z) j)] W fun e w' => e = .returned (.int .i64 z0) ∧ Below W.heap.size W w' from by rw [← hz0]; exact HF.out W _ _ hW))
          clear hz0
          have m1 : (1 : Int).tmod 3 = 1 := by decide
          have m2 : (2 : Int).tmod 3 = 2 := by decide
          have m3 : (3 : Int).tmod 3 = 0 := by decide
          go_upto_region 8 with fail
          go_cut [36] (fun v36 W => v36 = .bool (decide (z0 < 0)) ∧ Below wq.heap.size wq W)
          case first =>
            rcases (by omega : j = 0 ∨ j = 1 ∨ j = 2) with rfl | rfl | rfl <;> simp only [tv0, tv1, tv2, Nat.reduceAdd, Nat.reduceMod] at HF1
            all_goals
              have d0 := cell_regrown s0
              have d1 := cell_regrown s1
              have d2 := cell_regrown r0'
              have d3 := cell_regrown r1'
              have d4 := cell_regrown r2'
              push_cast
              refine wp_region_quiet_below (by kernel_rfl) (by kernel_rfl) ?_
              repeat (go_big_quiet_step ((go_at_call 55; exact Calls.regrown_of (HF1.out _ (HB.out.trans ((below_regrown _ _ _).mono HB.out.size))))))
              refine wpQuiet_nil ?_
              intro _ hw'
              obtain ⟨⟨dq, osq⟩, hw''⟩ := hw'
              have hb3 := below_regrown wq dq osq
              subst hw''
              generalize Sort.grow (redrawn wq dq) osq = w3 at *
              go_wp2_with fail
              go_meet
              exact ⟨rfl, hb3⟩
          case rest =>
            obtain ⟨rfl, hbC⟩ := hcut
            have HSc := Lib.hid (HS.out.below hbC ls)
            have HBc := Lib.hid (HB.out.trans (hbC.mono hsz))
            clear hbC s0 s1 r0' r1' r2' m1 m2 m3
            by_cases hz : z0 < 0
            · have HC2 := Lib.hid (Clo.bad (T := T) (i := k) (k := j) (by rw [HZ.out]; exact hz))
              go_wp2
              go_roundw
              case measure => simp [intOf]; omega
              case rel => exact ⟨j + 1, false, by omega, by go_num, rfl, HSc.out, HBc.out, HC2.out⟩
            · have HC2 := Lib.hid (HC.out.good (by rw [HZ.out]; omega))
              go_wp2
              go_roundw
              case measure => simp [intOf]; omega
              case rel => exact ⟨j + 1, b2, by omega, by go_num, rfl, HSc.out, HBc.out, HC2.out⟩
        · obtain rfl : j = 3 := by omega
          clear hS hB hC
          go_wp2
          go_roundw
          case measure => simp [intOf]; omega
          case rel => exact ⟨k + 1, b2, by omega, by go_num, rfl, HS.out, HB.out, HC.out.row⟩
    · obtain rfl : k = n := by omega
      have HI : Hid (b = true ↔ ClosedT T) := Lib.hid (by
        rw [HCl.out]
        have := HC.out
        unfold Clo at this
        rw [this]
        exact ⟨fun h => h.1, fun h => ⟨h, fun _ h => absurd h (by omega)⟩⟩)
      go_wp2
      go_ret2
      exact ⟨b, rfl, HI.out, HB.out⟩
set_option maxRecDepth 100000 in
set_option maxHeartbeats 2000000 in
theorem simple21_any (n : Nat) (v : Value) (T : List Tr) (w : World) (h : TrisRd w v T) (hl : T.length ≤ 40) (hn : n ≤ 4096) : Calls Tryz.prog 24 #[.agg #[.int .i64 (n : Int), v]] w fun e w' =>
    ∃ b : Bool, e = .returned (.bool b) ∧ (b = true ↔ SimR n T) ∧ Below w.heap.size w w' := by
  have b1 := Blk.new w 24 #[.int .i64 (n : Int), v]
  have hB0 : Below w.heap.size w (w.alloc (.cells #[.int .i64 (n : Int), v] 24)) := (Below.refl _ _).alloc (Nat.le_refl _) _
  have HE := Lib.hid (fun (W : World) (hW : Below w.heap.size w W) => edges21_any (n : Int) v T W (h.below hW) hl)
  have HO := Lib.hid (fun (W : World) (hW : Below w.heap.size w W) => of13_any (n : Int) v T W (h.below hW) hl)
  obtain ⟨ad, c, rfl, -, -, -⟩ := h
  have HD : Hid (SimR n T ↔ T.length ≠ 0 ∧ ClosedT T ∧ (n : Int) - (T.length : Int) * 3 / 2 + T.length = 2 ∧ Hang T.length (NbT T)) := Lib.hid (by unfold SimR; push_cast; exact Iff.rfl)
  obtain ⟨F, hF⟩ : ∃ F, T.length = F := ⟨_, rfl⟩
  rw [hF] at hl hB0 b1 HE HO HD
  have HB0 := Lib.hid hB0
  have Hb1 := Lib.hid b1
  rw [hF]
  obtain ⟨l0, x0, -, x1, -⟩ := b1.two
  clear hF b1 hB0
  go_enter Tryz.func24, Tryz.ntmps24
  go_wp2_with fail
  refine (HE.out _ HB0.out).mono ?_
  rintro e w1 ⟨b, rfl, hcl, hb1⟩
  have HS1 := Lib.hid (Hb1.out.below hb1 l0)
  have HB1 := Lib.hid (HB0.out.trans (hb1.mono HB0.out.size))
  have HCl := Lib.hid hcl
  clear hb1 x0 x1 l0 hcl
  obtain ⟨l0, x0, -, x1, -⟩ := HS1.out.two
  by_cases hF0 : F = 0
  · have hno := Lib.hid (show ¬ SimR n T from fun h => (HD.out.1 h).1 hF0)
    subst hF0
    go_wp2
    go_ret
    exact ⟨false, rfl, ⟨fun h => (by cases h), fun h => absurd h hno.out⟩, HB1.out⟩
  · have hFz : ((F : Int) == 0) = false := by simp; omega
    cases b
    · have hno := Lib.hid (show ¬ SimR n T from fun h => by have := HCl.out.2 (HD.out.1 h).2.1; cases this)
      clear hF0
      go_wp2
      go_ret
      exact ⟨false, rfl, ⟨fun h => (by cases h), fun h => absurd h hno.out⟩, HB1.out⟩
    · by_cases hE : (n : Int) - (F : Int) * 3 / 2 + F = 2
      · have hE2 : ((n : Int) - (F : Int) * 3 / 2 + F != 2) = false := by simpa using hE
        have HE2 := Lib.hid hE
        have HF0 := Lib.hid hF0
        clear hF0 hE
        go_wp2_with fail
        refine (HO.out _ HB1.out).mono ?_
        rintro e w2 ⟨v2, nums, rfl, hrow, hnl, hiff, hb2⟩
        have HB2 := Lib.hid (HB1.out.trans (hb2.mono HB1.out.size))
        have HI : Hid ((∀ j, j < F → gt nums j = 0) ↔ SimR n T) := Lib.hid (by
          rw [hiff (by have := HF0.out; omega), HD.out]
          exact ⟨fun h => ⟨HF0.out, HCl.out.1 (by first | rfl | trivial), HE2.out, h⟩, fun h => h.2.2.2⟩)
        obtain ⟨gO, cO, rfl, -, -⟩ := hrow.form (by have := HF0.out; omega)
        have HC : Hid (∀ i, i < F → w2.cell? ⟨gO, i, none⟩ = some (.int .i64 (gt nums i))) := Lib.hid (fun i hi => by
          rw [hrow.cellAt i (by omega), intsV, List.getElem?_map]
          have : i < nums.length := by omega
          rw [List.getElem?_eq_getElem this]
          unfold gt
          rw [List.getD_eq_getElem?_getD, List.getElem?_eq_getElem this]
          rfl)
        clear hrow hiff hb2 x0 x1 l0
        go_wp2
        go_loopw [6] (fun i W => ∃ k : Nat, k ≤ F ∧ i = .int .i64 k ∧ W = w2 ∧ ∀ j, j < k → gt nums j = 0) (fun i _ => F - (intOf i).toNat)
        case atStart => exact ⟨0, Nat.zero_le _, rfl, rfl, fun _ h => absurd h (by omega)⟩
        case round =>
          obtain ⟨k, hk, rfl, rfl, hz⟩ := hrel
          have HZ := Lib.hid hz
          clear hz
          by_cases hlt : k < F
          · have hk3 : (k : Int) < (F : Int) := by omega
            have hk0 : (0 : Int) ≤ (k : Int) := by omega
            have hc := HC.out k hlt
            obtain ⟨z, hz⟩ : ∃ z, gt nums k = z := ⟨_, rfl⟩
            rw [hz] at hc
            have Hz := Lib.hid hz
            clear hz
            by_cases z0 : z = 0
            · have z1 : (z != 0) = false := by simpa using z0
              have HZ2 := Lib.hid (show ∀ j, j < k + 1 → gt nums j = 0 from fun j hj => by
                rcases Nat.lt_or_ge j k with e | e
                · exact HZ.out j e
                · obtain rfl : j = k := by omega
                  rw [Hz.out, z0])
              clear z0
              go_wp2
              go_roundw
              case measure => simp [intOf]; omega
              case rel => exact ⟨k + 1, by omega, by go_num, by first | rfl | trivial, HZ2.out⟩
            · have z1 : (z != 0) = true := by simpa using z0
              have hno := Lib.hid (show ¬ SimR n T from fun h => z0 (by rw [← Hz.out]; exact HI.out.2 h k hlt))
              clear z0
              go_wp2
              go_ret
              exact ⟨false, rfl, ⟨fun h => (by cases h), fun h => absurd h hno.out⟩, HB2.out⟩
          · obtain rfl : k = F := by omega
            go_wp2
            go_ret
            exact ⟨true, rfl, ⟨fun _ => HI.out.1 HZ.out, fun _ => rfl⟩, HB2.out⟩
      · have hE2 : ((n : Int) - (F : Int) * 3 / 2 + F != 2) = true := by simpa using hE
        have hno := Lib.hid (show ¬ SimR n T from fun h => hE (HD.out.1 h).2.2.1)
        clear hF0 hE
        go_wp2
        go_ret
        exact ⟨false, rfl, ⟨fun h => (by cases h), fun h => absurd h hno.out⟩, HB1.out⟩
end Go.Proofs.YtghlnknncahkgaaGreat
/-
  slices.Insert of one number at place 1 of a row of the call's own.
-/
namespace Go.Proofs.YtghlnknncahkgaaGreat
open Go.RowKit

def insRen : Go.Shelf.Ren := ⟨fun | 21 => 86 | 27 => 111 | 28 => 112 | 35 => 129 | 39 => 147 | n => n, fun | 22 => 28 | 3 => 3 | 4 => 4 | n => n, fun | n => n⟩
theorem infoInt9 : (Tryz.prog.info? 3).map (fun i => (i.zero, i.size, i.bytes)) = some (some (.int .i64 0), 1, 8) := by kernel_rfl
theorem insLays : Go.Proofs.Lays2.n21 Tryz.prog insRen := {
  mixed := by kernel_rfl
  f21 := Tryz.func86.trans (congrArg some (by kernel_rfl))
  f27 := Tryz.func111.trans (congrArg some (by kernel_rfl))
  f28 := Tryz.func112.trans (congrArg some (by kernel_rfl))
  f35 := Tryz.func129.trans (congrArg some (by kernel_rfl))
  f39 := Tryz.func147.trans (congrArg some (by kernel_rfl))
  t0 := Tryz.underlying0
  a0 := Tryz.isAgg0
  z0 := Tryz.sizeOf0
  v0 := Tryz.zeroValue0
  t3 := Tryz.underlying3
  a3 := Tryz.isAgg3
  z3 := Tryz.sizeOf3
  v3 := Tryz.zeroValue3
  t4 := Tryz.underlying4
  a4 := Tryz.isAgg4
  z4 := Tryz.sizeOf4
  v4 := Tryz.zeroValue4
  t22 := Tryz.underlying28
  a22 := Tryz.isAgg28
  z22 := Tryz.sizeOf28
  v22 := Tryz.zeroValue28
  i3 := infoInt9 }

/-! Cells stored one behind the other. -/
theorem setCells_row {g : Nat} {t : TypeId} {fr : Nat × Nat} : ∀ (vs : List Value) (o : Nat) (w : World) (C : List Value), w.heap[g]? = some (.cells C.toArray t fr) → o + vs.length ≤ C.length → (w.setCells g o vs).heap[g]? = some (.cells (C.take o ++ vs ++ C.drop (o + vs.length)).toArray t fr)
  | [], o, w, C, h, _ => by
    rw [World.setCells, h]
    simp
  | v :: vs, o, w, C, h, hl => by
    rw [World.setCells]
    simp only [List.length_cons] at hl
    have h1 : (w.setCell ⟨g, o, none⟩ v).heap[g]? = some (.cells (C.set o v).toArray t fr) := by
      simp [World.setCell, Array.getElem?_modify, h]
    rw [setCells_row vs (o + 1) _ _ h1 (by simp; omega)]
    have e1 : (C.set o v).take (o + 1) = C.take o ++ [v] := by
      rw [List.take_succ_eq_append_getElem (by simp; omega), List.take_set, List.set_eq_of_length_le (by rw [List.length_take]; omega)]
      simp
    have e2 : (C.set o v).drop (o + 1 + vs.length) = C.drop (o + (v :: vs).length) := by
      rw [List.drop_set_of_lt (by omega)]
      congr 1
      simp only [List.length_cons]
      omega
    rw [e1, e2]
    simp
theorem setCells_row2 {g : Nat} {t : TypeId} {fr : Nat × Nat} (vs us : List Value) (o p : Nat) (w : World) (C : List Value) (h : w.heap[g]? = some (.cells C.toArray t fr)) (h1 : o + vs.length ≤ C.length) (h2 : p + us.length ≤ C.length) :
    ((w.setCells g o vs).drew.setCells g p us).heap[g]? = some (.cells ((C.take o ++ vs ++ C.drop (o + vs.length)).take p ++ us ++ (C.take o ++ vs ++ C.drop (o + vs.length)).drop (p + us.length)).toArray t fr) :=
  setCells_row us p (w.setCells g o vs).drew (C.take o ++ vs ++ C.drop (o + vs.length)) (setCells_row vs o w C h h1) (by simp only [List.length_append, List.length_take, List.length_drop]; omega)
theorem gSets {w : World} {row : Option Nat} {g : Nat} (hp : row = some g ∨ w.heap.size ≤ g) : ∀ (vs : List Value) (o : Nat) (a : World), w.grownBy a row → w.grownBy (a.setCells g o vs) row
  | [], _, _, h => h
  | v :: vs, o, a, h => by
    rw [World.setCells]
    exact gSets hp vs (o + 1) _ (gSt h hp)
theorem setCells_size (g : Nat) : ∀ (vs : List Value) (o : Nat) (w : World), (w.setCells g o vs).heap.size = w.heap.size
  | [], _, _ => rfl
  | v :: vs, o, w => by
    rw [World.setCells, setCells_size g vs]
    simp [World.setCell]
set_option maxRecDepth 100000 in
theorem insert_any (base b : Nat) (vL : Value) (a v : Int) (l : List Int) (w : World) (h : w.ownsRow base 3 1 vL (l.length + 1) ((a :: l).map (Value.int .i64))) (hl : 0 < l.length) (hlen : l.length ≤ 100000) (hb : Blk w b 3 #[.int .i64 v]) (hne : vL.ownBlock ≠ some b) (hbase : base ≤ w.heap.size) :
    Calls Tryz.prog 86 #[vL, .int .i64 1, .slice (some ⟨b, 0, none⟩) 1 1] w fun e w' => ∃ v', e = .returned v' ∧ w'.ownsRow base 3 1 v' (l.length + 2) ((a :: v :: l).map (Value.int .i64)) ∧ w.grownBy w' vL.ownBlock ∧ (v'.ownBlock = vL.ownBlock ∨ ∃ g, v'.ownBlock = some g ∧ w.heap.size ≤ g) := by
  rcases h.2 with ⟨_, e0⟩ | ⟨g, cap, cur, rfl, hg0, hg, hn, hcm, hcs, hct⟩
  · omega
  have hgb : b ≠ g := fun e => hne (by rw [e]; rfl)
  have hgl : g < w.heap.size := (Array.getElem?_eq_some_iff.1 hg).1
  obtain ⟨C⟩ := cur
  simp only [Nat.mul_one, List.size_toArray] at hcs hct
  have hC : C.take (l.length + 1) = (a :: l).map (Value.int .i64) := by simpa using hct
  have hcell : ∀ j u, ((a :: l).map (Value.int .i64))[j]? = some u → w.cell? ⟨g, 0 + j, none⟩ = some u := by
    intro j u hj
    rw [Nat.zero_add, cell_of_row w g j _ _ _ hg]
    rw [← hC] at hj
    have hj2 := (List.getElem?_eq_some_iff.1 hj).1
    rw [List.length_take] at hj2
    rw [List.getElem?_take_of_lt (by omega)] at hj
    simpa using hj
  have hv : ∀ j u, [Value.int .i64 v][j]? = some u → w.cell? ⟨b, 0 + j, none⟩ = some u := by
    intro j u hj
    rw [Nat.zero_add, hb.cell]
    simpa using hj
  have h1c : ∀ u ∈ (a :: l).map (Value.int .i64), u.oneCell' = true := by
    intro u hu
    obtain ⟨x, _, rfl⟩ := List.mem_map.1 hu
    rfl
  have h1v : ∀ u ∈ [Value.int .i64 v], u.oneCell' = true := by
    intro u hu
    rw [List.mem_singleton.1 hu]
    rfl
  by_cases hroom : l.length + 1 + 1 ≤ cap
  · refine (Any2.slices_Insert_int_shift insLays g 0 (l.length + 1) cap 1 b 0 1 1 ((a :: l).map (Value.int .i64)) [.int .i64 v] w (by omega) (by omega) hroom (by unfold maxLen at hcm; omega) hgb (by simp) rfl hcell
      (fun j hj => by rw [Nat.zero_add, cell_of_row w g j _ _ _ hg]; simp; omega) (fun j _ => by simp [World.frozen?, hg]) hv h1c h1v 3 3 1 cap (by unfold Blk at hb; simp [World.shape?, hb]) (by simp [World.shape?, hg, hcs]) (by omega) (hb.frozen 0) (hb.frozen 1)).mono ?_
    rintro e w' ⟨rfl, rfl⟩
    have h1 := setCells_row ((((a :: l).map (Value.int .i64))).drop 1) (0 + (1 + 1)) w.drew C hg (by simp; omega)
    have h2 := setCells_row [Value.int .i64 v] (0 + 1) _ _ h1 (by simp; omega)
    refine ⟨_, rfl, ⟨by simp, .inr ⟨g, cap, _, rfl, hg0, h2, hroom, hcm, ?_, ?_⟩⟩, gSets (.inl rfl) _ _ _ (gSets (.inl rfl) _ _ _ (gDrew (World.grownBy.refl _ _))), .inl rfl⟩
    · simp
      omega
    · simp only [List.map_cons, List.drop_succ_cons, List.drop_zero, Nat.zero_add, List.length_cons, List.length_nil, Nat.mul_one]
      obtain ⟨c0, C', rfl⟩ : ∃ c0 C', C = c0 :: C' := List.exists_cons_of_ne_nil (by rintro rfl; simp at hcs; omega)
      simp only [List.take_succ_cons, List.map_cons, List.cons.injEq] at hC
      obtain ⟨rfl, hC'⟩ := hC
      obtain ⟨c1, C'', rfl⟩ : ∃ c1 C'', C' = c1 :: C'' := List.exists_cons_of_ne_nil (by rintro rfl; simp at hcs; omega)
      simp
  · refine (Any2.slices_Insert_int_grow insLays g 0 (l.length + 1) cap 1 b 0 1 1 ((a :: l).map (Value.int .i64)) [.int .i64 v] w (by omega) (by omega) hn (by omega) (by omega) (by simp) rfl hcell hv h1c h1v).mono ?_
    rintro e w' ⟨rfl, rfl⟩
    obtain ⟨k, hk⟩ : ∃ k, grownCap w (l.length + 1 + 1) cap (insRen.t 3) = k := ⟨_, rfl⟩
    have hk1 : l.length + 1 + 1 ≤ k := by rw [← hk]; exact grownCap_ge ..
    have hk2 : k ≤ maxLen := by rw [← hk]; exact grownCap_le_maxLen _ _ _ _ (by unfold maxLen; omega)
    rw [hk]
    have hz : ∀ n, (Builtin.zeroCells (Value.int .i64 0).cells n) = (List.replicate n (Value.int .i64 0)).toArray := by
      intro n
      apply Array.ext'
      simp [Builtin.zeroCells, Value.cells, Nat.mod_one, List.map_const']
    rw [hz, hz]
    have e0 : (List.take 1 ((a :: l).map (Value.int .i64))).toArray ++ (List.replicate (l.length + 1 + 1 - 1) (Value.int .i64 0)).toArray ++ (List.replicate (k - (l.length + 1 + 1)) (Value.int .i64 0)).toArray = (([Value.int .i64 a] ++ List.replicate (l.length + 1) (Value.int .i64 0)) ++ List.replicate (k - (l.length + 1 + 1)) (Value.int .i64 0)).toArray := by
      simp
    rw [e0]
    have h0 := heap_alloc_new w (.cells (([Value.int .i64 a] ++ List.replicate (l.length + 1) (Value.int .i64 0)) ++ List.replicate (k - (l.length + 1 + 1)) (Value.int .i64 0)).toArray (insRen.t 3))
    have h2 := setCells_row2 [Value.int .i64 v] ((((a :: l).map (Value.int .i64))).drop 1) 1 (1 + 1) (w.alloc (.cells (([Value.int .i64 a] ++ List.replicate (l.length + 1) (Value.int .i64 0)) ++ List.replicate (k - (l.length + 1 + 1)) (Value.int .i64 0)).toArray (insRen.t 3))).drew _ h0 (by simp; omega) (by simp; omega)
    refine ⟨_, rfl, ⟨by simp, .inr ⟨w.heap.size, k, _, rfl, hbase, h2, hk1, hk2, ?_, ?_⟩⟩, gSets (.inr (Nat.le_refl _)) _ _ _ (gDrew (gSets (.inr (Nat.le_refl _)) _ _ _ (gDrew (gAlloc (World.grownBy.refl _ _) _)))), .inr ⟨_, rfl, Nat.le_refl _⟩⟩
    · simp
      omega
    · simp
end Go.Proofs.YtghlnknncahkgaaGreat
/-
  A walk on its way, as it lies in memory.
-/
namespace Go.Proofs.YtghlnknncahkgaaGreat
open Go.RowKit

/-- Values own blocks of their own, each another one. -/
def Own2 (l : List Value) : Prop := (∀ v ∈ l, ∃ g, v.ownBlock = some g) ∧ (l.map Value.ownBlock).Nodup
theorem Own2.cons_new {l : List Value} (h : Own2 l) {v : Value} {g : Nat} (hv : v.ownBlock = some g) (hn : ∀ u ∈ l, ∀ j, u.ownBlock = some j → j ≠ g) : Own2 (v :: l) := by
  refine ⟨fun u hu => ?_, ?_⟩
  · rcases List.mem_cons.1 hu with rfl | hu
    · exact ⟨g, hv⟩
    · exact h.1 u hu
  · rw [List.map_cons, List.nodup_cons]
    refine ⟨fun hm => ?_, h.2⟩
    obtain ⟨u, hu, e⟩ := List.mem_map.1 hm
    exact hn u hu g (by rw [e, hv]) rfl
theorem Own2.tail {l : List Value} {v : Value} (h : Own2 (v :: l)) : Own2 l := ⟨fun u hu => h.1 u (List.mem_cons_of_mem _ hu), (List.nodup_cons.1 h.2).2⟩
theorem Own2.ne {l : List Value} {v u : Value} (h : Own2 (v :: l)) (hu : u ∈ l) : u.ownBlock ≠ v.ownBlock := fun e => (List.nodup_cons.1 h.2).1 (List.mem_map.2 ⟨u, hu, e⟩)
/-- Block b is a walk that is on its way; all that it owns lies at base or behind. -/
structure WayAt (w : World) (base g b : Nat) (vC vL vW : Value) (vs : List Value) (n : Nat) (s : WSt) : Prop where
  blk : Blk w b 145 #[.pointer (some ⟨g, 0, none⟩), vC, vL, vW]
  hb : base ≤ b
  C : ∃ bs, w.ownsRow base 4 1 vC n (bools bs) ∧ BitsOf bs n s.come
  L : w.ownsRow base 3 1 vL s.loop.length (intsV s.loop)
  W : w.ownsRow base 28 1 vW s.wait.length vs
  rows : ∀ (i : Nat) (u : Value) (r : List Int), vs[i]? = some u → s.wait[i]? = some r → w.ownsRow base 3 1 u r.length (intsV r)
  apart : Own2 (vL :: vs)
  nn : s.loop ≠ []
section
variable {w w' : World} {base g b n : Nat} {vC vL vW : Value} {vs : List Value} {s : WSt}
theorem WayAt.vlen (h : WayAt w base g b vC vL vW vs n s) : vs.length = s.wait.length := by
  have := h.W.1
  omega
theorem WayAt.ble (h : WayAt w base g b vC vL vW vs n s) : base ≤ w.heap.size := Nat.le_trans h.hb (Nat.le_of_lt h.blk.lt)
theorem WayAt.below (h : WayAt w base g b vC vL vW vs n s) (hb : Below w.heap.size w w') : WayAt w' base g b vC vL vW vs n s :=
  ⟨h.blk.below hb h.blk.lt, h.hb, by obtain ⟨bs, h1, h2⟩ := h.C; exact ⟨bs, own_below h1 hb, h2⟩, own_below h.L hb, own_below h.W hb, fun i u r hu hr => own_below (h.rows i u r hu hr) hb, h.apart, h.nn⟩
theorem WayAt.alloc (h : WayAt w base g b vC vL vW vs n s) (o : Obj) : WayAt (w.alloc o) base g b vC vL vW vs n s := h.below ((Below.refl _ _).alloc (Nat.le_refl _) _)
theorem WayAt.drew (h : WayAt w base g b vC vL vW vs n s) : WayAt w.drew base g b vC vL vW vs n s := h.below (Below.refl _ _).drew
/-- A block of another kind is written. -/
theorem WayAt.far (h : WayAt w base g b vC vL vW vs n s) {q j : Nat} {t : TypeId} {cs : Array Value} {u : Value} (hq : Blk w q t cs) (h1 : t ≠ 145) (h2 : t ≠ 4) (h3 : t ≠ 3) (h4 : t ≠ 28) : WayAt (w.setCell ⟨q, j, none⟩ u) base g b vC vL vW vs n s :=
  ⟨h.blk.far (fun e => Blk.ne_ hq h.blk h1 e.symm) _, h.hb, by obtain ⟨bs, a, c⟩ := h.C; exact ⟨bs, own_alloc_st a hq (Ne.symm h2), c⟩, own_alloc_st h.L hq (Ne.symm h3), own_alloc_st h.W hq (Ne.symm h4), fun i x r hu hr => own_alloc_st (h.rows i x r hu hr) hq (Ne.symm h3), h.apart, h.nn⟩
theorem WayAt.mark (h : WayAt w base g b vC vL vW vs n s) {gC capC v : Nat} (hC : vC = .slice (some ⟨gC, 0, none⟩) n capC) (hv : v < n) : WayAt (w.setCell ⟨gC, v, none⟩ (.bool true)) base g b vC vL vW vs n ⟨s.come ++ [(v : Int)], s.loop, s.wait⟩ := by
  subst hC
  obtain ⟨bs, h1, h2⟩ := h.C
  obtain ⟨k1, k2⟩ := h1.stored v (.bool true)
  exact ⟨h.blk.grown k2 (fun e => own_blk_ne h1 h.blk (by decide) e.symm), h.hb, ⟨bs.set v true, by rw [← bools_set]; exact k1, h2.mark hv⟩, h.L.kept k2 (own_own_ne h.L h1 (by decide)), h.W.kept k2 (own_own_ne h.W h1 (by decide)),
    fun i u r hu hr => (h.rows i u r hu hr).kept k2 (own_own_ne (h.rows i u r hu hr) h1 (by decide)), h.apart, h.nn⟩
/-- The loop is another one. -/
theorem WayAt.reloop (h : WayAt w base g b vC vL vW vs n s) {v' : Value} {l : List Int} (hg : w.grownBy w' vL.ownBlock) (hr : w'.ownsRow base 3 1 v' l.length (intsV l)) (hat : v'.ownBlock = vL.ownBlock ∨ ∃ q, v'.ownBlock = some q ∧ w.heap.size ≤ q) (hl : l ≠ []) :
    WayAt (w'.setCell ⟨b, 2, none⟩ v') base g b vC v' vW vs n ⟨s.come, l, s.wait⟩ := by
  have k0 := h.blk.grown hg (fun e => own_blk_ne h.L h.blk (by decide) e.symm)
  obtain ⟨bs, h1, h2⟩ := h.C
  have lt : ∀ u ∈ vs, ∀ j, u.ownBlock = some j → j < w.heap.size := by
    intro u hu j hj
    obtain ⟨i, hi, e⟩ := List.getElem_of_mem hu
    have hi2 : i < s.wait.length := by rw [← h.vlen]; exact hi
    exact ((h.rows i u s.wait[i] (by rw [List.getElem?_eq_getElem hi, e]) (List.getElem?_eq_getElem hi2)).lt j hj).2
  refine ⟨by simpa using k0.set_ 2 v', h.hb, ⟨bs, own_alloc_st (h1.kept hg (own_own_ne h1 h.L (by decide))) k0 (by decide), h2⟩, own_alloc_st hr k0 (by decide), own_alloc_st (h.W.kept hg (own_own_ne h.W h.L (by decide))) k0 (by decide), ?_, ?_, hl⟩
  · intro i u r hu hr'
    exact own_alloc_st ((h.rows i u r hu hr').kept hg (.inr (h.apart.ne (List.mem_of_getElem? hu)))) k0 (by decide)
  · rcases hat with e | ⟨q, e, hq⟩
    · refine ⟨fun u hu => ?_, ?_⟩
      · rcases List.mem_cons.1 hu with rfl | hu
        · obtain ⟨j, hj⟩ := h.apart.1 vL (List.mem_cons_self ..)
          exact ⟨j, e.trans hj⟩
        · exact h.apart.1 u (List.mem_cons_of_mem _ hu)
      · have := h.apart.2
        rw [List.map_cons] at this ⊢
        rw [e]
        exact this
    · exact h.apart.tail.cons_new e (fun u hu j hj e2 => by
        have := lt u hu j hj
        omega)
/-- A part of the loop, as it is read. -/
theorem WayAt.part {gl m cap : Nat} (h : WayAt w base g b vC (.slice (some ⟨gl, 0, none⟩) m cap) vW vs n s) (hm : s.loop.length = m) (a k : Nat) (hak : a + k ≤ m) : ∀ j u, (((s.loop.drop a).take k).map (Value.int .i64))[j]? = some u → w.cell? ((⟨gl, a, none⟩ : Addr).add j) = some u := by
  intro j u hj
  have hl := h.L
  rw [hm] at hl
  rw [List.getElem?_map] at hj
  have hj' : j < k := by
    rcases Nat.lt_or_ge j k with h | h
    · exact h
    · rw [List.getElem?_eq_none (by rw [List.length_take]; omega)] at hj
      cases hj
  rw [Addr.add_lit]
  show w.cell? ⟨gl, a + j, none⟩ = some u
  rw [hl.cellAt (a + j) (by omega), ← hj]
  simp [intsV, hj', List.getElem?_drop]
theorem own_one {q : Nat} {v : Int} (h : Blk w q 3 #[.int .i64 v]) (hb : base ≤ q) : w.ownsRow base 3 1 (.slice (some ⟨q, 0, none⟩) 1 1) 1 [.int .i64 v] :=
  ⟨rfl, .inr ⟨q, 1, _, rfl, hb, h, Nat.le_refl _, by decide, rfl, rfl⟩⟩
/-- One loop more waits. -/
theorem WayAt.rewait (h : WayAt w base g b vC vL vW vs n s) {w4 w5 : World} {tmp : Obj} {u v5 : Value} {l : List Int} {q : Nat} (hb4 : Below w.heap.size w w4) (hr4 : w4.ownsRow base 3 1 u l.length (intsV l)) (hu : u.ownBlock = some q) (hq : w.heap.size ≤ q)
    (hg5 : (w4.alloc tmp).grownBy w5 vW.ownBlock) (hr5 : w5.ownsRow base 28 1 v5 (s.wait.length + 1) (vs ++ [u])) : WayAt (w5.setCell ⟨b, 3, none⟩ v5) base g b vC vL v5 (vs ++ [u]) n ⟨s.come, s.loop, s.wait ++ [l]⟩ := by
  have h4 := (h.below hb4).alloc tmp
  have ne : ∀ {e : TypeId} {k : Nat} {x : Value} {xs : List Value}, e ≠ 28 → (w4.alloc tmp).ownsRow base e 1 x k xs → (w5.setCell ⟨b, 3, none⟩ v5).ownsRow base e 1 x k xs ∨ e = 145 := by
    intro e k x xs he hx
    by_cases hw : e = 145
    · exact .inr hw
    · exact .inl (own_alloc_st (hx.kept hg5 (own_own_ne hx h4.W he)) (h4.blk.grown hg5 (fun e => own_blk_ne h4.W h4.blk (by decide) e.symm)) hw)
  have k5 := h4.blk.grown hg5 (fun e => own_blk_ne h4.W h4.blk (by decide) e.symm)
  have hl := h.vlen
  have lt : ∀ x ∈ vL :: vs, ∀ j, x.ownBlock = some j → j < w.heap.size := by
    intro x hx j hj
    rcases List.mem_cons.1 hx with rfl | hx
    · exact (h.L.lt j hj).2
    · obtain ⟨i, hi, e⟩ := List.getElem_of_mem hx
      have hi2 : i < s.wait.length := by rw [← hl]; exact hi
      exact ((h.rows i x s.wait[i] (by rw [List.getElem?_eq_getElem hi, e]) (List.getElem?_eq_getElem hi2)).lt j hj).2
  refine ⟨by simpa using k5.set_ 3 v5, h.hb, ?_, ?_, ?_, ?_, ?_, h.nn⟩
  · obtain ⟨bs, h1, h2⟩ := h4.C
    rcases ne (by decide) h1 with h1 | h1
    · exact ⟨bs, h1, h2⟩
    · exact absurd h1 (by decide)
  · rcases ne (by decide) h4.L with h1 | h1
    · exact h1
    · exact absurd h1 (by decide)
  · rw [List.length_append, List.length_singleton]
    exact own_alloc_st hr5 k5 (by decide)
  · intro i x r hx hr
    rcases Nat.lt_or_ge i vs.length with hi | hi
    · rw [List.getElem?_append_left hi] at hx
      rw [List.getElem?_append_left (by omega)] at hr
      rcases ne (by decide) (h4.rows i x r hx hr) with h1 | h1
      · exact h1
      · exact absurd h1 (by decide)
    · rw [List.getElem?_append_right hi] at hx
      rw [List.getElem?_append_right (by omega)] at hr
      have hi0 : i - vs.length = 0 := by
        have := (List.getElem?_eq_some_iff.1 hx).1
        simp at this
        omega
      rw [hi0] at hx
      rw [← hl, hi0] at hr
      simp only [List.getElem?_cons_zero, Option.some.injEq] at hx hr
      subst hx
      subst hr
      rcases ne (by decide) (hr4.alloc tmp) with h1 | h1
      · exact h1
      · exact absurd h1 (by decide)
  · have ha : Own2 (u :: vL :: vs) := h.apart.cons_new hu (fun x hx j hj => by
      have := lt x hx j hj
      omega)
    have hp : (u :: vL :: vs).Perm (vL :: (vs ++ [u])) := (List.Perm.swap vL u vs).trans (List.Perm.cons _ (List.perm_append_singleton u vs).symm)
    exact ⟨fun x hx => ha.1 x (hp.mem_iff.2 hx), (hp.map _).nodup_iff.1 ha.2⟩
/-- The loop that waits last is gone on with. -/
theorem WayAt.pop (h : WayAt w base g b vC vL vW vs n s) {vs' : List Value} {u : Value} {ws : List (List Int)} {l : List Int} {aW : Option Addr} {k cW : Nat} (hvs : vs = vs' ++ [u]) (hws : s.wait = ws ++ [l]) (hW : vW = .slice aW (k + 1) cW) (hk : ws.length = k) (hl : l ≠ [])
    (hg : w.grownBy w' (some b)) (hb' : Blk w' b 145 #[.pointer (some ⟨g, 0, none⟩), vC, u, .slice aW k cW]) : WayAt w' base g b vC u (.slice aW k cW) vs' n ⟨s.come, l, ws⟩ := by
  subst hvs hW
  have hlen := h.vlen
  rw [hws] at hlen
  simp only [List.length_append, List.length_singleton] at hlen
  have hW := h.W
  rw [hws, List.length_append, List.length_singleton, hk] at hW
  have hW2 : w.ownsRow base 28 1 (.slice aW k cW) k vs' := by
    rcases hW.2 with ⟨_, h0⟩ | ⟨q, cap, cur, e, h1, h2, h3, h4, h5, h6⟩
    · omega
    · injection e with e1 e2 e3
      subst e1 e3
      refine ⟨by omega, .inr ⟨q, cW, cur, rfl, h1, h2, by omega, h4, h5, ?_⟩⟩
      have : (cur.toList.take ((k + 1) * 1)).take (k * 1) = (vs' ++ [u]).take (k * 1) := by rw [h6]
      rw [List.take_take, show min (k * 1) ((k + 1) * 1) = k * 1 from by omega] at this
      rw [this, show k * 1 = vs'.length from by omega, List.take_left]
  obtain ⟨bs, c1, c2⟩ := h.C
  have st : ∀ {e : TypeId} {k' : Nat} {x : Value} {xs : List Value}, e ≠ 145 → w.ownsRow base e 1 x k' xs → w'.ownsRow base e 1 x k' xs := fun he hx => hx.kept hg (.inr (own_blk_ne hx h.blk he))
  refine ⟨hb', h.hb, ⟨bs, st (by decide) c1, c2⟩, ?_, ?_, ?_, ?_, hl⟩
  · refine st (by decide) (h.rows vs'.length u l (by simp) ?_)
    rw [hws, show vs'.length = ws.length from by omega]
    simp
  · rw [hk]
    exact st (by decide) hW2
  · intro i x r hx hr
    have hi := (List.getElem?_eq_some_iff.1 hx).1
    have hi2 := (List.getElem?_eq_some_iff.1 hr).1
    refine st (by decide) (h.rows i x r (by rw [List.getElem?_append_left hi]; exact hx) ?_)
    rw [hws, List.getElem?_append_left hi2]
    exact hr
  · have hp : (vs' ++ [u]).Perm (u :: vs') := List.perm_append_singleton u vs'
    have ha := h.apart.tail
    exact ⟨fun x hx => ha.1 x (hp.mem_iff.2 hx), (hp.map _).nodup_iff.1 ha.2⟩
/-- The blocks of a walk that is on its way. -/
def OwnA (b : Nat) (vC vL vW : Value) (vs : List Value) (k : Nat) : Prop := k = b ∨ vC.ownBlock = some k ∨ vL.ownBlock = some k ∨ vW.ownBlock = some k ∨ ∃ v ∈ vs, v.ownBlock = some k
/-- What a step may change, and whose the blocks are then. -/
structure Kind (w w' : World) (b : Nat) (vC vL vW : Value) (vs : List Value) (vL' vW' : Value) (vs' : List Value) : Prop where
  kept : Kept (OwnA b vC vL vW vs) w w'
  own : ∀ k, OwnA b vC vL' vW' vs' k → OwnA b vC vL vW vs k ∨ w.heap.size ≤ k
theorem own_reloop {b : Nat} {vC vL vL' vW : Value} {vs : List Value} {z : Nat} (h : vL'.ownBlock = vL.ownBlock ∨ ∃ q, vL'.ownBlock = some q ∧ z ≤ q) (k : Nat) (hk : OwnA b vC vL' vW vs k) : OwnA b vC vL vW vs k ∨ z ≤ k := by
  rcases hk with e | e | e | e | e
  · exact .inl (.inl e)
  · exact .inl (.inr (.inl e))
  · rcases h with h | ⟨q, h, hq⟩
    · exact .inl (.inr (.inr (.inl (by rw [← h]; exact e))))
    · rw [h] at e
      cases e
      exact .inr hq
  · exact .inl (.inr (.inr (.inr (.inl e))))
  · exact .inl (.inr (.inr (.inr (.inr e))))
theorem WayAt.own_ge (h : WayAt w base g b vC vL vW vs n s) {k : Nat} (hk : OwnA b vC vL vW vs k) : base ≤ k ∧ k < w.heap.size := by
  rcases hk with rfl | e | e | e | ⟨v, hv, e⟩
  · exact ⟨h.hb, h.blk.lt⟩
  · obtain ⟨bs, h1, _⟩ := h.C
    exact h1.lt k e
  · exact h.L.lt k e
  · exact h.W.lt k e
  · obtain ⟨i, hi, e2⟩ := List.getElem_of_mem hv
    have hi2 : i < s.wait.length := by rw [← h.vlen]; exact hi
    exact (h.rows i v s.wait[i] (by rw [List.getElem?_eq_getElem hi, e2]) (List.getElem?_eq_getElem hi2)).lt k e
theorem WayAt.same (h : WayAt w base g b vC vL vW vs n s) (hs : ∀ k, OwnA b vC vL vW vs k → w'.heap[k]? = w.heap[k]?) : WayAt w' base g b vC vL vW vs n s :=
  ⟨blk_same h.blk (hs b (.inl rfl)), h.hb, by obtain ⟨bs, h1, h2⟩ := h.C; exact ⟨bs, own_same h1 (fun k e => hs k (.inr (.inl e))), h2⟩, own_same h.L (fun k e => hs k (.inr (.inr (.inl e)))), own_same h.W (fun k e => hs k (.inr (.inr (.inr (.inl e))))),
    fun i u r hu hr => own_same (h.rows i u r hu hr) (fun k e => hs k (.inr (.inr (.inr (.inr ⟨u, List.mem_of_getElem? hu, e⟩))))), h.apart, h.nn⟩
theorem Kind.below {vL' vW' : Value} {vs' : List Value} (h : WayAt w base g b vC vL vW vs n s) (k : Kind w w' b vC vL vW vs vL' vW' vs') : Below base w w' := k.kept.below (fun _j hj => (h.own_ge hj).1) h.ble
/-- A step is laid in its cell. -/
theorem WayAt.out4 (h : WayAt w base g b vC vL vW vs n s) {w0 : World} {q : Nat} {x0 x1 x2 x3 : Value} (hq : Blk w q 55 #[x0, x1, x2, x3]) {S : Nat → Prop} (hB : Kept S w0 w) (hbq : w0.heap.size ≤ q) (u0 u1 u2 u3 : Value) :
    WayAt ((((w.setCell ⟨q, 0, none⟩ u0).setCell ⟨q, 1, none⟩ u1).setCell ⟨q, 2, none⟩ u2).setCell ⟨q, 3, none⟩ u3) base g b vC vL vW vs n s ∧ Blk ((((w.setCell ⟨q, 0, none⟩ u0).setCell ⟨q, 1, none⟩ u1).setCell ⟨q, 2, none⟩ u2).setCell ⟨q, 3, none⟩ u3) q 55 #[u0, u1, u2, u3] ∧ Kept S w0 ((((w.setCell ⟨q, 0, none⟩ u0).setCell ⟨q, 1, none⟩ u1).setCell ⟨q, 2, none⟩ u2).setCell ⟨q, 3, none⟩ u3) := by
  have q1 := hq.set_ 0 u0
  have q2 := q1.set_ 1 u1
  have q3 := q2.set_ 2 u2
  have q4 := q3.set_ 3 u3
  exact ⟨(((h.far hq (by decide) (by decide) (by decide) (by decide)).far q1 (by decide) (by decide) (by decide) (by decide)).far q2 (by decide) (by decide) (by decide) (by decide)).far q3 (by decide) (by decide) (by decide) (by decide), by simpa using q4, (((hB.setCell (p := ⟨q, 0, none⟩) (.inr hbq) _).setCell (p := ⟨q, 1, none⟩) (.inr hbq) _).setCell (p := ⟨q, 2, none⟩) (.inr hbq) _).setCell (p := ⟨q, 3, none⟩) (.inr hbq) _⟩
end
end Go.Proofs.YtghlnknncahkgaaGreat
/-
  (*way).step, where a vertex is new, by walking its text.
-/
namespace Go.Proofs.YtghlnknncahkgaaGreat
open Go.RowKit Go.Maps

theorem own_form {w : World} {base n : Nat} {t : TypeId} {v : Value} {xs : List Value} (h : w.ownsRow base t 1 v n xs) (hn : 0 < n) : ∃ g cap, v = .slice (some ⟨g, 0, none⟩) n cap ∧ g < w.heap.size ∧ n ≤ cap ∧ cap ≤ 9223372036854775807 := by
  rcases h.2 with ⟨_, h0⟩ | ⟨g, cap, cur, rfl, _, hg, h1, h2, _⟩
  · omega
  · exact ⟨g, cap, rfl, (Array.getElem?_eq_some_iff.1 hg).1, h1, by unfold maxLen at h2; omega⟩
theorem four {w : World} {b : Nat} {t : TypeId} {x0 x1 x2 x3 : Value} (h : Blk w b t #[x0, x1, x2, x3]) : b < w.heap.size ∧ w.cell? ⟨b, 0, none⟩ = some x0 ∧ w.cell? ⟨b, 1, none⟩ = some x1 ∧ w.cell? ⟨b, 2, none⟩ = some x2 ∧ w.cell? ⟨b, 3, none⟩ = some x3 ∧ w.frozen? ⟨b, 2, none⟩ = false ∧ w.frozen? ⟨b, 3, none⟩ = false := ⟨h.lt, h.cell 0, h.cell 1, h.cell 2, h.cell 3, h.frozen 2, h.frozen 3⟩
set_option maxRecDepth 100000 in
set_option maxHeartbeats 2000000 in
theorem stepC_any {w : World} {base g b n : Nat} {vC vL vW : Value} {vs : List Value} {s : WSt} {T : List Tr} (hT : Tab w g n T) (h : WayAt w base g b vC vL vW vs n s) {x y : Int} {r : List Int} (hl : s.loop = x :: y :: r)
    (hx : -1 ≤ x ∧ x ≤ 10000) (hy : -1 ≤ y ∧ y ≤ 10000) (hc : 0 ≤ facI T (x, y)) (hv : vertI T (facI T (x, y)) ∉ s.come) (hlen : r.length ≤ 50000) (_hwl : s.wait.length ≤ 50000) :
    Calls Tryz.prog 60 #[.pointer (some ⟨b, 0, none⟩)] w fun e w' => e = .returned (.tuple #[.agg #[.int .u8 67, .int .i64 (facI T (x, y)), .int .i64 s.wait.length, .int .i64 (r.length + 2 : Nat)], .bool true]) ∧
      (∃ vL', WayAt w' base g b vC vL' vW vs n ⟨s.come ++ [vertI T (facI T (x, y))], x :: vertI T (facI T (x, y)) :: y :: r, s.wait⟩ ∧ Kind w w' b vC vL vW vs vL' vW vs) := by
  have hL := h.L
  rw [hl] at hL
  obtain ⟨m, hm⟩ : ∃ m, (x :: y :: r).length = m := ⟨_, rfl⟩
  rw [hm] at hL
  have hm2 : r.length + 2 = m := hm
  obtain ⟨gl, cap, rfl, hgl, hcap, hcap2⟩ := own_form hL (by omega)
  obtain ⟨aW, cW, rfl⟩ := ownsRow_slice h.W
  obtain ⟨lb, c0, c1, c2, c3, f2, f3⟩ := four h.blk
  have hs0 : (intsV (x :: y :: r))[0]? = some (.int .i64 x) := rfl
  have l0 : w.cell? ⟨gl, 0, none⟩ = some (.int .i64 x) := by rw [hL.cellAt 0 (by omega)]; exact hs0
  have l1 : w.cell? ⟨gl, 1, none⟩ = some (.int .i64 y) := by rw [hL.cellAt 1 (by omega)]; rfl
  have hnil := fun (W : World) => Lib.run_eql_slice_nil (P := Tryz.prog) W 28 3 (some ⟨gl, 0, none⟩) m cap 0 0 Tryz.underlying28
  obtain ⟨c, hce⟩ : ∃ c : Nat, facI T (x, y) = (c : Int) := ⟨(facI T (x, y)).toNat, by omega⟩
  have hcl := (facI_some hce).1
  have hvb := vertN_in hT.inr hcl
  obtain ⟨v, hve⟩ : ∃ v : Nat, vertI T (facI T (x, y)) = (v : Int) := ⟨(vertN T c).toNat, by rw [hce, vertI_nat hcl]; omega⟩
  have hvn : v < n := by rw [hce, vertI_nat hcl] at hve; omega
  obtain ⟨bs, hC, hbs⟩ := h.C
  obtain ⟨gC, capC, rfl, hgC, hcC, -⟩ := own_form hC (by omega)
  have hbv : bs[v]? = some false := by
    have hvl : v < bs.length := by rw [hbs.1]; exact hvn
    cases hb : bs[v] with
    | false => rw [List.getElem?_eq_getElem hvl, hb]
    | true => exact absurd ((hbs.2 v hvn).1 (by rw [List.getElem?_eq_getElem hvl, hb])) (by rw [← hve]; exact hv)
  have cv : w.cell? ⟨gC, v, none⟩ = some (.bool false) := by
    rw [hC.cellAt v (by omega)]
    simp [bools, hbv]
  have cf := hC.frozenAt v
  have hn1 : gC ≠ b := fun e => own_blk_ne hC h.blk (by decide) (by rw [← e]; rfl)
  have hn2 : b ≠ gC := fun e => hn1 e.symm
  have hbg : base ≤ gC := (hC.lt gC rfl).1
  have HF := Lib.hid (fun (W : World) (hW : Below w.heap.size w W) => facing_any g n x y T W (hT.below hW) hx hy)
  have HV := Lib.hid (fun (W : World) (hW : Below w.heap.size w W) => (show Calls Tryz.prog 36 #[.pointer (some ⟨g, 0, none⟩), .int .i64 (c : Int)] W fun e w' => e = .returned (.int .i64 (v : Int)) ∧ W = w' from by
    have := vertex_any g n (facI T (x, y)) T W (hT.below hW).toTabS
    rw [hve, hce] at this
    exact this))
  rw [hve]
  rw [hce] at HF ⊢
  have HL := Lib.hid hl
  rw [hm2]
  obtain ⟨wl, hwe⟩ : ∃ wl, s.wait.length = wl := ⟨_, rfl⟩
  rw [hwe] at c3 h ⊢
  have H := Lib.hid h
  have HM := Lib.hid hm
  have hm3 : m ≤ 50002 := by omega
  have hm4 : 2 ≤ m := by omega
  clear h hT hl hL hs0 hm hm2 hlen hce hcl hvb hve hC hbs hbv hv hc
  go_enter Tryz.func60, Tryz.ntmps60
  go_wp2
  have hA := H.out.alloc (.cells #[.int .u8 0, .int .i64 0, .int .i64 0, .int .i64 0] 55)
  have hB0 : Below w.heap.size w (w.alloc (.cells #[.int .u8 0, .int .i64 0, .int .i64 0, .int .i64 0] 55)) := (Below.refl _ _).alloc (Nat.le_refl _) _
  have b0 := Blk.new w 55 #[.int .u8 0, .int .i64 0, .int .i64 0, .int .i64 0]
  have hszA : w.heap.size < (w.alloc (.cells #[.int .u8 0, .int .i64 0, .int .i64 0, .int .i64 0] 55)).heap.size := by simp
  generalize w.alloc (.cells #[.int .u8 0, .int .i64 0, .int .i64 0, .int .i64 0] 55) = wA at *
  obtain ⟨lb', c0', c1', c2', c3', -⟩ := four hA.blk
  have l0' := (hB0.cell (p := ⟨gl, 0, none⟩) hgl).trans l0
  have l1' := (hB0.cell (p := ⟨gl, 1, none⟩) hgl).trans l1
  have HA := Lib.hid hA
  have HB0 := Lib.hid hB0
  have Hb0 := Lib.hid b0
  clear hA hB0 b0
  have i0 : (0 : Int) < (m : Int) := by omega
  have i1 : (1 : Int) < (m : Int) := by omega
  have d0 := cell_regrown c0'
  have d2 := cell_regrown c2'
  have q0 := cell_regrown l0'
  have q1 := cell_regrown l1'
  refine wp_region_quiet_below (by kernel_rfl) (by kernel_rfl) ?_
  repeat (go_big_quiet_step ((go_at_call 62; exact Calls.regrown_of (HF.out _ (HB0.out.trans ((below_regrown wA _ _).mono HB0.out.size))))))
  refine wpQuiet_nil ?_
  intro _ hw'
  obtain ⟨⟨dq, osq⟩, hw''⟩ := hw'
  subst hw''
  have hB1 := below_regrown wA dq osq
  generalize Sort.grow (redrawn wA dq) osq = w1 at *
  have hA1 := HA.out.below hB1
  obtain ⟨lb1, x0, x1, x2, x3, y2, y3⟩ := four hA1.blk
  have HA1 := Lib.hid hA1
  have hB2 := HB0.out.trans (hB1.mono HB0.out.size)
  have cv1 := (hB2.cell (p := ⟨gC, v, none⟩) hgC).trans cv
  have cf1 := (hB2.frozen (p := ⟨gC, v, none⟩) hgC).trans cf
  have hsz1 := hB1.size
  have hgC1 : gC < w1.heap.size := by omega
  have HB1 := Lib.hid hB1
  have HB2 := Lib.hid hB2
  clear hA1 hB1 hB2 d0 d2 q0 q1 c0' c2' l0' l1' c1' c3'
  go_wp2_with (go_at_call 36; refine (HV.out _ HB2.out).mono ?_; rintro e w2 ⟨rfl, rfl⟩)
  have A3 := ((HA1.out.mark rfl hvn).alloc (.cells #[.int .u8 67, .int .i64 (c : Int), .int .i64 (wl : Int), .int .i64 (m : Int)] 55)).alloc (.cells #[.int .i64 (v : Int)] 3)
  have hL3 := A3.L
  simp only at hL3
  rw [HL.out] at hL3
  have bT : Blk (((w1.setCell ⟨gC, v, none⟩ (.bool true)).alloc (.cells #[.int .u8 67, .int .i64 (c : Int), .int .i64 (wl : Int), .int .i64 (m : Int)] 55)).alloc (.cells #[.int .i64 (v : Int)] 3)) (w1.heap.size + 1) 3 #[.int .i64 (v : Int)] := blk_new_at (by simp [World.setCell])
  have bS : Blk (((w1.setCell ⟨gC, v, none⟩ (.bool true)).alloc (.cells #[.int .u8 67, .int .i64 (c : Int), .int .i64 (wl : Int), .int .i64 (m : Int)] 55)).alloc (.cells #[.int .i64 (v : Int)] 3)) w1.heap.size 55 #[.int .u8 67, .int .i64 (c : Int), .int .i64 (wl : Int), .int .i64 (m : Int)] := (blk_new_at (by simp [World.setCell])).alloc _
  have bR : Blk (((w1.setCell ⟨gC, v, none⟩ (.bool true)).alloc (.cells #[.int .u8 67, .int .i64 (c : Int), .int .i64 (wl : Int), .int .i64 (m : Int)] 55)).alloc (.cells #[.int .i64 (v : Int)] 3)) w.heap.size 55 #[.int .u8 0, .int .i64 0, .int .i64 0, .int .i64 0] := (((Hb0.out.below HB1.out hszA).far (p := ⟨gC, v, none⟩) (by simp only; omega) _).alloc _).alloc _
  have hB3 : Kept (OwnA b (.slice (some ⟨gC, 0, none⟩) n capC) (.slice (some ⟨gl, 0, none⟩) m cap) (.slice aW wl cW) vs) w (((w1.setCell ⟨gC, v, none⟩ (.bool true)).alloc (.cells #[.int .u8 67, .int .i64 (c : Int), .int .i64 (wl : Int), .int .i64 (m : Int)] 55)).alloc (.cells #[.int .i64 (v : Int)] 3)) := (((Kept.of HB2.out).setCell (p := ⟨gC, v, none⟩) (.inl (.inr (.inl rfl))) _).alloc _).alloc _
  have hsz3 : w1.heap.size + 2 = (((w1.setCell ⟨gC, v, none⟩ (.bool true)).alloc (.cells #[.int .u8 67, .int .i64 (c : Int), .int .i64 (wl : Int), .int .i64 (m : Int)] 55)).alloc (.cells #[.int .i64 (v : Int)] 3)).heap.size := by simp [World.setCell]
  generalize (((w1.setCell ⟨gC, v, none⟩ (.bool true)).alloc (.cells #[.int .u8 67, .int .i64 (c : Int), .int .i64 (wl : Int), .int .i64 (m : Int)] 55)).alloc (.cells #[.int .i64 (v : Int)] 3)) = W3 at *
  refine (insert_any base (w1.heap.size + 1) (.slice (some ⟨gl, 0, none⟩) m cap) x v (y :: r) W3 hL3 (by simp) (by have := HM.out; simp only [List.length_cons] at this ⊢; omega) bT (by simp [Value.ownBlock]; omega) A3.ble).mono ?_
  rintro e w4 ⟨v', rfl, hr4, hg4, hat4⟩
  obtain ⟨g4, cap4, rfl, -, -, -⟩ := own_form hr4 (by omega)
  have nb : some b ≠ some gl := fun e => own_blk_ne hL3 A3.blk (by decide) e.symm
  have b4 := A3.blk.grown hg4 nb
  obtain ⟨lb4, z0, z1, z2, z3, u2, u3⟩ := four b4
  have s4 := bS.grown hg4 (fun e => own_blk_ne hL3 bS (by decide) e.symm)
  have t4 := bR.grown hg4 (fun e => own_blk_ne hL3 bR (by decide) e.symm)
  obtain ⟨ls4, s0, s1, s2, s3, -⟩ := four s4
  obtain ⟨lt4, t0, t1, t2, t3, r2, r3⟩ := four t4
  have r0 := t4.frozen 0
  have r1 := t4.frozen 1
  have A4 := A3.reloop (l := x :: v :: y :: r) hg4 (by simpa [intsV] using hr4) hat4 (by simp)
  have hB4 := hB3.grown hg4 (fun j e => .inl (.inr (.inr (.inl e))))
  have hO4 := own_reloop (b := b) (vC := .slice (some ⟨gC, 0, none⟩) n capC) (vW := .slice aW wl cW) (vs := vs) (z := w.heap.size) (by
    rcases hat4 with e | ⟨q, e, hq⟩
    · exact .inl e
    · exact .inr ⟨q, e, by omega⟩)
  have k1 : b ≠ w.heap.size := fun e => by have := lb; omega
  have k2 : b ≠ w1.heap.size := by omega
  have k3 : w.heap.size ≠ w1.heap.size := by omega
  have hbb := Nat.le_trans H.out.ble (Nat.le_refl _)
  generalize (y :: r).length + 2 = k4 at *
  have HA4 := Lib.hid A4
  have HB4 := Lib.hid hB4
  have HO4 := Lib.hid hO4
  have HT4 := Lib.hid t4
  clear A4 hB4 hO4 hr4 hg4 hat4 A3 hL3 bT bS bR hB3 b4 s4 t4
  go_wp2
  obtain ⟨o1, o2, o3⟩ := HA4.out.out4 (HT4.out.far (p := ⟨b, 2, none⟩) (by simp only; omega) _) (HB4.out.setCell (p := ⟨b, 2, none⟩) (.inl (.inl rfl)) _) (Nat.le_refl _) (.int .u8 67) (.int .i64 (c : Int)) (.int .i64 (wl : Int)) (.int .i64 (m : Int))
  obtain ⟨-, p0, p1, p2, p3, -⟩ := four o2
  exact bodyPost_ret (v := .tuple #[.agg #[.int .u8 67, .int .i64 (c : Int), .int .i64 (wl : Int), .int .i64 (m : Int)], .bool true]) (by simp [results, Tryz.results60, go_sem, p0, p1, p2, p3]) rfl ⟨rfl, _, o1, o3, HO4.out⟩
end Go.Proofs.YtghlnknncahkgaaGreat
/-
  A walk that is on its way, or over; a step where no loop is left.
-/
namespace Go.Proofs.YtghlnknncahkgaaGreat
open Go.RowKit Go.Maps

/-- A walk that is on its way, or over; its blocks are of S. -/
def WayS (w : World) (base g b n : Nat) (S : Nat → Prop) (s : WSt) : Prop :=
  (∀ k, S k → base ≤ k ∧ k < w.heap.size) ∧ ((∃ vC vL vW vs, WayAt w base g b vC vL vW vs n s ∧ ∀ k, OwnA b vC vL vW vs k → S k) ∨ (s.loop = [] ∧ S b ∧ ∃ vC vW, Blk w b 145 #[.pointer (some ⟨g, 0, none⟩), vC, .slice none 0 0, vW]))
section
variable {w w' : World} {base g b n : Nat} {S : Nat → Prop} {s s' : WSt} {T : List Tr}
theorem WayS.same (h : WayS w base g b n S s) (hz : w.heap.size ≤ w'.heap.size) (hs : ∀ k, S k → w'.heap[k]? = w.heap[k]?) : WayS w' base g b n S s := by
  obtain ⟨h1, ⟨vC, vL, vW, vs, h2, h3⟩ | ⟨h2, h3, vC, vW, h4⟩⟩ := h
  · exact ⟨fun k hk => by have := h1 k hk; omega, .inl ⟨vC, vL, vW, vs, h2.same (fun k hk => hs k (h3 k hk)), h3⟩⟩
  · exact ⟨fun k hk => by have := h1 k hk; omega, .inr ⟨h2, h3, vC, vW, blk_same h4 (hs b h3)⟩⟩
/-- What a step leaves behind. -/
def StpPost (w : World) (base g b n : Nat) (S : Nat → Prop) (s' : WSt) (w' : World) : Prop := ∃ S', WayS w' base g b n S' s' ∧ (∀ k, S' k → S k ∨ (w.heap.size ≤ k ∧ k < w'.heap.size)) ∧ Kept S w w'
theorem stp_of {vC vL vW vL' vW' : Value} {vs vs' : List Value} (hS : ∀ k, OwnA b vC vL vW vs k → S k) (h' : WayAt w' base g b vC vL' vW' vs' n s') (k : Kind w w' b vC vL vW vs vL' vW' vs') : StpPost w base g b n S s' w' :=
  ⟨OwnA b vC vL' vW' vs', ⟨fun _j hj => h'.own_ge hj, .inl ⟨vC, vL', vW', vs', h', fun _ hj => hj⟩⟩, fun j hj => (k.own j hj).imp (hS j) (fun e => ⟨e, (h'.own_ge hj).2⟩), k.kept.mono hS⟩
set_option maxRecDepth 100000 in
set_option maxHeartbeats 1000000 in
/-- No loop is left. -/
theorem step_end (h : WayS w base g b n S s) (hl : s.loop = []) (_hb : base ≤ w.heap.size) :
    Calls Tryz.prog 60 #[.pointer (some ⟨b, 0, none⟩)] w fun e w' => e = .returned (.tuple #[.agg #[.int .u8 0, .int .i64 0, .int .i64 0, .int .i64 0], .bool false]) ∧ Kept S w w' := by
  obtain ⟨-, ⟨vC, vL, vW, vs, hA, hO⟩ | ⟨-, hSb, vC, vW, hB⟩⟩ := h
  · exact absurd hl hA.nn
  obtain ⟨lb, c0, c1, c2, c3, f2, f3⟩ := four hB
  have b0 := Blk.new w 55 #[.int .u8 0, .int .i64 0, .int .i64 0, .int .i64 0]
  have hBB := hB.alloc (.cells #[.int .u8 0, .int .i64 0, .int .i64 0, .int .i64 0] 55)
  have hk : Kept S w (w.alloc (.cells #[.int .u8 0, .int .i64 0, .int .i64 0, .int .i64 0] 55)) := (Kept.refl _ _).alloc _
  have hnil := fun (W : World) => Lib.run_eql_slice_nil (P := Tryz.prog) W 28 3 none 0 0 0 0 Tryz.underlying28
  go_enter Tryz.func60, Tryz.ntmps60
  go_wp2
  obtain ⟨-, p0, p1, p2, p3, -⟩ := four b0
  exact bodyPost_ret (v := .tuple #[.agg #[.int .u8 0, .int .i64 0, .int .i64 0, .int .i64 0], .bool false]) (by simp [results, Tryz.results60, go_sem, p0, p1, p2, p3]) rfl ⟨rfl, hk⟩
end
end Go.Proofs.YtghlnknncahkgaaGreat
/-
  (*way).step, at the letter L, by walking its text.
-/
namespace Go.Proofs.YtghlnknncahkgaaGreat
open Go.RowKit Go.Maps

set_option maxRecDepth 100000 in
set_option maxHeartbeats 2000000 in
theorem stepL_any {w : World} {base g b n : Nat} {vC vL vW : Value} {vs : List Value} {s : WSt} {T : List Tr} (hT : Tab w g n T) (h : WayAt w base g b vC vL vW vs n s) {x y : Int} {r : List Int} (hl : s.loop = x :: y :: r)
    (hx : -1 ≤ x ∧ x ≤ 10000) (hy : -1 ≤ y ∧ y ≤ 10000) (hc : 0 ≤ facI T (x, y)) (hv : vertI T (facI T (x, y)) ∈ s.come) (hlen : r.length ≤ 50000) (_hwl : s.wait.length ≤ 50000) (h1 : 2 ≤ r.length) (hi : Lib.idxOf s.loop (vertI T (facI T (x, y))) = r.length + 1) :
    Calls Tryz.prog 60 #[.pointer (some ⟨b, 0, none⟩)] w fun e w' => e = .returned (.tuple #[.agg #[.int .u8 76, .int .i64 (facI T (x, y)), .int .i64 s.wait.length, .int .i64 (r.length + 2 : Nat)], .bool true]) ∧
      (∃ vL', WayAt w' base g b vC vL' vW vs n ⟨s.come, vertI T (facI T (x, y)) :: (y :: r).dropLast, s.wait⟩ ∧ Kind w w' b vC vL vW vs vL' vW vs) := by
  have hL := h.L
  rw [hl] at hL
  obtain ⟨m, hm⟩ : ∃ m, (x :: y :: r).length = m := ⟨_, rfl⟩
  rw [hm] at hL
  have hm2 : r.length + 2 = m := hm
  obtain ⟨gl, cap, rfl, hgl, hcap, hcap2⟩ := own_form hL (by omega)
  obtain ⟨aW, cW, rfl⟩ := ownsRow_slice h.W
  obtain ⟨lb, c0, c1, c2, c3, f2, f3⟩ := four h.blk
  have hs0 : (intsV (x :: y :: r))[0]? = some (.int .i64 x) := rfl
  have l0 : w.cell? ⟨gl, 0, none⟩ = some (.int .i64 x) := by rw [hL.cellAt 0 (by omega)]; exact hs0
  have l1 : w.cell? ⟨gl, 1, none⟩ = some (.int .i64 y) := by rw [hL.cellAt 1 (by omega)]; rfl
  have hnil := fun (W : World) => Lib.run_eql_slice_nil (P := Tryz.prog) W 28 3 (some ⟨gl, 0, none⟩) m cap 0 0 Tryz.underlying28
  obtain ⟨c, hce⟩ : ∃ c : Nat, facI T (x, y) = (c : Int) := ⟨(facI T (x, y)).toNat, by omega⟩
  have hcl := (facI_some hce).1
  have hvb := vertN_in hT.inr hcl
  obtain ⟨v, hve⟩ : ∃ v : Nat, vertI T (facI T (x, y)) = (v : Int) := ⟨(vertN T c).toNat, by rw [hce, vertI_nat hcl]; omega⟩
  have hvn : v < n := by rw [hce, vertI_nat hcl] at hve; omega
  obtain ⟨bs, hC, hbs⟩ := h.C
  obtain ⟨gC, capC, rfl, hgC, hcC, -⟩ := own_form hC (by omega)
  have hbv : bs[v]? = some true := (hbs.2 v hvn).2 (by rw [← hve]; exact hv)
  have cv : w.cell? ⟨gC, v, none⟩ = some (.bool true) := by
    rw [hC.cellAt v (by omega)]
    simp [bools, hbv]
  have HF := Lib.hid (fun (W : World) (hW : Below w.heap.size w W) => facing_any g n x y T W (hT.below hW) hx hy)
  have HV := Lib.hid (fun (W : World) (hW : Below w.heap.size w W) => (show Calls Tryz.prog 36 #[.pointer (some ⟨g, 0, none⟩), .int .i64 (c : Int)] W fun e w' => e = .returned (.int .i64 (v : Int)) ∧ W = w' from by
    have := vertex_any g n (facI T (x, y)) T W (hT.below hW).toTabS
    rw [hve, hce] at this
    exact this))
  have HI := Lib.hid (fun (W : World) (hW : WayAt W base g b (.slice (some ⟨gC, 0, none⟩) n capC) (.slice (some ⟨gl, 0, none⟩) m cap) (.slice aW s.wait.length cW) vs n s) => (show Calls Tryz.prog 87 #[.slice (some ⟨gl, 0, none⟩) m cap, .int .i64 (v : Int)] W fun e w' => e = .returned (.int .i64 (Lib.idxOf s.loop (v : Int))) ∧ w' = W from by
    have h2 := hW.L
    have h3 : s.loop.length = m := by rw [hl]; exact hm
    rw [h3] at h2
    have := Tryz.slices_Index_int gl 0 m cap s.loop (v : Int) W (Nat.le_of_eq h3.symm) (by omega) (fun j hj => by
      rw [Nat.zero_add, h2.cellAt j (by rw [Nat.mul_one, ← h3]; exact hj)]
      simp [intsV, List.getD, List.getElem?_eq_getElem hj])
    rw [show s.loop.take m = s.loop from List.take_of_length_le (by omega)] at this
    exact this))
  rw [hve] at hv hi ⊢
  rw [hce] at HF ⊢
  rw [hm2]
  obtain ⟨wl, hwe⟩ : ∃ wl, s.wait.length = wl := ⟨_, rfl⟩
  rw [hwe] at c3 h HI ⊢
  have H := Lib.hid h
  have HL := Lib.hid hl
  have HM := Lib.hid hm
  have HWE := Lib.hid hwe
  have hm3 : m ≤ 50002 := by omega
  have hm4 : 2 ≤ m := by omega
  have HIX := Lib.hid (show Lib.idxOf s.loop (v : Int) = (m : Int) - 1 from by rw [hi]; omega)
  have n3 : ((m : Int) == 3) = false := by simp; omega
  have n4 : 3 < m := by omega
  have HLM := Lib.hid (show s.loop.length = m from by rw [hl]; exact hm)
  obtain ⟨i2, hj', hz0, hz1, hz2⟩ := info_parts infoInt9
  clear hi h1
  clear h hT hl hL hs0 hm hm2 hlen hce hcl hvb hve hC hbs hbv hv hc hwe
  go_enter Tryz.func60, Tryz.ntmps60
  go_wp2
  have hA := H.out.alloc (.cells #[.int .u8 0, .int .i64 0, .int .i64 0, .int .i64 0] 55)
  have hB0 : Below w.heap.size w (w.alloc (.cells #[.int .u8 0, .int .i64 0, .int .i64 0, .int .i64 0] 55)) := (Below.refl _ _).alloc (Nat.le_refl _) _
  have b0 := Blk.new w 55 #[.int .u8 0, .int .i64 0, .int .i64 0, .int .i64 0]
  have hszA : w.heap.size < (w.alloc (.cells #[.int .u8 0, .int .i64 0, .int .i64 0, .int .i64 0] 55)).heap.size := by simp
  generalize w.alloc (.cells #[.int .u8 0, .int .i64 0, .int .i64 0, .int .i64 0] 55) = wA at *
  obtain ⟨lb', c0', c1', c2', c3', -⟩ := four hA.blk
  have l0' := (hB0.cell (p := ⟨gl, 0, none⟩) hgl).trans l0
  have l1' := (hB0.cell (p := ⟨gl, 1, none⟩) hgl).trans l1
  have HA := Lib.hid hA
  have HB0 := Lib.hid hB0
  have Hb0 := Lib.hid b0
  clear hA hB0 b0
  have i0 : (0 : Int) < (m : Int) := by omega
  have i1 : (1 : Int) < (m : Int) := by omega
  have d0 := cell_regrown c0'
  have d2 := cell_regrown c2'
  have q0 := cell_regrown l0'
  have q1 := cell_regrown l1'
  refine wp_region_quiet_below (by kernel_rfl) (by kernel_rfl) ?_
  repeat (go_big_quiet_step ((go_at_call 62; exact Calls.regrown_of (HF.out _ (HB0.out.trans ((below_regrown wA _ _).mono HB0.out.size))))))
  refine wpQuiet_nil ?_
  intro _ hw'
  obtain ⟨⟨dq, osq⟩, hw''⟩ := hw'
  subst hw''
  have hB1 := below_regrown wA dq osq
  generalize Sort.grow (redrawn wA dq) osq = w1 at *
  have hA1 := HA.out.below hB1
  obtain ⟨lb1, x0, x1, x2, x3, y2, y3⟩ := four hA1.blk
  have HA1 := Lib.hid hA1
  have hB2 := HB0.out.trans (hB1.mono HB0.out.size)
  have cv1 := (hB2.cell (p := ⟨gC, v, none⟩) hgC).trans cv
  have lx1 := (hB2.cell (p := ⟨gl, 0, none⟩) hgl).trans l0
  have hsz1 := hB1.size
  have hgC1 : gC < w1.heap.size := by omega
  have hgl1 : gl < w1.heap.size := by omega
  have HB1 := Lib.hid hB1
  have HB2 := Lib.hid hB2
  have HA2 := Lib.hid (HA1.out.alloc (.cells #[.int .u8 0, .int .i64 (c : Int), .int .i64 (wl : Int), .int .i64 (m : Int)] 55))
  have hbbN : base ≤ w.heap.size := H.out.ble
  have k1 : b ≠ w.heap.size := fun e => by have := lb; omega
  have k2 : b ≠ w1.heap.size := by omega
  have k3 : w.heap.size ≠ w1.heap.size := by omega
  clear hA1 hB1 hB2 d0 d2 q0 q1 c0' c2' l0' l1' c1' c3'
  have HW1 := Lib.hid (HA1.out.alloc (.cells #[.int .u8 76, .int .i64 (c : Int), .int .i64 (wl : Int), .int .i64 (m : Int)] 55))
  have A3 := (HW1.out.alloc (.cells #[.int .i64 (v : Int)] 3))
  have bT : Blk ((w1.alloc (.cells #[.int .u8 76, .int .i64 (c : Int), .int .i64 (wl : Int), .int .i64 (m : Int)] 55)).alloc (.cells #[.int .i64 (v : Int)] 3)) (w1.heap.size + 1) 3 #[.int .i64 (v : Int)] := (blk_new_at (by simp) : Blk ((w1.alloc (.cells #[.int .u8 76, .int .i64 (c : Int), .int .i64 (wl : Int), .int .i64 (m : Int)] 55)).alloc (.cells #[.int .i64 (v : Int)] 3)) (w1.heap.size + 1) 3 #[.int .i64 (v : Int)])
  have bS : Blk ((w1.alloc (.cells #[.int .u8 76, .int .i64 (c : Int), .int .i64 (wl : Int), .int .i64 (m : Int)] 55)).alloc (.cells #[.int .i64 (v : Int)] 3)) w1.heap.size 55 #[.int .u8 76, .int .i64 (c : Int), .int .i64 (wl : Int), .int .i64 (m : Int)] := ((blk_new_at (w := w1) (t := 55) rfl).alloc _)
  have bR : Blk ((w1.alloc (.cells #[.int .u8 76, .int .i64 (c : Int), .int .i64 (wl : Int), .int .i64 (m : Int)] 55)).alloc (.cells #[.int .i64 (v : Int)] 3)) w.heap.size 55 #[.int .u8 0, .int .i64 0, .int .i64 0, .int .i64 0] := (((Hb0.out.below HB1.out hszA).alloc _).alloc _)
  have hB3 : Kept (OwnA b (.slice (some ⟨gC, 0, none⟩) n capC) (.slice (some ⟨gl, 0, none⟩) m cap) (.slice aW wl cW) vs) w ((w1.alloc (.cells #[.int .u8 76, .int .i64 (c : Int), .int .i64 (wl : Int), .int .i64 (m : Int)] 55)).alloc (.cells #[.int .i64 (v : Int)] 3)) := (((Kept.of HB2.out).alloc _).alloc _)
  have hT1 := own_one (base := base) bT (by omega)
  have hP := A3.part HLM.out 1 (m - 1 - 1) (by omega)
  have hNl : (((s.loop.drop 1).take (m - 1 - 1)).map (Value.int .i64)).length = (m - 1 - 1) * 1 := by have := HLM.out; simp; omega
  have h1N : ∀ u ∈ ((s.loop.drop 1).take (m - 1 - 1)).map (Value.int .i64), u.oneCell' = true := by
    intro u hu
    obtain ⟨z, _, rfl⟩ := List.mem_map.1 hu
    rfl
  have c6 : 1 + (m - 1 - 1) ≤ maxLen := by unfold maxLen; omega
  have c7 : (1 + (m - 1 - 1)) * 8 ≤ 140737488355328 := by omega
  have nbT : some b ≠ some (w1.heap.size + 1) := by simp; omega
  have nsT : some w1.heap.size ≠ some (w1.heap.size + 1) := by simp
  have ntT : some w.heap.size ≠ some (w1.heap.size + 1) := by simp; omega
  have HA3 := Lib.hid A3
  have HbS := Lib.hid bS
  have HbR := Lib.hid bR
  have HB3 := Lib.hid hB3
  have HT1 := Lib.hid hT1
  have HP := Lib.hid hP
  have HNl := Lib.hid hNl
  have H1N := Lib.hid h1N
  clear A3 bT bS bR hB3 hT1 hP hNl h1N
  go_wp2_with (first | (go_at_call 36; refine (HV.out _ HB2.out).mono ?_; rintro e w2 ⟨rfl, rfl⟩) | (go_at_call 87; refine (HI.out _ HA2.out).mono ?_; rintro e w2 ⟨rfl, rfl⟩; rw [HIX.out]) | (at_builtin; refine wpList_append_lies _ rfl (.tmp 163) (.tmp 170) 28 rfl base 3 i2 _ 1 8 Tryz.underlying28 hj' hz0 hz1 hz2 rfl (by decide) (.slice (some ⟨w1.heap.size + 1, 0, none⟩) 1 1) 1 [.int .i64 (v : Int)] rfl HT1.out ⟨gl, 1, none⟩ (m - 1 - 1) (cap - 1) (((s.loop.drop 1).take (m - 1 - 1)).map (Value.int .i64)) rfl HNl.out HP.out H1N.out (by omega) c6 c7 (by simp; omega) (w1.heap.size + 2) (by simp) ?_; intro g4 cap4 w4 hr4 hg4 hat4 hlt4; have b4 := HA3.out.blk.grown hg4 nbT; obtain ⟨lb4, z0, z1, z2, z3, u2, u3⟩ := four b4; have s4 := HbS.out.grown hg4 nsT; have t4 := HbR.out.grown hg4 ntT; obtain ⟨ls4, s0, s1, s2, s3, -⟩ := four s4; obtain ⟨lt4, t0, t1, t2, t3, r2, r3⟩ := four t4; have r0 := t4.frozen 0; have r1 := t4.frozen 1; have HT4 := Lib.hid t4; have HG4 := Lib.hid hg4; have HR4 := Lib.hid hr4; have HAT4 := Lib.hid hat4; clear b4 s4 t4 hg4 hr4 hat4))
  all_goals
    have e4 : 1 + (m - 1 - 1) = ((v : Int) :: (y :: r).dropLast).length := by have := HLM.out; rw [HL.out] at this; simp at this ⊢; omega
    have e5 : [Value.int .i64 (v : Int)] ++ ((s.loop.drop 1).take (m - 1 - 1)).map (Value.int .i64) = intsV ((v : Int) :: (y :: r).dropLast) := by
      have := HLM.out
      rw [HL.out] at this ⊢
      simp only [List.length_cons] at this
      simp [intsV, List.dropLast_eq_take, show m - 1 - 1 = r.length from by omega]
    have hr4 := HR4.out
    rw [e4, e5] at hr4
    have A4 := HW1.out.reloop (l := (v : Int) :: (y :: r).dropLast) (gGrown (World.grownBy_alloc _ _ _) HG4.out (fun j e => .inr (by
      have : j = w1.heap.size + 1 := (Option.some.inj e).symm
      simp
      omega))) hr4 (.inr ⟨g4, rfl, by
      rcases HAT4.out with e | e
      · have : w1.heap.size + 1 = g4 := Option.some.inj e
        simp
        omega
      · simp
        omega⟩) (by simp)
    rw [← e4] at A4
    have hB4 := HB3.out.grown HG4.out (fun j e => .inr (by
      have : j = w1.heap.size + 1 := (Option.some.inj e).symm
      omega))
    have hO4 := own_reloop (b := b) (vC := .slice (some ⟨gC, 0, none⟩) n capC) (vL := .slice (some ⟨gl, 0, none⟩) m cap) (vL' := .slice (some ⟨g4, 0, none⟩) (1 + (m - 1 - 1)) cap4) (vW := .slice aW wl cW) (vs := vs) (z := w.heap.size) (.inr ⟨g4, rfl, by
      rcases HAT4.out with e | e
      · have : w1.heap.size + 1 = g4 := Option.some.inj e
        omega
      · have e' : g4 = w1.heap.size + 2 := e
        omega⟩)
    obtain ⟨o1, o2, o3⟩ := A4.out4 (HT4.out.far (p := ⟨b, 2, none⟩) (by simp only; omega) _) (hB4.setCell (p := ⟨b, 2, none⟩) (.inl (.inl rfl)) _) (Nat.le_refl _) (.int .u8 76) (.int .i64 (c : Int)) (.int .i64 (wl : Int)) (.int .i64 (m : Int))
    obtain ⟨-, p0, p1, p2, p3, -⟩ := four o2
    exact bodyPost_ret (v := .tuple #[.agg #[.int .u8 76, .int .i64 (c : Int), .int .i64 (wl : Int), .int .i64 (m : Int)], .bool true]) (by simp [results, Tryz.results60, go_sem, p0, p1, p2, p3]) rfl ⟨rfl, _, o1, o3, hO4⟩
end Go.Proofs.YtghlnknncahkgaaGreat
/-
  (*way).step, at the letter R, by walking its text.
-/
namespace Go.Proofs.YtghlnknncahkgaaGreat
open Go.RowKit Go.Maps

set_option maxRecDepth 100000 in
set_option maxHeartbeats 2000000 in
theorem stepR_any {w : World} {base g b n : Nat} {vC vL vW : Value} {vs : List Value} {s : WSt} {T : List Tr} (hT : Tab w g n T) (h : WayAt w base g b vC vL vW vs n s) {x y : Int} {r : List Int} (hl : s.loop = x :: y :: r)
    (hx : -1 ≤ x ∧ x ≤ 10000) (hy : -1 ≤ y ∧ y ≤ 10000) (hc : 0 ≤ facI T (x, y)) (hv : vertI T (facI T (x, y)) ∈ s.come) (hlen : r.length ≤ 50000) (_hwl : s.wait.length ≤ 50000) (h1 : 2 ≤ r.length) (hi : Lib.idxOf s.loop (vertI T (facI T (x, y))) = 2) :
    Calls Tryz.prog 60 #[.pointer (some ⟨b, 0, none⟩)] w fun e w' => e = .returned (.tuple #[.agg #[.int .u8 82, .int .i64 (facI T (x, y)), .int .i64 s.wait.length, .int .i64 (r.length + 2 : Nat)], .bool true]) ∧
      (∃ vL', WayAt w' base g b vC vL' vW vs n ⟨s.come, x :: r, s.wait⟩ ∧ Kind w w' b vC vL vW vs vL' vW vs) := by
  have hL := h.L
  rw [hl] at hL
  obtain ⟨m, hm⟩ : ∃ m, (x :: y :: r).length = m := ⟨_, rfl⟩
  rw [hm] at hL
  have hm2 : r.length + 2 = m := hm
  obtain ⟨gl, cap, rfl, hgl, hcap, hcap2⟩ := own_form hL (by omega)
  obtain ⟨aW, cW, rfl⟩ := ownsRow_slice h.W
  obtain ⟨lb, c0, c1, c2, c3, f2, f3⟩ := four h.blk
  have hs0 : (intsV (x :: y :: r))[0]? = some (.int .i64 x) := rfl
  have l0 : w.cell? ⟨gl, 0, none⟩ = some (.int .i64 x) := by rw [hL.cellAt 0 (by omega)]; exact hs0
  have l1 : w.cell? ⟨gl, 1, none⟩ = some (.int .i64 y) := by rw [hL.cellAt 1 (by omega)]; rfl
  have hnil := fun (W : World) => Lib.run_eql_slice_nil (P := Tryz.prog) W 28 3 (some ⟨gl, 0, none⟩) m cap 0 0 Tryz.underlying28
  obtain ⟨c, hce⟩ : ∃ c : Nat, facI T (x, y) = (c : Int) := ⟨(facI T (x, y)).toNat, by omega⟩
  have hcl := (facI_some hce).1
  have hvb := vertN_in hT.inr hcl
  obtain ⟨v, hve⟩ : ∃ v : Nat, vertI T (facI T (x, y)) = (v : Int) := ⟨(vertN T c).toNat, by rw [hce, vertI_nat hcl]; omega⟩
  have hvn : v < n := by rw [hce, vertI_nat hcl] at hve; omega
  obtain ⟨bs, hC, hbs⟩ := h.C
  obtain ⟨gC, capC, rfl, hgC, hcC, -⟩ := own_form hC (by omega)
  have hbv : bs[v]? = some true := (hbs.2 v hvn).2 (by rw [← hve]; exact hv)
  have cv : w.cell? ⟨gC, v, none⟩ = some (.bool true) := by
    rw [hC.cellAt v (by omega)]
    simp [bools, hbv]
  have HF := Lib.hid (fun (W : World) (hW : Below w.heap.size w W) => facing_any g n x y T W (hT.below hW) hx hy)
  have HV := Lib.hid (fun (W : World) (hW : Below w.heap.size w W) => (show Calls Tryz.prog 36 #[.pointer (some ⟨g, 0, none⟩), .int .i64 (c : Int)] W fun e w' => e = .returned (.int .i64 (v : Int)) ∧ W = w' from by
    have := vertex_any g n (facI T (x, y)) T W (hT.below hW).toTabS
    rw [hve, hce] at this
    exact this))
  have HI := Lib.hid (fun (W : World) (hW : WayAt W base g b (.slice (some ⟨gC, 0, none⟩) n capC) (.slice (some ⟨gl, 0, none⟩) m cap) (.slice aW s.wait.length cW) vs n s) => (show Calls Tryz.prog 87 #[.slice (some ⟨gl, 0, none⟩) m cap, .int .i64 (v : Int)] W fun e w' => e = .returned (.int .i64 (Lib.idxOf s.loop (v : Int))) ∧ w' = W from by
    have h2 := hW.L
    have h3 : s.loop.length = m := by rw [hl]; exact hm
    rw [h3] at h2
    have := Tryz.slices_Index_int gl 0 m cap s.loop (v : Int) W (Nat.le_of_eq h3.symm) (by omega) (fun j hj => by
      rw [Nat.zero_add, h2.cellAt j (by rw [Nat.mul_one, ← h3]; exact hj)]
      simp [intsV, List.getD, List.getElem?_eq_getElem hj])
    rw [show s.loop.take m = s.loop from List.take_of_length_le (by omega)] at this
    exact this))
  rw [hve] at hv hi
  rw [hce] at HF ⊢
  rw [hm2]
  obtain ⟨wl, hwe⟩ : ∃ wl, s.wait.length = wl := ⟨_, rfl⟩
  rw [hwe] at c3 h HI ⊢
  have H := Lib.hid h
  have HL := Lib.hid hl
  have HM := Lib.hid hm
  have HWE := Lib.hid hwe
  have hm3 : m ≤ 50002 := by omega
  have hm4 : 2 ≤ m := by omega
  have HIX := Lib.hid hi
  have n3 : ((m : Int) == 3) = false := by simp; omega
  have n5 : ((2 : Int) == (m : Int) - 1) = false := by simp; omega
  have n4 : 3 < m := by omega
  have n6 : (2 : Int) < (cap : Int) := by omega
  have n7 : 0 < m := by omega
  have n8 : 2 < cap := by omega
  have n9 : (2 : Int) ≤ (m : Int) := by omega
  have n10 : ¬ cap = 2 := by omega
  have HLM := Lib.hid (show s.loop.length = m from by rw [hl]; exact hm)
  obtain ⟨i2, hj', hz0, hz1, hz2⟩ := info_parts infoInt9
  clear hi h1
  clear h hT hl hL hs0 hm hm2 hlen hce hcl hvb hve hC hbs hbv hv hc hwe
  go_enter Tryz.func60, Tryz.ntmps60
  go_wp2
  have hA := H.out.alloc (.cells #[.int .u8 0, .int .i64 0, .int .i64 0, .int .i64 0] 55)
  have hB0 : Below w.heap.size w (w.alloc (.cells #[.int .u8 0, .int .i64 0, .int .i64 0, .int .i64 0] 55)) := (Below.refl _ _).alloc (Nat.le_refl _) _
  have b0 := Blk.new w 55 #[.int .u8 0, .int .i64 0, .int .i64 0, .int .i64 0]
  have hszA : w.heap.size < (w.alloc (.cells #[.int .u8 0, .int .i64 0, .int .i64 0, .int .i64 0] 55)).heap.size := by simp
  generalize w.alloc (.cells #[.int .u8 0, .int .i64 0, .int .i64 0, .int .i64 0] 55) = wA at *
  obtain ⟨lb', c0', c1', c2', c3', -⟩ := four hA.blk
  have l0' := (hB0.cell (p := ⟨gl, 0, none⟩) hgl).trans l0
  have l1' := (hB0.cell (p := ⟨gl, 1, none⟩) hgl).trans l1
  have HA := Lib.hid hA
  have HB0 := Lib.hid hB0
  have Hb0 := Lib.hid b0
  clear hA hB0 b0
  have i0 : (0 : Int) < (m : Int) := by omega
  have i1 : (1 : Int) < (m : Int) := by omega
  have d0 := cell_regrown c0'
  have d2 := cell_regrown c2'
  have q0 := cell_regrown l0'
  have q1 := cell_regrown l1'
  refine wp_region_quiet_below (by kernel_rfl) (by kernel_rfl) ?_
  repeat (go_big_quiet_step ((go_at_call 62; exact Calls.regrown_of (HF.out _ (HB0.out.trans ((below_regrown wA _ _).mono HB0.out.size))))))
  refine wpQuiet_nil ?_
  intro _ hw'
  obtain ⟨⟨dq, osq⟩, hw''⟩ := hw'
  subst hw''
  have hB1 := below_regrown wA dq osq
  generalize Sort.grow (redrawn wA dq) osq = w1 at *
  have hA1 := HA.out.below hB1
  obtain ⟨lb1, x0, x1, x2, x3, y2, y3⟩ := four hA1.blk
  have HA1 := Lib.hid hA1
  have hB2 := HB0.out.trans (hB1.mono HB0.out.size)
  have cv1 := (hB2.cell (p := ⟨gC, v, none⟩) hgC).trans cv
  have lx1 := (hB2.cell (p := ⟨gl, 0, none⟩) hgl).trans l0
  have hsz1 := hB1.size
  have hgC1 : gC < w1.heap.size := by omega
  have hgl1 : gl < w1.heap.size := by omega
  have HB1 := Lib.hid hB1
  have HB2 := Lib.hid hB2
  have HA2 := Lib.hid (HA1.out.alloc (.cells #[.int .u8 0, .int .i64 (c : Int), .int .i64 (wl : Int), .int .i64 (m : Int)] 55))
  have hbbN : base ≤ w.heap.size := H.out.ble
  have k1 : b ≠ w.heap.size := fun e => by have := lb; omega
  have k2 : b ≠ w1.heap.size := by omega
  have k3 : w.heap.size ≠ w1.heap.size := by omega
  clear hA1 hB1 hB2 d0 d2 q0 q1 c0' c2' l0' l1' c1' c3'
  have HW1 := Lib.hid (HA1.out.alloc (.cells #[.int .u8 82, .int .i64 (c : Int), .int .i64 (wl : Int), .int .i64 (m : Int)] 55))
  have A3 := (HW1.out.alloc (.cells #[.int .i64 x] 3)).drew
  have bT : Blk ((w1.alloc (.cells #[.int .u8 82, .int .i64 (c : Int), .int .i64 (wl : Int), .int .i64 (m : Int)] 55)).alloc (.cells #[.int .i64 x] 3)).drew (w1.heap.size + 1) 3 #[.int .i64 x] := (blk_new_at (by simp) : Blk ((w1.alloc (.cells #[.int .u8 82, .int .i64 (c : Int), .int .i64 (wl : Int), .int .i64 (m : Int)] 55)).alloc (.cells #[.int .i64 x] 3)) (w1.heap.size + 1) 3 #[.int .i64 x]).drew
  have bS : Blk ((w1.alloc (.cells #[.int .u8 82, .int .i64 (c : Int), .int .i64 (wl : Int), .int .i64 (m : Int)] 55)).alloc (.cells #[.int .i64 x] 3)).drew w1.heap.size 55 #[.int .u8 82, .int .i64 (c : Int), .int .i64 (wl : Int), .int .i64 (m : Int)] := ((blk_new_at (w := w1) (t := 55) rfl).alloc _).drew
  have bR : Blk ((w1.alloc (.cells #[.int .u8 82, .int .i64 (c : Int), .int .i64 (wl : Int), .int .i64 (m : Int)] 55)).alloc (.cells #[.int .i64 x] 3)).drew w.heap.size 55 #[.int .u8 0, .int .i64 0, .int .i64 0, .int .i64 0] := (((Hb0.out.below HB1.out hszA).alloc _).alloc _).drew
  have hB3 : Kept (OwnA b (.slice (some ⟨gC, 0, none⟩) n capC) (.slice (some ⟨gl, 0, none⟩) m cap) (.slice aW wl cW) vs) w ((w1.alloc (.cells #[.int .u8 82, .int .i64 (c : Int), .int .i64 (wl : Int), .int .i64 (m : Int)] 55)).alloc (.cells #[.int .i64 x] 3)).drew := (((Kept.of HB2.out).alloc _).alloc _).drew
  have hT1 := own_one (base := base) bT (by omega)
  have hP := A3.part HLM.out 2 (m - 2) (by omega)
  have hNl : (((s.loop.drop 2).take (m - 2)).map (Value.int .i64)).length = (m - 2) * 1 := by have := HLM.out; simp; omega
  have h1N : ∀ u ∈ ((s.loop.drop 2).take (m - 2)).map (Value.int .i64), u.oneCell' = true := by
    intro u hu
    obtain ⟨z, _, rfl⟩ := List.mem_map.1 hu
    rfl
  have c6 : 1 + (m - 2) ≤ maxLen := by unfold maxLen; omega
  have c7 : (1 + (m - 2)) * 8 ≤ 140737488355328 := by omega
  have nbT : some b ≠ some (w1.heap.size + 1) := by simp; omega
  have nsT : some w1.heap.size ≠ some (w1.heap.size + 1) := by simp
  have ntT : some w.heap.size ≠ some (w1.heap.size + 1) := by simp; omega
  have HA3 := Lib.hid A3
  have HbS := Lib.hid bS
  have HbR := Lib.hid bR
  have HB3 := Lib.hid hB3
  have HT1 := Lib.hid hT1
  have HP := Lib.hid hP
  have HNl := Lib.hid hNl
  have H1N := Lib.hid h1N
  clear A3 bT bS bR hB3 hT1 hP hNl h1N
  go_wp2_with (first | (go_at_call 36; refine (HV.out _ HB2.out).mono ?_; rintro e w2 ⟨rfl, rfl⟩) | (go_at_call 87; refine (HI.out _ HA2.out).mono ?_; rintro e w2 ⟨rfl, rfl⟩; rw [HIX.out]))
  go_region_law (first | (refine step_append_lies _ rfl (.tmp 185) (.tmp 190) 28 rfl base 3 i2 _ 1 8 Tryz.underlying28 hj' hz0 hz1 hz2 rfl (by decide) (.slice (some ⟨w1.heap.size + 1, 0, none⟩) 1 1) 1 [.int .i64 x] rfl HT1.out ⟨gl, 2, none⟩ (m - 2) (cap - 2) (((s.loop.drop 2).take (m - 2)).map (Value.int .i64)) rfl HNl.out HP.out H1N.out (by omega) c6 c7 (by simp; omega) (w1.heap.size + 2) (by simp) ?_; intro g4 cap4 w4 hr4 hg4 hat4 hlt4; have b4 := HA3.out.blk.grown hg4 nbT; obtain ⟨lb4, z0, z1, z2, z3, u2, u3⟩ := four b4; have s4 := HbS.out.grown hg4 nsT; have t4 := HbR.out.grown hg4 ntT; obtain ⟨ls4, s0, s1, s2, s3, -⟩ := four s4; obtain ⟨lt4, t0, t1, t2, t3, r2, r3⟩ := four t4; have r0 := t4.frozen 0; have r1 := t4.frozen 1; have HT4 := Lib.hid t4; have HG4 := Lib.hid hg4; have HR4 := Lib.hid hr4; have HAT4 := Lib.hid hat4; clear b4 s4 t4 hg4 hr4 hat4))
  all_goals
    go_wp2
    have e4 : 1 + (m - 2) = (x :: r).length := by have := HLM.out; rw [HL.out] at this; simp at this ⊢; omega
    have e5 : [Value.int .i64 x] ++ ((s.loop.drop 2).take (m - 2)).map (Value.int .i64) = intsV (x :: r) := by
      have := HLM.out
      rw [HL.out] at this ⊢
      simp only [List.length_cons] at this
      simp [intsV, show m - 2 = r.length from by omega]
    have hr4 := HR4.out
    rw [e4, e5] at hr4
    have A4 := HW1.out.reloop (l := x :: r) (gGrown (gDrew (World.grownBy_alloc _ _ _)) HG4.out (fun j e => .inr (by
      have : j = w1.heap.size + 1 := (Option.some.inj e).symm
      simp
      omega))) hr4 (.inr ⟨g4, rfl, by
      rcases HAT4.out with e | e
      · have : w1.heap.size + 1 = g4 := Option.some.inj e
        simp
        omega
      · simp
        omega⟩) (by simp)
    rw [← e4] at A4
    have hB4 := HB3.out.grown HG4.out (fun j e => .inr (by
      have : j = w1.heap.size + 1 := (Option.some.inj e).symm
      omega))
    have hO4 := own_reloop (b := b) (vC := .slice (some ⟨gC, 0, none⟩) n capC) (vL := .slice (some ⟨gl, 0, none⟩) m cap) (vL' := .slice (some ⟨g4, 0, none⟩) (1 + (m - 2)) cap4) (vW := .slice aW wl cW) (vs := vs) (z := w.heap.size) (.inr ⟨g4, rfl, by
      rcases HAT4.out with e | e
      · have : w1.heap.size + 1 = g4 := Option.some.inj e
        omega
      · have e' : g4 = w1.heap.size + 2 := e
        omega⟩)
    obtain ⟨o1, o2, o3⟩ := A4.out4 (HT4.out.far (p := ⟨b, 2, none⟩) (by simp only; omega) _) (hB4.setCell (p := ⟨b, 2, none⟩) (.inl (.inl rfl)) _) (Nat.le_refl _) (.int .u8 82) (.int .i64 (c : Int)) (.int .i64 (wl : Int)) (.int .i64 (m : Int))
    obtain ⟨-, p0, p1, p2, p3, -⟩ := four o2
    exact bodyPost_ret (v := .tuple #[.agg #[.int .u8 82, .int .i64 (c : Int), .int .i64 (wl : Int), .int .i64 (m : Int)], .bool true]) (by simp [results, Tryz.results60, go_sem, p0, p1, p2, p3]) rfl ⟨rfl, _, o1, o3, hO4⟩
end Go.Proofs.YtghlnknncahkgaaGreat
