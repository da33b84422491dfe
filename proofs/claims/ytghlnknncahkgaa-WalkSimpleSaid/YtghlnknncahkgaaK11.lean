/-
  Texts joined by program: BegW Of GenA.
-/
import Derived.Test.YtghlnknncahkgaaK9
import Derived.Test.YtghlnknncahkgaaK10
import Derived.Test.YtghlnknncahkgaaK7
import Derived.Deep.Onto
import Derived.BigRegion
import Derived.RegionTactic
import Derived.Lib.QuietBelow
import Derived.BigQuiet
/-
  walk.begin, by walking its text.
-/
namespace Go.Proofs.Ytghlnknncahkgaa
open Go.RowKit Go.Maps

set_option maxRecDepth 100000 in
set_option maxHeartbeats 2000000 in
theorem begin_any {w : World} {g n c : Nat} {T : List Tr} (hT : Tab w g n T) (hS : Surf n T) (hc : c < 3 * T.length) :
    Calls Try.prog 41 #[.pointer (some ⟨g, 0, none⟩), .int .i64 c] w fun e w' => ∃ b vC vL vW vs, e = .returned (.pointer (some ⟨b, 0, none⟩)) ∧ WayAt w' w.heap.size g b vC vL vW vs n (beginS T c) ∧ Below w.heap.size w w' := by
  have hn : (n : Int) ≤ 4096 := hS.n1
  obtain ⟨n1, n2, n3⟩ := vert_ne hS.simple hc
  have hb := Jor.nx_lt hc
  have hd := Jor.pv_lt hc
  obtain ⟨va, hva⟩ : ∃ v : Nat, vertN T c = v := ⟨(vertN T c).toNat, by have := vertN_in hT.inr hc; omega⟩
  obtain ⟨vb, hvb⟩ : ∃ v : Nat, vertN T (Jor.nx c) = v := ⟨(vertN T (Jor.nx c)).toNat, by have := vertN_in hT.inr hb; omega⟩
  obtain ⟨vd, hvd⟩ : ∃ v : Nat, vertN T (Jor.pv c) = v := ⟨(vertN T (Jor.pv c)).toNat, by have := vertN_in hT.inr hd; omega⟩
  have la : va < n := by have := vertN_in hT.inr hc; omega
  have lb : vb < n := by have := vertN_in hT.inr hb; omega
  have ld : vd < n := by have := vertN_in hT.inr hd; omega
  have HV0 := Lib.hid (vertices_any g n T w hT.toTabS)
  have HVa := Lib.hid (fun (W : World) (hW : Below w.heap.size w W) => (show Calls Try.prog 37 #[.pointer (some ⟨g, 0, none⟩), .int .i64 (c : Int)] W fun e w' => e = .returned (.int .i64 (va : Int)) ∧ W = w' from by
    have := vertex_any g n (c : Int) T W (hT.below hW).toTabS
    rw [vertI_nat hc, hva] at this
    exact this))
  have HVb := Lib.hid (fun (W : World) (hW : Below w.heap.size w W) => (show Calls Try.prog 37 #[.pointer (some ⟨g, 0, none⟩), .int .i64 ((Jor.nx c : Nat) : Int)] W fun e w' => e = .returned (.int .i64 (vb : Int)) ∧ W = w' from by
    have := vertex_any g n ((Jor.nx c : Nat) : Int) T W (hT.below hW).toTabS
    rw [vertI_nat hb, hvb] at this
    exact this))
  have HVd := Lib.hid (fun (W : World) (hW : Below w.heap.size w W) => (show Calls Try.prog 37 #[.pointer (some ⟨g, 0, none⟩), .int .i64 ((Jor.pv c : Nat) : Int)] W fun e w' => e = .returned (.int .i64 (vd : Int)) ∧ W = w' from by
    have := vertex_any g n ((Jor.pv c : Nat) : Int) T W (hT.below hW).toTabS
    rw [vertI_nat hd, hvd] at this
    exact this))
  have HN := Lib.hid (fun (W : World) (hW : Below w.heap.size w W) => (show Calls Try.prog 38 #[.pointer (some ⟨g, 0, none⟩), .int .i64 (c : Int)] W fun e w' => e = .returned (.int .i64 ((Jor.nx c : Nat) : Int)) ∧ W = w' from by
    have := next_any g n (c : Int) T W (hT.below hW).toTabS
    unfold nextI at this
    rw [hasC_true (by omega) (by omega), if_pos rfl, Int.toNat_natCast] at this
    exact this))
  have HP := Lib.hid (fun (W : World) (hW : Below w.heap.size w W) => (show Calls Try.prog 39 #[.pointer (some ⟨g, 0, none⟩), .int .i64 (c : Int)] W fun e w' => e = .returned (.int .i64 ((Jor.pv c : Nat) : Int)) ∧ W = w' from by
    have := prev_any g n (c : Int) T W (hT.below hW).toTabS
    unfold prevI at this
    rw [hasC_true (by omega) (by omega), if_pos rfl, Int.toNat_natCast] at this
    exact this))
  have hbegin : beginS T c = ⟨[(va : Int), vb, vd], [(vb : Int), va, vd], []⟩ := by unfold beginS; rw [hva, hvb, hvd]
  rw [hbegin]
  have m1 : vb ≠ va := fun e => n1 (by rw [hvb, hva, e])
  have m2 : vd ≠ va := fun e => n2 (by rw [hvd, hva, e])
  have m3 : vb ≠ vd := fun e => n3 (by rw [hvb, hvd, e])
  have m4 := m1.symm
  have m5 := m2.symm
  have m6 := m3.symm
  clear hbegin hva hvb hvd n1 n2 n3 hS
  obtain ⟨nb, hnb⟩ : ∃ k, Jor.nx c = k := ⟨_, rfl⟩
  obtain ⟨nd, hnd⟩ : ∃ k, Jor.pv c = k := ⟨_, rfl⟩
  rw [hnb] at HVb HN
  rw [hnd] at HVd HP
  clear hb hd hnb hnd hT hc
  obtain ⟨i2, hj', hz0, hz1, hz2⟩ := info_parts infoBool
  go_enter Try.func41, Try.ntmps41
  go_wp2_with fail
  refine HV0.out.mono ?_
  rintro e w0 ⟨rfl, rfl⟩
  go_upto_region 2 with (at_make; refine wpList_make_full _ rfl (.tmp 11) (.tmp 11) 110 rfl w.heap.size 4 i2 _ 1 Try.underlying110 hj' hz0 hz1 .i64 .i64 _ _ n rfl rfl rfl rfl (by rw [hz2]; omega) (by unfold maxLen; omega) (Nat.le_refl _) ?_; intro w1 hr1 hg1)
  rename World => w1
  have hsz1 := hg1.size
  have hB1 : Below w.heap.size w w1 := (Below.refl _ _).grown hg1 (Nat.le_refl _) (fun j e => by cases e)
  have HB1 := Lib.hid hB1
  have HR1 := Lib.hid hr1
  clear hr1 hg1 hB1
  rw [made_bools] at HR1
  have bw := Blk.new w1 112 #[.pointer (some ⟨g, 0, none⟩), .slice (some ⟨w.heap.size, 0, none⟩) n n, .slice none 0 0, .slice none 0 0]
  have HR2 := Lib.hid (HR1.out.alloc (.cells #[.pointer (some ⟨g, 0, none⟩), .slice (some ⟨w.heap.size, 0, none⟩) n n, .slice none 0 0, .slice none 0 0] 112))
  have HB2 := Lib.hid (HB1.out.alloc hsz1 (.cells #[.pointer (some ⟨g, 0, none⟩), .slice (some ⟨w.heap.size, 0, none⟩) n n, .slice none 0 0, .slice none 0 0] 112))
  have hw1 : w.heap.size < w1.heap.size := (HR1.out.lt w.heap.size rfl).2
  have hw2 : w1.heap.size < (w1.alloc (.cells #[.pointer (some ⟨g, 0, none⟩), .slice (some ⟨w.heap.size, 0, none⟩) n n, .slice none 0 0, .slice none 0 0] 112)).heap.size := by simp
  have k1 := HR2.out.cellAt va (by omega)
  have k2 := HR2.out.cellAt vb (by omega)
  have k3 := HR2.out.cellAt vd (by omega)
  have f1 := HR2.out.frozenAt va
  have f2 := HR2.out.frozenAt vb
  have f3 := HR2.out.frozenAt vd
  simp only [bools, List.map_replicate, List.getElem?_replicate, la, lb, ld, if_true] at k1 k2 k3
  generalize (w1.alloc (.cells #[.pointer (some ⟨g, 0, none⟩), .slice (some ⟨w.heap.size, 0, none⟩) n n, .slice none 0 0, .slice none 0 0] 112)) = W2 at *
  obtain ⟨lbw, c0, c1, c2, c3, g2, g3⟩ := four bw
  have HBw := Lib.hid bw
  clear bw HR1 HB1
  have la' : (va : Int) < (n : Int) := by omega
  have lb' : (vb : Int) < (n : Int) := by omega
  have ld' : (vd : Int) < (n : Int) := by omega
  have hne : w.heap.size ≠ w1.heap.size := by omega
  have hne' : w1.heap.size ≠ w.heap.size := by omega
  have lw2 : w.heap.size < W2.heap.size := by omega
  go_upto_region 3 with (first
    | (go_at_call 37; with_reducible refine (HVa.out _ HB2.out).mono ?_; rintro e w2 ⟨rfl, rfl⟩)
    | (go_at_call 37; with_reducible refine (HVb.out _ HB2.out).mono ?_; rintro e w2 ⟨rfl, rfl⟩)
    | (go_at_call 37; with_reducible refine (HVd.out _ HB2.out).mono ?_; rintro e w2 ⟨rfl, rfl⟩)
    | (go_at_call 38; with_reducible refine (HN.out _ HB2.out).mono ?_; rintro e w2 ⟨rfl, rfl⟩)
    | (go_at_call 39; with_reducible refine (HP.out _ HB2.out).mono ?_; rintro e w2 ⟨rfl, rfl⟩))
  go_region
  obtain ⟨r1, r2⟩ := HR2.out.stored va (.bool true)
  obtain ⟨r3, r4⟩ := r1.stored vb (.bool true)
  obtain ⟨r5, r6⟩ := r3.stored vd (.bool true)
  have bw3 : Blk ((((W2.setCell ⟨w.heap.size, va, none⟩ (.bool true)).setCell ⟨w.heap.size, vb, none⟩ (.bool true)).setCell ⟨w.heap.size, vd, none⟩ (.bool true)).drew) w1.heap.size 112 #[.pointer (some ⟨g, 0, none⟩), .slice (some ⟨w.heap.size, 0, none⟩) n n, .slice none 0 0, .slice none 0 0] := (((HBw.out.far (p := ⟨w.heap.size, va, none⟩) (by simp only; omega) _).far (p := ⟨w.heap.size, vb, none⟩) (by simp only; omega) _).far (p := ⟨w.heap.size, vd, none⟩) (by simp only; omega) _).drew
  have r7 : World.ownsRow ((((W2.setCell ⟨w.heap.size, va, none⟩ (.bool true)).setCell ⟨w.heap.size, vb, none⟩ (.bool true)).setCell ⟨w.heap.size, vd, none⟩ (.bool true)).drew) w.heap.size 4 1 (.slice (some ⟨w.heap.size, 0, none⟩) n n) n ((((bools (List.replicate n false)).set va (.bool true)).set vb (.bool true)).set vd (.bool true)) := r5
  have HB3 : Below w.heap.size w ((((W2.setCell ⟨w.heap.size, va, none⟩ (.bool true)).setCell ⟨w.heap.size, vb, none⟩ (.bool true)).setCell ⟨w.heap.size, vd, none⟩ (.bool true)).drew) := (((HB2.out.setCell (p := ⟨w.heap.size, va, none⟩) (Nat.le_refl _) _).setCell (p := ⟨w.heap.size, vb, none⟩) (Nat.le_refl _) _).setCell (p := ⟨w.heap.size, vd, none⟩) (Nat.le_refl _) _).drew
  generalize ((((W2.setCell ⟨w.heap.size, va, none⟩ (.bool true)).setCell ⟨w.heap.size, vb, none⟩ (.bool true)).setCell ⟨w.heap.size, vd, none⟩ (.bool true)).drew) = W3 at *
  clear k1 k2 k3 f1 f2 f3 c0 c1 c2 c3 g2 g3 lbw
  obtain ⟨lbw, c0, c1, c2, c3, g2, g3⟩ := four bw3
  have bits : BitsOf (((((List.replicate n false).set va true).set vb true).set vd true)) n [(va : Int), vb, vd] := ((BitsOf.none_ n).mark la |>.mark lb |>.mark ld)
  rw [bools_set, bools_set, bools_set] at r7
  have HR3 := Lib.hid r7
  have HB3' := Lib.hid HB3
  have HBw3 := Lib.hid bw3
  have hsz3 := HB3.size
  clear r1 r2 r3 r4 r5 r6 r7 HB3 bw3
  go_wp2
  have hz : (W3.setCell ⟨w1.heap.size, 2, none⟩ (.slice (some ⟨W3.heap.size, 0, none⟩) 3 3)).heap.size = W3.heap.size := by simp [World.setCell]
  have bL : Blk ((W3.setCell ⟨w1.heap.size, 2, none⟩ (.slice (some ⟨W3.heap.size, 0, none⟩) 3 3)).alloc (.cells #[.int .i64 vb, .int .i64 va, .int .i64 vd] 3)) W3.heap.size 3 #[.int .i64 vb, .int .i64 va, .int .i64 vd] := blk_new_at hz
  have hL : ((W3.setCell ⟨w1.heap.size, 2, none⟩ (.slice (some ⟨W3.heap.size, 0, none⟩) 3 3)).alloc (.cells #[.int .i64 vb, .int .i64 va, .int .i64 vd] 3)).ownsRow w.heap.size 3 1 (.slice (some ⟨W3.heap.size, 0, none⟩) 3 3) 3 [.int .i64 vb, .int .i64 va, .int .i64 vd] :=
    ⟨rfl, .inr ⟨_, 3, _, rfl, hsz3, bL, Nat.le_refl _, by decide, rfl, rfl⟩⟩
  have bA := (HBw3.out.set_ 2 (.slice (some ⟨W3.heap.size, 0, none⟩) 3 3)).alloc (.cells #[.int .i64 vb, .int .i64 va, .int .i64 vd] 3)
  have hC := (own_alloc_st (i := 2) (u := .slice (some ⟨W3.heap.size, 0, none⟩) 3 3) HR3.out HBw3.out (by decide)).alloc (.cells #[.int .i64 vb, .int .i64 va, .int .i64 vd] 3)
  go_ret
  refine ⟨w1.heap.size, .slice (some ⟨w.heap.size, 0, none⟩) n n, .slice (some ⟨W3.heap.size, 0, none⟩) 3 3, .slice none 0 0, [], rfl, ⟨?_, by omega, ⟨_, hC, bits⟩, hL, World.ownsRow_nil _ _ _ _, fun i u r hu _ => by simp at hu, ⟨fun v hv => ?_, by simp⟩, by simp⟩, ?_⟩
  · simpa using bA
  · rw [List.mem_singleton.1 hv]
    exact ⟨_, rfl⟩
  · exact (HB3'.out.setCell (p := ⟨w1.heap.size, 2, none⟩) (by simp only; omega) _).alloc (by rw [hz]; exact hsz3) _
end Go.Proofs.Ytghlnknncahkgaa
/-
  shell.Of, Count, by walking their texts.
-/
namespace Go.Proofs.Ytghlnknncahkgaa
open Go.RowKit

theorem made_ints (m : Nat) : (madeCells (Value.int .i64 0).cells (m * 1)).toList = List.replicate m (.int .i64 0) := by
  rw [Nat.mul_one]
  show (madeCells #[Value.int .i64 0] m).toList = _
  rw [toList_madeCells_one]
theorem intsV_at {out : List Int} {j : Nat} (h : j < out.length) : (intsV out)[j]? = some (.int .i64 (at_ out j)) := by
  unfold intsV at_
  rw [List.getElem?_map, List.getElem?_eq_getElem h]
  simp [List.getD, h]
theorem intsV_set (out : List Int) (j : Nat) (x : Int) : (intsV out).set j (.int .i64 x) = intsV (out.set j x) := by simp [intsV, List.map_set]
theorem fill_set (k F : Nat) (h : k < F) : (intsV (List.replicate k (-1) ++ List.replicate (F - k) 0)).set k (.int .i64 (-1)) = intsV (List.replicate (k + 1) (-1) ++ List.replicate (F - (k + 1)) 0) := by
  rw [intsV_set]
  congr 1
  apply List.ext_getElem?
  intro i
  rw [List.getElem?_set]
  by_cases e : k = i
  · subst e
    rw [if_pos rfl, if_pos (by simp; omega), List.getElem?_append_left (by simp), List.getElem?_replicate, if_pos (by omega)]
  · rw [if_neg e]
    by_cases hi : i < k
    · rw [List.getElem?_append_left (by simpa using hi), List.getElem?_append_left (by simp; omega), List.getElem?_replicate, List.getElem?_replicate, if_pos hi, if_pos (by omega)]
    · rw [List.getElem?_append_right (by simp; omega), List.getElem?_append_right (by simp; omega), List.getElem?_replicate, List.getElem?_replicate]
      simp only [List.length_replicate]
      by_cases h2 : i < F
      · rw [if_pos (by omega), if_pos (by omega)]
      · rw [if_neg (by omega), if_neg (by omega)]
set_option maxRecDepth 100000 in
set_option maxHeartbeats 4000000 in
theorem of_any (g : Nat) (N : Int) (T : List Tr) (w : World) (h : Tab w g N T) (hE : (T.flatMap edges3).Nodup) : Calls Try.prog 28 #[.pointer (some ⟨g, 0, none⟩)] w fun e w' => ∃ v out, e = .returned v ∧ w'.ownsRow w.heap.size 3 1 v T.length (intsV out) ∧ Shl T out ∧ (∀ j, j < T.length → at_ out j < T.length) ∧ Below w.heap.size w w' := by
  obtain ⟨i2, hj', hz0, hz1, hz2⟩ := info_parts infoInt
  have HT := Lib.hid h
  have H0 := Lib.hid (triangles_any g N T w h.toTabS)
  have hl := h.len
  have hgl := h.lt
  obtain ⟨F, hF⟩ : ∃ F, T.length = F := ⟨_, rfl⟩
  rw [hF] at hl H0 ⊢
  have HF := Lib.hid hF
  clear hF h
  go_enter Try.func28, Try.ntmps28
  go_wp2_with fail
  refine H0.out.mono ?_
  rintro e w0 ⟨rfl, rfl⟩
  go_wp2_with (at_make; refine wpList_make_full _ rfl (.tmp 12) (.tmp 12) 33 rfl w.heap.size 3 i2 _ 1 Try.underlying33 hj' hz0 hz1 .i64 .i64 _ _ F rfl rfl rfl rfl (by rw [hz2]; omega) (by unfold maxLen; omega) (Nat.le_refl _) ?_; intro w1 hr1 hg1)
  rw [made_ints] at hr1
  have hB1 : Below w.heap.size w w1 := (Below.refl _ _).grown hg1 (Nat.le_refl _) (fun j e => by cases e)
  clear hg1
  go_loopw [16] (fun ix wr => ∃ k : Nat, k ≤ F ∧ ix = .int .i64 k ∧ wr.ownsRow w.heap.size 3 1 (.slice (some ⟨w.heap.size, 0, none⟩) F F) F (intsV (List.replicate k (-1) ++ List.replicate (F - k) 0)) ∧ Below w.heap.size w wr) (fun ix _ => F - (intOf ix).toNat)
  case atStart => exact ⟨0, Nat.zero_le _, rfl, by simpa [intsV] using hr1, hB1⟩
  case round =>
    clear hr1 hB1
    obtain ⟨k, hk, rfl, hr, hB⟩ := hrel
    rename World => wr
    by_cases hlt : k < F
    · have hlen : (List.replicate k (-1 : Int) ++ List.replicate (F - k) 0).length = F := by simp; omega
      have hc : wr.cell? ⟨w.heap.size, k, none⟩ = some (.int .i64 (at_ (List.replicate k (-1) ++ List.replicate (F - k) 0) k)) := by rw [hr.cellAt k (by omega)]; exact intsV_at (by rw [hlen]; exact hlt)
      have hf := hr.frozenAt k
      have hk3 : (k : Int) < (F : Int) := by omega
      have hsz := hB.size
      have hst := hr.stored k (.int .i64 (-1))
      rw [fill_set k F hlt] at hst
      have HST := Lib.hid hst
      have HB := Lib.hid hB
      clear hr hB hlen hst
      go_wp2
      go_roundw
      case measure => simp [intOf]; omega
      case rel => exact ⟨k + 1, by omega, by go_num, HST.out.1, HB.out.grown HST.out.2 hsz (fun j e => by cases e; exact Nat.le_refl _)⟩
    · obtain rfl : k = F := by omega
      have hI : OfInv T 0 0 (List.replicate T.length (-1)) := OfInv.start T
      rw [HF.out] at hI
      have hr' : wr.ownsRow w.heap.size 3 1 (.slice (some ⟨w.heap.size, 0, none⟩) k k) k (intsV (List.replicate k (-1))) := by simpa using hr
      have HI := Lib.hid hI
      have HR := Lib.hid hr'
      have HB := Lib.hid hB
      clear hr hB hr' hI
      go_wp2
      go_loopw [5, 25] (fun v5 ix wr => ∃ (f n : Nat) (out : List Int), f ≤ k ∧ n ≤ f ∧ ix = .int .i64 f ∧ v5 = .int .i64 n ∧ wr.ownsRow w.heap.size 3 1 (.slice (some ⟨w.heap.size, 0, none⟩) k k) k (intsV out) ∧ OfInv T f n out ∧ Below w.heap.size w wr) (fun _ ix _ => k - (intOf ix).toNat)
      case atStart => exact ⟨0, 0, _, Nat.zero_le _, Nat.le_refl _, rfl, rfl, HR.out, HI.out, HB.out⟩
      case round =>
        rename World => wz
        clear HR HI HB
        obtain ⟨f, n, out, hf, hnf, rfl, rfl, hr, hI, hB⟩ := hrel
        by_cases hlt2 : f < k
        · have hol : out.length = k := by rw [hI.len, HF.out]
          have hc : wz.cell? ⟨w.heap.size, f, none⟩ = some (.int .i64 (at_ out f)) := by rw [hr.cellAt f (by omega)]; exact intsV_at (by rw [hol]; exact hlt2)
          have hfz := hr.frozenAt f
          have hf3 : (f : Int) < (k : Int) := by omega
          have hsz := hB.size
          by_cases h0 : 0 ≤ at_ out f
          · have hd : decide (0 ≤ at_ out f) = true := by simpa using h0
            have hI2 := hI.skip h0
            have HI2 := Lib.hid hI2
            have HR := Lib.hid hr
            have HB := Lib.hid hB
            generalize at_ out f = z at *
            clear hI hI2 hr hB hol
            go_wp2
            go_roundw
            case measure => simp [intOf]; omega
            case rel => exact ⟨f + 1, n, out, by omega, by omega, by go_num, rfl, HR.out, HI2.out, HB.out⟩
          · have hd : decide (0 ≤ at_ out f) = false := by simpa using h0
            have hbf := hI.begin_ (by rw [HF.out]; exact hlt2) (by omega)
            have Hbf := Lib.hid hbf
            have hst := hr.stored f (.int .i64 (n : Int))
            rw [intsV_set] at hst
            have HST := Lib.hid hst
            have HI := Lib.hid hI
            have HB := Lib.hid hB
            have hgo := (hr.lt _ rfl).2
            have hW0 : ((wz.setCell ⟨w.heap.size, f, none⟩ (.int .i64 (n : Int))).alloc (.cells #[.int .i64 f] 3)).ownsRow wz.heap.size 3 1 (.slice (some ⟨wz.heap.size, 0, none⟩) 1 1) 1 (intsV (nats [f])) := by
              have := World.ownsRow_lit (wz.setCell ⟨w.heap.size, f, none⟩ (.int .i64 (n : Int))) (base := wz.heap.size) (e := 3) (size := 1) #[.int .i64 (f : Int)] 1 (by simp) (by decide) rfl
              simpa [intsV, nats] using this
            have HW0 := Lib.hid hW0
            generalize at_ out f = z at *
            clear hI hbf hr hB hol hst hW0
            go_wp2
            go_loopw [7, 8] (fun v7 i8 wy => ∃ (v' : Value) (W : List Nat) (out' : List Int) (i : Nat), v' = v7 ∧ i ≤ W.length ∧ i8 = .int .i64 i ∧ wy.ownsRow wz.heap.size 3 1 v' W.length (intsV (nats W)) ∧ wy.ownsRow w.heap.size 3 1 (.slice (some ⟨w.heap.size, 0, none⟩) k k) k (intsV out') ∧ OfBfs T f n out W out' i 0 ∧ Below w.heap.size w wy) (fun _ i8 _ => k + 1 - (intOf i8).toNat)
            case atStart =>
              exact ⟨_, [f], _, 0, rfl, by simp, rfl, HW0.out, HST.out.1.alloc _, Hbf.out, (HB.out.grown HST.out.2 hsz (fun j e => by cases e; exact Nat.le_refl _)).alloc (by simp; exact hsz) _⟩
            case round =>
              rename World => wy
              clear HST Hbf HW0 hc hfz
              obtain ⟨v7, W, out', i, rfl, hi, rfl, hW, hr, hbf, hB⟩ := hrel
              have hwl := hbf.wl
              rw [HF.out] at hwl
              obtain ⟨L, hL⟩ : ∃ L, W.length = L := ⟨_, rfl⟩
              have HL := Lib.hid hL
              rw [hL] at hi hW hwl
              clear hL
              by_cases hiL : i < L
              · obtain ⟨u, hu⟩ : ∃ u, W[i]? = some u := ⟨W[i]'(by have := HL.out; omega), List.getElem?_eq_getElem _⟩
                have hul := hbf.lt u (List.mem_of_getElem? hu)
                rw [HF.out] at hul
                obtain ⟨aw, cw, rfl⟩ := ownsRow_slice hW
                have Hu := Lib.hid hu
                have HW := Lib.hid hW
                have HR := Lib.hid hr
                have HBF := Lib.hid hbf
                have HBy := Lib.hid hB
                have hi3 : (i : Int) < (L : Int) := by omega
                clear hu hW hr hbf hB
                go_wp2
                go_loopw [7, 45] (fun v7 k4 wx => ∃ (v' : Value) (W : List Nat) (out' : List Int) (q : Nat), v' = v7 ∧ q ≤ 3 ∧ k4 = .int .i64 q ∧ wx.ownsRow wz.heap.size 3 1 v' W.length (intsV (nats W)) ∧ wx.ownsRow w.heap.size 3 1 (.slice (some ⟨w.heap.size, 0, none⟩) k k) k (intsV out') ∧ OfBfs T f n out W out' i q ∧ W[i]? = some u ∧ Below w.heap.size w wx) (fun _ k4 _ => 3 - (intOf k4).toNat)
                case atStart => exact ⟨_, W, out', 0, rfl, by omega, rfl, by rw [HL.out]; exact HW.out, HR.out, HBF.out, Hu.out, HBy.out⟩
                case round =>
                  rename World => wx
                  clear HW HR HBF HBy Hu HL hi3 hiL hi hwl
                  clear W out'
                  obtain ⟨v7, W, out', q, rfl, hq, rfl, hW, hr, hbf, hu, hB⟩ := hrel
                  have hwl := hbf.wl
                  rw [HF.out] at hwl
                  have hiL := (List.getElem?_eq_some_iff.1 hu).1
                  by_cases hq3 : q < 3
                  · obtain ⟨gw, cw', rfl, hgw1, hgw2⟩ := hW.form (by omega)
                    have hcw := hW.cellAt i (by omega)
                    rw [show (intsV (nats W))[i]? = some (.int .i64 (u : Int)) from by simp [intsV, nats, hu]] at hcw
                    have hsx := hB.size
                    have HO := Lib.hid (opp_any g N (3 * (u : Int) + (q : Int)) T wx (HT.out.below (hB.mono (Nat.le_refl _))))
                    obtain ⟨L2, hL2⟩ : ∃ L2, W.length = L2 := ⟨_, rfl⟩
                    rw [hL2] at hW hiL hwl ⊢
                    have HL2 := Lib.hid hL2
                    have hi3 : (i : Int) < (L2 : Int) := by omega
                    have hq0 : (q : Int) < 3 := by omega
                    have hqn : (0 : Int) ≤ (q : Int) := by omega
                    have hu0 : (0 : Int) ≤ (u : Int) := by omega
                    have hu1 : (u : Int) ≤ 8192 := by omega
                    have ecast : (3 * (u : Int) + (q : Int)) = ((3 * u + q : Nat) : Int) := by push_cast; rfl
                    have HEC := Lib.hid ecast
                    have HW := Lib.hid hW
                    have HR := Lib.hid hr
                    have HBF := Lib.hid hbf
                    have HU := Lib.hid hu
                    have HBx := Lib.hid hB
                    clear hW hr hbf hu hB hL2 ecast
                    rcases opp_cases T ((3 * u + q : Nat) : Int) with ho | ⟨o, ho, hol⟩
                    · rw [HEC.out, ho] at HO
                      have Hs := Lib.hid (HBF.out.step0 HU.out (fun o e => by rw [ho] at e; omega))
                      clear ho
                      go_wp2_with fail
                      rw [HEC.out]
                      refine HO.out.mono ?_
                      rintro e w2 ⟨rfl, hb2⟩
                      have HB2 := Lib.hid hb2
                      clear hb2 hcw
                      go_wp2
                      go_roundw
                      case measure => simp [intOf]; omega
                      case rel => exact ⟨_, W, out', q + 1, rfl, by omega, by go_num, by rw [HL2.out]; exact own_below HW.out HB2.out, own_below HR.out HB2.out, Hs.out, HU.out, HBx.out.trans (HB2.out.mono hsx)⟩
                    · rw [HEC.out, ho] at HO
                      rw [HF.out] at hol
                      obtain ⟨t, ht⟩ : ∃ t, o / 3 = t := ⟨_, rfl⟩
                      have e1 : (o : Int) / 3 = (t : Int) := by omega
                      have htk : t < k := by omega
                      have ht3 : (t : Int) < (k : Int) := by omega
                      have ht0 : (0 : Int) ≤ (t : Int) := by omega
                      have ho0 : (0 : Int) ≤ (o : Int) := by omega
                      have ho1 : (o : Int) ≤ 100000 := by omega
                      have hd0 : decide (0 ≤ (o : Int)) = true := by simp
                      have holn : out'.length = k := by rw [HBF.out.len, HF.out]
                      have hco : wx.cell? ⟨w.heap.size, t, none⟩ = some (.int .i64 (at_ out' t)) := by rw [HR.out.cellAt t (by omega)]; exact intsV_at (by rw [holn]; exact htk)
                      have Hho := Lib.hid ho
                      have Hht := Lib.hid ht
                      have hgx := (HR.out.lt _ rfl).2
                      by_cases hneg : at_ out' t < 0
                      · have hd1 : decide (at_ out' t < 0) = true := by simpa using hneg
                        have Hs := Lib.hid (HBF.out.add HI.out HU.out hq3 ho (by rw [ht]; exact hneg))
                        rw [ht] at Hs
                        generalize at_ out' t = z at *
                        have c6 : L2 + 1 ≤ maxLen := by unfold maxLen; omega
                        have c7 : (L2 + 1) * 8 ≤ 140737488355328 := by omega
                        clear ho ht hneg holn
                        go_wp2_with fail
                        rw [HEC.out]
                        refine HO.out.mono ?_
                        rintro e w2 ⟨rfl, hb2⟩
                        have hco2 := (hb2.cell (p := ⟨w.heap.size, t, none⟩) hgx).trans hco
                        have hR2 := own_below HR.out hb2
                        have hfo2 := hR2.frozenAt t
                        have hst := hR2.stored t (.int .i64 (n : Int))
                        rw [intsV_set] at hst
                        have HST := Lib.hid hst
                        have hW2 := own_below HW.out hb2
                        have hgo2 := (hR2.lt _ rfl).2
                        have hW3 := hW2.kept hst.2 (.inr (by simp [Value.ownBlock]; omega))
                        have HB2 := Lib.hid hb2
                        have hsz2 := hb2.size
                        clear hb2 hcw hco hR2 hst hW2
                        go_wp2_with (at_builtin; refine wpList_append_lies _ rfl (.tmp 72) (.tmp 75) 33 rfl wz.heap.size 3 i2 _ 1 8 Try.underlying33 hj' hz0 hz1 hz2 rfl (by decide) _ L2 (intsV (nats W)) rfl (hW3.alloc _) ⟨w2.heap.size, 0, none⟩ 1 1 [.int .i64 t] rfl rfl (World.news_of_block (by have := heap_alloc_new (w2.setCell ⟨w.heap.size, t, none⟩ (.int .i64 (n : Int))) (.cells #[.int .i64 (t : Int)] 3); simpa using this)) (by simp [Value.oneCell']) (by decide) c6 c7 (by simp; omega) (w2.heap.size + 1) (by simp) ?_; intro g6 cap6 W6 hr6 hg6 hat6 _)
                        go_roundw
                        case measure => simp [intOf]; omega
                        case rel =>
                          have hO3 := (HST.out.1.alloc (.cells #[.int .i64 (t : Int)] 3)).kept hg6 (.inr (show some w.heap.size ≠ some gw from by simp; omega))
                          have hB3 := (((HBx.out.trans (HB2.out.mono hsx)).grown HST.out.2 (by omega) (fun j e => by cases e; exact Nat.le_refl _)).alloc (by simp; omega) (.cells #[.int .i64 (t : Int)] 3)).grown hg6 (by simp; omega) (fun j e => by have := (hW3.lt j e).1; omega)
                          refine ⟨_, W ++ [t], _, q + 1, rfl, by omega, by go_num, ?_, hO3, Hs.out, ?_, hB3⟩
                          · have hl3 : (W ++ [t]).length = L2 + 1 := by simp [HL2.out]
                            rw [hl3]
                            simpa [intsV, nats] using hr6
                          · rw [List.getElem?_append_left (by rw [HL2.out]; exact hiL)]
                            exact HU.out
                      · have hd1 : decide (at_ out' t < 0) = false := by simpa using hneg
                        have Hs := Lib.hid (HBF.out.step0 HU.out (fun o' e => by
                          rw [ho] at e
                          have : o = o' := by omega
                          subst this
                          exact HBF.out.old_in hE HI.out HU.out hq3 ho (by rw [ht]; omega)))
                        generalize at_ out' t = z at *
                        clear ho ht hneg holn
                        go_wp2_with fail
                        rw [HEC.out]
                        refine HO.out.mono ?_
                        rintro e w2 ⟨rfl, hb2⟩
                        have hco2 := (hb2.cell (p := ⟨w.heap.size, t, none⟩) hgx).trans hco
                        have HB2 := Lib.hid hb2
                        have hgo2 := (own_below HR.out hb2).lt _ rfl
                        clear hb2 hcw hco
                        go_wp2
                        go_roundw
                        case measure => simp [intOf]; omega
                        case rel => exact ⟨_, W, out', q + 1, rfl, by omega, by go_num, by rw [HL2.out]; exact own_below HW.out HB2.out, own_below HR.out HB2.out, Hs.out, HU.out, HBx.out.trans (HB2.out.mono hsx)⟩
                  · obtain rfl : q = 3 := by omega
                    have Hs := Lib.hid hbf.next
                    have HW := Lib.hid hW
                    have HR := Lib.hid hr
                    have HBx := Lib.hid hB
                    clear hbf hW hr hB hu
                    go_wp2
                    go_roundw
                    case measure => simp [intOf]; omega
                    case rel => exact ⟨v7, W, out', i + 1, rfl, by omega, by go_num, HW.out, HR.out, Hs.out, HBx.out⟩
              · obtain rfl : i = L := by omega
                have hfin := hbf
                rw [← HL.out] at hfin
                have Hs := Lib.hid (hfin.finish HI.out (by rw [HF.out]; exact hlt2))
                obtain ⟨aw, cw, rfl⟩ := ownsRow_slice hW
                have HR := Lib.hid hr
                have HBx := Lib.hid hB
                have hn0 : (n : Int) ≤ 8192 := by omega
                clear hbf hfin hW hr hB
                go_wp2
                go_roundw
                case measure => simp [intOf]; omega
                case rel => exact ⟨f + 1, n + 1, out', by omega, by omega, by go_num, by go_num, HR.out, Hs.out, HBx.out⟩
        · obtain rfl : f = k := by omega
          have hfi := OfInv.finish (by rw [HF.out]; exact hI)
          have HFI := Lib.hid hfi
          have HR := Lib.hid hr
          have HB := Lib.hid hB
          clear hfi hI hr hB
          go_wp2
          go_ret
          exact ⟨_, out, rfl, HR.out, HFI.out.1, fun j hj => by have := HFI.out.2.2 j (by rw [HF.out]; exact hj); omega, HB.out⟩
def cntL (out : List Int) : Int := out.foldl (fun n k => max n (k + 1)) 0
theorem cntL_take {out : List Int} {j : Nat} (h : j < out.length) : cntL (out.take (j + 1)) = max (cntL (out.take j)) (at_ out j + 1) := by
  unfold cntL
  rw [List.take_succ_eq_append_getElem h, List.foldl_append]
  simp [at_, List.getD, h]
theorem cntL_bd {out : List Int} {m : Int} (h : ∀ j, j < out.length → at_ out j < m) (hm : 0 ≤ m) : ∀ j, j ≤ out.length → 0 ≤ cntL (out.take j) ∧ cntL (out.take j) ≤ m
  | 0, _ => by simp [cntL]; omega
  | j + 1, hj => by
    have ih := cntL_bd h hm j (by omega)
    have := h j (by omega)
    rw [cntL_take (by omega)]
    omega
set_option maxRecDepth 100000 in
set_option maxHeartbeats 1000000 in
theorem count_any (g : Nat) (N : Int) (T : List Tr) (w : World) (h : Tab w g N T) (hE : (T.flatMap edges3).Nodup) : Calls Try.prog 29 #[.pointer (some ⟨g, 0, none⟩)] w fun e w' => ∃ out, e = .returned (.int .i64 (cntL out)) ∧ Shl T out ∧ (∀ j, j < T.length → at_ out j < T.length) ∧ Below w.heap.size w w' := by
  have H0 := Lib.hid (of_any g N T w h hE)
  have hl := h.len
  obtain ⟨F, hF⟩ : ∃ F, T.length = F := ⟨_, rfl⟩
  rw [hF] at hl H0 ⊢
  have HF := Lib.hid hF
  clear hF h
  go_enter Try.func29, Try.ntmps29
  go_wp2_with fail
  refine H0.out.mono ?_
  rintro e w1 ⟨v, out, rfl, hr, hS, hlt, hb⟩
  obtain ⟨av, cv, rfl⟩ := ownsRow_slice hr
  have hol : out.length = F := by rw [hS.len, HF.out]
  have hbd := cntL_bd (out := out) (m := (F : Int)) (fun j hj => hlt j (by omega)) (by omega)
  have HOL := Lib.hid hol
  have HBD := Lib.hid hbd
  have HR := Lib.hid hr
  have HS := Lib.hid hS
  have HLT := Lib.hid hlt
  clear hol hbd hr hS hlt H0
  go_wp2
  go_loop [3, 9] (fun n i => ∃ j : Nat, j ≤ F ∧ i = .int .i64 j ∧ n = .int .i64 (cntL (out.take j))) (fun _ i => F - (intOf i).toNat)
  case atStart => exact ⟨0, Nat.zero_le _, rfl, by simp [cntL]⟩
  case round =>
    obtain ⟨j, hj, rfl, rfl⟩ := hrel
    by_cases hjF : j < F
    · obtain ⟨g0, cap, e0, hg1, hg2⟩ := HR.out.form (by omega)
      cases e0
      have hc := HR.out.cellAt j (by omega)
      rw [intsV_at (by rw [HOL.out]; exact hjF)] at hc
      have Hst := Lib.hid (cntL_take (out := out) (j := j) (by rw [HOL.out]; exact hjF))
      obtain ⟨b0, b1⟩ := HBD.out j (by rw [HOL.out]; exact hj)
      obtain ⟨b2, b3⟩ := HBD.out (j + 1) (by rw [HOL.out]; exact hjF)
      have hk1 := HLT.out j hjF
      have hk0 := HS.out.nn j (by rw [HF.out]; exact hjF)
      rw [Hst.out] at b2 b3
      have hj3 : (j : Int) < (F : Int) := by omega
      generalize cntL (out.take j) = z at *
      generalize at_ out j = y at *
      go_wp2
      go_round
      case measure => simp [intOf]; omega
      case rel => exact ⟨j + 1, by omega, by go_num, by rw [Hst.out]⟩
    · obtain rfl : j = F := by omega
      have e : out.take j = out := List.take_of_length_le (by rw [HOL.out]; omega)
      have HE := Lib.hid e
      clear e
      go_wp2
      go_ret
      exact ⟨out, by rw [HE.out]; rfl, HS.out, HLT.out, hb⟩
end Go.Proofs.Ytghlnknncahkgaa
/-
  genus: the shell of a vertex; what follows from the other numbers.
-/
namespace Go.Proofs.Ytghlnknncahkgaa
open Go.RowKit Go.Maps

theorem cornI_rng {N : Int} {T : List Tr} (hS : Surf N T) {v : Int} (hv : 0 ≤ v ∧ v < N) : ∃ c : Nat, cornI N T v = (c : Int) ∧ c < 3 * T.length := by
  unfold cornI
  rw [if_pos hv]
  refine ⟨_, rfl, ?_⟩
  cases h : fstFrom T 0 v with
  | some c =>
    unfold fstFrom at h
    have := List.mem_of_find?_eq_some h
    have := List.mem_range'_1.1 this
    simp only [Option.getD_some]
    omega
  | none =>
    have := hS.lonely v hv
    have hp : T ≠ [] := by
      rintro rfl
      simp [flatT] at this
    have := List.length_pos_iff.2 hp
    simp only [Option.getD_none]
    omega
set_option maxHeartbeats 1000000 in
/-- genus.Of$1: the shell of a vertex. -/
theorem gat_any (g Bs Bt : Nat) (N v : Int) (T : List Tr) (out : List Int) (av : Option Addr) (cv base : Nat) (W : World) (hS : Surf N T) (hT : Tab W g N T) (hs : W.cell? ⟨Bs, 0, none⟩ = some (.slice av T.length cv)) (ht : W.cell? ⟨Bt, 0, none⟩ = some (.pointer (some ⟨g, 0, none⟩))) (ls : Bs < W.heap.size) (lt : Bt < W.heap.size)
    (hr : W.ownsRow base 3 1 (.slice av T.length cv) T.length (intsV out)) (hl : out.length = T.length) (hv : 0 ≤ v ∧ v < N) :
    Calls Try.prog 30 #[.int .i64 v, .pointer (some ⟨Bs, 0, none⟩), .pointer (some ⟨Bt, 0, none⟩)] W fun e w' => ∃ i : Nat, e = .returned (.int .i64 (at_ out i)) ∧ i < T.length ∧ Below W.heap.size W w' := by
  obtain ⟨c, hc, hlt⟩ := cornI_rng hS hv
  have H0 := Lib.hid (fun (W' : World) (hW : Below W.heap.size W W') => (show Calls Try.prog 31 #[.pointer (some ⟨g, 0, none⟩), .int .i64 v] W' fun e w' => e = .returned (.int .i64 (c : Int)) ∧ Below W'.heap.size W' w' from by
    have := corner_any g N v T W' (hT.below hW)
    rw [hc] at this
    exact this.mono fun e w' h => ⟨h.1, by rw [← h.2]; exact Below.refl _ _⟩))
  have hi : c / 3 < T.length := by omega
  have hcell : W.cell? (⟨(match av with | some a => a.block | none => 0), c / 3, none⟩ : Addr) = some (.int .i64 (at_ out (c / 3))) := by
    obtain ⟨g0, cap, e0, hg1, hg2⟩ := hr.form (by omega)
    cases e0
    rw [hr.cellAt (c / 3) (by omega)]
    exact intsV_at (by omega)
  obtain ⟨g0, cap, e0, hg1, hg2⟩ := hr.form (by omega)
  cases e0
  simp only at hcell
  have hl2 := hT.len
  obtain ⟨F, hF⟩ : ∃ F, T.length = F := ⟨_, rfl⟩
  rw [hF] at hs hi hl2 hlt ⊢
  have HI := Lib.hid hi
  have i3 : ((c / 3 : Nat) : Int) < (F : Int) := by omega
  have i4 : (c : Int).tdiv 3 = ((c / 3 : Nat) : Int) := by
    rw [Int.tdiv_eq_ediv_of_nonneg (by omega)]; rfl
  have i5 : (0 : Int) ≤ ((c / 3 : Nat) : Int) := by omega
  have q0 := cell_regrown hs
  have q1 := cell_regrown ht
  have q2 := cell_regrown hcell
  clear hr hT hS hF
  go_enter Try.func30, Try.ntmps30
  go_upto_region 1 with fail
  refine wp_region_quiet_below (by kernel_rfl) (by kernel_rfl) ?_
  repeat (go_big_quiet_step ((go_at_call 31; exact Calls.regrown_of (H0.out _ (below_regrown W _ _)))))
  refine wpQuiet_nil ?_
  intro _ hw'
  obtain ⟨⟨dq, osq⟩, hw''⟩ := hw'
  subst hw''
  have hB1 := below_regrown W dq osq
  generalize Sort.grow (redrawn W dq) osq = w1 at *
  go_wp2
  go_ret
  exact ⟨_, rfl, HI.out, hB1⟩
set_option maxHeartbeats 1000000 in
/-- Numbers.done. -/
theorem gdone_any (g o : Nat) (V F B tw z1 z4 z5 : Int) (W : World) (c0 : W.cell? ⟨g, o, none⟩ = some (.int .i64 V)) (c1 : W.cell? ⟨g, o + 1, none⟩ = some (.int .i64 z1)) (c2 : W.cell? ⟨g, o + 2, none⟩ = some (.int .i64 F)) (c3 : W.cell? ⟨g, o + 3, none⟩ = some (.int .i64 B)) (c4 : W.cell? ⟨g, o + 4, none⟩ = some (.int .i64 z4)) (c5 : W.cell? ⟨g, o + 5, none⟩ = some (.int .i64 z5))
    (fz : ∀ k, W.frozen? ⟨g, k, none⟩ = false) (hg : g < W.heap.size) (hV : 0 ≤ V ∧ V ≤ 100000) (hF : 0 ≤ F ∧ F ≤ 100000) (hB : 0 ≤ B ∧ B ≤ 100000) (ht : 0 ≤ tw ∧ tw ≤ 100000) :
    Calls Try.prog 35 #[.pointer (some ⟨g, o, none⟩), .int .i64 tw] W fun e w' => (∃ v, e = .returned v) ∧ w' = (((W.setCell ⟨g, o + 1, none⟩ (.int .i64 (tw / 2))).setCell ⟨g, o + 4, none⟩ (.int .i64 (V - tw / 2 + F))).setCell ⟨g, o + 5, none⟩ (.int .i64 ((2 - B - (V - tw / 2 + F)).tdiv 2))).drew.drew := by
  have i4 : tw.tdiv 2 = tw / 2 := Int.tdiv_eq_ediv_of_nonneg (by omega)
  have f1 := fz (o + 1)
  have f4 := fz (o + 4)
  have f5 := fz (o + 5)
  go_enter Try.func35, Try.ntmps35
  go_wp2
  go_region
  go_wp2
  go_region
  go_end0
  exact ⟨⟨_, rfl⟩, rfl⟩
theorem made6 (m : Nat) : (madeCells (Value.agg #[.int .i64 0, .int .i64 0, .int .i64 0, .int .i64 0, .int .i64 0, .int .i64 0]).cells (m * 6)).toList = intsV (List.replicate (m * 6) 0) := by
  apply List.ext_getElem
  · simp [madeCells, intsV]
  · intro i h1 h2
    have h3 : i % 6 < 6 := Nat.mod_lt _ (by omega)
    simp only [madeCells, Value.cells, intsV, List.getElem_map, List.getElem_replicate, Array.toList_map, Array.toList_range, List.getElem_range, List.size_toArray, List.length_cons, List.length_nil, Nat.reduceAdd]
    have : ∀ j, j < 6 → (#[Value.int .i64 0, .int .i64 0, .int .i64 0, .int .i64 0, .int .i64 0, .int .i64 0] : Array Value)[j]! = .int .i64 0 := by
      intro j hj
      have : j = 0 ∨ j = 1 ∨ j = 2 ∨ j = 3 ∨ j = 4 ∨ j = 5 := by omega
      rcases this with rfl | rfl | rfl | rfl | rfl | rfl <;> rfl
    exact this _ h3
theorem infoNums : (Try.prog.info? 40).map (fun i => (i.zero, i.size, i.bytes)) = some (some (.agg #[.int .i64 0, .int .i64 0, .int .i64 0, .int .i64 0, .int .i64 0, .int .i64 0]), 6, 48) := by kernel_rfl
end Go.Proofs.Ytghlnknncahkgaa
