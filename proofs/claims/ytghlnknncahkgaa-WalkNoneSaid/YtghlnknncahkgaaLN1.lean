/-
  gypsumlaw21.WalkNone returns true, by walking its text.
-/
import Derived.Test.YtghlnknncahkgaaK16
namespace Go.Proofs.Ytghlnknncahkgaa
open Go.RowKit Go.Maps Go.Shelf
attribute [local go_sem] Oper.semAt_some

set_option maxRecDepth 100000 in
set_option maxHeartbeats 4000000 in
theorem walkNone_walk (N : Int) (v : Value) (T : List Tr) (r : Int) (w : World) (h : TrisRd w v T) :
    Calls Try.prog 5 #[.agg #[.int .i64 N, v], .int .i64 r] w fun e w' => e = .returned (.bool true) ∧ Below w.heap.size w w' := by
  have hB0 : Below w.heap.size w ((w.alloc (.cells #[.int .i64 N, v] 24)).alloc (.cells #[.bool false] 4)) := ((Below.refl _ _).alloc (Nat.le_refl _) _).alloc (by simp) _
  have bs := (Blk.new w 24 #[.int .i64 N, v]).alloc (.cells #[.bool false] 4)
  have br : Blk ((w.alloc (.cells #[.int .i64 N, v] 24)).alloc (.cells #[.bool false] 4)) (w.heap.size + 1) 4 #[.bool false] := blk_new_at (by simp)
  have HF := Lib.hid (fun (W : World) (hW : Below w.heap.size w W) => fits21_any N v T W (h.below hW))
  have HW := Lib.hid (fun (W : World) => walk_err (w := W) (a := none) (r := r) (z := 1) (by decide) (fun W' _ => check_nil r W'))
  have HR := Lib.hid (fun (W : World) (g n : Nat) (q : Int) (hT : Tab W g n T) (hq : q < 0 ∨ q = 3 * T.length) => walk_err (w := W) (a := some ⟨g, 0, none⟩) (r := q) (z := 2) (by decide) (fun W' hW' => check_range g n T W' q (hT.below hW') hq))
  have HA := Lib.hid awake21_any
  obtain ⟨a, c, rfl, -, -, -⟩ := h
  have HB0 := Lib.hid hB0
  have HBs := Lib.hid bs
  have HBr := Lib.hid br
  clear hB0 bs br
  refine (callsIn_wide (n := 9)).1 ?_
  refine callsIn_of_wp_marks Try.func5 rfl trivial ?_ rfl
  simp only [Try.ntmps5, List.size_toArray, List.length_cons, List.length_nil, Nat.reduceAdd, Nat.reduceSub, Array.replicate_succ, Array.replicate_zero, List.push_toArray, List.append_toArray, List.nil_append, List.cons_append]
  gi_hideQ
  gi_wp2_with fail
  refine ⟨trivial, (callsIn_wide.2 (HA.out _)).mono ?_⟩
  rintro e w1 ⟨rfl, hb1⟩
  have HB1 := Lib.hid (HB0.out.trans (hb1.mono HB0.out.size))
  have HBs1 := Lib.hid (HBs.out.below hb1 HBs.out.lt)
  have HBr1 := Lib.hid (HBr.out.below hb1 HBr.out.lt)
  clear hb1 HB0 HBs HBr
  gi_wp2_with fail
  refine ⟨trivial, (callsIn_wide.2 (HW.out _)).mono ?_⟩
  rintro e w2 ⟨rfl, hb2⟩
  have HB2 := Lib.hid (HB1.out.trans (hb2.mono HB1.out.size))
  have HBs2 := Lib.hid (HBs1.out.below hb2 HBs1.out.lt)
  have HBr2 := Lib.hid (HBr1.out.below hb2 HBr1.out.lt)
  clear hb2 HB1 HBs1 HBr1
  have bt := Blk.new w2 35 #[.string ByteArray.empty, .slice none 0 0, .slice none 0 0]
  have HB3 := Lib.hid (HB2.out.alloc HB2.out.size (.cells #[.string ByteArray.empty, .slice none 0 0, .slice none 0 0] 35))
  have HBs3 := Lib.hid (HBs2.out.alloc (.cells #[.string ByteArray.empty, .slice none 0 0, .slice none 0 0] 35))
  have HBr3 := Lib.hid (HBr2.out.alloc (.cells #[.string ByteArray.empty, .slice none 0 0, .slice none 0 0] 35))
  have HBt3 := Lib.hid bt
  obtain ⟨ltt, t0, tf0, t1, tf1, t2, tf2⟩ := bt.three
  clear HB2 HBs2 HBr2 bt
  gi_wp2_with fail
  generalize hW3 : w2.alloc (.cells #[.string ByteArray.empty, .slice none 0 0, .slice none 0 0] 35) = W3 at *
  clear t0 tf0 t1 tf1 t2 tf2
  refine ⟨trivial, (callsIn_wide.2 (callsIn_wide.1 (wsteps_any Fence.wide 8 trivial rfl none r W3))).mono ?_⟩
  rintro e w4 ⟨rfl, rfl⟩
  have hb4 : Below W3.heap.size W3 ((W3.alloc (.cells #[.pointer none] 28)).alloc (.cells #[.int .i64 r] 3)) := ((Below.refl _ _).alloc (Nat.le_refl _) _).alloc (by simp) _
  have bx : Blk ((W3.alloc (.cells #[.pointer none] 28)).alloc (.cells #[.int .i64 r] 3)) W3.heap.size 28 #[.pointer none] := (Blk.new _ _ _).alloc _
  have bv : Blk ((W3.alloc (.cells #[.pointer none] 28)).alloc (.cells #[.int .i64 r] 3)) (W3.heap.size + 1) 3 #[.int .i64 r] := blk_new_at (by simp)
  have HB4 := Lib.hid (HB3.out.trans (hb4.mono HB3.out.size))
  have HBs4 := Lib.hid (HBs3.out.below hb4 HBs3.out.lt)
  have HBr4 := Lib.hid (HBr3.out.below hb4 HBr3.out.lt)
  have HBt4 := Lib.hid (HBt3.out.below hb4 HBt3.out.lt)
  have Hbx := Lib.hid bx
  have Hbv := Lib.hid bv
  clear hb4 bx bv HB3 HBs3 HBr3 HBt3 hW3
  gi_wp2_with fail
  generalize (W3.alloc (.cells #[.pointer none] 28)).alloc (.cells #[.int .i64 r] 3) = W4 at *
  refine wpIn_rangeFunc_sep rfl (by omega) (gf := 40) (lb := #[.pointer (some ⟨W3.heap.size, 0, none⟩), .pointer (some ⟨W3.heap.size + 1, 0, none⟩)]) rfl trivial (enters_of Try.func40 (by kernel_rfl) rfl)
    (steps_none_sep (w := W4) (m := 8) (Bt := W3.heap.size) (Bc := W3.heap.size + 1) (a := none) (r := r) (z := 1) (by decide) (fun W _ => check_nil r W)) (fun W hW => ⟨(hW.cell (p := ⟨W3.heap.size, 0, none⟩) Hbx.out.lt).trans (Hbx.out.cell 0), (hW.cell (p := ⟨W3.heap.size + 1, 0, none⟩) Hbv.out.lt).trans (Hbv.out.cell 0), Nat.lt_of_lt_of_le Hbx.out.lt hW.size, Nat.lt_of_lt_of_le Hbv.out.lt hW.size⟩) (fun _ h => h.elim) (Below.refl _ _) (fun _ => rfl)
    (fun _ _ W => Below W4.heap.size W4 W) (fun _ _ _ _ => False) (fun _ _ A B h hb _ => h.trans (hb.mono (Nat.le_refl _))) (fun _ _ _ _ _ h => h.elim) (fun _ => False) (fun _ h => h.elim) (Below.refl _ _) ?_ ?_ ?_
  · intro l pre x C W _ _ _ _ hlen
    exact absurd hlen (Nat.not_lt_zero _)
  · intro D xs C W hD _ _ hI hK
    have HK := Lib.hid hK
    have hKl := (Array.getElem?_eq_some_iff.1 hK).1
    have HB5 := Lib.hid (HB4.out.trans (hI.mono HB4.out.size))
    have HBs5 := Lib.hid (HBs4.out.below hI HBs4.out.lt)
    have HBr5 := Lib.hid (HBr4.out.below hI HBr4.out.lt)
    have HBt5 := Lib.hid (HBt4.out.below hI HBt4.out.lt)
    have hz4 := HB4.out.size
    have hDr : D ≠ w.heap.size + 1 := fun e => by have := HBr4.out.lt; omega
    obtain ⟨ls, s0, -, s1, -⟩ := HBs5.out.two
    clear hI hK Hbx Hbv HB4 HBs4 HBr4 HBt4
    gi_wp2_with fail
    refine ⟨trivial, (callsIn_wide.2 (HF.out _ HB5.out)).mono ?_⟩
    rintro e w6 ⟨p, b, rfl, hfit, hb6⟩
    have HB6 := Lib.hid (HB5.out.trans (hb6.mono HB5.out.size))
    have HBs6 := Lib.hid (HBs5.out.below hb6 HBs5.out.lt)
    have HBr6 := Lib.hid (HBr5.out.below hb6 HBr5.out.lt)
    have HBt6 := Lib.hid (HBt5.out.below hb6 HBt5.out.lt)
    have HK6 := Lib.hid ((hb6.block D hKl).trans HK.out)
    clear HB5 HBs5 HBr5 HBt5 HK s0 s1 ls hb6 hKl
    have hKl := (Array.getElem?_eq_some_iff.1 HK6.out).1
    cases b
    · clear hfit
      obtain ⟨lt6, t0, -, t1, -, t2, -⟩ := HBt6.out.three
      obtain ⟨lr6, r0, rf0⟩ := HBr6.out.one
      gi_wp2
      have bF := HBr6.out.set1 (.bool true)
      refine ⟨by simp, .inl ⟨_, _, rfl, run_takeDeferred ((Below.heap_setCell _ _ _ D (by simpa using hDr)).trans HK6.out), ?_⟩⟩
      obtain ⟨-, q0, -⟩ := (blk_same bF (World.putObj_heap_other (o := .deferred none) (fun e => hDr e.symm)) : Blk ((w6.setCell ⟨w.heap.size + 1, 0, none⟩ (.bool true)).putObj D (.deferred none)) _ _ _).one
      refine ⟨.bool true, ?_, rfl, ?_⟩
      · simp [results, Try.results5, go_sem, q0]
      · exact (HB6.out.setCell (p := ⟨w.heap.size + 1, 0, none⟩) (by simp only; omega) _).trans (putObj_below (by omega))
    · obtain ⟨g, n, rfl, rfl, hT, hS, hl⟩ := hfit rfl
      obtain ⟨ls, s0, -, s1, -⟩ := HBs6.out.two
      have HTab := Lib.hid hT
      obtain ⟨F, hF⟩ : ∃ F, T.length = F := ⟨_, rfl⟩
      rw [hF] at s1 hl
      have HFl := Lib.hid hF
      have HR1 := Lib.hid (HR.out w6 g n (3 * F) hT (.inr (by rw [hF])))
      rw [hF]
      clear hT hS hfit hF
      gi_wp2_with fail
      refine ⟨trivial, (callsIn_wide.2 HR1.out).mono ?_⟩
      rintro e w7 ⟨rfl, hb7⟩
      have HB7 := Lib.hid (HB6.out.trans (hb7.mono HB6.out.size))
      have HBr7 := Lib.hid (HBr6.out.below hb7 HBr6.out.lt)
      have HBt7 := Lib.hid (HBt6.out.below hb7 HBt6.out.lt)
      have HK7 := Lib.hid ((hb7.block D hKl).trans HK6.out)
      have HT7 := Lib.hid (HTab.out.below hb7)
      clear HB6 HBs6 HBr6 HBt6 HK6 hKl hb7 s0 s1 ls HR1 HTab
      have HR2 := Lib.hid (HR.out (w7.alloc (.cells #[.string ByteArray.empty, .slice none 0 0, .slice none 0 0] 35)) g n (-1) (HT7.out.alloc _) (.inl (by omega)))
      have hb8 : Below w7.heap.size w7 (w7.alloc (.cells #[.string ByteArray.empty, .slice none 0 0, .slice none 0 0] 35)) := (Below.refl _ _).alloc (Nat.le_refl _) _
      have HB8 := Lib.hid (HB7.out.trans (hb8.mono HB7.out.size))
      have HBr8 := Lib.hid (HBr7.out.below hb8 HBr7.out.lt)
      have HBt8 := Lib.hid (HBt7.out.below hb8 HBt7.out.lt)
      have HK8 := Lib.hid ((hb8.block D (Array.getElem?_eq_some_iff.1 HK7.out).1).trans HK7.out)
      obtain ⟨l7, y0, yf0, y1, yf1, y2, yf2⟩ := (Blk.new w7 35 #[.string ByteArray.empty, .slice none 0 0, .slice none 0 0]).three
      clear HB7 HBr7 HBt7 HK7 hb8
      gi_wp2_with fail
      refine ⟨trivial, (callsIn_wide.2 HR2.out).mono ?_⟩
      rintro e w9 ⟨rfl, hb9⟩
      have HB9 := Lib.hid (HB8.out.trans (hb9.mono HB8.out.size))
      have HBr9 := Lib.hid (HBr8.out.below hb9 HBr8.out.lt)
      have HBt9 := Lib.hid (HBt8.out.below hb9 HBt8.out.lt)
      have HK9 := Lib.hid ((hb9.block D (Array.getElem?_eq_some_iff.1 HK8.out).1).trans HK8.out)
      clear HB8 HBr8 HBt8 HK8 hb9 HR2 l7 y0 yf0 y1 yf1 y2 yf2
      have hbA : Below w9.heap.size w9 (w9.alloc (.cells #[.string ByteArray.empty, .slice none 0 0, .slice none 0 0] 35)) := (Below.refl _ _).alloc (Nat.le_refl _) _
      have HBA := Lib.hid (HB9.out.trans (hbA.mono HB9.out.size))
      have HBrA := Lib.hid (HBr9.out.below hbA HBr9.out.lt)
      have HBtA := Lib.hid (HBt9.out.below hbA HBt9.out.lt)
      have HKA := Lib.hid ((hbA.block D (Array.getElem?_eq_some_iff.1 HK9.out).1).trans HK9.out)
      obtain ⟨l7, y0, yf0, y1, yf1, y2, yf2⟩ := (Blk.new w9 35 #[.string ByteArray.empty, .slice none 0 0, .slice none 0 0]).three
      obtain ⟨lt6, t0, -, t1, -, t2, -⟩ := HBtA.out.three
      obtain ⟨lr6, r0, rf0⟩ := HBrA.out.one
      clear hbA HB9 HBr9 HBt9 HK9
      gi_wp2
      generalize w9.alloc (.cells #[.string ByteArray.empty, .slice none 0 0, .slice none 0 0] 35) = WA at *
      have bF := HBrA.out.set1 (.bool true)
      refine ⟨by simp, .inl ⟨_, _, rfl, run_takeDeferred ((Below.heap_setCell _ _ _ D (by simpa using hDr)).trans HKA.out), ?_⟩⟩
      obtain ⟨-, q0, -⟩ := (blk_same bF (World.putObj_heap_other (o := .deferred none) (fun e => hDr e.symm)) : Blk ((WA.setCell ⟨w.heap.size + 1, 0, none⟩ (.bool true)).putObj D (.deferred none)) _ _ _).one
      refine ⟨.bool true, ?_, rfl, ?_⟩
      · simp [results, Try.results5, go_sem, q0]
      · exact (HBA.out.setCell (p := ⟨w.heap.size + 1, 0, none⟩) (by simp only; omega) _).trans (putObj_below (by omega))
  · intro D cd pre C W _ _ _ h _
    exact h.elim
end Go.Proofs.Ytghlnknncahkgaa
