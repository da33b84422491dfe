/-
  The law CanonLess, by walking its text.
-/
import Derived.Test.YtghlnknncahkgaaC7
import Derived.Lib.QuietBelow
namespace Go.Proofs.Ytghlnknncahkgaa
open Go.RowKit

set_option maxRecDepth 100000 in
set_option maxHeartbeats 2000000 in
theorem canonLess_walk (N0 : Int) (v0 : Value) (T0 : List Tr) (N1 : Int) (v1 : Value) (T1 : List Tr) (w : World) (h0 : TrisRd w v0 T0) (h1 : TrisRd w v1 T1) :
    Calls Try.prog 3 #[.agg #[.int .i64 N0, v0], .agg #[.int .i64 N1, v1]] w fun en w' => en = .returned (.bool true) ∧ Below w.heap.size w w' := by
  have hb1 := (Blk.new w 24 #[.int .i64 N0, v0]).alloc (.cells #[.int .i64 N1, v1] 24)
  have hb2 : Blk ((w.alloc (.cells #[.int .i64 N0, v0] 24)).alloc (.cells #[.int .i64 N1, v1] 24)) (w.heap.size + 1) 24 #[.int .i64 N1, v1] := blk_new_at (by simp)
  have hB0 : Below w.heap.size w ((w.alloc (.cells #[.int .i64 N0, v0] 24)).alloc (.cells #[.int .i64 N1, v1] 24)) := ((Below.refl _ _).alloc (Nat.le_refl _) _).alloc (by simp) _
  have HR0 := Lib.hid (fun (W : World) (hW : Below w.heap.size w W) => h0.below hW)
  have HR1 := Lib.hid (fun (W : World) (hW : Below w.heap.size w W) => h1.below hW)
  obtain ⟨a0, c0, rfl, -⟩ := h0
  obtain ⟨a1, c1, rfl, -⟩ := h1
  obtain ⟨n0, hn0⟩ : ∃ n, T0.length = n := ⟨_, rfl⟩
  obtain ⟨n1, hn1⟩ : ∃ n, T1.length = n := ⟨_, rfl⟩
  rw [hn0] at hb1 hb2 hB0 HR0 ⊢
  rw [hn1] at hb1 hb2 hB0 HR1 ⊢
  have HL := Lib.hid (And.intro hn0 hn1)
  have HB0 := Lib.hid hB0
  have HB1 := Lib.hid hb1
  have HB2 := Lib.hid hb2
  clear hn0 hn1 hB0 hb1 hb2
  have HAw := Lib.hid (awake46_any ((w.alloc (.cells #[.int .i64 N0, .slice a0 n0 c0] 24)).alloc (.cells #[.int .i64 N1, .slice a1 n1 c1] 24)))
  go_enter Try.func3, Try.ntmps3
  go_upto_if 6 with (go_at_call 7; go_loud (refine HAw.out.mono ?_; rintro e w1 ⟨rfl, hb⟩))
  have hBw := HB0.out.trans (hb.mono HB0.out.size)
  have k1 := HB1.out.below hb HB1.out.lt
  have k2 := HB2.out.below hb HB2.out.lt
  obtain ⟨l0, x0, -, x1, -⟩ := k1.two
  obtain ⟨l1, y0, -, y1, -⟩ := k2.two
  have HBw := Lib.hid hBw
  have HK1 := Lib.hid k1
  have HK2 := Lib.hid k2
  clear hb hBw k1 k2
  by_cases h40 : 40 < n0
  · have h40i : (40 : Int) < (n0 : Int) := by omega
    go_wp2
    go_ret
    exact ⟨by simp, HBw.out⟩
  · have h40i : decide ((40 : Int) < (n0 : Int)) = false := by simp; omega
    by_cases h41 : 40 < n1
    · have h41i : (40 : Int) < (n1 : Int) := by omega
      go_wp2
      go_ret
      exact ⟨by simp, HBw.out⟩
    · have h41i : decide ((40 : Int) < (n1 : Int)) = false := by simp; omega
      have e0 := HL.out.1
      have e1 := HL.out.2
      obtain ⟨z, hz⟩ : ∃ z, ordM N0 T0 N1 T1 = z := ⟨_, rfl⟩
      have hz2 : ordM N1 T1 N0 T0 = -z := by rw [ordM_anti, hz]
      have H1 := Lib.hid (fun (W : World) (hW : Below w.heap.size w W) => by
        have := less_any N0 N1 _ _ T0 T1 W (HR0.out W hW) (HR1.out W hW) (by omega) (by omega)
        rw [hz] at this
        exact this)
      have H2 := Lib.hid (fun (W : World) (hW : Below w.heap.size w W) => by
        have := order_any N0 N1 _ _ T0 T1 W (HR0.out W hW) (HR1.out W hW) (by omega) (by omega)
        rw [hz] at this
        exact this)
      have H3 := Lib.hid (fun (W : World) (hW : Below w.heap.size w W) => by
        have := less_any N1 N0 _ _ T1 T0 W (HR1.out W hW) (HR0.out W hW) (by omega) (by omega)
        rw [hz2, show decide (-z < 0) = decide (0 < z) from decide_eq_decide.2 (by omega)] at this
        exact this)
      have H4 := Lib.hid (fun (W : World) (hW : Below w.heap.size w W) => by
        have := less_any N0 N0 _ _ T0 T0 W (HR0.out W hW) (HR0.out W hW) (by omega) (by omega)
        rw [ordM_self, show decide ((0 : Int) < 0) = false from rfl] at this
        exact this)
      have HBq := Lib.hid (fun (d : Nat) (os : Array Obj) => HBw.out.trans ((below_regrown w1 d os).mono HBw.out.size))
      clear hz hz2 e0 e1
      go_upto_region 5 with fail
      have u0 := cell_regrown x0
      have u1 := cell_regrown x1
      have u2 := cell_regrown y0
      have u3 := cell_regrown y1
      refine wp_region_quiet_below (by kernel_rfl) (by kernel_rfl) ?_
      repeat (go_big_quiet_step ((first
        | (go_at_call 8; with_reducible exact Calls.regrown_of (H1.out _ (HBq.out _ _)))
        | (go_at_call 9; with_reducible exact Calls.regrown_of (H2.out _ (HBq.out _ _)))
        | (go_at_call 8; with_reducible exact Calls.regrown_of (H3.out _ (HBq.out _ _)))
        | (go_at_call 8; with_reducible exact Calls.regrown_of (H4.out _ (HBq.out _ _))))))
      refine wpQuiet_nil ?_
      intro _ hw'
      obtain ⟨⟨dq, osq⟩, hw''⟩ := hw'
      subst hw''
      have HF := Lib.hid (HBq.out dq osq)
      clear u0 u1 u2 u3 x0 x1 y0 y1
      generalize Sort.grow (redrawn w1 dq) osq = w2 at *
      go_wp2
      go_ret
      exact ⟨by simp, HF.out⟩
end Go.Proofs.Ytghlnknncahkgaa
