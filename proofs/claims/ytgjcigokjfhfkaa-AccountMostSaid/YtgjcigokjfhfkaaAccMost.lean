/-
  The law AccountMost, by walking its text.
-/
import Derived.Test.YtgjcigokjfhfkaaRightEq
import Derived.Test.YtgjcigokjfhfkaaAwake24
import Derived.Test.YtgjcigokjfhfkaaCounts
import Derived.Lib.QuietBelow
namespace Go.Proofs.Ytgjcigokjfhfkaa
open Go.RowKit

/-- Six cells, of which the first i are filled. -/
def fill6 (x1 x2 x3 x4 x5 x6 : Int) (i : Nat) : Array Value := #[.int .i64 (if 0 < i then x1 else 0), .int .i64 (if 1 < i then x2 else 0), .int .i64 (if 2 < i then x3 else 0), .int .i64 (if 3 < i then x4 else 0), .int .i64 (if 4 < i then x5 else 0), .int .i64 (if 5 < i then x6 else 0)]

theorem wid {x : Int} (h : 0 ≤ x ∧ x ≤ 100000) : 0 ≤ x ∧ x ≤ 1000000 := by omega
theorem wid2 {x y : Int} (h : 0 ≤ x ∧ x ≤ 100000) (h' : 0 ≤ y ∧ y ≤ 100000) : 0 ≤ x + y ∧ x + y ≤ 1000000 := by omega
theorem most_below (t b g h n m : Int) (w : World) (h1 : 0 ≤ t ∧ t ≤ 1000000) (h2 : 0 ≤ b ∧ b ≤ 1000000) (h3 : 0 ≤ g ∧ g ≤ 1000000) (h4 : 0 ≤ h ∧ h ≤ 1000000) (h5 : 0 ≤ n ∧ n ≤ 1000000) (h6 : 0 ≤ m ∧ m ≤ 1000000) :
    Calls Try.prog 19 #[.int .i64 t, .int .i64 b, .int .i64 g, .int .i64 h, .int .i64 n, .int .i64 m] w fun en w' => en = .returned (.int .i64 (2 * (t + b + 2 * g) + 64 * h + 384 * n + 64 * (m + 1))) ∧ Below w.heap.size w w' := by
  refine (most_any t b g h n m w h1 h2 h3 h4 h5 h6).mono ?_
  rintro en w' ⟨rfl, rfl⟩
  exact ⟨rfl, Below.refl _ _⟩
def nth6 (x1 x2 x3 x4 x5 x6 : Int) : Nat → Int
  | 0 => x1
  | 1 => x2
  | 2 => x3
  | 3 => x4
  | 4 => x5
  | _ => x6
theorem fill_next (x1 x2 x3 x4 x5 x6 : Int) (k : Nat) (hk : k < 6) : fill6 x1 x2 x3 x4 x5 x6 (k + 1) = (fill6 x1 x2 x3 x4 x5 x6 k).setIfInBounds k (.int .i64 (nth6 x1 x2 x3 x4 x5 x6 k)) := by
  have h : k = 0 ∨ k = 1 ∨ k = 2 ∨ k = 3 ∨ k = 4 ∨ k = 5 := by omega
  rcases h with rfl | rfl | rfl | rfl | rfl | rfl <;> simp [fill6, nth6]
/-- One round: three stores. -/
theorem fill_round {w w1 wr : World} {ta tb tc td te : TypeId} {ca cb : Array Value} {x1 x2 x3 x4 x5 x6 y1 y2 y3 y4 y5 y6 z1 z2 z3 z4 z5 z6 u v : Int} (k : Nat) (hk : k < 6)
    (m1 : ¬ w.heap.size = w1.heap.size) (m2 : ¬ w.heap.size + 1 = w1.heap.size) (m3 : ¬ w.heap.size = w1.heap.size + 1) (m4 : ¬ w.heap.size + 1 = w1.heap.size + 1) (m5 : ¬ w.heap.size = w1.heap.size + 2) (m6 : ¬ w.heap.size + 1 = w1.heap.size + 2)
    (h1 : Blk wr w.heap.size ta ca) (h2 : Blk wr (w.heap.size + 1) tb cb) (h3 : Blk wr w1.heap.size tc (fill6 x1 x2 x3 x4 x5 x6 k)) (h4 : Blk wr (w1.heap.size + 1) td (fill6 y1 y2 y3 y4 y5 y6 k)) (h5 : Blk wr (w1.heap.size + 2) te (fill6 z1 z2 z3 z4 z5 z6 k))
    (hB : Below w.heap.size w wr) (hG : w.heap.size + 2 ≤ w1.heap.size) (hu : u = nth6 x1 x2 x3 x4 x5 x6 k) (hv : v = nth6 y1 y2 y3 y4 y5 y6 k) (hz : u + v = nth6 z1 z2 z3 z4 z5 z6 k) :
    ∃ k' : Nat, k' ≤ 6 ∧ Value.int .i64 ((k + 1 : Nat) : Int) = .int .i64 k' ∧ Blk (((wr.setCell ⟨w1.heap.size, k, none⟩ (.int .i64 u)).setCell ⟨w1.heap.size + 1, k, none⟩ (.int .i64 v)).setCell ⟨w1.heap.size + 1 + 1, k, none⟩ (.int .i64 (u + v))).drew.drew w.heap.size ta ca ∧
      Blk (((wr.setCell ⟨w1.heap.size, k, none⟩ (.int .i64 u)).setCell ⟨w1.heap.size + 1, k, none⟩ (.int .i64 v)).setCell ⟨w1.heap.size + 1 + 1, k, none⟩ (.int .i64 (u + v))).drew.drew (w.heap.size + 1) tb cb ∧
      Blk (((wr.setCell ⟨w1.heap.size, k, none⟩ (.int .i64 u)).setCell ⟨w1.heap.size + 1, k, none⟩ (.int .i64 v)).setCell ⟨w1.heap.size + 1 + 1, k, none⟩ (.int .i64 (u + v))).drew.drew w1.heap.size tc (fill6 x1 x2 x3 x4 x5 x6 k') ∧
      Blk (((wr.setCell ⟨w1.heap.size, k, none⟩ (.int .i64 u)).setCell ⟨w1.heap.size + 1, k, none⟩ (.int .i64 v)).setCell ⟨w1.heap.size + 1 + 1, k, none⟩ (.int .i64 (u + v))).drew.drew (w1.heap.size + 1) td (fill6 y1 y2 y3 y4 y5 y6 k') ∧
      Blk (((wr.setCell ⟨w1.heap.size, k, none⟩ (.int .i64 u)).setCell ⟨w1.heap.size + 1, k, none⟩ (.int .i64 v)).setCell ⟨w1.heap.size + 1 + 1, k, none⟩ (.int .i64 (u + v))).drew.drew (w1.heap.size + 2) te (fill6 z1 z2 z3 z4 z5 z6 k') ∧
      Below w.heap.size w (((wr.setCell ⟨w1.heap.size, k, none⟩ (.int .i64 u)).setCell ⟨w1.heap.size + 1, k, none⟩ (.int .i64 v)).setCell ⟨w1.heap.size + 1 + 1, k, none⟩ (.int .i64 (u + v))).drew.drew := by
  refine ⟨k + 1, by omega, rfl, (((h1.far m1 _).far m3 _).far m5 _).drew.drew, (((h2.far m2 _).far m4 _).far m6 _).drew.drew, ?_, ?_, ?_, ?_⟩
  · rw [fill_next _ _ _ _ _ _ k hk, ← hu]
    exact (((h3.set_ k _).far (p := ⟨w1.heap.size + 1, k, none⟩) (by simp) _).far (p := ⟨w1.heap.size + 1 + 1, k, none⟩) (by simp; omega) _).drew.drew
  · rw [fill_next _ _ _ _ _ _ k hk, ← hv]
    exact (((h4.far (p := ⟨w1.heap.size, k, none⟩) (by simp) _).set_ k _).far (p := ⟨w1.heap.size + 1 + 1, k, none⟩) (by simp) _).drew.drew
  · rw [fill_next _ _ _ _ _ _ k hk, ← hz]
    exact (((h5.far (p := ⟨w1.heap.size, k, none⟩) (by simp) _).far (p := ⟨w1.heap.size + 1, k, none⟩) (by simp) _).set_ k _).drew.drew
  · exact ((((hB.setCell (p := ⟨w1.heap.size, k, none⟩) (by simp; omega) _).setCell (p := ⟨w1.heap.size + 1, k, none⟩) (by simp; omega) _).setCell (p := ⟨w1.heap.size + 1 + 1, k, none⟩) (by simp; omega) _).drew).drew

set_option maxRecDepth 100000 in
set_option maxHeartbeats 2000000 in
theorem accountMost_walk (s : ByteArray) (a1 a2 a3 a4 a5 a6 b1 b2 b3 b4 b5 b6 : Int) (ha : (0 ≤ a1 ∧ a1 ≤ 4294967295) ∧ (0 ≤ a2 ∧ a2 ≤ 4294967295) ∧ (0 ≤ a3 ∧ a3 ≤ 4294967295) ∧ (0 ≤ a4 ∧ a4 ≤ 4294967295) ∧ (0 ≤ a5 ∧ a5 ≤ 4294967295) ∧ (0 ≤ a6 ∧ a6 ≤ 4294967295))
    (hb : (0 ≤ b1 ∧ b1 ≤ 4294967295) ∧ (0 ≤ b2 ∧ b2 ≤ 4294967295) ∧ (0 ≤ b3 ∧ b3 ≤ 4294967295) ∧ (0 ≤ b4 ∧ b4 ≤ 4294967295) ∧ (0 ≤ b5 ∧ b5 ≤ 4294967295) ∧ (0 ≤ b6 ∧ b6 ≤ 4294967295)) (w : World) :
    Calls Try.prog 5 #[.agg #[.int .u32 a1, .int .u32 a2, .int .u32 a3, .int .u32 a4, .int .u32 a5, .int .u32 a6], .agg #[.int .u32 b1, .int .u32 b2, .int .u32 b3, .int .u32 b4, .int .u32 b5, .int .u32 b6], .string s] w fun en w' => en = .returned (.bool true) ∧ Below w.heap.size w w' := by
  have ka := (Blk.new w 34 #[.int .u32 a1, .int .u32 a2, .int .u32 a3, .int .u32 a4, .int .u32 a5, .int .u32 a6]).alloc (.cells #[.int .u32 b1, .int .u32 b2, .int .u32 b3, .int .u32 b4, .int .u32 b5, .int .u32 b6] 34)
  have kb := Blk.new (w.alloc (.cells #[.int .u32 a1, .int .u32 a2, .int .u32 a3, .int .u32 a4, .int .u32 a5, .int .u32 a6] 34)) 34 #[.int .u32 b1, .int .u32 b2, .int .u32 b3, .int .u32 b4, .int .u32 b5, .int .u32 b6]
  rw [size_alloc'] at kb
  have hB0 : Below w.heap.size w ((w.alloc (.cells #[.int .u32 a1, .int .u32 a2, .int .u32 a3, .int .u32 a4, .int .u32 a5, .int .u32 a6] 34)).alloc (.cells #[.int .u32 b1, .int .u32 b2, .int .u32 b3, .int .u32 b4, .int .u32 b5, .int .u32 b6] 34)) := ((Below.refl _ _).alloc (Nat.le_refl _) _).alloc (by simp) _
  by_cases hbig : 200 < s.size
  · go_enter Try.func5, Try.ntmps5
    go_wp2_with fail
    refine (awake24_any _).mono ?_
    rintro en w1 ⟨rfl, hb1⟩
    have hB1 := below_on hB0 hB0.size hb1
    go_wp2
    go_ret
    exact ⟨rfl, hB1⟩
  · have hs : s.size ≤ 1000000 := by omega
    go_enter Try.func5, Try.ntmps5
    go_wp2_with fail
    refine (awake24_any _).mono ?_
    rintro en w1 ⟨rfl, hb1⟩
    have hB1 := below_on hB0 hB0.size hb1
    have ka1 := ka.below hb1 (by simp; omega)
    have kb1 := kb.below hb1 (by simp)
    have hG : w.heap.size + 2 ≤ w1.heap.size := by have := hb1.size; simp at this; omega
    clear ka kb hB0 hb1
    have ea1 : 0 ≤ a1 % 100001 ∧ a1 % 100001 ≤ 100000 := by omega
    have ea2 : 0 ≤ a2 % 100001 ∧ a2 % 100001 ≤ 100000 := by omega
    have ea3 : 0 ≤ a3 % 100001 ∧ a3 % 100001 ≤ 100000 := by omega
    have ea4 : 0 ≤ a4 % 100001 ∧ a4 % 100001 ≤ 100000 := by omega
    have ea5 : 0 ≤ a5 % 100001 ∧ a5 % 100001 ≤ 100000 := by omega
    have ea6 : 0 ≤ a6 % 100001 ∧ a6 % 100001 ≤ 100000 := by omega
    have eb1 : 0 ≤ b1 % 100001 ∧ b1 % 100001 ≤ 100000 := by omega
    have eb2 : 0 ≤ b2 % 100001 ∧ b2 % 100001 ≤ 100000 := by omega
    have eb3 : 0 ≤ b3 % 100001 ∧ b3 % 100001 ≤ 100000 := by omega
    have eb4 : 0 ≤ b4 % 100001 ∧ b4 % 100001 ≤ 100000 := by omega
    have eb5 : 0 ≤ b5 % 100001 ∧ b5 % 100001 ≤ 100000 := by omega
    have eb6 : 0 ≤ b6 % 100001 ∧ b6 % 100001 ≤ 100000 := by omega
    go_wp2
    obtain ⟨x1, hx1⟩ : ∃ x, x = a1 % 100001 := ⟨_, rfl⟩
    obtain ⟨x2, hx2⟩ : ∃ x, x = a2 % 100001 := ⟨_, rfl⟩
    obtain ⟨x3, hx3⟩ : ∃ x, x = a3 % 100001 := ⟨_, rfl⟩
    obtain ⟨x4, hx4⟩ : ∃ x, x = a4 % 100001 := ⟨_, rfl⟩
    obtain ⟨x5, hx5⟩ : ∃ x, x = a5 % 100001 := ⟨_, rfl⟩
    obtain ⟨x6, hx6⟩ : ∃ x, x = a6 % 100001 := ⟨_, rfl⟩
    obtain ⟨y1, hy1⟩ : ∃ x, x = b1 % 100001 := ⟨_, rfl⟩
    obtain ⟨y2, hy2⟩ : ∃ x, x = b2 % 100001 := ⟨_, rfl⟩
    obtain ⟨y3, hy3⟩ : ∃ x, x = b3 % 100001 := ⟨_, rfl⟩
    obtain ⟨y4, hy4⟩ : ∃ x, x = b4 % 100001 := ⟨_, rfl⟩
    obtain ⟨y5, hy5⟩ : ∃ x, x = b5 % 100001 := ⟨_, rfl⟩
    obtain ⟨y6, hy6⟩ : ∃ x, x = b6 % 100001 := ⟨_, rfl⟩
    go_loopw [10] (fun i wr => ∃ k : Nat, k ≤ 6 ∧ i = .int .i64 k ∧ Blk wr w.heap.size 34 #[.int .u32 a1, .int .u32 a2, .int .u32 a3, .int .u32 a4, .int .u32 a5, .int .u32 a6] ∧ Blk wr (w.heap.size + 1) 34 #[.int .u32 b1, .int .u32 b2, .int .u32 b3, .int .u32 b4, .int .u32 b5, .int .u32 b6] ∧
      Blk wr w1.heap.size 35 (fill6 x1 x2 x3 x4 x5 x6 k) ∧ Blk wr (w1.heap.size + 1) 35 (fill6 y1 y2 y3 y4 y5 y6 k) ∧ Blk wr (w1.heap.size + 2) 35 (fill6 (x1 + y1) (x2 + y2) (x3 + y3) (x4 + y4) (x5 + y5) (x6 + y6) k) ∧ Below w.heap.size w wr) (fun i _ => 6 - (intOf i).toNat)
    case atStart =>
      refine ⟨0, Nat.zero_le _, rfl, ((ka1.alloc _).alloc _).alloc _, ((kb1.alloc _).alloc _).alloc _, ?_, ?_, ?_, ((hB1.alloc hB1.size _).alloc (by simp; omega) _).alloc (by simp; omega) _⟩
      · exact ((Blk.new _ _ _).alloc _).alloc _
      · have := (Blk.new (w1.alloc (.cells #[.int .i64 0, .int .i64 0, .int .i64 0, .int .i64 0, .int .i64 0, .int .i64 0] 35)) 35 #[.int .i64 0, .int .i64 0, .int .i64 0, .int .i64 0, .int .i64 0, .int .i64 0]).alloc (.cells #[.int .i64 0, .int .i64 0, .int .i64 0, .int .i64 0, .int .i64 0, .int .i64 0] 35)
        rw [size_alloc'] at this
        exact this
      · have := Blk.new ((w1.alloc (.cells #[.int .i64 0, .int .i64 0, .int .i64 0, .int .i64 0, .int .i64 0, .int .i64 0] 35)).alloc (.cells #[.int .i64 0, .int .i64 0, .int .i64 0, .int .i64 0, .int .i64 0, .int .i64 0] 35)) 35 #[.int .i64 0, .int .i64 0, .int .i64 0, .int .i64 0, .int .i64 0, .int .i64 0]
        rw [size_alloc', size_alloc'] at this
        exact this
    case round =>
      have m1 : ¬ w.heap.size = w1.heap.size := by omega
      have m2 : ¬ w.heap.size + 1 = w1.heap.size := by omega
      have m3 : ¬ w.heap.size = w1.heap.size + 1 := by omega
      have m4 : ¬ w.heap.size + 1 = w1.heap.size + 1 := by omega
      have m5 : ¬ w.heap.size = w1.heap.size + 2 := by omega
      have m6 : ¬ w.heap.size + 1 = w1.heap.size + 2 := by omega
      obtain ⟨k, hk, rfl, h1, h2, h3, h4, h5, hB⟩ := hrel
      have hkk : k = 0 ∨ k = 1 ∨ k = 2 ∨ k = 3 ∨ k = 4 ∨ k = 5 ∨ k = 6 := by omega
      rcases hkk with rfl | rfl | rfl | rfl | rfl | rfl | rfl
      · have o3 := Lib.hid h3
        have o4 := Lib.hid h4
        have o5 := Lib.hid h5
        simp only [fill6, Nat.reduceLT, if_false, Nat.lt_irrefl] at h3 h4 h5
        obtain ⟨l1, c1, c2, c3, c4, c5, c6, f1, f2, f3, f4, f5, f6⟩ := h1.six
        obtain ⟨l2, d1, d2, d3, d4, d5, d6, g1, g2, g3, g4, g5, g6⟩ := h2.six
        obtain ⟨l3, p1, p2, p3, p4, p5, p6, q1, q2, q3, q4, q5, q6⟩ := h3.six
        obtain ⟨l4, r1, r2, r3, r4, r5, r6, s1, s2, s3, s4, s5, s6⟩ := h4.six
        obtain ⟨l5, t1, t2, t3, t4, t5, t6, u1, u2, u3, u4, u5, u6⟩ := h5.six
        go_wp2
        go_region
        go_wp2
        go_region
        go_wp2
        go_roundw
        case measure => simp [intOf]
        case rel => exact fill_round 0 (by omega) m1 m2 m3 m4 m5 m6 h1 h2 o3.out o4.out o5.out hB hG hx1.symm hy1.symm (by rw [← hx1, ← hy1]; rfl)
      · have o3 := Lib.hid h3
        have o4 := Lib.hid h4
        have o5 := Lib.hid h5
        simp only [fill6, Nat.reduceLT, if_true, if_false, Nat.lt_irrefl] at h3 h4 h5
        obtain ⟨l1, c1, c2, c3, c4, c5, c6, f1, f2, f3, f4, f5, f6⟩ := h1.six
        obtain ⟨l2, d1, d2, d3, d4, d5, d6, g1, g2, g3, g4, g5, g6⟩ := h2.six
        obtain ⟨l3, p1, p2, p3, p4, p5, p6, q1, q2, q3, q4, q5, q6⟩ := h3.six
        obtain ⟨l4, r1, r2, r3, r4, r5, r6, s1, s2, s3, s4, s5, s6⟩ := h4.six
        obtain ⟨l5, t1, t2, t3, t4, t5, t6, u1, u2, u3, u4, u5, u6⟩ := h5.six
        go_wp2
        go_region
        go_wp2
        go_region
        go_wp2
        go_roundw
        case measure => simp [intOf]
        case rel => exact fill_round 1 (by omega) m1 m2 m3 m4 m5 m6 h1 h2 o3.out o4.out o5.out hB hG hx2.symm hy2.symm (by rw [← hx2, ← hy2]; rfl)
      · have o3 := Lib.hid h3
        have o4 := Lib.hid h4
        have o5 := Lib.hid h5
        simp only [fill6, Nat.reduceLT, if_true, if_false, Nat.lt_irrefl] at h3 h4 h5
        obtain ⟨l1, c1, c2, c3, c4, c5, c6, f1, f2, f3, f4, f5, f6⟩ := h1.six
        obtain ⟨l2, d1, d2, d3, d4, d5, d6, g1, g2, g3, g4, g5, g6⟩ := h2.six
        obtain ⟨l3, p1, p2, p3, p4, p5, p6, q1, q2, q3, q4, q5, q6⟩ := h3.six
        obtain ⟨l4, r1, r2, r3, r4, r5, r6, s1, s2, s3, s4, s5, s6⟩ := h4.six
        obtain ⟨l5, t1, t2, t3, t4, t5, t6, u1, u2, u3, u4, u5, u6⟩ := h5.six
        go_wp2
        go_region
        go_wp2
        go_region
        go_wp2
        go_roundw
        case measure => simp [intOf]
        case rel => exact fill_round 2 (by omega) m1 m2 m3 m4 m5 m6 h1 h2 o3.out o4.out o5.out hB hG hx3.symm hy3.symm (by rw [← hx3, ← hy3]; rfl)
      · have o3 := Lib.hid h3
        have o4 := Lib.hid h4
        have o5 := Lib.hid h5
        simp only [fill6, Nat.reduceLT, if_true, if_false, Nat.lt_irrefl] at h3 h4 h5
        obtain ⟨l1, c1, c2, c3, c4, c5, c6, f1, f2, f3, f4, f5, f6⟩ := h1.six
        obtain ⟨l2, d1, d2, d3, d4, d5, d6, g1, g2, g3, g4, g5, g6⟩ := h2.six
        obtain ⟨l3, p1, p2, p3, p4, p5, p6, q1, q2, q3, q4, q5, q6⟩ := h3.six
        obtain ⟨l4, r1, r2, r3, r4, r5, r6, s1, s2, s3, s4, s5, s6⟩ := h4.six
        obtain ⟨l5, t1, t2, t3, t4, t5, t6, u1, u2, u3, u4, u5, u6⟩ := h5.six
        go_wp2
        go_region
        go_wp2
        go_region
        go_wp2
        go_roundw
        case measure => simp [intOf]
        case rel => exact fill_round 3 (by omega) m1 m2 m3 m4 m5 m6 h1 h2 o3.out o4.out o5.out hB hG hx4.symm hy4.symm (by rw [← hx4, ← hy4]; rfl)
      · have o3 := Lib.hid h3
        have o4 := Lib.hid h4
        have o5 := Lib.hid h5
        simp only [fill6, Nat.reduceLT, if_true, if_false, Nat.lt_irrefl] at h3 h4 h5
        obtain ⟨l1, c1, c2, c3, c4, c5, c6, f1, f2, f3, f4, f5, f6⟩ := h1.six
        obtain ⟨l2, d1, d2, d3, d4, d5, d6, g1, g2, g3, g4, g5, g6⟩ := h2.six
        obtain ⟨l3, p1, p2, p3, p4, p5, p6, q1, q2, q3, q4, q5, q6⟩ := h3.six
        obtain ⟨l4, r1, r2, r3, r4, r5, r6, s1, s2, s3, s4, s5, s6⟩ := h4.six
        obtain ⟨l5, t1, t2, t3, t4, t5, t6, u1, u2, u3, u4, u5, u6⟩ := h5.six
        go_wp2
        go_region
        go_wp2
        go_region
        go_wp2
        go_roundw
        case measure => simp [intOf]
        case rel => exact fill_round 4 (by omega) m1 m2 m3 m4 m5 m6 h1 h2 o3.out o4.out o5.out hB hG hx5.symm hy5.symm (by rw [← hx5, ← hy5]; rfl)
      · have o3 := Lib.hid h3
        have o4 := Lib.hid h4
        have o5 := Lib.hid h5
        simp only [fill6, Nat.reduceLT, if_true, if_false, Nat.lt_irrefl] at h3 h4 h5
        obtain ⟨l1, c1, c2, c3, c4, c5, c6, f1, f2, f3, f4, f5, f6⟩ := h1.six
        obtain ⟨l2, d1, d2, d3, d4, d5, d6, g1, g2, g3, g4, g5, g6⟩ := h2.six
        obtain ⟨l3, p1, p2, p3, p4, p5, p6, q1, q2, q3, q4, q5, q6⟩ := h3.six
        obtain ⟨l4, r1, r2, r3, r4, r5, r6, s1, s2, s3, s4, s5, s6⟩ := h4.six
        obtain ⟨l5, t1, t2, t3, t4, t5, t6, u1, u2, u3, u4, u5, u6⟩ := h5.six
        go_wp2
        go_region
        go_wp2
        go_region
        go_wp2
        go_roundw
        case measure => simp [intOf]
        case rel => exact fill_round 5 (by omega) m1 m2 m3 m4 m5 m6 h1 h2 o3.out o4.out o5.out hB hG hx6.symm hy6.symm (by rw [← hx6, ← hy6]; rfl)
      · simp only [fill6, Nat.reduceLT, if_true] at h3 h4 h5
        have h3' := Lib.hid h3
        have h4' := Lib.hid h4
        have h5' := Lib.hid h5
        rw [← hx1] at ea1; rw [← hx2] at ea2; rw [← hx3] at ea3; rw [← hx4] at ea4; rw [← hx5] at ea5; rw [← hx6] at ea6
        rw [← hy1] at eb1; rw [← hy2] at eb2; rw [← hy3] at eb3; rw [← hy4] at eb4; rw [← hy5] at eb5; rw [← hy6] at eb6
        obtain ⟨l3, p1, p2, p3, p4, p5, p6, -⟩ := h3.six
        obtain ⟨l4, r1, r2, r3, r4, r5, r6, -⟩ := h4.six
        obtain ⟨l5, t1, t2, t3, t4, t5, t6, -⟩ := h5.six
        clear h1 h2 h3 h4 h5 hx1 hx2 hx3 hx4 hx5 hx6 hy1 hy2 hy3 hy4 hy5 hy6 ha hb m1 m2 m3 m4 m5 m6
        go_wp2_with fail
        refine (most_any x1 x2 x3 x4 x5 x6 _ (wid ea1) (wid ea2) (wid ea3) (wid ea4) (wid ea5) (wid ea6)).mono ?_
        rintro en w2 ⟨rfl, rfl⟩
        go_wp2_with fail
        refine (most_any y1 y2 y3 y4 y5 y6 _ (wid eb1) (wid eb2) (wid eb3) (wid eb4) (wid eb5) (wid eb6)).mono ?_
        rintro en w2 ⟨rfl, rfl⟩
        have q1 : ((2 * (x1 + x2 + 2 * x3) + 64 * x4 + 384 * x5 + 64 * (x6 + 1)) == (2 * x1 + 2 * x2 + 4 * x3 + 64 * x4 + 384 * x5 + 64 * (x6 + 1))) = true := by rw [beq_iff_eq]; omega
        go_wp2_with fail
        refine (most_any (x1 + y1) (x2 + y2) (x3 + y3) (x4 + y4) (x5 + y5) (x6 + y6) _ (wid2 ea1 eb1) (wid2 ea2 eb2) (wid2 ea3 eb3) (wid2 ea4 eb4) (wid2 ea5 eb5) (wid2 ea6 eb6)).mono ?_
        rintro en w2 ⟨rfl, rfl⟩
        clear p1 p2 p3 p4 p5 p6 r1 r2 r3 r4 r5 r6 t1 t2 t3 t4 t5 t6 h3' h4' h5' l3 l4 l5
        go_wp2_with fail
        clear ea1 ea2 ea3 ea4 ea5 ea6 eb1 eb2 eb3 eb4 eb5 eb6 q1
        refine (ref24_any s hs _).mono ?_
        cases hr : ref24M (lettersOf s)
        · rintro en w2 ⟨rfl, hb2⟩
          go_wp2
          go_ret
          exact ⟨rfl, below_on hB hB.size hb2⟩
        · rintro en w2 ⟨rfl, hb2⟩
          have hB2 := below_on hB hB.size hb2
          have hC := (right_counts hr).bits
          rw [lettersOf_length] at hC
          have hR := right_eq (lettersOf s)
          rw [hr] at hR
          go_wp2_with fail
          refine (of_right s hs hR _).mono ?_
          rw [hC]
          rintro en w3 ⟨rfl, hb3⟩
          have hB3 := below_on hB2 hB2.size hb3
          clear hC hR hr
          go_wp2
          have k3 := Blk.new w3 24 #[.int .i64 ((s.size : Int) + 1), .int .i64 s.size, .int .i64 (2 * (s.size : Int) + 1), .int .i64 0, .int .i64 0, .int .i64 0]
          have hB4 := hB3.alloc hB3.size (.cells #[.int .i64 ((s.size : Int) + 1), .int .i64 s.size, .int .i64 (2 * (s.size : Int) + 1), .int .i64 0, .int .i64 0, .int .i64 0] 24)
          obtain ⟨-, c1, c2, c3, c4, c5, c6, -⟩ := k3.six
          have d1 := cell_regrown c1
          have d2 := cell_regrown c2
          have d3 := cell_regrown c3
          have d4 := cell_regrown c4
          have d5 := cell_regrown c5
          have d6 := cell_regrown c6
          have tt := total_small ((s.size : Int) + 1) s.size (2 * (s.size : Int) + 1) 0 0 0
          have mm := fun w => most_below ((s.size : Int) + 1) 0 0 0 0 1 w (by omega) (by omega) (by omega) (by omega) (by omega) (by omega)
          have TT := Lib.hid tt
          have MM := Lib.hid mm
          clear tt mm k3
          refine wp_region_quiet_below (by kernel_rfl) (by kernel_rfl) ?_
          repeat (go_big_quiet_step ((first | (go_at_call 20; exact Calls.regrown_of (TT.out _ (by omega) (by omega) (by omega) (by omega))) | (go_at_call 19; exact Calls.regrown_of (MM.out _)))))
          refine wpQuiet_nil ?_
          intro _ hw'
          obtain ⟨⟨dq', osq'⟩, hw''⟩ := hw'
          subst hw''
          have hB5 := below_on hB4 hB4.size (below_regrown _ dq' osq')
          go_wp2
          go_ret
          refine ⟨?_, hB5⟩
          show Ending.returned (.bool (decide (2 * (s.size : Int) + 1 < 2 * ((s.size : Int) + 1) + 128))) = _
          rw [decide_eq_true (by omega)]
end Go.Proofs.Ytgjcigokjfhfkaa
