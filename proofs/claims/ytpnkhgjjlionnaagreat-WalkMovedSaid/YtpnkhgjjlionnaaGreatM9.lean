/-
  Texts joined by program, what the law uses alone: SurD F13 F13B F13C F21 Solid Fit21 SimL WkMv ArgS ArgY.
-/
import Derived.Lib.QuietBelow
import Derived.Deep.RegionHeld3
import Derived.Maps.OwnIn
import Derived.Sort.LoopGhostIn
import Derived.ProofKit
import Derived.WideShapes
import Derived.OpenShut
import Derived.Deep.Slices
import Derived.Lib.SmallJoins
import Derived.Test.YtpnkhgjjlionnaaGreatM8
import Derived.Test.YtpnkhgjjlionnaaGreatM2
import Derived.Test.YtpnkhgjjlionnaaGreatM4
import Derived.Test.YtpnkhgjjlionnaaGreatM6
import Derived.Test.YtpnkhgjjlionnaaGreatM7
import Derived.Test.YtpnkhgjjlionnaaGreatM5
import Derived.Test.YtpnkhgjjlionnaaGreatM1
namespace Go.Proofs.YtpnkhgjjlionnaaGreat
open Go.RowKit

theorem own_base9 {w : World} {base base' n s : Nat} {e : TypeId} {v : Value} {xs : List Value} (h : w.ownsRow base e s v n xs) (hb : base' ≤ base) : w.ownsRow base' e s v n xs := by
  obtain ⟨h1, h2 | ⟨g, cap, cur, rfl, a1, a2⟩⟩ := h
  · exact ⟨h1, .inl h2⟩
  · exact ⟨h1, .inr ⟨g, cap, cur, rfl, Nat.le_trans hb a1, a2⟩⟩
/-- A row of witnesses of the call's own, and its argument. -/
structure AS9 (w : World) (N : Int) (vT : Value) (v : Value) (m : Nat) (W : World) : Prop where
  row : ∃ xs, W.ownsRow w.heap.size 166 3 v m xs
  soup : Blk W w.heap.size 24 #[.int .i64 N, vT]
  below : Below w.heap.size w W
theorem AS9.le {w W W' : World} {N : Int} {vT v : Value} {m : Nat} (h : AS9 w N vT v m W) (hb : Below W.heap.size W W') : AS9 w N vT v m W' := by
  obtain ⟨⟨xs, h1⟩, h2, h3⟩ := h
  exact ⟨⟨xs, own_below9 h1 hb⟩, h2.below hb h2.lt, h3.trans (hb.mono h3.size)⟩
theorem AS9.form {w W : World} {N : Int} {vT v : Value} {m : Nat} (h : AS9 w N vT v m W) : ∃ a c, v = .slice a m c := by
  obtain ⟨⟨xs, h1⟩, -, -⟩ := h
  rcases h1.2 with ⟨rfl, h0⟩ | ⟨g, cap, cur, rfl, _⟩
  · rw [h0]; exact ⟨_, _, rfl⟩
  · exact ⟨_, _, rfl⟩
theorem AS9.ret {w W W' : World} {N : Int} {vT v v' : Value} {m : Nat} (h : AS9 w N vT v m W) {n : Nat} {xs : List Value} (h1 : W'.ownsRow W.heap.size 166 3 v' n xs) (hb : Below W.heap.size W W') : AS9 w N vT v' n W' :=
  ⟨⟨xs, own_base9 h1 h.below.size⟩, h.soup.below hb h.soup.lt, h.below.trans (hb.mono h.below.size)⟩
theorem AS9.app {w W W' : World} {N : Int} {vT v v' : Value} {m n : Nat} {xs : List Value} {o : Obj} (h : AS9 w N vT v m W) (h1 : W'.ownsRow w.heap.size 166 3 v' n xs) (hg : (W.alloc o).grownBy W' v.ownBlock) : AS9 w N vT v' n W' := by
  obtain ⟨⟨ys, h2⟩, h3, h4⟩ := h
  refine ⟨⟨xs, h1⟩, (h3.alloc _).grown hg (fun e => own_blk_ne h2 h3 (by decide) e.symm), ?_⟩
  exact h4.grown (gGrown (World.grownBy_alloc _ _ _) hg (row := v.ownBlock) (fun _ e => .inl e)) h4.size (fun j e => (h2.lt j e).1)
set_option maxRecDepth 100000 in
set_option maxHeartbeats 4000000 in
theorem all9_any (N : Int) (v : Value) (T : List Tr) (w : World) (h : TrisRd w v T) (hl : T.length ≤ 40) (hN : N ≤ 120) : Calls Tryz.prog 81 #[.agg #[.int .i64 N, v]] w (RetW w 10000) := by
  obtain ⟨i1, hi', hy0, hy1, hy2⟩ := info_parts infoWit9
  obtain ⟨a, c, rfl, hc1, hc2, hr⟩ := id h
  have b1 := Blk.new w 24 #[.int .i64 N, .slice a T.length c]
  obtain ⟨l0, x0, -, x1, -⟩ := b1.two
  have hB0 : Below w.heap.size w (w.alloc (.cells #[.int .i64 N, .slice a T.length c] 24)) := (Below.refl _ _).alloc (Nat.le_refl _) _
  have HI := Lib.hid (fun (W : World) (hW : Below w.heap.size w W) => index9_any N _ T W (h.below hW) hl)
  have HP3 := Lib.hid (fun (W : World) (hW : Below w.heap.size w W) => pairs9_any 3 (.inl rfl) N _ T W (h.below hW) hl)
  have HP4 := Lib.hid (fun (W : World) (hW : Below w.heap.size w W) => pairs9_any 4 (.inr rfl) N _ T W (h.below hW) hl)
  have HPi := Lib.hid (fun (W : World) (u : Int) (hW : Below w.heap.size w W) => pinched9_any N u _ T W (h.below hW) hl)
  have HA := Lib.hid has9_any
  obtain ⟨n, hn⟩ : ∃ n, T.length = n := ⟨_, rfl⟩
  rw [hn] at hl hc1 x0 x1 hB0 b1 l0 HI HP3 HP4 HPi ⊢
  have HR := Lib.hid hr
  have HN := Lib.hid hn
  have HB0 := Lib.hid hB0
  have Hb1 := Lib.hid b1
  clear hr hn b1 hB0 h
  go_enter Tryz.func81, Tryz.ntmps81
  go_wp2_with fail
  refine (HI.out _ HB0.out).mono ?_
  rintro e w1 ⟨v1, m1, xs1, rfl, hr1, hm1, hb1⟩
  have S1 : AS9 w N (.slice a n c) v1 m1 w1 := ⟨⟨_, own_base9 hr1 (by simp)⟩, Hb1.out.below hb1 l0, HB0.out.trans (hb1.mono HB0.out.size)⟩
  obtain ⟨a1, c1, rfl⟩ := S1.form
  have HS1 := Lib.hid S1
  clear S1 hr1 hb1 x0 x1
  obtain ⟨ly, y0, -, y1, -⟩ := HS1.out.soup.two
  rcases Nat.eq_zero_or_pos m1 with hm0 | hm0
  rotate_left
  · have nz : (0 : Int) < (m1 : Int) := by omega
    go_wp2
    go_ret
    obtain ⟨⟨xs, k1⟩, -, k3⟩ := HS1.out
    exact ⟨_, _, _, rfl, k1, by omega, k3⟩
  subst hm0
  go_wp2
  go_loopw [3, 4] (fun v3 i wr => ∃ (k m : Nat) (v' : Value), v' = v3 ∧ k ≤ n ∧ i = .int .i64 k ∧ AS9 w N (.slice a n c) v' m wr ∧ m ≤ k) (fun _ i _ => n - (intOf i).toNat)
  case atStart => exact ⟨0, 0, _, rfl, by omega, rfl, HS1.out, by omega⟩
  case round =>
    obtain ⟨k, m, v3, rfl, hk, rfl, hS, hm⟩ := hrel
    rename World => wr
    clear y0 y1 ly
    have HS := Lib.hid hS
    obtain ⟨ly, y0, -, y1, -⟩ := hS.soup.two
    obtain ⟨⟨xs, hrow⟩, -, hB⟩ := hS
    have hsz := hB.size
    by_cases hlt : k < n
    · have hk3 : (k : Int) < (n : Int) := by omega
      have hk0 : (0 : Int) ≤ (k : Int) := by omega
      obtain ⟨⟨x, y, z⟩, ht⟩ : ∃ t, T[k]? = some t := ⟨T[k]'(by have := HN.out; omega), List.getElem?_eq_getElem _⟩
      obtain ⟨b, o, rfl, hbl, s0, s1, s2⟩ := HR.out k x y z ht
      have s0' := (hB.cell (p := ⟨b, _, none⟩) hbl).trans s0
      have s1' := (hB.cell (p := ⟨b, _, none⟩) hbl).trans s1
      have s2' := (hB.cell (p := ⟨b, _, none⟩) hbl).trans s2
      have c3 : m + 1 ≤ maxLen := by unfold maxLen; omega
      have c4 : (m + 1) * 24 ≤ 140737488355328 := by omega
      clear ht s0 s1 s2
      have Q : ((x == y) = false ∧ (y == z) = false ∧ (z == x) = false) ∨ ((x == y) = true ∨ ((x == y) = false ∧ (y == z) = true) ∨ ((x == y) = false ∧ (y == z) = false ∧ (z == x) = true)) := by
        cases (x == y) <;> cases (y == z) <;> cases (z == x) <;> simp
      rcases Q with ⟨q1, q2, q3⟩ | q
      · clear hrow hB
        go_wp2
        go_roundw
        case measure => simp [intOf]; omega
        case rel => exact ⟨k + 1, m, _, rfl, by omega, by go_num, HS.out.le ((Below.refl _ _).alloc (Nat.le_refl _) _), by omega⟩
      · have HS' := Lib.hid (HS.out.le ((Below.refl _ _).alloc (Nat.le_refl _) (.cells #[.int .i64 x, .int .i64 y, .int .i64 z] 60)))
        rcases q with q1 | ⟨q1, q2⟩ | ⟨q1, q2, q3⟩
        all_goals go_wp2_with (at_builtin; refine wpList_append_lies _ rfl (.tmp 47) (.tmp 50) 145 rfl w.heap.size 166 i1 _ 3 24 Tryz.underlying145 hi' hy0 hy1 hy2 rfl (by decide) _ _ _ rfl ((hrow.alloc _).alloc _) ⟨wr.heap.size + 1, 0, none⟩ 1 1 [.int .i64 2, .int .i64 k, .int .i64 0] rfl rfl (World.news_of_block (heap_alloc_new2 _ _ _)) (by simp [Value.oneCell']) (by decide) c3 c4 (by rw [size_alloc', size_alloc']; omega) (wr.heap.size + 2) (by simp) ?_; intro g4 cap4 W4 hr4 hg4 _ _)
        all_goals go_roundw
        case measure | measure | measure => simp [intOf]; omega
        case rel | rel | rel => exact ⟨k + 1, m + 1, _, rfl, by omega, by go_num, HS'.out.app hr4 hg4, by omega⟩
    · obtain rfl : k = n := by omega
      clear hrow hB
      obtain ⟨a3, c3, rfl⟩ := HS.out.form
      rcases Nat.eq_zero_or_pos m with hm0 | hm0
      rotate_left
      · have nz : (0 : Int) < (m : Int) := by omega
        go_wp2
        go_ret
        obtain ⟨⟨xs, k1⟩, -, k3⟩ := HS.out
        exact ⟨_, _, _, rfl, k1, by omega, k3⟩
      subst hm0
      go_wp2_with fail
      refine (HP3.out _ HS.out.below).mono ?_
      rintro e w2 ⟨v2, m2, xs2, rfl, hr2, hm2, hb2⟩
      have HS2 := Lib.hid (HS.out.ret hr2 hb2)
      obtain ⟨a2, c2, rfl⟩ := HS2.out.form
      clear y0 y1 ly hr2 hb2
      obtain ⟨ly, y0, -, y1, -⟩ := HS2.out.soup.two
      rcases Nat.eq_zero_or_pos m2 with hm0 | hm0
      rotate_left
      · have nz : (0 : Int) < (m2 : Int) := by omega
        go_wp2
        go_ret
        obtain ⟨⟨xs, k1⟩, -, k3⟩ := HS2.out
        exact ⟨_, _, _, rfl, k1, by omega, k3⟩
      subst hm0
      go_wp2_with fail
      refine (HP4.out _ HS2.out.below).mono ?_
      rintro e w3 ⟨v3, m3, xs3, rfl, hr3, hm3, hb3⟩
      have HS3 := Lib.hid (HS2.out.ret hr3 hb3)
      obtain ⟨a3, c3, rfl⟩ := HS3.out.form
      clear y0 y1 ly hr3 hb3
      obtain ⟨ly, y0, -, y1, -⟩ := HS3.out.soup.two
      rcases Nat.eq_zero_or_pos m3 with hm0 | hm0
      rotate_left
      · have nz : (0 : Int) < (m3 : Int) := by omega
        go_wp2
        go_ret
        obtain ⟨⟨xs, k1⟩, -, k3⟩ := HS3.out
        exact ⟨_, _, _, rfl, k1, by omega, k3⟩
      subst hm0
      go_wp2
      go_loopw [3, 6] (fun v3 i wr => ∃ (j m : Nat) (v' : Value), v' = v3 ∧ (j = 0 ∨ (j : Int) ≤ N) ∧ i = .int .i64 j ∧ AS9 w N (.slice a k c) v' m wr ∧ m ≤ j) (fun _ i _ => N.toNat - (intOf i).toNat)
      case atStart => exact ⟨0, 0, _, rfl, .inl rfl, rfl, HS3.out, by omega⟩
      case round =>
        obtain ⟨j, m, v4, rfl, hj, rfl, hS, hm⟩ := hrel
        rename World => wA
        clear y0 y1 ly HS HS2 HS3 HS1
        have HS := Lib.hid hS
        obtain ⟨ly, y0, -, y1, -⟩ := hS.soup.two
        clear hS
        by_cases hlt : (j : Int) < N
        · go_wp2
          go_loopw [7, 8] (fun v7 i W => ∃ (i1 : Nat) (b : Bool), i1 ≤ k ∧ i = .int .i64 i1 ∧ v7 = .bool b ∧ AS9 w N (.slice a k c) v4 m W) (fun _ i _ => k - (intOf i).toNat)
          case atStart => exact ⟨0, false, by omega, rfl, rfl, HS.out⟩
          case round =>
            obtain ⟨i1x, b, hi1, rfl, rfl, hS⟩ := hrel
            rename World => wB
            have HSB := Lib.hid hS
            obtain ⟨lz, z0, -, z1, -⟩ := hS.soup.two
            by_cases hik : i1x < k
            · have hi3 : (i1x : Int) < (k : Int) := by omega
              have hi0 : (0 : Int) ≤ (i1x : Int) := by omega
              cases b
              · obtain ⟨⟨x, y, z⟩, ht⟩ : ∃ t, T[i1x]? = some t := ⟨T[i1x]'(by have := HN.out; omega), List.getElem?_eq_getElem _⟩
                obtain ⟨b, o, rfl, hbl, s0, s1, s2⟩ := HR.out i1x x y z ht
                have s0' := (hS.below.cell (p := ⟨b, _, none⟩) hbl).trans s0
                have s1' := (hS.below.cell (p := ⟨b, _, none⟩) hbl).trans s1
                have s2' := (hS.below.cell (p := ⟨b, _, none⟩) hbl).trans s2
                clear ht s0 s1 s2 hS
                go_wp2_with fail
                refine (HA.out _ _ _ _ _).mono ?_
                rintro e w5 ⟨⟨b5, rfl⟩, hb5⟩
                have HS5 := Lib.hid (HSB.out.le hb5)
                clear hb5 z0 z1 s0' s1' s2'
                go_wp2
                go_roundw
                case measure => simp [intOf]; omega
                case rel => exact ⟨i1x + 1, b5, by omega, by go_num, rfl, HS5.out⟩
              · clear hS
                go_wp2
                go_roundw
                case measure => simp [intOf]; omega
                case rel => exact ⟨i1x + 1, true, by omega, by go_num, rfl, HSB.out⟩
            · obtain rfl : i1x = k := by omega
              clear hS
              obtain ⟨⟨xs, hrow⟩, -, hB⟩ := HSB.out
              have hsz := hB.size
              have c3 : m + 1 ≤ maxLen := by unfold maxLen; omega
              have c4 : (m + 1) * 24 ≤ 140737488355328 := by omega
              cases b
              · clear hB
                go_wp2_with (at_builtin; refine wpList_append_lies _ rfl (.tmp 93) (.tmp 96) 145 rfl w.heap.size 166 i1 _ 3 24 Tryz.underlying145 hi' hy0 hy1 hy2 rfl (by decide) _ _ _ rfl (hrow.alloc _) ⟨wB.heap.size, 0, none⟩ 1 1 [.int .i64 5, .int .i64 j, .int .i64 0] rfl rfl (World.news_of_block (heap_alloc_new _ _)) (by simp [Value.oneCell']) (by decide) c3 c4 (by rw [size_alloc']; omega) (wB.heap.size + 1) (by simp) ?_; intro g4 cap4 W4 hr4 hg4 _ _)
                go_roundw
                case measure => simp [intOf]; omega
                case rel => exact ⟨j + 1, m + 1, _, rfl, by omega, by go_num, HSB.out.app hr4 hg4, by omega⟩
              · clear hB hrow
                go_wp2
                go_roundw
                case measure => simp [intOf]; omega
                case rel => exact ⟨j + 1, m, _, rfl, by omega, by go_num, HSB.out, by omega⟩
        · obtain ⟨a4, c4, rfl⟩ := HS.out.form
          rcases Nat.eq_zero_or_pos m with hm0 | hm0
          rotate_left
          · have nz : (0 : Int) < (m : Int) := by omega
            go_wp2
            go_ret
            obtain ⟨⟨xs, k1⟩, -, k3⟩ := HS.out
            exact ⟨_, _, _, rfl, k1, by omega, k3⟩
          subst hm0
          go_wp2
          clear hj hlt hm
          go_loopw [3, 9] (fun v3 i wr => ∃ (j m : Nat) (v' : Value), v' = v3 ∧ (j = 0 ∨ (j : Int) ≤ N) ∧ i = .int .i64 j ∧ AS9 w N (.slice a k c) v' m wr ∧ m ≤ j) (fun _ i _ => N.toNat - (intOf i).toNat)
          case atStart => exact ⟨0, 0, _, rfl, .inl rfl, rfl, HS.out, by omega⟩
          case round =>
            obtain ⟨j2, m, v5, rfl, hj, rfl, hS, hm⟩ := hrel
            rename World => wB
            clear y0 y1 ly HS
            have HS := Lib.hid hS
            obtain ⟨ly, y0, -, y1, -⟩ := hS.soup.two
            clear hS
            by_cases hlt : (j2 : Int) < N
            · go_wp2_with fail
              refine (HPi.out _ _ HS.out.below).mono ?_
              rintro e w5 ⟨⟨b5, rfl⟩, hb5⟩
              have HS5 := Lib.hid (HS.out.le hb5)
              clear hb5 y0 y1 ly
              obtain ⟨⟨xs, hrow⟩, -, hB⟩ := HS5.out
              have hsz := hB.size
              have c3 : m + 1 ≤ maxLen := by unfold maxLen; omega
              have c4 : (m + 1) * 24 ≤ 140737488355328 := by omega
              obtain ⟨ly, y0, -, y1, -⟩ := HS5.out.soup.two
              cases b5
              · clear hB hrow
                go_wp2
                go_roundw
                case measure => simp [intOf]; omega
                case rel => exact ⟨j2 + 1, m, _, rfl, by omega, by go_num, HS5.out, by omega⟩
              · clear hB
                go_wp2_with (at_builtin; refine wpList_append_lies _ rfl (.tmp 111) (.tmp 114) 145 rfl w.heap.size 166 i1 _ 3 24 Tryz.underlying145 hi' hy0 hy1 hy2 rfl (by decide) _ _ _ rfl (hrow.alloc _) ⟨w5.heap.size, 0, none⟩ 1 1 [.int .i64 6, .int .i64 j2, .int .i64 0] rfl rfl (World.news_of_block (heap_alloc_new _ _)) (by simp [Value.oneCell']) (by decide) c3 c4 (by rw [size_alloc']; omega) (w5.heap.size + 1) (by simp) ?_; intro g4 cap4 W4 hr4 hg4 _ _)
                go_roundw
                case measure => simp [intOf]; omega
                case rel => exact ⟨j2 + 1, m + 1, _, rfl, by omega, by go_num, HS5.out.app hr4 hg4, by omega⟩
            · go_wp2
              go_ret
              obtain ⟨⟨xs, k1⟩, -, k3⟩ := HS.out
              exact ⟨_, _, _, rfl, k1, by omega, k3⟩
set_option maxHeartbeats 1000000 in
/-- The document's decision comes to an end. -/
theorem surface9_any (N : Int) (v : Value) (T : List Tr) (w : World) (h : TrisRd w v T) (hl : T.length ≤ 40) (hN : N ≤ 120) : Calls Tryz.prog 56 #[.agg #[.int .i64 N, v]] w (RetB w) := by
  have hB0 : Below w.heap.size w (w.alloc (.cells #[.int .i64 N, v] 24)) := (Below.refl _ _).alloc (Nat.le_refl _) _
  have HI := Lib.hid (all9_any N v T _ (h.below hB0) hl hN)
  have b1 := Blk.new w 24 #[.int .i64 N, v]
  obtain ⟨l0, x0, -, x1, -⟩ := b1.two
  have HB0 := Lib.hid hB0
  clear hB0 b1 h
  go_enter Tryz.func56, Tryz.ntmps56
  go_wp2_with fail
  refine HI.out.mono ?_
  rintro e w1 ⟨v1, m1, xs1, rfl, hr1, hm1, hb1⟩
  have hf : ∃ a c, v1 = .slice a m1 c := by
    rcases hr1.2 with ⟨rfl, h0⟩ | ⟨g, cap, cur, rfl, _⟩
    · rw [h0]; exact ⟨_, _, rfl⟩
    · exact ⟨_, _, rfl⟩
  obtain ⟨a1, c1, rfl⟩ := hf
  have HB := Lib.hid (HB0.out.trans (hb1.mono HB0.out.size))
  clear hr1 hb1 x0 x1
  go_wp2
  go_ret
  exact ⟨⟨_, rfl⟩, HB.out⟩
end Go.Proofs.YtpnkhgjjlionnaaGreat
namespace Go.Proofs.YtpnkhgjjlionnaaGreat
open Go.RowKit Go.Maps

theorem tv0 (x y z : Int) : tv (x, y, z) 0 = x := rfl
theorem tv1 (x y z : Int) : tv (x, y, z) 1 = y := rfl
theorem tv2 (x y z : Int) : tv (x, y, z) 2 = z := rfl
set_option maxRecDepth 100000 in
set_option maxHeartbeats 4000000 in
theorem neigh13_any (x y z x' y' z' : Int) (w : World) : Calls Tryz.prog 83 #[.agg #[.int .i64 x, .int .i64 y, .int .i64 z], .agg #[.int .i64 x', .int .i64 y', .int .i64 z']] w fun e w' => ∃ b : Bool, e = .returned (.bool b) ∧ (b = true ↔ Nb (x, y, z) (x', y', z')) ∧ Below w.heap.size w w' := by
  have bt := (Blk.new w 60 #[.int .i64 x, .int .i64 y, .int .i64 z]).alloc (.cells #[.int .i64 x', .int .i64 y', .int .i64 z'] 60)
  have bu : Blk ((w.alloc (.cells #[.int .i64 x, .int .i64 y, .int .i64 z] 60)).alloc (.cells #[.int .i64 x', .int .i64 y', .int .i64 z'] 60)) (w.heap.size + 1) 60 #[.int .i64 x', .int .i64 y', .int .i64 z'] := blk_new9 (by simp)
  have hB : Below w.heap.size w ((w.alloc (.cells #[.int .i64 x, .int .i64 y, .int .i64 z] 60)).alloc (.cells #[.int .i64 x', .int .i64 y', .int .i64 z'] 60)) := ((Below.refl _ _).alloc (Nat.le_refl _) _).alloc (by simp) _
  go_enter Tryz.func83, Tryz.ntmps83
  go_wp2
  generalize (w.alloc (.cells #[.int .i64 x, .int .i64 y, .int .i64 z] 60)).alloc (.cells #[.int .i64 x', .int .i64 y', .int .i64 z'] 60) = W0 at *
  have HX := Lib.hid (fun (W : World) (hW : Below W0.heap.size W0 W) => And.intro (bt.below hW bt.lt) (bu.below hW bu.lt))
  have HB := Lib.hid hB
  clear bt bu hB
  go_loopw [5] (fun i W => ∃ a : Nat, a ≤ 3 ∧ i = .int .i64 a ∧ Below W0.heap.size W0 W ∧ (∀ a', a' < a → ∀ k, k < 3 → ¬ (tv (x, y, z) a' = tv (x', y', z') ((k + 1) % 3) ∧ tv (x, y, z) ((a' + 1) % 3) = tv (x', y', z') k))) (fun i _ => 3 - (intOf i).toNat)
  case atStart => exact ⟨0, by omega, rfl, Below.refl _ _, fun _ h => absurd h (by omega)⟩
  case round =>
    obtain ⟨a, ha, rfl, hW, hno⟩ := hrel
    rename World => wr
    have HW := Lib.hid hW
    have HNo := Lib.hid hno
    clear hW hno
    by_cases ha3 : a < 3
    · have ha4 : (a : Int) < 3 := by omega
      go_wp2
      go_loopw [6] (fun i W => ∃ k : Nat, k ≤ 3 ∧ i = .int .i64 k ∧ Below W0.heap.size W0 W ∧ (∀ k', k' < k → ¬ (tv (x, y, z) a = tv (x', y', z') ((k' + 1) % 3) ∧ tv (x, y, z) ((a + 1) % 3) = tv (x', y', z') k'))) (fun i _ => 3 - (intOf i).toNat)
      case atStart => exact ⟨0, by omega, rfl, HW.out, fun _ h => absurd h (by omega)⟩
      case round =>
        obtain ⟨k, hk, rfl, hW, hno⟩ := hrel
        rename World => wq
        obtain ⟨bt, bu⟩ := HX.out _ hW
        obtain ⟨lt, p0, -, p1, -, p2, -⟩ := bt.three
        obtain ⟨lu, r0, -, r1, -, r2, -⟩ := bu.three
        have HWq := Lib.hid hW
        have HNq := Lib.hid hno
        clear hW hno bt bu
        by_cases hk3 : k < 3
        · have hk4 : (k : Int) < 3 := by omega
          by_cases h1 : tv (x, y, z) a = tv (x', y', z') ((k + 1) % 3)
          · have q1 : (tv (x, y, z) a == tv (x', y', z') ((k + 1) % 3)) = true := by simpa using h1
            by_cases h2 : tv (x, y, z) ((a + 1) % 3) = tv (x', y', z') k
            · have q2 : (tv (x, y, z) ((a + 1) % 3) == tv (x', y', z') k) = true := by simpa using h2
              have HY : Hid (Nb (x, y, z) (x', y', z')) := Lib.hid ⟨a, k, ha3, hk3, h1, h2⟩
              clear h1 h2 HNq HNo ha hk
              rcases (by omega : a = 0 ∨ a = 1 ∨ a = 2) with rfl | rfl | rfl <;> rcases (by omega : k = 0 ∨ k = 1 ∨ k = 2) with rfl | rfl | rfl <;> simp only [tv0, tv1, tv2, Nat.reduceAdd, Nat.reduceMod] at q1 q2
              all_goals
                go_wp2
                go_quiet (fail)
                go_wp2
                go_ret
                exact ⟨true, rfl, ⟨fun _ => HY.out, fun _ => rfl⟩, below_dn (HB.out.trans (HWq.out.mono HB.out.size)) _⟩
            · have q2 : (tv (x, y, z) ((a + 1) % 3) == tv (x', y', z') k) = false := by simpa using h2
              have HN2 := Lib.hid (show ∀ k', k' < k + 1 → ¬ (tv (x, y, z) a = tv (x', y', z') ((k' + 1) % 3) ∧ tv (x, y, z) ((a + 1) % 3) = tv (x', y', z') k') from fun k' hk' hh => by
                rcases Nat.lt_or_ge k' k with e | e
                · exact HNq.out k' e hh
                · obtain rfl : k' = k := by omega
                  exact h2 hh.2)
              clear h1 h2 HNq ha hk
              rcases (by omega : a = 0 ∨ a = 1 ∨ a = 2) with rfl | rfl | rfl <;> rcases (by omega : k = 0 ∨ k = 1 ∨ k = 2) with rfl | rfl | rfl <;> simp only [tv0, tv1, tv2, Nat.reduceAdd, Nat.reduceMod] at q1 q2
              all_goals
                go_wp2
                go_quiet (fail)
                go_wp2
                go_roundw
              all_goals first
                | (show _ < _; simp [intOf]; done)
                | exact ⟨_, by omega, by go_num, below_dn HWq.out _, HN2.out⟩
          · have q1 : (tv (x, y, z) a == tv (x', y', z') ((k + 1) % 3)) = false := by simpa using h1
            have HN2 := Lib.hid (show ∀ k', k' < k + 1 → ¬ (tv (x, y, z) a = tv (x', y', z') ((k' + 1) % 3) ∧ tv (x, y, z) ((a + 1) % 3) = tv (x', y', z') k') from fun k' hk' hh => by
              rcases Nat.lt_or_ge k' k with e | e
              · exact HNq.out k' e hh
              · obtain rfl : k' = k := by omega
                exact h1 hh.1)
            clear h1 HNq ha hk
            rcases (by omega : a = 0 ∨ a = 1 ∨ a = 2) with rfl | rfl | rfl <;> rcases (by omega : k = 0 ∨ k = 1 ∨ k = 2) with rfl | rfl | rfl <;> simp only [tv0, tv1, tv2, Nat.reduceAdd, Nat.reduceMod] at q1
            all_goals
              go_wp2
              go_quiet (fail)
              go_wp2
              go_roundw
            all_goals first
              | (show _ < _; simp [intOf]; done)
              | exact ⟨_, by omega, by go_num, below_dn HWq.out _, HN2.out⟩
        · obtain rfl : k = 3 := by omega
          go_wp2
          go_roundw
          case measure => simp [intOf]; omega
          case rel =>
            refine ⟨a + 1, by omega, by go_num, HWq.out, fun a' ha' k hk => ?_⟩
            rcases Nat.lt_or_ge a' a with e | e
            · exact HNo.out a' e k hk
            · obtain rfl : a' = a := by omega
              exact HNq.out k hk
    · obtain rfl : a = 3 := by omega
      go_wp2
      go_ret
      exact ⟨false, rfl, ⟨fun h => (by cases h), fun ⟨i, k, hi, hk, h⟩ => absurd h (HNo.out i hi k hk)⟩, HB.out.trans (HW.out.mono HB.out.size)⟩
end Go.Proofs.YtpnkhgjjlionnaaGreat
namespace Go.Proofs.YtpnkhgjjlionnaaGreat
open Go.RowKit Go.Maps

theorem edgeN_at {T : List Tr} {i : Nat} {x y z : Int} (h : T[i]? = some (x, y, z)) : edgeN T (3 * i) = (y, z) ∧ edgeN T (3 * i + 1) = (z, x) ∧ edgeN T (3 * i + 2) = (x, y) := by
  have hv : ∀ k, k < 3 → vertN T (3 * i + k) = tv (x, y, z) k := fun k hk => by
    rw [← tv_vert hk]
    unfold trs
    rw [List.getD_eq_getElem?_getD, h]
    rfl
  have v0 := hv 0 (by omega)
  have v1 := hv 1 (by omega)
  have v2 := hv 2 (by omega)
  rw [tv0] at v0
  rw [tv1] at v1
  rw [tv2] at v2
  have a0 : Jor.nx (3 * i) = 3 * i + 1 := by unfold Jor.nx; omega
  have b0 : Jor.pv (3 * i) = 3 * i + 2 := by unfold Jor.pv; omega
  have a1 : Jor.nx (3 * i + 1) = 3 * i + 2 := by unfold Jor.nx; omega
  have b1 : Jor.pv (3 * i + 1) = 3 * i + 0 := by unfold Jor.pv; omega
  have a2 : Jor.nx (3 * i + 2) = 3 * i + 0 := by unfold Jor.nx; omega
  have b2 : Jor.pv (3 * i + 2) = 3 * i + 1 := by unfold Jor.pv; omega
  unfold edgeN
  rw [a0, b0, a1, b1, a2, b2, v0, v1, v2]
  exact ⟨rfl, rfl, rfl⟩
theorem facI_at {T : List Tr} {k : Nat} {e : Int × Int} (hk : k < 3 * T.length) (h : facFrom T 0 e = facFrom T k e) (he : edgeN T k = e) : facI T e = (k : Int) := by
  unfold facI
  rw [h, facFrom_step hk, if_pos he]
theorem facI_no {T : List Tr} {e : Int × Int} (h : facFrom T 0 e = facFrom T (3 * T.length) e) : facI T e = -1 := by
  unfold facI
  rw [h]
  simp [facFrom]
theorem facFrom_on {T : List Tr} {k : Nat} {e : Int × Int} (hk : k < 3 * T.length) (h : facFrom T 0 e = facFrom T k e) (he : edgeN T k ≠ e) : facFrom T 0 e = facFrom T (k + 1) e := by
  rw [h, facFrom_step hk, if_neg he]
set_option maxRecDepth 100000 in
set_option maxHeartbeats 4000000 in
theorem facing13_any (N a b : Int) (v : Value) (T : List Tr) (w : World) (h : TrisRd w v T) (hl : T.length ≤ 100000) : Calls Tryz.prog 109 #[.agg #[.int .i64 N, v], .int .i64 a, .int .i64 b] w fun e w' => e = .returned (.int .i64 (facI T (a, b))) ∧ Below w.heap.size w w' := by
  have b1 := Blk.new w 24 #[.int .i64 N, v]
  have hB0 : Below w.heap.size w (w.alloc (.cells #[.int .i64 N, v] 24)) := (Below.refl _ _).alloc (Nat.le_refl _) _
  obtain ⟨l0, x0, -, x1, -⟩ := b1.two
  have ht := h.below hB0
  obtain ⟨ad, c, rfl, hc1, hc2, hr⟩ := ht
  obtain ⟨n, hn⟩ : ∃ n, T.length = n := ⟨_, rfl⟩
  obtain ⟨A, hA⟩ : ∃ A, facI T (a, b) = A := ⟨_, rfl⟩
  rw [hn] at hl hc1 x0 x1 hB0 b1 l0 hr ⊢
  rw [hA]
  have HN := Lib.hid hn
  have HA := Lib.hid hA
  have HB := Lib.hid hB0
  have HR := Lib.hid hr
  clear hn hA hB0 hr h b1
  go_enter Tryz.func109, Tryz.ntmps109
  go_wp2
  generalize w.alloc (.cells #[.int .i64 N, .slice ad n c] 24) = W0 at *
  go_loopw [7] (fun i W => ∃ k : Nat, k ≤ n ∧ i = .int .i64 k ∧ W = W0 ∧ facFrom T 0 (a, b) = facFrom T (3 * k) (a, b)) (fun i _ => n - (intOf i).toNat)
  case atStart => exact ⟨0, Nat.zero_le _, rfl, rfl, rfl⟩
  case round =>
    obtain ⟨k, hk, rfl, rfl, hf⟩ := hrel
    have HF := Lib.hid hf
    clear hf
    by_cases hlt : k < n
    · have hk3 : (k : Int) < (n : Int) := by omega
      have hk0 : (0 : Int) ≤ (k : Int) := by omega
      obtain ⟨⟨x, y, z⟩, ht⟩ : ∃ t, T[k]? = some t := ⟨T[k]'(by have := HN.out; omega), List.getElem?_eq_getElem _⟩
      obtain ⟨bb, o, rfl, hbl, s0, s1, s2⟩ := HR.out k x y z ht
      have HE := Lib.hid (edgeN_at ht)
      have HL := Lib.hid (show 3 * k + 2 < 3 * T.length by have := HN.out; omega)
      clear ht
      rename World => W0
      go_wp2
      go_loopw [8] (fun i W => ∃ j : Nat, j ≤ 3 ∧ i = .int .i64 j ∧ W = W0 ∧ facFrom T 0 (a, b) = facFrom T (3 * k + j) (a, b)) (fun i _ => 3 - (intOf i).toNat)
      case atStart => exact ⟨0, by omega, rfl, rfl, HF.out⟩
      case round =>
        obtain ⟨j, hj, rfl, rfl, hf⟩ := hrel
        have HF2 := Lib.hid hf
        clear hf
        rcases (by omega : j = 0 ∨ j = 1 ∨ j = 2 ∨ j = 3) with rfl | rfl | rfl | rfl
        · by_cases h1 : y = a
          · have q1 : (y == a) = true := by simpa using h1
            by_cases h2 : z = b
            · have q2 : (z == b) = true := by simpa using h2
              have HY := Lib.hid (facI_at (by have := HL.out; omega) HF2.out (by rw [Nat.add_zero, HE.out.1, h1, h2]))
              clear h1 h2
              go_wp2
              go_ret
              refine ⟨?_, HB.out⟩
              rw [← HA.out, HY.out]
              first | rfl | (push_cast; rfl) | (push_cast; simp)
            · have q2 : (z == b) = false := by simpa using h2
              have HY := Lib.hid (facFrom_on (by have := HL.out; omega) HF2.out (by rw [Nat.add_zero, HE.out.1]; intro e; cases e; exact h2 rfl))
              clear h1 h2
              go_wp2
              go_roundw
              case measure => simp [intOf]
              case rel => exact ⟨1, by omega, by go_num, by first | rfl | trivial, HY.out⟩
          · have q1 : (y == a) = false := by simpa using h1
            have HY := Lib.hid (facFrom_on (by have := HL.out; omega) HF2.out (by rw [Nat.add_zero, HE.out.1]; intro e; cases e; exact h1 rfl))
            clear h1
            go_wp2
            go_roundw
            case measure => simp [intOf]
            case rel => exact ⟨1, by omega, by go_num, by first | rfl | trivial, HY.out⟩
        · by_cases h1 : z = a
          · have q1 : (z == a) = true := by simpa using h1
            by_cases h2 : x = b
            · have q2 : (x == b) = true := by simpa using h2
              have HY := Lib.hid (facI_at (by have := HL.out; omega) HF2.out (by rw [HE.out.2.1, h1, h2]))
              clear h1 h2
              go_wp2
              go_ret
              refine ⟨?_, HB.out⟩
              rw [← HA.out, HY.out]
              first | rfl | (push_cast; rfl) | (push_cast; simp)
            · have q2 : (x == b) = false := by simpa using h2
              have HY := Lib.hid (facFrom_on (by have := HL.out; omega) HF2.out (by rw [HE.out.2.1]; intro e; cases e; exact h2 rfl))
              clear h1 h2
              go_wp2
              go_roundw
              case measure => simp [intOf]
              case rel => exact ⟨2, by omega, by go_num, by first | rfl | trivial, HY.out⟩
          · have q1 : (z == a) = false := by simpa using h1
            have HY := Lib.hid (facFrom_on (by have := HL.out; omega) HF2.out (by rw [HE.out.2.1]; intro e; cases e; exact h1 rfl))
            clear h1
            go_wp2
            go_roundw
            case measure => simp [intOf]
            case rel => exact ⟨2, by omega, by go_num, by first | rfl | trivial, HY.out⟩
        · by_cases h1 : x = a
          · have q1 : (x == a) = true := by simpa using h1
            by_cases h2 : y = b
            · have q2 : (y == b) = true := by simpa using h2
              have HY := Lib.hid (facI_at (by have := HL.out; omega) HF2.out (by rw [HE.out.2.2, h1, h2]))
              clear h1 h2
              go_wp2
              go_ret
              refine ⟨?_, HB.out⟩
              rw [← HA.out, HY.out]
              first | rfl | (push_cast; rfl) | (push_cast; simp)
            · have q2 : (y == b) = false := by simpa using h2
              have HY := Lib.hid (facFrom_on (by have := HL.out; omega) HF2.out (by rw [HE.out.2.2]; intro e; cases e; exact h2 rfl))
              clear h1 h2
              go_wp2
              go_roundw
              case measure => simp [intOf]
              case rel => exact ⟨3, by omega, by go_num, by first | rfl | trivial, HY.out⟩
          · have q1 : (x == a) = false := by simpa using h1
            have HY := Lib.hid (facFrom_on (by have := HL.out; omega) HF2.out (by rw [HE.out.2.2]; intro e; cases e; exact h1 rfl))
            clear h1
            go_wp2
            go_roundw
            case measure => simp [intOf]
            case rel => exact ⟨3, by omega, by go_num, by first | rfl | trivial, HY.out⟩
        · go_wp2
          go_roundw
          case measure => simp [intOf]; omega
          case rel => exact ⟨k + 1, by omega, by go_num, by first | rfl | trivial, by rw [show 3 * (k + 1) = 3 * k + 3 from by omega]; exact HF2.out⟩
    · obtain rfl : k = n := by omega
      have HY := Lib.hid (facI_no (T := T) (e := (a, b)) (by rw [HN.out]; exact HF.out))
      go_wp2
      go_ret
      exact ⟨by rw [← HA.out, HY.out]; rfl, HB.out⟩
set_option maxHeartbeats 1000000 in
theorem facing21_any (N a b : Int) (v : Value) (T : List Tr) (w : World) (h : TrisRd w v T) (hl : T.length ≤ 100000) : Calls Tryz.prog 82 #[.agg #[.int .i64 N, v], .int .i64 a, .int .i64 b] w fun e w' => e = .returned (.int .i64 (facI T (a, b))) ∧ Below w.heap.size w w' := by
  have b1 := Blk.new w 24 #[.int .i64 N, v]
  have hB0 : Below w.heap.size w (w.alloc (.cells #[.int .i64 N, v] 24)) := (Below.refl _ _).alloc (Nat.le_refl _) _
  obtain ⟨l0, x0, -, x1, -⟩ := b1.two
  have HF := Lib.hid (facing13_any N a b v T _ (h.below hB0) hl)
  have HB := Lib.hid hB0
  clear h hB0 b1
  go_enter Tryz.func82, Tryz.ntmps82
  go_wp2_with fail
  refine HF.out.mono ?_
  rintro e w1 ⟨rfl, hb⟩
  have HB1 := Lib.hid (HB.out.trans (hb.mono HB.out.size))
  clear hb x0 x1
  go_wp2
  go_ret
  exact ⟨rfl, HB1.out⟩
end Go.Proofs.YtpnkhgjjlionnaaGreat
namespace Go.Proofs.YtpnkhgjjlionnaaGreat
open Go.RowKit Go.Maps

def gt (l : List Int) (j : Nat) : Int := l.getD j 0
theorem gt_set {l : List Int} {i : Nat} (x : Int) (h : i < l.length) : gt (l.set i x) = updN (gt l) i x := by
  funext j
  unfold gt updN
  rw [List.getD_eq_getElem?_getD, List.getElem?_set]
  by_cases e : i = j
  · subst e
    rw [if_pos rfl, if_pos h, if_pos rfl]
    rfl
  · rw [if_neg e, if_neg (fun h => e h.symm)]
    exact (List.getD_eq_getElem?_getD).symm
/-- The labels while they sink. -/
structure OF (w : World) (F : Nat) (N : Int) (vT : Value) (g : Nat) (out : List Int) (W : World) : Prop where
  row : W.ownsRow w.heap.size 3 1 (.slice (some ⟨g, 0, none⟩) F F) F (intsV out)
  len : out.length = F
  soup : Blk W w.heap.size 24 #[.int .i64 N, vT]
  below : Below w.heap.size w W
section
variable {w W W' : World} {F : Nat} {N : Int} {vT : Value} {g : Nat} {out : List Int}
theorem OF.le (h : OF w F N vT g out W) (hb : Below W.heap.size W W') : OF w F N vT g out W' := ⟨own_below9 h.row hb, h.len, h.soup.below hb h.soup.lt, h.below.trans (hb.mono h.below.size)⟩
theorem cell_gt {base : Nat} {xs : List Int} {n : Nat} (h : W.ownsRow base 3 1 (.slice (some ⟨g, 0, none⟩) n n) n (intsV xs)) (hl : xs.length = n) {i : Nat} (hi : i < n) : W.cell? ⟨g, i, none⟩ = some (.int .i64 (gt xs i)) := by
  rw [h.cellAt i (by omega), intsV, List.getElem?_map]
  have : i < xs.length := by omega
  rw [List.getElem?_eq_getElem this]
  unfold gt
  rw [List.getD_eq_getElem?_getD, List.getElem?_eq_getElem this]
  rfl
theorem OF.lt (h : OF w F N vT g out W) : g < W.heap.size := (h.row.lt g rfl).2
theorem OF.cell (h : OF w F N vT g out W) {i : Nat} (hi : i < F) : W.cell? ⟨g, i, none⟩ = some (.int .i64 (gt out i)) ∧ W.frozen? ⟨g, i, none⟩ = false :=
  ⟨cell_gt h.row h.len hi, h.row.frozenAt i⟩
theorem OF.put (h : OF w F N vT g out W) (i : Nat) (x : Int) : OF w F N vT g (out.set i x) (W.setCell ⟨g, i, none⟩ (.int .i64 x)) := by
  obtain ⟨k1, k2⟩ := h.row.stored i (.int .i64 x)
  rw [intsV_set] at k1
  refine ⟨k1, by rw [List.length_set]; exact h.len, ?_, h.below.grown k2 h.below.size (fun k e => (h.row.lt k e).1)⟩
  refine h.soup.grown k2 (fun e => own_blk_ne h.row h.soup (by decide) e.symm)
end
theorem lab_start {F : Nat} {R : Nat → Nat → Prop} {out : List Int} (h : ∀ j, j < F → gt out j = j) : Lab F R (gt out) :=
  ⟨fun i hi => by rw [h i hi]; omega, fun S _ i hi hs => by rw [h i hi] at hs; simpa using hs⟩
theorem zs_more {F : Nat} {R : Nat → Nat → Prop} {p o : Nat → Int} (h : Rnd F R p o F 0) (hp : Lab F R p) (hF : 0 < F) (hH : Hang F R) {q : Nat} (hz : min (q + 1) F ≤ zs F p) : min (q + 2) F ≤ zs F o := by
  rcases Nat.lt_or_ge (q + 1) F with e | e
  · have := h.more hp hF hH (r := q + 1) (by omega) e
    omega
  · have := h.more hp hF hH (r := F - 1) (by omega) (by omega)
    omega
set_option maxRecDepth 100000 in
set_option maxHeartbeats 8000000 in
theorem of13_any (N : Int) (v : Value) (T : List Tr) (w : World) (h : TrisRd w v T) (hl : T.length ≤ 40) : Calls Tryz.prog 58 #[.agg #[.int .i64 N, v]] w fun e w' =>
    ∃ v' nums, e = .returned v' ∧ w'.ownsRow w.heap.size 3 1 v' T.length (intsV nums) ∧ nums.length = T.length ∧ (0 < T.length → ((∀ j, j < T.length → gt nums j = 0) ↔ Hang T.length (NbT T))) ∧ Below w.heap.size w w' := by
  obtain ⟨i1, hi', hy0, hy1, hy2⟩ := info_parts infoInt
  have b1 := Blk.new w 24 #[.int .i64 N, v]
  have hB0 : Below w.heap.size w (w.alloc (.cells #[.int .i64 N, v] 24)) := (Below.refl _ _).alloc (Nat.le_refl _) _
  obtain ⟨l0, x0, -, x1, -⟩ := b1.two
  obtain ⟨ad, c, rfl, hc1, hc2, hr⟩ := h
  have HRr : Hid (∀ i, i < T.length → ∃ x y z b o, trs T i = (x, y, z) ∧ ad = some ⟨b, o, none⟩ ∧ b < w.heap.size ∧ w.cell? ⟨b, o + i * 3, none⟩ = some (.int .i64 x) ∧ w.cell? ⟨b, o + i * 3 + 1, none⟩ = some (.int .i64 y) ∧ w.cell? ⟨b, o + i * 3 + 2, none⟩ = some (.int .i64 z)) := Lib.hid (fun i hi => by
    obtain ⟨⟨x, y, z⟩, ht⟩ : ∃ t, T[i]? = some t := ⟨T[i], List.getElem?_eq_getElem _⟩
    obtain ⟨b, o, e, hb, s0, s1, s2⟩ := hr i x y z ht
    exact ⟨x, y, z, b, o, by unfold trs; rw [List.getD_eq_getElem?_getD, ht]; rfl, e, hb, s0, s1, s2⟩)
  obtain ⟨R, hR⟩ : ∃ R, NbT T = R := ⟨_, rfl⟩
  have HNb : Hid (∀ i k, R i k ↔ Nb (trs T i) (trs T k)) := Lib.hid (fun i k => by rw [← hR]; exact Iff.rfl)
  rw [hR]
  obtain ⟨n, hn⟩ : ∃ n, T.length = n := ⟨_, rfl⟩
  rw [hn] at hl hc1 x0 x1 hB0 b1 l0 HRr ⊢
  have HC := Lib.hid neigh13_any
  clear hr hn hR
  go_enter Tryz.func58, Tryz.ntmps58
  go_wp2_with (at_make; refine wpList_make_full _ rfl (.tmp 12) (.tmp 12) 30 rfl w.heap.size 3 i1 _ 1 Tryz.underlying30 hi' hy0 hy1 .i64 .i64 _ _ n rfl rfl rfl rfl (by rw [hy2]; omega) (by unfold maxLen; omega) (by rw [size_alloc']; omega) ?_; intro w1 hr1 hg1; have k1 := b1.grown hg1 (by simp); obtain ⟨l1, y0, -, y1, -⟩ := k1.two)
  have hz : (madeCells (Value.int IntKind.i64 0).cells (n * 1)).toList = intsV (List.replicate n 0) := by
    rw [Nat.mul_one]
    show (madeCells #[Value.int IntKind.i64 0] n).toList = _
    rw [toList_madeCells_one]
    simp [intsV]
  rw [hz, size_alloc'] at hr1
  have hO : OF w n N (.slice ad n c) (w.heap.size + 1) (List.replicate n 0) w1 := ⟨hr1, by simp, k1, hB0.grown hg1 (by rw [size_alloc']; omega) (fun j e => by cases e)⟩
  have HO := Lib.hid hO
  clear hr1 hg1 k1 b1 x0 x1 l0 hB0 hO hz y0 y1 l1
  generalize hg : w.heap.size + 1 = g at *
  clear hg
  go_loopw [4] (fun i wr => ∃ (k : Nat) (out : List Int), k ≤ n ∧ i = .int .i64 k ∧ OF w n N (.slice ad n c) g out wr ∧ ∀ j, j < k → gt out j = j) (fun i _ => n - (intOf i).toNat)
  case atStart => exact ⟨0, _, Nat.zero_le _, rfl, HO.out, fun _ h => absurd h (by omega)⟩
  case round =>
    obtain ⟨k, out, hk, rfl, hO, hid⟩ := hrel
    rename World => wr
    clear HO
    have HO := Lib.hid hO
    have HId := Lib.hid hid
    clear hid
    by_cases hlt : k < n
    · have hk3 : (k : Int) < (n : Int) := by omega
      have hk0 : (0 : Int) ≤ (k : Int) := by omega
      obtain ⟨c0, f0⟩ := hO.cell hlt
      clear hO
      go_wp2
      go_roundw
      case measure => simp [intOf]; omega
      case rel =>
        refine ⟨k + 1, _, by omega, by go_num, HO.out.put k _, fun j hj => ?_⟩
        rw [gt_set _ (by rw [HO.out.len]; exact hlt)]
        unfold updN
        by_cases e : j = k
        · rw [if_pos e, e]
        · rw [if_neg e]; exact HId.out j (by omega)
    · obtain rfl : k = n := by omega
      clear hO hk hlt
      go_wp2
      rename World => wS
      go_loopw [26] (fun i wr => ∃ (q : Nat) (out : List Int), q ≤ k ∧ i = .int .i64 q ∧ OF w k N (.slice ad k c) g out wr ∧ Lab k R (gt out) ∧ (0 < k → Hang k R → min (q + 1) k ≤ zs k (gt out))) (fun i _ => k - (intOf i).toNat)
      case atStart => exact ⟨0, out, Nat.zero_le _, rfl, HO.out, lab_start HId.out, fun hk _ => by have := (lab_start (R := R) HId.out).one hk; omega⟩
      case round =>
        clear HO HId
        obtain ⟨q, out, hq, rfl, hO, hLab, hZ⟩ := hrel
        rename World => wA
        have HO := Lib.hid hO
        have HLab := Lib.hid hLab
        have HZ := Lib.hid hZ
        clear hO hLab hZ
        by_cases hqn : q < k
        · have hq3 : (q : Int) < (k : Int) := by omega
          obtain ⟨p, hp⟩ : ∃ p, gt out = p := ⟨_, rfl⟩
          have HP := Lib.hid hp
          clear hp
          go_wp2
          go_loopw [5] (fun i wr => ∃ (i1 : Nat) (out : List Int), i1 ≤ k ∧ i = .int .i64 i1 ∧ OF w k N (.slice ad k c) g out wr ∧ Rnd k R p (gt out) i1 0) (fun i _ => k - (intOf i).toNat)
          case atStart => exact ⟨0, out, Nat.zero_le _, rfl, HO.out, by rw [HP.out]; exact Rnd.begin_ (by rw [← HP.out]; exact HLab.out)⟩
          case round =>
            clear HO
            obtain ⟨i1, out1, hi1, rfl, hO, hRn⟩ := hrel
            rename World => wB
            have HO := Lib.hid hO
            have HRn := Lib.hid hRn
            clear hO hRn
            by_cases hin : i1 < k
            · have hi3 : (i1 : Int) < (k : Int) := by omega
              have hi0 : (0 : Int) ≤ (i1 : Int) := by omega
              go_wp2
              go_loopw [6] (fun i wr => ∃ (k1 : Nat) (out : List Int), k1 ≤ k ∧ i = .int .i64 k1 ∧ OF w k N (.slice ad k c) g out wr ∧ Rnd k R p (gt out) i1 k1) (fun i _ => k - (intOf i).toNat)
              case atStart => exact ⟨0, out1, Nat.zero_le _, rfl, HO.out, HRn.out⟩
              case round =>
                clear HO HRn
                obtain ⟨k1, out2, hk1, rfl, hO, hRn⟩ := hrel
                rename World => wC
                have HO := Lib.hid hO
                have HRn := Lib.hid hRn
                clear hO hRn
                by_cases hkn : k1 < k
                · have hk3 : (k1 : Int) < (k : Int) := by omega
                  have hk0 : (0 : Int) ≤ (k1 : Int) := by omega
                  obtain ⟨ci, fi⟩ := HO.out.cell hin
                  obtain ⟨ck, -⟩ := HO.out.cell hkn
                  obtain ⟨li, hli⟩ : ∃ z, gt out2 i1 = z := ⟨_, rfl⟩
                  obtain ⟨lk, hlk⟩ : ∃ z, gt out2 k1 = z := ⟨_, rfl⟩
                  rw [hli] at ci
                  rw [hlk] at ck
                  have Hli := Lib.hid hli
                  have Hlk := Lib.hid hlk
                  clear hli hlk
                  obtain ⟨ls, s0, -, s1, -⟩ := HO.out.soup.two
                  by_cases hlt : lk < li
                  · obtain ⟨x, y, z, b, o, ht, rfl, hbl, r0, r1, r2⟩ := HRr.out i1 hin
                    obtain ⟨x', y', z', b', o', hu, e2, hbl', t0, t1, t2⟩ := HRr.out k1 hkn
                    cases e2
                    have r0' := (HO.out.below.cell (p := ⟨b, _, none⟩) hbl).trans r0
                    have r1' := (HO.out.below.cell (p := ⟨b, _, none⟩) hbl).trans r1
                    have r2' := (HO.out.below.cell (p := ⟨b, _, none⟩) hbl).trans r2
                    have t0' := (HO.out.below.cell (p := ⟨b, _, none⟩) hbl).trans t0
                    have t1' := (HO.out.below.cell (p := ⟨b, _, none⟩) hbl).trans t1
                    have t2' := (HO.out.below.cell (p := ⟨b, _, none⟩) hbl).trans t2
                    have HNm := Lib.hid (show R i1 k1 ↔ Nb (x, y, z) (x', y', z') by rw [HNb.out, ht, hu])
                    clear r0 r1 r2 t0 t1 t2 ht hu
                    have hlt' : decide (lk < li) = true := by simpa using hlt
                    have hszC := HO.out.below.size
                    have hgC := HO.out.lt
                    have hbl2 : b < wC.heap.size := by omega
                    clear fi
                    go_upto_region 14 with fail
                    go_cut [61] (fun v61 W => ∃ b1 : Bool, v61 = .bool b1 ∧ (b1 = true ↔ Nb (x, y, z) (x', y', z')) ∧ Below wC.heap.size wC W)
                    case first =>
                      go_region_held3 (fun w' => w'.cell? ⟨g, k1, none⟩ = some (.int .i64 lk) ∧ w'.cell? ⟨g, i1, none⟩ = some (.int .i64 li) ∧ w'.cell? ⟨w.heap.size, 1, none⟩ = some (.slice (some ⟨b, o, none⟩) k c) ∧ w'.cell? ⟨b, o + i1 * 3, none⟩ = some (.int .i64 x) ∧ w'.cell? ⟨b, o + i1 * 3 + 1, none⟩ = some (.int .i64 y) ∧ w'.cell? ⟨b, o + i1 * 3 + 2, none⟩ = some (.int .i64 z) ∧ w'.cell? ⟨b, o + k1 * 3, none⟩ = some (.int .i64 x') ∧ w'.cell? ⟨b, o + k1 * 3 + 1, none⟩ = some (.int .i64 y') ∧ w'.cell? ⟨b, o + k1 * 3 + 2, none⟩ = some (.int .i64 z')) (go_keep)
                        (first
                          | (go_at_call 83; refine (HC.out _ _ _ _ _ _ _).mono ?_; rintro e w3 ⟨b1, rfl, hiff, hb3⟩; have HI3 := Lib.hid hiff; clear hiff; have q0 := (hb3.cell (p := ⟨g, k1, none⟩) hgC).trans ck; have q1 := (hb3.cell (p := ⟨g, i1, none⟩) hgC).trans ci; have q2 := (hb3.cell (p := ⟨w.heap.size, 1, none⟩) ls).trans s1; have q3 := (hb3.cell (p := ⟨b, o + i1 * 3, none⟩) hbl2).trans r0'; have q4 := (hb3.cell (p := ⟨b, o + i1 * 3 + 1, none⟩) hbl2).trans r1'; have q5 := (hb3.cell (p := ⟨b, o + i1 * 3 + 2, none⟩) hbl2).trans r2'; have q6 := (hb3.cell (p := ⟨b, o + k1 * 3, none⟩) hbl2).trans t0'; have q7 := (hb3.cell (p := ⟨b, o + k1 * 3 + 1, none⟩) hbl2).trans t1'; have q8 := (hb3.cell (p := ⟨b, o + k1 * 3 + 2, none⟩) hbl2).trans t2'))
                      all_goals
                        go_wp2_with fail
                        go_meet
                        exact ⟨_, rfl, HI3.out, ⟨hb3.os, hb3.tape, hb3.output, hb3.size, hb3.block⟩⟩
                    case rest =>
                      obtain ⟨b1, rfl, hiff, hbC⟩ := hcut
                      have HOc := Lib.hid (HO.out.le hbC)
                      have HI := Lib.hid (hiff.symm.trans Iff.rfl)
                      clear hiff hbC ci ck r0' r1' r2' t0' t1' t2' s0 s1
                      obtain ⟨ci, fi⟩ := HOc.out.cell hin
                      obtain ⟨ck, -⟩ := HOc.out.cell hkn
                      rw [Hli.out] at ci
                      rw [Hlk.out] at ck
                      cases b1
                      · have HR2 := Lib.hid (HRn.out.skip hkn (fun hh => by have := HI.out.1 (HNm.out.1 hh.2); cases this))
                        clear fi ci ck
                        go_wp2
                        go_roundw
                        case measure => simp [intOf]; omega
                        case rel => exact ⟨k1 + 1, out2, by omega, by go_num, HOc.out, HR2.out⟩
                      · have HR2 := Lib.hid (HRn.out.take hin hkn (by rw [Hli.out, Hlk.out]; exact hlt) (HNm.out.2 (HI.out.2 rfl)))
                        go_wp2
                        go_roundw
                        case measure => simp [intOf]; omega
                        case rel =>
                          refine ⟨k1 + 1, _, by omega, by go_num, HOc.out.put i1 lk, ?_⟩
                          rw [gt_set _ (by rw [HO.out.len]; exact hin), ← Hlk.out]
                          exact HR2.out
                  · have hlt' : decide (lk < li) = false := by simpa using hlt
                    have HR2 := Lib.hid (HRn.out.skip hkn (fun hh => hlt (by rw [← Hlk.out, ← Hli.out]; exact hh.1)))
                    clear hlt fi
                    go_wp2
                    go_quiet (fail)
                    go_wp2
                    go_roundw
                    case measure => simp [intOf]; omega
                    case rel => exact ⟨k1 + 1, out2, by omega, by go_num, HO.out.le (below_dn (Below.refl _ _) _), HR2.out⟩
                · obtain rfl : k1 = k := by omega
                  go_wp2
                  go_roundw
                  case measure => simp [intOf]; omega
                  case rel => exact ⟨i1 + 1, out2, by omega, by go_num, HO.out, HRn.out.row⟩
            · obtain rfl : i1 = k := by omega
              go_wp2
              go_roundw
              case measure => simp [intOf]; omega
              case rel => exact ⟨q + 1, out1, by omega, by go_num, HO.out, HRn.out.lab, fun h0 hH => zs_more HRn.out (by rw [← HP.out]; exact HLab.out) h0 hH (by rw [← HP.out]; exact HZ.out h0 hH)⟩
        · obtain rfl : q = k := by omega
          have HZ2 := Lib.hid (show 0 < q → (Hang q R → q ≤ zs q (gt out)) from fun h0 hH => by have := HZ.out h0 hH; omega)
          have hgl := HO.out.lt
          have hszA := HO.out.below.size
          obtain ⟨ls, s0, -, s1, -⟩ := HO.out.soup.two
          have hlA : w.heap.size < wA.heap.size := ls
          clear HZ
          go_wp2_with (at_make; refine wpList_make_full _ rfl (.tmp 71) (.tmp 71) 30 rfl wA.heap.size 3 i1 _ 1 Tryz.underlying30 hi' hy0 hy1 .i64 .i64 _ _ q rfl rfl rfl rfl (by rw [hy2]; omega) (by unfold maxLen; omega) (Nat.le_refl _) ?_; intro w2 hr2 hg2; have hbm := below_of_grown hg2 (Nat.le_refl _) (fun j e => by cases e))
          have hz : (madeCells (Value.int IntKind.i64 0).cells (q * 1)).toList = intsV (List.replicate q 0) := by
            rw [Nat.mul_one]
            show (madeCells #[Value.int IntKind.i64 0] q).toList = _
            rw [toList_madeCells_one]
            simp [intsV]
          rw [hz] at hr2
          have HO2 := Lib.hid (HO.out.le hbm)
          have Hr2 := Lib.hid hr2
          have hz2 := hbm.size
          clear hr2 hg2 hbm HO s0 s1 ls hz
          go_loopw [8, 9] (fun v8 i wr => ∃ (k1 : Nat) (many : Int) (nums : List Int), k1 ≤ q ∧ i = .int .i64 k1 ∧ v8 = .int .i64 many ∧ OF w q N (.slice ad q c) g out wr ∧ wr.ownsRow wA.heap.size 3 1 (.slice (some ⟨wA.heap.size, 0, none⟩) q q) q (intsV nums) ∧ nums.length = q ∧ Num q (gt out) k1 many (gt nums) ∧ 0 ≤ many ∧ many ≤ k1) (fun _ i _ => q - (intOf i).toNat)
          case atStart => exact ⟨0, 0, _, Nat.zero_le _, rfl, rfl, HO2.out, Hr2.out, by simp, Num.begin_ _ _, by omega, by omega⟩
          case round =>
            clear HO2 Hr2
            obtain ⟨k1, many, nums, hk1, rfl, rfl, hO, hrow, hnl, hNum, hm0, hm1⟩ := hrel
            rename World => wB
            have HO := Lib.hid hO
            have HNum := Lib.hid hNum
            have Hrow := Lib.hid hrow
            clear hO hNum hrow
            by_cases hkn : k1 < q
            · have hk3 : (k1 : Int) < (q : Int) := by omega
              have hk0 : (0 : Int) ≤ (k1 : Int) := by omega
              obtain ⟨ci, fi⟩ := HO.out.cell hkn
              have fn := Hrow.out.frozenAt k1
              have cn0 := cell_gt Hrow.out hnl hkn
              have hlo := HLab.out.lo k1 hkn
              obtain ⟨li, hli⟩ : ∃ z, gt out k1 = z := ⟨_, rfl⟩
              rw [hli] at ci hlo
              obtain ⟨l, rfl⟩ : ∃ l : Nat, li = l := ⟨li.toNat, by omega⟩
              have cn := cell_gt Hrow.out hnl (i := l) (by omega)
              have Hli := Lib.hid hli
              clear hli
              have keep : ∀ x : Int, OF w q N (.slice ad q c) g out (wB.setCell ⟨wA.heap.size, k1, none⟩ (.int .i64 x)) ∧ (wB.setCell ⟨wA.heap.size, k1, none⟩ (.int .i64 x)).ownsRow wA.heap.size 3 1 (.slice (some ⟨wA.heap.size, 0, none⟩) q q) q (intsV (nums.set k1 x)) := fun x => by
                obtain ⟨z1, z2⟩ := Hrow.out.stored k1 (.int .i64 x)
                rw [intsV_set] at z1
                refine ⟨⟨HO.out.row.kept z2 (.inr (by simp only [Value.ownBlock, ne_eq, Option.some.injEq]; omega)), HO.out.len, HO.out.soup.grown z2 (by simp only [ne_eq, Option.some.injEq]; omega), HO.out.below.grown z2 HO.out.below.size (fun j e => by simp only [Option.some.injEq] at e; omega)⟩, z1⟩
              have Keep := Lib.hid keep
              clear keep fi
              by_cases he : (l : Int) = k1
              · have he2 : (gt out k1 : Int) = k1 := by rw [Hli.out]; exact he
                have HN2 := Lib.hid (HNum.out.new HLab.out.lo hkn he2)
                have hq' : ((l : Int) == (k1 : Int)) = true := by simpa using he
                clear he he2 cn
                go_wp2
                go_roundw
                case measure => simp [intOf]; omega
                case rel =>
                  refine ⟨k1 + 1, many + 1, nums.set k1 many, by omega, by go_num, by go_num, (Keep.out _).1, (Keep.out _).2, by rw [List.length_set]; exact hnl, ?_, by omega, by push_cast; omega⟩
                  rw [gt_set _ (by omega)]
                  exact HN2.out
              · have he2 : (gt out k1 : Int) ≠ k1 := by rw [Hli.out]; exact he
                have HN2 := Lib.hid (HNum.out.old HLab.out.lo hkn he2)
                have hq' : ((l : Int) == (k1 : Int)) = false := by simpa using he
                have hl3 : (l : Int) < (q : Int) := by omega
                have hl0 : (0 : Int) ≤ (l : Int) := by omega
                clear he he2
                go_wp2
                go_roundw
                case measure => simp [intOf]; omega
                case rel =>
                  refine ⟨k1 + 1, many, nums.set k1 (gt nums l), by omega, by go_num, rfl, (Keep.out _).1, (Keep.out _).2, by rw [List.length_set]; exact hnl, ?_, by omega, by push_cast; omega⟩
                  rw [gt_set _ (by omega)]
                  have := HN2.out
                  rw [Hli.out, Int.toNat_natCast] at this
                  exact this
            · obtain rfl : k1 = q := by omega
              go_wp2
              go_ret
              exact ⟨_, nums, rfl, own_base9 Hrow.out (by omega), hnl, fun h0 => HNum.out.hang h0 HLab.out (HZ2.out h0), HO.out.below⟩
end Go.Proofs.YtpnkhgjjlionnaaGreat
namespace Go.Proofs.YtpnkhgjjlionnaaGreat
open Go.RowKit Go.Maps

/-- Who faces the edge behind a corner, the other way round. -/
def fc (T : List Tr) (i k : Nat) : Int := facI T (tv (trs T i) ((k + 1) % 3), tv (trs T i) k)
theorem fc_opp {T : List Tr} {i k : Nat} (hi : i < T.length) (hk : k < 3) : fc T i k = oppI T ((3 * i + (k + 2) % 3 : Nat) : Int) := by
  have hc : 3 * i + (k + 2) % 3 < 3 * T.length := by omega
  have e1 : edgeI T ((3 * i + (k + 2) % 3 : Nat) : Int) = edgeN T (3 * i + (k + 2) % 3) := edgeI_nat hc
  unfold oppI fc
  rw [e1]
  unfold edgeN
  have a0 : Jor.nx (3 * i + (k + 2) % 3) = 3 * i + k := by unfold Jor.nx; omega
  have b0 : Jor.pv (3 * i + (k + 2) % 3) = 3 * i + (k + 1) % 3 := by unfold Jor.pv; omega
  rw [a0, b0, tv_vert (by omega), tv_vert hk]
theorem closed_fc {T : List Tr} : ClosedT T ↔ ∀ i, i < T.length → ∀ k, k < 3 → 0 ≤ fc T i k := by
  constructor
  · intro h i hi k hk
    rw [fc_opp hi hk]
    exact h _ (by omega)
  · intro h c hc
    have := h (c / 3) (by omega) ((c % 3 + 1) % 3) (by omega)
    rw [fc_opp (by omega) (by omega)] at this
    have e : 3 * (c / 3) + ((c % 3 + 1) % 3 + 2) % 3 = c := by omega
    rw [e] at this
    exact this
/-- The flag, while it is looked at. -/
def Clo (T : List Tr) (i k : Nat) (b : Bool) : Prop := b = true ↔ (∀ i', i' < i → ∀ k, k < 3 → 0 ≤ fc T i' k) ∧ ∀ k', k' < k → 0 ≤ fc T i k'
theorem Clo.start (T : List Tr) : Clo T 0 0 true := ⟨fun _ => ⟨fun _ h => absurd h (by omega), fun _ h => absurd h (by omega)⟩, fun _ => rfl⟩
theorem Clo.row {T : List Tr} {i : Nat} {b : Bool} (h : Clo T i 3 b) : Clo T (i + 1) 0 b := by
  unfold Clo at h ⊢
  rw [h]
  constructor
  · rintro ⟨h1, h2⟩
    refine ⟨fun i' hi' k hk => ?_, fun _ h => absurd h (by omega)⟩
    rcases Nat.lt_or_ge i' i with e | e
    · exact h1 i' e k hk
    · obtain rfl : i' = i := by omega
      exact h2 k hk
  · rintro ⟨h1, -⟩
    exact ⟨fun i' hi' => h1 i' (by omega), fun k' hk' => h1 i (by omega) k' hk'⟩
theorem Clo.good {T : List Tr} {i k : Nat} {b : Bool} (h : Clo T i k b) (h0 : 0 ≤ fc T i k) : Clo T i (k + 1) b := by
  unfold Clo at h ⊢
  rw [h]
  constructor
  · rintro ⟨h1, h2⟩
    refine ⟨h1, fun k' hk' => ?_⟩
    rcases Nat.lt_or_ge k' k with e | e
    · exact h2 k' e
    · obtain rfl : k' = k := by omega
      exact h0
  · rintro ⟨h1, h2⟩
    exact ⟨h1, fun k' hk' => h2 k' (by omega)⟩
theorem Clo.bad {T : List Tr} {i k : Nat} (h0 : fc T i k < 0) : Clo T i (k + 1) false := by
  refine ⟨fun h => (by cases h), fun ⟨_, h2⟩ => ?_⟩
  have := h2 k (by omega)
  omega
set_option maxRecDepth 100000 in
set_option maxHeartbeats 8000000 in
theorem edges21_any (N : Int) (v : Value) (T : List Tr) (w : World) (h : TrisRd w v T) (hl : T.length ≤ 40) : Calls Tryz.prog 57 #[.agg #[.int .i64 N, v]] w fun e w' =>
    ∃ b : Bool, e = .returned (.tuple #[.int .i64 ((T.length : Int) * 3 / 2), .bool b]) ∧ (b = true ↔ ClosedT T) ∧ Below w.heap.size w w' := by
  have b1 := Blk.new w 24 #[.int .i64 N, v]
  have hB0 : Below w.heap.size w (w.alloc (.cells #[.int .i64 N, v] 24)) := (Below.refl _ _).alloc (Nat.le_refl _) _
  have HF := Lib.hid (fun (W : World) (a b : Int) (hW : Below w.heap.size w W) => facing21_any N a b v T W (h.below hW) (by omega))
  obtain ⟨ad, c, rfl, hc1, hc2, hr⟩ := h
  have HRr : Hid (∀ i, i < T.length → ∃ x y z b o, trs T i = (x, y, z) ∧ ad = some ⟨b, o, none⟩ ∧ b < w.heap.size ∧ w.cell? ⟨b, o + i * 3, none⟩ = some (.int .i64 x) ∧ w.cell? ⟨b, o + i * 3 + 1, none⟩ = some (.int .i64 y) ∧ w.cell? ⟨b, o + i * 3 + 2, none⟩ = some (.int .i64 z)) := Lib.hid (fun i hi => by
    obtain ⟨⟨x, y, z⟩, ht⟩ : ∃ t, T[i]? = some t := ⟨T[i], List.getElem?_eq_getElem _⟩
    obtain ⟨b, o, e, hb, s0, s1, s2⟩ := hr i x y z ht
    exact ⟨x, y, z, b, o, by unfold trs; rw [List.getD_eq_getElem?_getD, ht]; rfl, e, hb, s0, s1, s2⟩)
  have HCl := Lib.hid (closed_fc (T := T))
  obtain ⟨n, hn⟩ : ∃ n, T.length = n := ⟨_, rfl⟩
  rw [hn] at hl hc1 hB0 b1 HRr HF HCl ⊢
  have HB0 := Lib.hid hB0
  have Hb1 := Lib.hid b1
  obtain ⟨l0, x0, -, x1, -⟩ := b1.two
  clear hr hn b1 hB0
  go_enter Tryz.func57, Tryz.ntmps57
  go_wp2
  go_loopw [4, 5] (fun v4 i wr => ∃ (k : Nat) (b : Bool), k ≤ n ∧ i = .int .i64 k ∧ v4 = .bool b ∧ Blk wr w.heap.size 24 #[.int .i64 N, .slice ad n c] ∧ Below w.heap.size w wr ∧ Clo T k 0 b) (fun _ i _ => n - (intOf i).toNat)
  case atStart => exact ⟨0, true, Nat.zero_le _, rfl, rfl, Hb1.out, HB0.out, Clo.start T⟩
  case round =>
    obtain ⟨k, b, hk, rfl, rfl, hS, hB, hC⟩ := hrel
    rename World => wr
    clear x0 x1 l0
    obtain ⟨ls, s0, -, s1, -⟩ := hS.two
    have HS := Lib.hid hS
    have HB := Lib.hid hB
    have HC := Lib.hid hC
    have hsz := hB.size
    clear hS hB hC
    by_cases hlt : k < n
    · have hk3 : (k : Int) < (n : Int) := by omega
      have hk0 : (0 : Int) ≤ (k : Int) := by omega
      go_wp2
      go_loopw [4, 6] (fun v4 i wq => ∃ (j : Nat) (b : Bool), j ≤ 3 ∧ i = .int .i64 j ∧ v4 = .bool b ∧ Blk wq w.heap.size 24 #[.int .i64 N, .slice ad n c] ∧ Below w.heap.size w wq ∧ Clo T k j b) (fun _ i _ => 3 - (intOf i).toNat)
      case atStart => exact ⟨0, b, by omega, rfl, rfl, HS.out, HB.out, HC.out⟩
      case round =>
        clear s0 s1 ls hsz HS HB HC
        obtain ⟨j, b2, hj, rfl, rfl, hS, hB, hC⟩ := hrel
        rename World => wq
        obtain ⟨ls, s0, -, s1, -⟩ := hS.two
        have HS := Lib.hid hS
        have HB := Lib.hid hB
        have HC := Lib.hid hC
        have hsz := hB.size
        by_cases hj3 : j < 3
        · obtain ⟨x, y, z, bb, o, ht, rfl, hbl, r0, r1, r2⟩ := HRr.out k hlt
          have r0' := (hB.cell (p := ⟨bb, _, none⟩) hbl).trans r0
          have r1' := (hB.cell (p := ⟨bb, _, none⟩) hbl).trans r1
          have r2' := (hB.cell (p := ⟨bb, _, none⟩) hbl).trans r2
          have hbl2 : bb < wq.heap.size := by omega
          have HT := Lib.hid ht
          clear r0 r1 r2 hS hB hC ht
          have hfc : ∃ z0 : Int, facI T (tv (x, y, z) ((j + 1) % 3), tv (x, y, z) j) = z0 := ⟨_, rfl⟩
          obtain ⟨z0, hz0⟩ := hfc
          have HZ : Hid (fc T k j = z0) := Lib.hid (by unfold fc; rw [HT.out]; exact hz0)
          have HF1 := Lib.hid (fun (W : World) (hW : Below w.heap.size w W) => (show Calls Tryz.prog 82 #[.agg #[.int .i64 N, .slice (some ⟨bb, o, none⟩) n c], .int .i64 (tv (x, y, z) ((j + 1) % 3)), .int .i64 (tv (x, y, z) j)] W fun e w' => e = .returned (.int .i64 z0) ∧ Below W.heap.size W w' from by rw [← hz0]; exact HF.out W _ _ hW))
          clear hz0
          have m1 : (1 : Int).tmod 3 = 1 := by decide
          have m2 : (2 : Int).tmod 3 = 2 := by decide
          have m3 : (3 : Int).tmod 3 = 0 := by decide
          go_upto_region 8 with fail
          go_cut [36] (fun v36 W => v36 = .bool (decide (z0 < 0)) ∧ Below wq.heap.size wq W)
          case first =>
            rcases (by omega : j = 0 ∨ j = 1 ∨ j = 2) with rfl | rfl | rfl <;> simp only [tv0, tv1, tv2, Nat.reduceAdd, Nat.reduceMod] at HF1
            all_goals
              have d0 := cell_regrown s0
              have d1 := cell_regrown s1
              have d2 := cell_regrown r0'
              have d3 := cell_regrown r1'
              have d4 := cell_regrown r2'
              push_cast
              refine wp_region_quiet_below (by kernel_rfl) (by kernel_rfl) ?_
              repeat (go_big_quiet_step ((go_at_call 82; exact Calls.regrown_of (HF1.out _ (HB.out.trans ((below_regrown _ _ _).mono HB.out.size))))))
              refine wpQuiet_nil ?_
              intro _ hw'
              obtain ⟨⟨dq, osq⟩, hw''⟩ := hw'
              have hb3 := below_regrown wq dq osq
              subst hw''
              generalize Sort.grow (redrawn wq dq) osq = w3 at *
              go_wp2_with fail
              go_meet
              exact ⟨rfl, hb3⟩
          case rest =>
            obtain ⟨rfl, hbC⟩ := hcut
            have HSc := Lib.hid (HS.out.below hbC ls)
            have HBc := Lib.hid (HB.out.trans (hbC.mono hsz))
            clear hbC s0 s1 r0' r1' r2' m1 m2 m3
            by_cases hz : z0 < 0
            · have HC2 := Lib.hid (Clo.bad (T := T) (i := k) (k := j) (by rw [HZ.out]; exact hz))
              go_wp2
              go_roundw
              case measure => simp [intOf]; omega
              case rel => exact ⟨j + 1, false, by omega, by go_num, rfl, HSc.out, HBc.out, HC2.out⟩
            · have HC2 := Lib.hid (HC.out.good (by rw [HZ.out]; omega))
              go_wp2
              go_roundw
              case measure => simp [intOf]; omega
              case rel => exact ⟨j + 1, b2, by omega, by go_num, rfl, HSc.out, HBc.out, HC2.out⟩
        · obtain rfl : j = 3 := by omega
          clear hS hB hC
          go_wp2
          go_roundw
          case measure => simp [intOf]; omega
          case rel => exact ⟨k + 1, b2, by omega, by go_num, rfl, HS.out, HB.out, HC.out.row⟩
    · obtain rfl : k = n := by omega
      have HI : Hid (b = true ↔ ClosedT T) := Lib.hid (by
        rw [HCl.out]
        have := HC.out
        unfold Clo at this
        rw [this]
        exact ⟨fun h => h.1, fun h => ⟨h, fun _ h => absurd h (by omega)⟩⟩)
      go_wp2
      go_ret2
      exact ⟨b, rfl, HI.out, HB.out⟩
set_option maxRecDepth 100000 in
set_option maxHeartbeats 2000000 in
theorem simple21_any (n : Nat) (v : Value) (T : List Tr) (w : World) (h : TrisRd w v T) (hl : T.length ≤ 40) (hn : n ≤ 4096) : Calls Tryz.prog 26 #[.agg #[.int .i64 (n : Int), v]] w fun e w' =>
    ∃ b : Bool, e = .returned (.bool b) ∧ (b = true ↔ SimR n T) ∧ Below w.heap.size w w' := by
  have b1 := Blk.new w 24 #[.int .i64 (n : Int), v]
  have hB0 : Below w.heap.size w (w.alloc (.cells #[.int .i64 (n : Int), v] 24)) := (Below.refl _ _).alloc (Nat.le_refl _) _
  have HE := Lib.hid (fun (W : World) (hW : Below w.heap.size w W) => edges21_any (n : Int) v T W (h.below hW) hl)
  have HO := Lib.hid (fun (W : World) (hW : Below w.heap.size w W) => of13_any (n : Int) v T W (h.below hW) hl)
  obtain ⟨ad, c, rfl, -, -, -⟩ := h
  have HD : Hid (SimR n T ↔ T.length ≠ 0 ∧ ClosedT T ∧ (n : Int) - (T.length : Int) * 3 / 2 + T.length = 2 ∧ Hang T.length (NbT T)) := Lib.hid (by unfold SimR; push_cast; exact Iff.rfl)
  obtain ⟨F, hF⟩ : ∃ F, T.length = F := ⟨_, rfl⟩
  rw [hF] at hl hB0 b1 HE HO HD
  have HB0 := Lib.hid hB0
  have Hb1 := Lib.hid b1
  rw [hF]
  obtain ⟨l0, x0, -, x1, -⟩ := b1.two
  clear hF b1 hB0
  go_enter Tryz.func26, Tryz.ntmps26
  go_wp2_with fail
  refine (HE.out _ HB0.out).mono ?_
  rintro e w1 ⟨b, rfl, hcl, hb1⟩
  have HS1 := Lib.hid (Hb1.out.below hb1 l0)
  have HB1 := Lib.hid (HB0.out.trans (hb1.mono HB0.out.size))
  have HCl := Lib.hid hcl
  clear hb1 x0 x1 l0 hcl
  obtain ⟨l0, x0, -, x1, -⟩ := HS1.out.two
  by_cases hF0 : F = 0
  · have hno := Lib.hid (show ¬ SimR n T from fun h => (HD.out.1 h).1 hF0)
    subst hF0
    go_wp2
    go_ret
    exact ⟨false, rfl, ⟨fun h => (by cases h), fun h => absurd h hno.out⟩, HB1.out⟩
  · have hFz : ((F : Int) == 0) = false := by simp; omega
    cases b
    · have hno := Lib.hid (show ¬ SimR n T from fun h => by have := HCl.out.2 (HD.out.1 h).2.1; cases this)
      clear hF0
      go_wp2
      go_ret
      exact ⟨false, rfl, ⟨fun h => (by cases h), fun h => absurd h hno.out⟩, HB1.out⟩
    · by_cases hE : (n : Int) - (F : Int) * 3 / 2 + F = 2
      · have hE2 : ((n : Int) - (F : Int) * 3 / 2 + F != 2) = false := by simpa using hE
        have HE2 := Lib.hid hE
        have HF0 := Lib.hid hF0
        clear hF0 hE
        go_wp2_with fail
        refine (HO.out _ HB1.out).mono ?_
        rintro e w2 ⟨v2, nums, rfl, hrow, hnl, hiff, hb2⟩
        have HB2 := Lib.hid (HB1.out.trans (hb2.mono HB1.out.size))
        have HI : Hid ((∀ j, j < F → gt nums j = 0) ↔ SimR n T) := Lib.hid (by
          rw [hiff (by have := HF0.out; omega), HD.out]
          exact ⟨fun h => ⟨HF0.out, HCl.out.1 (by first | rfl | trivial), HE2.out, h⟩, fun h => h.2.2.2⟩)
        obtain ⟨gO, cO, rfl, -, -⟩ := hrow.form (by have := HF0.out; omega)
        have HC : Hid (∀ i, i < F → w2.cell? ⟨gO, i, none⟩ = some (.int .i64 (gt nums i))) := Lib.hid (fun i hi => by
          rw [hrow.cellAt i (by omega), intsV, List.getElem?_map]
          have : i < nums.length := by omega
          rw [List.getElem?_eq_getElem this]
          unfold gt
          rw [List.getD_eq_getElem?_getD, List.getElem?_eq_getElem this]
          rfl)
        clear hrow hiff hb2 x0 x1 l0
        go_wp2
        go_loopw [6] (fun i W => ∃ k : Nat, k ≤ F ∧ i = .int .i64 k ∧ W = w2 ∧ ∀ j, j < k → gt nums j = 0) (fun i _ => F - (intOf i).toNat)
        case atStart => exact ⟨0, Nat.zero_le _, rfl, rfl, fun _ h => absurd h (by omega)⟩
        case round =>
          obtain ⟨k, hk, rfl, rfl, hz⟩ := hrel
          have HZ := Lib.hid hz
          clear hz
          by_cases hlt : k < F
          · have hk3 : (k : Int) < (F : Int) := by omega
            have hk0 : (0 : Int) ≤ (k : Int) := by omega
            have hc := HC.out k hlt
            obtain ⟨z, hz⟩ : ∃ z, gt nums k = z := ⟨_, rfl⟩
            rw [hz] at hc
            have Hz := Lib.hid hz
            clear hz
            by_cases z0 : z = 0
            · have z1 : (z != 0) = false := by simpa using z0
              have HZ2 := Lib.hid (show ∀ j, j < k + 1 → gt nums j = 0 from fun j hj => by
                rcases Nat.lt_or_ge j k with e | e
                · exact HZ.out j e
                · obtain rfl : j = k := by omega
                  rw [Hz.out, z0])
              clear z0
              go_wp2
              go_roundw
              case measure => simp [intOf]; omega
              case rel => exact ⟨k + 1, by omega, by go_num, by first | rfl | trivial, HZ2.out⟩
            · have z1 : (z != 0) = true := by simpa using z0
              have hno := Lib.hid (show ¬ SimR n T from fun h => z0 (by rw [← Hz.out]; exact HI.out.2 h k hlt))
              clear z0
              go_wp2
              go_ret
              exact ⟨false, rfl, ⟨fun h => (by cases h), fun h => absurd h hno.out⟩, HB2.out⟩
          · obtain rfl : k = F := by omega
            go_wp2
            go_ret
            exact ⟨true, rfl, ⟨fun _ => HI.out.1 HZ.out, fun _ => rfl⟩, HB2.out⟩
      · have hE2 : ((n : Int) - (F : Int) * 3 / 2 + F != 2) = true := by simpa using hE
        have hno := Lib.hid (show ¬ SimR n T from fun h => hE (HD.out.1 h).2.2.1)
        clear hF0 hE
        go_wp2
        go_ret
        exact ⟨false, rfl, ⟨fun h => (by cases h), fun h => absurd h hno.out⟩, HB1.out⟩
end Go.Proofs.YtpnkhgjjlionnaaGreat
namespace Go.Proofs.YtpnkhgjjlionnaaGreat
open Go.RowKit Go.Maps

def T0 : List Tr := [(0, 1, 2), (0, 3, 1), (1, 3, 2), (2, 3, 0)]
theorem keys0 : T0.flatMap key3 = [(0, 1, 2), (0, 1, 3), (1, 2, 3), (0, 2, 3)] := by
  simp [T0, key3, sort3, sortL, List.mergeSort, List.MergeSort.Internal.splitInTwo]
theorem surf0 : Surf 4 T0 where
  n0 := by decide
  n1 := by decide
  len := by decide
  inr := by unfold in3 inR; decide
  simple := by unfold simple3; decide
  twice := by decide
  mirrored := by rw [keys0]; decide
  lonely := by
    intro u hu
    have h : u = 0 ∨ u = 1 ∨ u = 2 ∨ u = 3 := by unfold inR at hu; omega
    rcases h with rfl | rfl | rfl | rfl <;> decide
  pinch := by
    intro u hu
    have h : u = 0 ∨ u = 1 ∨ u = 2 ∨ u = 3 := by unfold inR at hu; omega
    rcases h with rfl | rfl | rfl | rfl <;> intro S h0 hs k hk
    · have e : atV T0 0 = [0, 1, 3] := by decide
      rw [e] at h0 hs hk
      have a0 := h0 0 rfl
      have a1 := hs 0 (by simp) 1 (by simp) a0 ⟨_, _, 1, rfl, rfl, by decide, by unfold hasV; decide, by unfold hasV; decide⟩
      have a3 := hs 0 (by simp) 3 (by simp) a0 ⟨_, _, 2, rfl, rfl, by decide, by unfold hasV; decide, by unfold hasV; decide⟩
      simp only [List.mem_cons, List.not_mem_nil, or_false] at hk
      rcases hk with rfl | rfl | rfl <;> assumption
    · have e : atV T0 1 = [0, 1, 2] := by decide
      rw [e] at h0 hs hk
      have a0 := h0 0 rfl
      have a1 := hs 0 (by simp) 1 (by simp) a0 ⟨_, _, 0, rfl, rfl, by decide, by unfold hasV; decide, by unfold hasV; decide⟩
      have a3 := hs 0 (by simp) 2 (by simp) a0 ⟨_, _, 2, rfl, rfl, by decide, by unfold hasV; decide, by unfold hasV; decide⟩
      simp only [List.mem_cons, List.not_mem_nil, or_false] at hk
      rcases hk with rfl | rfl | rfl <;> assumption
    · have e : atV T0 2 = [0, 2, 3] := by decide
      rw [e] at h0 hs hk
      have a0 := h0 0 rfl
      have a1 := hs 0 (by simp) 2 (by simp) a0 ⟨_, _, 1, rfl, rfl, by decide, by unfold hasV; decide, by unfold hasV; decide⟩
      have a3 := hs 0 (by simp) 3 (by simp) a0 ⟨_, _, 0, rfl, rfl, by decide, by unfold hasV; decide, by unfold hasV; decide⟩
      simp only [List.mem_cons, List.not_mem_nil, or_false] at hk
      rcases hk with rfl | rfl | rfl <;> assumption
    · have e : atV T0 3 = [1, 2, 3] := by decide
      rw [e] at h0 hs hk
      have a0 := h0 1 rfl
      have a1 := hs 1 (by simp) 2 (by simp) a0 ⟨_, _, 1, rfl, rfl, by decide, by unfold hasV; decide, by unfold hasV; decide⟩
      have a3 := hs 1 (by simp) 3 (by simp) a0 ⟨_, _, 0, rfl, rfl, by decide, by unfold hasV; decide, by unfold hasV; decide⟩
      simp only [List.mem_cons, List.not_mem_nil, or_false] at hk
      rcases hk with rfl | rfl | rfl <;> assumption
theorem simp0 : Simp ((4 : Nat) : Int) T0 where
  surf := surf0
  closed := by
    intro c hc
    have h : c < 12 := hc
    have : ∀ c : Fin 12, 0 ≤ oppI T0 (c.val : Int) := by decide
    exact this ⟨c, h⟩
  conn := by
    intro S s0 hs t ht
    have h1 : S 1 := by have := hs 2 (by decide) s0; have e : oppN T0 2 / 3 = 1 := by decide
                        rwa [e] at this
    have h2 : S 2 := by have := hs 0 (by decide) s0; have e : oppN T0 0 / 3 = 2 := by decide
                        rwa [e] at this
    have h3 : S 3 := by have := hs 1 (by decide) s0; have e : oppN T0 1 / 3 = 3 := by decide
                        rwa [e] at this
    have ht' : t < 4 := ht
    have : t = 0 ∨ t = 1 ∨ t = 2 ∨ t = 3 := by omega
    rcases this with rfl | rfl | rfl | rfl <;> assumption
  pos := by decide
  euler := by decide
theorem steps0 : stepsM T0 0 = [⟨67, 4, 0, 3⟩, ⟨76, 8, 0, 4⟩, ⟨69, 11, 0, 3⟩] := by kernel_rfl
set_option maxHeartbeats 1000000 in
theorem solid_any (w : World) : Calls Tryz.prog 27 #[] w fun e w' => ∃ v, e = .returned (.agg #[.int .i64 4, v]) ∧ TrisRd w' v T0 ∧ Below w.heap.size w w' := by
  go_enter Tryz.func27, Tryz.ntmps27
  go_wp2
  have b0 : Blk ((w.alloc (.cells #[.int .i64 4, .slice (some ⟨w.heap.size + 1, 0, none⟩) 4 4] 24)).alloc (.cells #[.int .i64 0, .int .i64 1, .int .i64 2, .int .i64 0, .int .i64 3, .int .i64 1, .int .i64 1, .int .i64 3, .int .i64 2, .int .i64 2, .int .i64 3, .int .i64 0] 60)) w.heap.size 24 #[.int .i64 4, .slice (some ⟨w.heap.size + 1, 0, none⟩) 4 4] := (Blk.new _ _ _).alloc _
  have b1 : Blk ((w.alloc (.cells #[.int .i64 4, .slice (some ⟨w.heap.size + 1, 0, none⟩) 4 4] 24)).alloc (.cells #[.int .i64 0, .int .i64 1, .int .i64 2, .int .i64 0, .int .i64 3, .int .i64 1, .int .i64 1, .int .i64 3, .int .i64 2, .int .i64 2, .int .i64 3, .int .i64 0] 60)) (w.heap.size + 1) 60 #[.int .i64 0, .int .i64 1, .int .i64 2, .int .i64 0, .int .i64 3, .int .i64 1, .int .i64 1, .int .i64 3, .int .i64 2, .int .i64 2, .int .i64 3, .int .i64 0] := blk_new_at (by simp)
  have hr : ((w.alloc (.cells #[.int .i64 4, .slice (some ⟨w.heap.size + 1, 0, none⟩) 4 4] 24)).alloc (.cells #[.int .i64 0, .int .i64 1, .int .i64 2, .int .i64 0, .int .i64 3, .int .i64 1, .int .i64 1, .int .i64 3, .int .i64 2, .int .i64 2, .int .i64 3, .int .i64 0] 60)).ownsRow w.heap.size 60 3 (.slice (some ⟨w.heap.size + 1, 0, none⟩) 4 4) T0.length (ws3 T0) :=
    ⟨rfl, .inr ⟨_, 4, _, rfl, by omega, b1, Nat.le_refl _, by decide, rfl, rfl⟩⟩
  obtain ⟨-, p0, -, p1, -⟩ := b0.two
  exact bodyPost_ret (v := .agg #[.int .i64 4, .slice (some ⟨w.heap.size + 1, 0, none⟩) 4 4]) (by simp [results, Tryz.results27, go_sem, p0, p1]) rfl ⟨_, rfl, TrisRd.of_row hr, ((Below.refl _ _).alloc (Nat.le_refl _) _).alloc (by simp) _⟩
/-- The walk of the example. -/
theorem walk0 {w : World} {g : Nat} (hT : Tab w g ((4 : Nat) : Int) T0) : Calls Tryz.prog 13 #[.pointer (some ⟨g, 0, none⟩), .int .i64 0] w fun e w' => ∃ gV gC cV cC, e = .returned (.tuple #[.agg #[.string ⟨#[67, 76, 69]⟩, .slice (some ⟨gV, 0, none⟩) 4 cV, .slice (some ⟨gC, 0, none⟩) 4 cC], .int .i64 0]) ∧
    w'.ownsRow w.heap.size 3 1 (.slice (some ⟨gV, 0, none⟩) 4 cV) 4 [.int .i64 0, .int .i64 1, .int .i64 2, .int .i64 3] ∧ w'.ownsRow w.heap.size 3 1 (.slice (some ⟨gC, 0, none⟩) 4 cC) 4 [.int .i64 0, .int .i64 4, .int .i64 8, .int .i64 11] ∧ Below w.heap.size w w' := by
  refine (walk_any (c := 0) simp0 hT (by decide)).mono ?_
  rintro e w' ⟨vV, vC, rfl, h1, h2, h3⟩
  have e1 : (beginS T0 0).come ++ newV T0 (stepsM T0 0) = [0, 1, 2, 3] := by rw [steps0]; decide
  have e2 : ((0 : Nat) : Int) :: (stepsM T0 0).map (·.corner) = [0, 4, 8, 11] := by rw [steps0]; rfl
  have e3 : (stepsM T0 0).length.succ = 4 := by rw [steps0]; rfl
  have e4 : wordS (stepsM T0 0) = ⟨#[67, 76, 69]⟩ := by rw [steps0]; rfl
  rw [e1] at h1
  rw [e2, e3] at h2
  rw [e4]
  obtain ⟨gV, cV, rfl, -, -⟩ := h1.form (by decide)
  obtain ⟨gC, cC, rfl, -, -⟩ := h2.form (by decide)
  exact ⟨gV, gC, cV, cC, rfl, h1, h2, h3⟩
set_option maxRecDepth 100000 in
set_option maxHeartbeats 2000000 in
theorem awake21_any (w : World) : Calls Tryz.prog 9 #[] w fun e w' => e = .returned (.bool true) ∧ Below w.heap.size w w' := by
  have HSo := Lib.hid (solid_any w)
  go_enter Tryz.func9, Tryz.ntmps9
  go_wp2_with fail
  refine HSo.out.mono ?_
  rintro e w1 ⟨v, rfl, hrd, hb1⟩
  have HN := Lib.hid (new_any 4 v T0 w1 hrd (by decide))
  have HB1 := Lib.hid hb1
  clear hrd hb1 HSo
  go_wp2_with fail
  refine HN.out.mono ?_
  rintro e w2 ⟨⟨-, g, rfl, hT, hg⟩ | ⟨hno, -⟩, hb2⟩
  rotate_left
  · exact absurd surf0 hno
  have hB2 := HB1.out.trans (hb2.mono HB1.out.size)
  have bw := Blk.new w2 35 #[.int .i64 0, .int .i64 0, .int .i64 0]
  have HW := Lib.hid (walk0 (hT.alloc (.cells #[.int .i64 0, .int .i64 0, .int .i64 0] 35)))
  have HB2 := Lib.hid (hB2.alloc (hB2.size) (.cells #[.int .i64 0, .int .i64 0, .int .i64 0] 35))
  have hz2 := hB2.size
  have hzw : w2.heap.size < (w2.alloc (.cells #[.int .i64 0, .int .i64 0, .int .i64 0] 35)).heap.size := by simp
  unfold witV
  clear hT hb2 hB2 HB1 HN
  go_wp2_with fail
  refine HW.out.mono ?_
  rintro e w3 ⟨gV, gC, cV, cC, rfl, hV, hC, hb3⟩
  have hB3 := HB2.out.trans (hb3.mono HB2.out.size)
  have bw3 := bw.below hb3 bw.lt
  have hz3 := hb3.size
  obtain ⟨l0, x0, f0, x1, f1, x2, f2⟩ := (bw3.alloc (.cells #[.string ⟨#[67, 76, 69]⟩, .slice (some ⟨gV, 0, none⟩) 4 cV, .slice (some ⟨gC, 0, none⟩) 4 cC] 39)).three
  have bT := Blk.new w3 39 #[.string ⟨#[67, 76, 69]⟩, .slice (some ⟨gV, 0, none⟩) 4 cV, .slice (some ⟨gC, 0, none⟩) 4 cC]
  obtain ⟨lT, y0, -, y1, -, y2, -⟩ := bT.three
  have hV' := hV.alloc (.cells #[.string ⟨#[67, 76, 69]⟩, .slice (some ⟨gV, 0, none⟩) 4 cV, .slice (some ⟨gC, 0, none⟩) 4 cC] 39)
  have hC' := hC.alloc (.cells #[.string ⟨#[67, 76, 69]⟩, .slice (some ⟨gV, 0, none⟩) 4 cV, .slice (some ⟨gC, 0, none⟩) 4 cC] 39)
  have v0 := hV'.cellAt 0 (by decide)
  have v1 := hV'.cellAt 1 (by decide)
  have v2 := hV'.cellAt 2 (by decide)
  have v3 := hV'.cellAt 3 (by decide)
  have c0 := hC'.cellAt 0 (by decide)
  have c1 := hC'.cellAt 1 (by decide)
  have c2 := hC'.cellAt 2 (by decide)
  have c3 := hC'.cellAt 3 (by decide)
  simp only [List.getElem?_cons_zero, List.getElem?_cons_succ] at v0 v1 v2 v3 c0 c1 c2 c3
  have HBF := Lib.hid (hB3.alloc hB3.size (.cells #[.string ⟨#[67, 76, 69]⟩, .slice (some ⟨gV, 0, none⟩) 4 cV, .slice (some ⟨gC, 0, none⟩) 4 cC] 39))
  clear hV hC hb3 bw bw3 hB3 HW HB2
  go_wp2
  go_ret
  exact ⟨rfl, HBF.out⟩
end Go.Proofs.YtpnkhgjjlionnaaGreat
namespace Go.Proofs.YtpnkhgjjlionnaaGreat
open Go.RowKit Go.Maps Go.Shelf
attribute [local go_sem] Oper.semAt_some

/-- What fits: a surface's table, of few triangles; else no matter what. -/
def Fit21 (N : Int) (T : List Tr) (w : World) (e : Ending) (w' : World) : Prop :=
  ∃ p b, e = .returned (.tuple #[.pointer p, .bool b]) ∧ (b = true → ∃ g n : Nat, N = n ∧ p = some ⟨g, 0, none⟩ ∧ Tab w' g n T ∧ Surf n T ∧ T.length ≤ 40) ∧ Below w.heap.size w w'
set_option maxHeartbeats 2000000 in
theorem fits21_any (N : Int) (v : Value) (T : List Tr) (w : World) (h : TrisRd w v T) : Calls Tryz.prog 25 #[.agg #[.int .i64 N, v]] w (Fit21 N T w) := by
  have hB0 : Below w.heap.size w (w.alloc (.cells #[.int .i64 N, v] 24)) := (Below.refl _ _).alloc (Nat.le_refl _) _
  have b1 := Blk.new w 24 #[.int .i64 N, v]
  obtain ⟨l0, x0, -, x1, -⟩ := b1.two
  have HT := Lib.hid (fun (W : World) (hW : Below w.heap.size w W) => h.below hW)
  obtain ⟨a, c, rfl, hc1, hc2, -⟩ := h
  have HB0 := Lib.hid hB0
  have Hb1 := Lib.hid b1
  clear b1 hB0
  by_cases hl : 40 < T.length
  · have hl' : (40 : Int) < (T.length : Int) := by omega
    go_enter Tryz.func25, Tryz.ntmps25
    go_wp2
    go_ret2
    exact ⟨_, _, rfl, fun h => (by cases h), HB0.out⟩
  · have hl' : ¬ (40 : Int) < (T.length : Int) := by omega
    by_cases hN : 120 < N
    · go_enter Tryz.func25, Tryz.ntmps25
      go_wp2
      go_ret2
      exact ⟨_, _, rfl, fun h => (by cases h), HB0.out⟩
    · have HS := Lib.hid (fun (W : World) (hW : Below w.heap.size w W) => surface9_any N _ T W (HT.out W hW) (by omega) (by omega))
      have HNw := Lib.hid (fun (W : World) (hW : Below w.heap.size w W) => new_any N _ T W (HT.out W hW) (by omega))
      have Hl := Lib.hid hl
      obtain ⟨F, hF⟩ : ∃ F, T.length = F := ⟨_, rfl⟩
      rw [hF] at x1 HB0 Hb1 l0 x0 hl' HS HNw hc1 ⊢
      clear hl hF
      go_enter Tryz.func25, Tryz.ntmps25
      go_wp2_with fail
      refine (HS.out _ HB0.out).mono ?_
      rintro e w1 ⟨⟨b1, rfl⟩, hb1⟩
      have Hbk1 := Lib.hid (Hb1.out.below hb1 l0)
      have HB1 := Lib.hid (HB0.out.trans (hb1.mono HB0.out.size))
      clear x0 x1 hb1 l0
      obtain ⟨l0, x0, -, x1, -⟩ := Hbk1.out.two
      cases b1
      · go_wp2
        go_ret2
        exact ⟨_, _, rfl, fun h => (by cases h), HB1.out⟩
      · go_wp2_with fail
        refine (HNw.out _ HB1.out).mono ?_
        rintro e w2 ⟨hR, hb2⟩
        have HB2 := Lib.hid (HB1.out.trans (hb2.mono HB1.out.size))
        have hsz := HB2.out.size
        clear x0 x1 hb2 l0
        rcases hR with ⟨hSu, g, rfl, hT, hg⟩ | ⟨hno, k, p, q, hk, rfl⟩
        · have bw := Blk.new w2 35 #[.int .i64 0, .int .i64 0, .int .i64 0]
          obtain ⟨lw, z0, zf0, z1, zf1, z2, zf2⟩ := bw.three
          have HTab := Lib.hid hT
          have HSu := Lib.hid hSu
          clear hT hSu bw
          unfold witV
          go_wp2
          go_region
          all_goals
            go_wp2
            go_ret2
            have hn : ((N.toNat : Nat) : Int) = N := by have := HSu.out.n0; omega
            exact ⟨_, _, rfl, fun _ => ⟨g, N.toNat, hn.symm, rfl, by rw [hn]; exact HTab.out.below (below_d ((Below.refl _ _).alloc (Nat.le_refl _) _)), by rw [hn]; exact HSu.out, by have := Hl.out; omega⟩, below_d (HB2.out.alloc hsz _)⟩
        · have bw := Blk.new w2 35 #[.int .i64 k, .int .i64 p, .int .i64 q]
          obtain ⟨lw, z0, zf0, z1, zf1, z2, zf2⟩ := bw.three
          have nk : (k == 0) = false := by simp; omega
          clear bw hno hk
          unfold witV
          go_wp2
          go_region
          all_goals
            go_wp2
            go_ret2
            exact ⟨_, _, rfl, fun h => absurd h (by simp), below_d (HB2.out.alloc hsz _)⟩
end Go.Proofs.YtpnkhgjjlionnaaGreat
namespace Go.Proofs.YtpnkhgjjlionnaaGreat
open Go.RowKit Go.Maps

theorem u8_has {n : Int} (h : (Lit.int .u8 n).wf = true) : 0 ≤ n ∧ n ≤ 255 := by
  have h3 : IntKind.u8.min = 0 := by decide
  have h4 : IntKind.u8.max = 255 := by decide
  simp [Lit.wf, h3, h4] at h
  omega
/-- A simple surface of few triangles, and a corner of it; else no matter what. -/
def SimL (N : Int) (T : List Tr) (_r : Int) (w : World) (e : Ending) (w' : World) : Prop :=
  ∃ p c b, e = .returned (.tuple #[.pointer p, .int .i64 c, .bool b]) ∧ (b = true → ∃ g n k : Nat, N = n ∧ p = some ⟨g, 0, none⟩ ∧ c = k ∧ Tab w' g n T ∧ Simp n T ∧ T.length ≤ 40 ∧ k < 3 * T.length) ∧ Below w.heap.size w w'
set_option maxRecDepth 100000 in
set_option maxHeartbeats 2000000 in
theorem simpleL_any (N : Int) (v : Value) (T : List Tr) (r : Int) (w : World) (h : TrisRd w v T) (hr : 0 ≤ r ∧ r ≤ 255) : Calls Tryz.prog 8 #[.agg #[.int .i64 N, v], .int .u8 r] w (SimL N T r w) := by
  have b1 := Blk.new w 24 #[.int .i64 N, v]
  have hB0 : Below w.heap.size w (w.alloc (.cells #[.int .i64 N, v] 24)) := (Below.refl _ _).alloc (Nat.le_refl _) _
  have HF := Lib.hid (fits21_any N v T _ (h.below hB0))
  have HS := Lib.hid (fun (W : World) (n : Nat) (hW : Below w.heap.size w W) (hl : T.length ≤ 40) (hn : n ≤ 4096) => simple21_any n v T W (h.below hW) hl hn)
  obtain ⟨a, c, rfl, -, -, -⟩ := h
  have HB0 := Lib.hid hB0
  have Hb1 := Lib.hid b1
  obtain ⟨l0, x0, -, x1, -⟩ := b1.two
  clear b1 hB0
  go_enter Tryz.func8, Tryz.ntmps8
  go_wp2_with fail
  refine HF.out.mono ?_
  rintro e w1 ⟨p, b, rfl, hfit, hb1⟩
  have HS1 := Lib.hid (Hb1.out.below hb1 l0)
  have HB1 := Lib.hid (HB0.out.trans (hb1.mono HB0.out.size))
  clear x0 x1 l0
  cases b
  · clear hfit hb1
    go_wp2
    go_ret3
    exact ⟨_, _, _, rfl, fun h => (by cases h), HB1.out⟩
  · obtain ⟨g, n, rfl, rfl, hT, hSu, hl⟩ := hfit rfl
    obtain ⟨l0, x0, -, x1, -⟩ := HS1.out.two
    have HTab := Lib.hid hT
    have HSu := Lib.hid hSu
    have HQ := Lib.hid (HS.out w1 n HB1.out hl (by have := hSu.n1; omega))
    clear hfit hb1 hT hSu
    obtain ⟨F, hF⟩ : ∃ F, T.length = F := ⟨_, rfl⟩
    rw [hF] at x1 HQ hl
    rw [hF]
    have HFl := Lib.hid hF
    clear hF
    go_wp2_with fail
    refine HQ.out.mono ?_
    rintro e w2 ⟨b2, rfl, hiff, hb2⟩
    have HI := Lib.hid hiff
    have HB2 := Lib.hid (HB1.out.trans (hb2.mono HB1.out.size))
    have HT2 := Lib.hid (HTab.out.below hb2)
    have HS2 := Lib.hid (HS1.out.below hb2 l0)
    clear hiff hb2 x0 x1 l0
    obtain ⟨l0, x0, -, x1, -⟩ := HS2.out.two
    rw [HFl.out] at x1
    cases b2
    · go_wp2
      go_ret3
      exact ⟨_, _, _, rfl, fun h => (by cases h), HB2.out⟩
    · have hSi : Simp n T := (simR_iff HSu.out).1 (HI.out.1 rfl)
      have hpos := hSi.pos
      rw [HFl.out] at hpos
      have HSi := Lib.hid hSi
      have hz : ((3 * F : Nat) : Int) ≠ 0 := by omega
      obtain ⟨rn, rfl⟩ : ∃ rn : Nat, r = rn := ⟨r.toNat, by omega⟩
      have nz : ((3 : Int) * (F : Int) == 0) = false := by simp; omega
      have hm : ((rn : Int)).tmod (3 * (F : Int)) = ((rn % (3 * F) : Nat) : Int) := by
        rw [Int.tmod_eq_emod_of_nonneg (by omega)]
        push_cast
        rfl
      have hlt : rn % (3 * F) < 3 * F := Nat.mod_lt _ (by omega)
      clear hSi
      go_wp2
      go_region
      all_goals
        go_wp2
        go_ret3
        exact ⟨_, _, _, rfl, fun _ => ⟨g, n, rn % (3 * F), rfl, rfl, by first | rfl | (push_cast; rfl), HT2.out.below (below_d (Below.refl _ _)), HSi.out, by rw [HFl.out]; exact hl, by rw [HFl.out]; exact hlt⟩, below_d HB2.out⟩
end Go.Proofs.YtpnkhgjjlionnaaGreat
namespace Go.Proofs.YtpnkhgjjlionnaaGreat
open Go.RowKit Go.Maps Go.Shelf

theorem bOn {w W W2 : World} (h : Below w.heap.size w W) (h2 : Below W.heap.size W W2) : Below w.heap.size w W2 := h.trans (h2.mono h.size)
theorem infoIntW : (Tryz.prog.info? 3).map (fun i => (i.zero, i.size, i.bytes)) = some (some (.int .i64 0), 1, 8) := by kernel_rfl
set_option maxRecDepth 100000 in
set_option maxHeartbeats 16000000 in
theorem walkMoved_walk (N : Int) (v : Value) (T : List Tr) (r : Int) (vb : Value) (mb : Nat) (w : World) (h : TrisRd w v T) (hr : 0 ≤ r ∧ r ≤ 255) (hb : BytesRd w vb mb) :
    Calls Tryz.prog 3 #[.agg #[.int .i64 N, v], .int .u8 r, vb] w fun e w' => e = .returned (.bool true) ∧ Below w.heap.size w w' := by
  obtain ⟨i2, hj', hz0, hz1, hz2⟩ := info_parts infoIntW
  have b1 := Blk.new w 24 #[.int .i64 N, v]
  have hB0 : Below w.heap.size w (w.alloc (.cells #[.int .i64 N, v] 24)) := (Below.refl _ _).alloc (Nat.le_refl _) _
  have HS := Lib.hid (simpleL_any N v T r _ (h.below hB0) hr)
  have HA := Lib.hid awake21_any
  have HRT := Lib.hid (fun (W : World) (hW : Below w.heap.size w W) => h.below hW)
  have HRB := Lib.hid (fun (W : World) (hW : Below w.heap.size w W) => hb.below hW)
  obtain ⟨a, c, rfl, -, -, -⟩ := h
  obtain ⟨ab, cb, rfl, hmb, -⟩ := hb
  have HB0 := Lib.hid hB0
  have Hb1 := Lib.hid b1
  obtain ⟨l0, x0, -, x1, -⟩ := b1.two
  clear b1 hB0
  go_enter Tryz.func3, Tryz.ntmps3
  go_wp2_with fail
  refine HS.out.mono ?_
  rintro e w1 ⟨p, cz, b, rfl, hfit, hb1⟩
  have HS1 := Lib.hid (Hb1.out.below hb1 l0)
  have HB1 := Lib.hid (HB0.out.trans (hb1.mono HB0.out.size))
  clear x0 x1 l0 hb1
  cases b
  · clear hfit
    go_wp2_with fail
    refine (HA.out _).mono ?_
    rintro e w2 ⟨rfl, hb2⟩
    have HB2 := Lib.hid (HB1.out.trans (hb2.mono HB1.out.size))
    clear hb2
    go_wp2_with fail
    refine (HA.out _).mono ?_
    rintro e w3 ⟨rfl, hb3⟩
    have HB3 := Lib.hid (HB2.out.trans (hb3.mono HB2.out.size))
    clear hb3
    go_wp2
    go_ret
    exact ⟨rfl, HB3.out⟩
  · obtain ⟨g, n, k, rfl, rfl, rfl, hT, hSi, hl, hk⟩ := hfit rfl
    have HSi := Lib.hid hSi
    have HT1 := Lib.hid hT
    have HK := Lib.hid hk
    have hn3 : 3 ≤ n := by have := hSi.euler; have := hSi.pos; omega
    have hn60 : n ≤ 60 := by have := hSi.euler; omega
    have hpos := hSi.pos
    clear hfit hT hSi hk
    go_wp2_with fail
    refine (HA.out _).mono ?_
    rintro e w2 ⟨rfl, hb2⟩
    have HB2 := Lib.hid (HB1.out.trans (hb2.mono HB1.out.size))
    have HS2 := Lib.hid (HS1.out.below hb2 HS1.out.lt)
    have HT2 := Lib.hid (HT1.out.below hb2)
    clear hb2 HS1 HB1 HT1
    obtain ⟨F, hF⟩ : ∃ F, T.length = F := ⟨_, rfl⟩
    have HFl := Lib.hid hF
    obtain ⟨l0, x0, -, x1, -⟩ := HS2.out.two
    rw [hF] at hl hpos x1 HS2 HRT ⊢
    clear hF
    have k2 : Blk w2.drew w.heap.size 24 #[.int .i64 (n : Int), .slice a F c] := HS2.out
    obtain ⟨wA, rA, oA, gA⟩ := run_make_full (P := Tryz.prog) (w := w2.drew) w2.heap.size 30 3 i2 _ 1 Tryz.underlying30 hj' hz0 hz1 .i64 .i64 n (by rw [hz2]; omega) (by unfold maxLen; omega) (Nat.le_refl _)
    have sA := gA.size
    obtain ⟨wB, rB, oB, gB⟩ := run_make_full (P := Tryz.prog) (w := wA) w2.heap.size 30 3 i2 _ 1 Tryz.underlying30 hj' hz0 hz1 .i64 .i64 F (by rw [hz2]; omega) (by unfold maxLen; omega) sA
    obtain ⟨wC, rC, oC, gC⟩ := run_make_full (P := Tryz.prog) (w := w2.drew) w2.heap.size 30 3 i2 _ 1 Tryz.underlying30 hj' hz0 hz1 .i64 .i64 F (by rw [hz2]; omega) (by unfold maxLen; omega) (Nat.le_refl _)
    have sC := gC.size
    obtain ⟨wD, rD, oD, gD⟩ := run_make_full (P := Tryz.prog) (w := wC) w2.heap.size 30 3 i2 _ 1 Tryz.underlying30 hj' hz0 hz1 .i64 .i64 n (by rw [hz2]; omega) (by unfold maxLen; omega) sC
    have kA := k2.grown gA (by simp)
    have kC := k2.grown gC (by simp)
    have kB := kA.grown gB (by simp)
    have kD := kC.grown gD (by simp)
    rw [made_ints] at oA oB oC oD
    have bA0 := below_of_grown (w := w2.drew) gA (Nat.le_refl _) (fun j e => by cases e)
    have bA : Below w2.heap.size w2 wA := ⟨bA0.os, bA0.tape, bA0.output, bA0.size, bA0.block⟩
    have bC0 := below_of_grown (w := w2.drew) gC (Nat.le_refl _) (fun j e => by cases e)
    have bC : Below w2.heap.size w2 wC := ⟨bC0.os, bC0.tape, bC0.output, bC0.size, bC0.block⟩
    have e0 : ∀ m : Nat, List.replicate m (Value.int .i64 0) = intsV (List.replicate m 0) := fun m => by simp [intsV]
    have e1 : ∀ m : Nat, List.replicate m (0 : Int) = nats (List.replicate m 0) := fun m => by simp [nats]
    have lA : w2.heap.size < wA.heap.size := (oA.lt _ rfl).2
    have lC : w2.heap.size < wC.heap.size := (oC.lt _ rfl).2
    have E1 : ∃ gt gp, gt = w2.heap.size ∧ gp = wA.heap.size ∧ MvSt w2 wB gt gp n F (List.replicate n 0) (List.replicate F 0) :=
      ⟨_, _, rfl, rfl, by rw [← e0]; exact own_calm oA gB (fun r e => by cases e), by rw [← e1, ← e0]; exact oB, bA.grown gB sA (fun j e => by cases e), by omega⟩
    have E2 : ∃ gt gp, gt = wC.heap.size ∧ gp = w2.heap.size ∧ MvSt w2 wD gt gp n F (List.replicate n 0) (List.replicate F 0) :=
      ⟨_, _, rfl, rfl, by rw [← e0]; exact oD, by rw [← e1, ← e0]; exact own_calm oC gD (fun r e => by cases e), bC.grown gD sC (fun j e => by cases e), by omega⟩
    clear bA0 bC0 bA bC e0 e1 lA lC
    have HE := Lib.hid (And.intro E1 E2)
    clear E1 E2 oA oB oC oD gA gB gC gD sA sC
    go_upto_region 4 with fail
    go_cut [10, 11] (fun v10 v11 W => ∃ gt gp, v10 = .slice (some ⟨gt, 0, none⟩) n n ∧ v11 = .slice (some ⟨gp, 0, none⟩) F F ∧ MvSt w2 W gt gp n F (List.replicate n 0) (List.replicate F 0))
    case first =>
      go_region_held3 (fun w' => w'.cell? ⟨w.heap.size, 0, none⟩ = some (.int .i64 (n : Int)) ∧ w'.cell? ⟨w.heap.size, 1, none⟩ = some (.slice a F c)) (first | go_keep | exact ⟨kA.cell 0, kA.cell 1⟩ | exact ⟨kB.cell 0, kB.cell 1⟩ | exact ⟨kC.cell 0, kC.cell 1⟩ | exact ⟨kD.cell 0, kD.cell 1⟩) (fail)
      · go_wp2_with fail
        go_meet
        exact ⟨_, _, rfl, rfl, by
          obtain ⟨⟨a1, a2, e1, e2, h⟩, -⟩ := HE.out
          subst e1 e2
          exact h⟩
      · go_wp2_with fail
        go_meet
        exact ⟨_, _, rfl, rfl, by
          obtain ⟨-, a1, a2, e1, e2, h⟩ := HE.out
          subst e1 e2
          exact h⟩
    case rest =>
      obtain ⟨gt, gp, rfl, rfl, hM⟩ := hcut
      clear kA kB kC kD rA rB rC rD HE k2 x0 x1 l0
      have HM := Lib.hid hM
      clear hM
      go_wp2
      go_loopw [57] (fun i W => ∃ (j : Nat) (l : List Int), j ≤ n ∧ i = .int .i64 j ∧ l.length = n ∧ (∀ i, i < j → at_ l i = (i : Int)) ∧ MvSt w2 W gt gp n F l (List.replicate F 0)) (fun i _ => n - (intOf i).toNat)
      case atStart => exact ⟨0, _, Nat.zero_le _, rfl, by simp, fun i hi => absurd hi (Nat.not_lt_zero _), HM.out⟩
      case round =>
        rename World => wr
        obtain ⟨j, l, hj, rfl, hl, hid_, hM⟩ := hrel
        by_cases hlt : j < n
        · have hc := hM.cellT hl hlt
          have hfz := hM.t.frozenAt j
          have hj3 : (j : Int) < (n : Int) := by omega
          have HN := Lib.hid (hM.setT j (j : Int))
          have HI := Lib.hid (And.intro hl hid_)
          clear hM hl hid_
          generalize at_ l j = z at *
          go_wp2
          go_roundw
          case measure => simp [intOf]; omega
          case rel =>
            refine ⟨j + 1, _, by omega, by go_num, ?_, ?_, HN.out⟩
            · rw [List.length_set]; exact HI.out.1
            · intro i hi
              by_cases e : i = j
              · subst e; simp [at_, List.getD, HI.out.1, hlt]
              · have := HI.out.2 i (by omega)
                simpa [at_, List.getD, List.getElem?_set, show ¬ j = i from fun h => e h.symm] using this
        · obtain rfl : n = j := by omega
          have HN := Lib.hid (AllN.ofId hl hid_)
          have HM1 := Lib.hid hM
          clear HM hM hl hid_
          go_wp2
          go_loopw [67] (fun i W => ∃ (j : Nat) (p : List Nat), j ≤ F ∧ i = .int .i64 j ∧ p.length = F ∧ (∀ i, i < j → p.getD i 0 = 3 * i) ∧ MvSt w2 W gt gp n F l p) (fun i _ => F - (intOf i).toNat)
          case atStart => exact ⟨0, _, Nat.zero_le _, rfl, by simp, fun i hi => absurd hi (Nat.not_lt_zero _), HM1.out⟩
          case round =>
            rename World => wr
            obtain ⟨j, p, hj, rfl, hl, hid_, hM⟩ := hrel
            by_cases hlt : j < F
            · have hc := hM.cellP hl hlt
              have hfz := hM.q.frozenAt j
              have hj3 : (j : Int) < (F : Int) := by omega
              have hst := hM.setP j (3 * j)
              rw [show ((3 * j : Nat) : Int) = 3 * (j : Int) from by omega] at hst
              have HN2 := Lib.hid hst
              have HI := Lib.hid (And.intro hl hid_)
              clear hM hl hid_ hst
              generalize p.getD j 0 = z at *
              go_wp2
              go_roundw
              case measure => simp [intOf]; omega
              case rel =>
                refine ⟨j + 1, _, by omega, by go_num, ?_, ?_, HN2.out⟩
                · rw [List.length_set]; exact HI.out.1
                · intro i hi
                  by_cases e : i = j
                  · subst e; simp [List.getD, HI.out.1, hlt]
                  · have := HI.out.2 i (by omega)
                    simpa [List.getD, List.getElem?_set, show ¬ j = i from fun h => e h.symm] using this
            · obtain rfl : F = j := by omega
              have HC := Lib.hid (AllC.ofTri hl hid_)
              have HM2 := Lib.hid hM
              clear HM1 hM hl hid_
              go_wp2
              go_loopw [78] (fun i W => ∃ (j : Nat) (l : List Int) (p : List Nat), j ≤ mb ∧ i = .int .i64 j ∧ AllN n l ∧ AllC F p ∧ MvSt w2 W gt gp n F l p) (fun i _ => mb - (intOf i).toNat)
              case atStart => exact ⟨0, _, _, Nat.zero_le _, rfl, HN.out, HC.out, HM2.out⟩
              case round =>
                rename World => wr
                obtain ⟨j, l, p, hj, rfl, hN, hP, hM⟩ := hrel
                by_cases hlt : j < mb
                · have hbel := HB2.out.trans (hM.bel.mono HB2.out.size)
                  obtain ⟨a', c', e', -, hr⟩ := HRB.out wr hbel
                  cases e'
                  obtain ⟨b, o, x, rfl, hbl, hx, cv⟩ := hr j hlt
                  have hj3 : (j : Int) < (mb : Int) := by omega
                  have HN0 := Lib.hid hN
                  have HP0 := Lib.hid hP
                  have HM0 := Lib.hid hM
                  have HBel := Lib.hid hbel
                  clear hr hN hP hM hbel
                  go_upto_region 18 with fail
                  have hn0 : (n : Int) ≠ 0 := by omega
                  have hF0 : (F : Int) ≠ 0 := by omega
                  go_region
                  have eP : (j : Int) % (n : Int) = ((j % n : Nat) : Int) := by simp
                  have eQ : (x : Int) % (n : Int) = ((x % n : Nat) : Int) := by simp
                  simp only [eP, eQ]
                  clear eP eQ
                  obtain ⟨P, hP⟩ : ∃ P, j % n = P := ⟨_, rfl⟩
                  obtain ⟨Q, hQ⟩ : ∃ Q, x % n = Q := ⟨_, rfl⟩
                  have hPn : P < n := by rw [← hP]; exact Nat.mod_lt _ (by omega)
                  have hQn : Q < n := by rw [← hQ]; exact Nat.mod_lt _ (by omega)
                  rw [hP, hQ]
                  clear hP hQ
                  obtain ⟨zP, hzP⟩ : ∃ z, at_ l P = z := ⟨_, rfl⟩
                  obtain ⟨zQ, hzQ⟩ : ∃ z, at_ l Q = z := ⟨_, rfl⟩
                  have HM1 := Lib.hid HM0.out.drew
                  clear HM0 HBel cv hbl
                  generalize wr.drew = wr1 at *
                  have cP := HM1.out.cellT HN0.out.len hPn
                  have cQ := HM1.out.cellT HN0.out.len hQn
                  rw [hzP] at cP
                  rw [hzQ] at cQ
                  have hP3 : (P : Int) < (n : Int) := by omega
                  have hQ3 : (Q : Int) < (n : Int) := by omega
                  have hN1 := HN0.out.swap hPn hQn
                  rw [hzP, hzQ] at hN1
                  have HN1 := Lib.hid hN1
                  clear hN1 hzP hzQ
                  go_upto_region 19 with fail
                  go_region
                  have HM2 := Lib.hid HM1.out.drew
                  clear cP cQ HM1
                  generalize wr1.drew = wr2 at *
                  have HM3 := Lib.hid ((HM2.out.setT P zQ).setT Q zP)
                  have fP := HM2.out.t.frozenAt P
                  have fQ := (HM2.out.setT P zQ).t.frozenAt Q
                  have sP := HM2.out.cellT HN0.out.len hPn
                  have sQ := (HM2.out.setT P zQ).cellT (by rw [List.length_set]; exact HN0.out.len) hQn
                  go_upto_region 21 with fail
                  generalize (wr2.setCell ⟨gt, P, none⟩ (.int .i64 zQ)).setCell ⟨gt, Q, none⟩ (.int .i64 zP) = wr3 at *
                  clear fP fQ sP sQ HM2
                  go_region
                  have HM4 := Lib.hid HM3.out.drew
                  clear HM3
                  generalize wr3.drew = wr4 at *
                  have eP : (j : Int) % (F : Int) = ((j % F : Nat) : Int) := by simp
                  have eQ : (x : Int) % (F : Int) = ((x % F : Nat) : Int) := by simp
                  simp only [eP, eQ]
                  clear eP eQ hPn hQn hP3 hQ3
                  obtain ⟨R, hR⟩ : ∃ R, j % F = R := ⟨_, rfl⟩
                  obtain ⟨S, hS_⟩ : ∃ S, x % F = S := ⟨_, rfl⟩
                  have hRF : R < F := by rw [← hR]; exact Nat.mod_lt _ (by omega)
                  have hSF : S < F := by rw [← hS_]; exact Nat.mod_lt _ (by omega)
                  rw [hR, hS_]
                  clear hR hS_
                  obtain ⟨yR, hyR⟩ : ∃ z, p.getD R 0 = z := ⟨_, rfl⟩
                  obtain ⟨yS, hyS⟩ : ∃ z, p.getD S 0 = z := ⟨_, rfl⟩
                  have cR := HM4.out.cellP HP0.out.len hRF
                  have cS := HM4.out.cellP HP0.out.len hSF
                  rw [hyR] at cR
                  rw [hyS] at cS
                  have hR3 : (R : Int) < (F : Int) := by omega
                  have hS3 : (S : Int) < (F : Int) := by omega
                  have hP1 := HP0.out.swap hRF hSF
                  rw [hyR, hyS] at hP1
                  have HP1 := Lib.hid hP1
                  clear hP1 hyR hyS
                  go_upto_region 22 with fail
                  go_region
                  have HM5 := Lib.hid HM4.out.drew
                  clear cR cS HM4
                  generalize wr4.drew = wr5 at *
                  have HM6 := Lib.hid ((HM5.out.setP R yS).setP S yR)
                  have fR := HM5.out.q.frozenAt R
                  have fS := (HM5.out.setP R yS).q.frozenAt S
                  have sR := HM5.out.cellP HP0.out.len hRF
                  have sS := (HM5.out.setP R yS).cellP (by rw [List.length_set]; exact HP0.out.len) hSF
                  go_upto_region 24 with fail
                  generalize (wr5.setCell ⟨gp, R, none⟩ (.int .i64 (yS : Int))).setCell ⟨gp, S, none⟩ (.int .i64 (yR : Int)) = wr6 at *
                  clear fR fS sR sS HM5 HP0
                  generalize (p.set R yS).set S yR = p1 at *
                  generalize (l.set P zQ).set Q zP = l1 at *
                  obtain ⟨zR, hzR⟩ : ∃ z, p1.getD R 0 = z := ⟨_, rfl⟩
                  have cR := HM6.out.cellP HP1.out.len hRF
                  rw [hzR] at cR
                  have hv : ((zR - zR % 3 + x / 4 % 3 : Nat) : Int) = (zR : Int) - (zR : Int) % 3 + (x : Int) / 4 % 3 := by omega
                  have hzb : zR < 3 * F := by
                    rw [← hzR, getN (by rw [HP1.out.len]; exact hRF)]
                    exact HP1.out.rng _ (List.getElem_mem _)
                  have fR := HM6.out.drew.q.frozenAt R
                  have HP2 := Lib.hid (HP1.out.turn hRF (c := zR - zR % 3 + x / 4 % 3) (by rw [hzR]; omega))
                  have HM7 := Lib.hid (HM6.out.drew.setP R (zR - zR % 3 + x / 4 % 3))
                  rw [hv] at HM7
                  clear hzR hv HM6 HP1
                  refine wp_region_U 18 (fun w' => w'.cell? ⟨gp, R, none⟩ = some (.int .i64 (zR : Int)) ∧ w'.frozen? ⟨gp, R, none⟩ = false) (by kernel_rfl) ⟨cR, fR⟩ ?_
                  change AtU _ _ _ _ _ _ 19 (Array.replicate 19 false) _ _
                  refine AtU.take (i := 0) (v := ?_) rfl (by kernel_rfl) (by kernel_rfl) (fun _ _ _ h => h) (by rfl) ?_ ?_
                  rotate_left 1
                  · intro w9 hSw; (try dsimp only at hSw); go_simp; try with_reducible rfl
                  try simp only [Act.put, List.setIfInBounds_toArray, List.set_cons_zero, List.set_cons_succ]
                  refine AtU.take (i := 1) (v := ?_) rfl (by kernel_rfl) (by kernel_rfl) (fun _ _ _ h => h) (by rfl) ?_ ?_
                  rotate_left 1
                  · intro w9 hSw; (try dsimp only at hSw); go_simp; try with_reducible rfl
                  try simp only [Act.put, List.setIfInBounds_toArray, List.set_cons_zero, List.set_cons_succ]
                  refine AtU.take (i := 2) (v := ?_) rfl (by kernel_rfl) (by kernel_rfl) (fun _ _ _ h => h) (by rfl) ?_ ?_
                  rotate_left 1
                  · intro w9 hSw; (try dsimp only at hSw); go_simp; try with_reducible rfl
                  try simp only [Act.put, List.setIfInBounds_toArray, List.set_cons_zero, List.set_cons_succ]
                  refine AtU.take (i := 3) (v := ?_) rfl (by kernel_rfl) (by kernel_rfl) (fun _ _ _ h => h) (by rfl) ?_ ?_
                  rotate_left 1
                  · intro w9 hSw; (try dsimp only at hSw); go_simp; try with_reducible rfl
                  try simp only [Act.put, List.setIfInBounds_toArray, List.set_cons_zero, List.set_cons_succ]
                  refine AtU.take (i := 4) (v := ?_) rfl (by kernel_rfl) (by kernel_rfl) (fun _ _ _ h => h) (by rfl) ?_ ?_
                  rotate_left 1
                  · intro w9 hSw; (try dsimp only at hSw); go_simp; try with_reducible rfl
                  try simp only [Act.put, List.setIfInBounds_toArray, List.set_cons_zero, List.set_cons_succ]
                  refine AtU.take (i := 5) (v := ?_) rfl (by kernel_rfl) (by kernel_rfl) (fun _ _ _ h => h) (by rfl) ?_ ?_
                  rotate_left 1
                  · intro w9 hSw; (try dsimp only at hSw); go_simp; try with_reducible rfl
                  try simp only [Act.put, List.setIfInBounds_toArray, List.set_cons_zero, List.set_cons_succ]
                  refine AtU.take (i := 6) (v := ?_) rfl (by kernel_rfl) (by kernel_rfl) (fun _ _ _ h => h) (by rfl) ?_ ?_
                  rotate_left 1
                  · intro w9 hSw; (try dsimp only at hSw); go_simp; try with_reducible rfl
                  try simp only [Act.put, List.setIfInBounds_toArray, List.set_cons_zero, List.set_cons_succ]
                  refine AtU.take (i := 7) (v := ?_) rfl (by kernel_rfl) (by kernel_rfl) (fun _ _ _ h => h) (by rfl) ?_ ?_
                  rotate_left 1
                  · intro w9 hSw; (try dsimp only at hSw); go_simp; try with_reducible rfl
                  try simp only [Act.put, List.setIfInBounds_toArray, List.set_cons_zero, List.set_cons_succ]
                  refine AtU.take (i := 8) (v := ?_) rfl (by kernel_rfl) (by kernel_rfl) (fun _ _ _ h => h) (by rfl) ?_ ?_
                  rotate_left 1
                  · intro w9 hSw; (try dsimp only at hSw); go_simp; try with_reducible rfl
                  try simp only [Act.put, List.setIfInBounds_toArray, List.set_cons_zero, List.set_cons_succ]
                  refine AtU.take (i := 9) (v := ?_) rfl (by kernel_rfl) (by kernel_rfl) (fun _ _ _ h => h) (by rfl) ?_ ?_
                  rotate_left 1
                  · intro w9 hSw; (try dsimp only at hSw); go_simp; try with_reducible rfl
                  try simp only [Act.put, List.setIfInBounds_toArray, List.set_cons_zero, List.set_cons_succ]
                  refine AtU.take (i := 10) (v := ?_) rfl (by kernel_rfl) (by kernel_rfl) (fun _ _ _ h => h) (by rfl) ?_ ?_
                  rotate_left 1
                  · intro w9 hSw; (try dsimp only at hSw); go_simp; try with_reducible rfl
                  try simp only [Act.put, List.setIfInBounds_toArray, List.set_cons_zero, List.set_cons_succ]
                  refine AtU.take (i := 11) (v := ?_) rfl (by kernel_rfl) (by kernel_rfl) (fun _ _ _ h => h) (by rfl) ?_ ?_
                  rotate_left 1
                  · intro w9 hSw; (try dsimp only at hSw); go_simp; try with_reducible rfl
                  try simp only [Act.put, List.setIfInBounds_toArray, List.set_cons_zero, List.set_cons_succ]
                  refine AtU.take (i := 12) (v := ?_) rfl (by kernel_rfl) (by kernel_rfl) (fun _ _ _ h => h) (by rfl) ?_ ?_
                  rotate_left 1
                  · intro w9 hSw; (try dsimp only at hSw); go_simp; try with_reducible rfl
                  try simp only [Act.put, List.setIfInBounds_toArray, List.set_cons_zero, List.set_cons_succ]
                  refine AtU.take (i := 13) (v := ?_) rfl (by kernel_rfl) (by kernel_rfl) (fun _ _ _ h => h) (by rfl) ?_ ?_
                  rotate_left 1
                  · intro w9 hSw; (try dsimp only at hSw); go_simp; try with_reducible rfl
                  try simp only [Act.put, List.setIfInBounds_toArray, List.set_cons_zero, List.set_cons_succ]
                  refine AtU.take (i := 14) (v := ?_) rfl (by kernel_rfl) (by kernel_rfl) (fun _ _ _ h => h) (by rfl) ?_ ?_
                  rotate_left 1
                  · intro w9 hSw; (try dsimp only at hSw); go_simp; try with_reducible rfl
                  try simp only [Act.put, List.setIfInBounds_toArray, List.set_cons_zero, List.set_cons_succ]
                  refine AtU.take (i := 15) (v := ?_) rfl (by kernel_rfl) (by kernel_rfl) (fun _ _ _ h => h) (by rfl) ?_ ?_
                  rotate_left 1
                  · intro w9 hSw; (try dsimp only at hSw); go_simp; try with_reducible rfl
                  try simp only [Act.put, List.setIfInBounds_toArray, List.set_cons_zero, List.set_cons_succ]
                  refine AtU.take (i := 16) (v := ?_) rfl (by kernel_rfl) (by kernel_rfl) (fun _ _ _ h => h) (by rfl) ?_ ?_
                  rotate_left 1
                  · intro w9 hSw; (try dsimp only at hSw); go_simp; try with_reducible rfl
                  try simp only [Act.put, List.setIfInBounds_toArray, List.set_cons_zero, List.set_cons_succ]
                  refine AtU.take (i := 17) (v := ?_) rfl (by kernel_rfl) (by kernel_rfl) (fun _ _ _ h => h) (by rfl) ?_ ?_
                  rotate_left 1
                  · intro w9 hSw; (try dsimp only at hSw); go_simp; try with_reducible rfl
                  try simp only [Act.put, List.setIfInBounds_toArray, List.set_cons_zero, List.set_cons_succ]
                  refine AtU.last (i := 18) rfl (by kernel_rfl) (fun K hK => ?_)
                  go_simp
                  refine hK.out _ _ ?_
                  clear hK K fR cR
                  go_wp2
                  go_roundw
                  case measure => simp [intOf]; omega
                  case rel =>
                    exact ⟨j + 1, l1, _, by omega, by go_num, HN1.out, HP2.out, HM7.out⟩
                · obtain rfl : mb = j := by omega
                  have HNl := Lib.hid hN
                  have HPl := Lib.hid hP
                  have HM3 := Lib.hid hM
                  have hb3 := HB2.out.trans (hM.bel.mono HB2.out.size)
                  have HB3 := Lib.hid hb3
                  have HS3 := Lib.hid (HS2.out.below hM.bel HS2.out.lt)
                  have HT3 := Lib.hid (HT2.out.below hM.bel)
                  have hfit := mv_fits1 HSi.out.surf
                  have hfit2 := mv_fits2 HSi.out.surf hN
                  have HRn := Lib.hid (rename_any n (.slice a F c) (.slice (some ⟨gt, 0, none⟩) n n) T l wr (HRT.out wr hb3) (IntsRd.of_row hM.t hN.len) hfit hN)
                  have hCl : AllC T.length p := by rw [HFl.out]; exact hP
                  obtain ⟨T1, hT1⟩ : ∃ T1, T.map (renT (toF l)) = T1 := ⟨_, rfl⟩
                  have hT1l : T1.length = F := by rw [← hT1, List.length_map, HFl.out]
                  rw [hT1] at hfit2 HRn
                  have HMv := Lib.hid (fun (r : Nat) (hr : RootOk p k T.length r) => moved_all HSi.out hN hCl HK.out hr)
                  rw [hT1] at HMv
                  obtain ⟨M, hMM⟩ : ∃ M, pickM T1 p = M := ⟨_, rfl⟩
                  rw [hMM] at HMv
                  have hMl : M.length = F := by rw [← hMM, pickM, List.length_map, hP.len]
                  have HPk := Lib.hid (fun (W : World) (v : Value) (hv : TrisRd W v T1) (hq : MvSt w2 W gt gp n F l p) => pick_any (n : Int) v (.slice (some ⟨gp, 0, none⟩) F F) T1 p W hv (IntsRd.of_row hq.q (by simp [hP.len])) hfit2 (by rw [hT1l, ← HFl.out]; exact hCl.rng) (by rw [hP.len]; omega))
                  rw [hMM, hP.len] at HPk
                  have HSu := Lib.hid (show Surf (n : Int) M from by have := moved_surf HSi.out.surf hN hCl; rwa [hT1, hMM] at this)
                  have HL := Lib.hid (And.intro hT1l hMl)
                  obtain ⟨l0, x0, -, x1, -⟩ := HS3.out.two
                  clear hN hP hM hb3 hfit hfit2 hCl hT1 hT1l hMM hMl HM2 HC HN
                  go_wp2_with fail
                  refine HRn.out.mono ?_
                  rintro e w3 ⟨vT1, rfl, hrT, hb3⟩
                  rw [HFl.out, ← HL.out.1] at hrT
                  have HTr1 := Lib.hid (TrisRd.of_row hrT)
                  obtain ⟨a3, c3, rfl⟩ := ownsRow_slice hrT
                  rw [HL.out.1] at hrT HTr1 ⊢
                  have hA3 := (Below.refl w3.heap.size w3).alloc (Nat.le_refl _) (.cells #[.int .i64 (n : Int), .slice a3 F c3] 24)
                  have HM4 := Lib.hid ((HM3.out.below hb3).below hA3)
                  have HB4 := Lib.hid (bOn (bOn HB3.out hb3) hA3)
                  have HT4 := Lib.hid ((HT3.out.below hb3).below hA3)
                  have HTr4 := Lib.hid (HTr1.out.below hA3)
                  have HQ4 := Lib.hid (Blk.new w3 24 #[.int .i64 (n : Int), .slice a3 F c3])
                  generalize hW4 : w3.alloc (.cells #[.int .i64 (n : Int), .slice a3 F c3] 24) = w4 at *
                  clear hrT hb3 hA3 HRn x0 x1 l0
                  obtain ⟨l0, x0, -, x1, -⟩ := HQ4.out.two
                  have HPk4 := Lib.hid (HPk.out w4 _ HTr4.out HM4.out)
                  go_wp2_with fail
                  refine HPk4.out.mono ?_
                  rintro e w5 ⟨vT5, rfl, hrT, hb5⟩
                  rw [← HL.out.2] at hrT
                  have HTr5 := Lib.hid (TrisRd.of_row hrT)
                  obtain ⟨a5, c5, rfl⟩ := ownsRow_slice hrT
                  rw [HL.out.2] at hrT HTr5 ⊢
                  have hA5 := (Below.refl w5.heap.size w5).alloc (Nat.le_refl _) (.cells #[.int .i64 (n : Int), .slice a5 F c5] 24)
                  have HM6 := Lib.hid ((HM4.out.below hb5).below hA5)
                  have HB6 := Lib.hid (bOn (bOn HB4.out hb5) hA5)
                  have HT6 := Lib.hid ((HT4.out.below hb5).below hA5)
                  have HTr6 := Lib.hid (HTr5.out.below hA5)
                  have HQ6 := Lib.hid (Blk.new w5 24 #[.int .i64 (n : Int), .slice a5 F c5])
                  generalize hW6 : w5.alloc (.cells #[.int .i64 (n : Int), .slice a5 F c5] 24) = w6 at *
                  clear hrT hb5 hA5 HPk HPk4 x0 x1 l0 HM4 HB4 HT4 HTr4 HQ4 HM3 HB3 HS3 HT3 HTr1 HTr5 hW4
                  obtain ⟨l0, x0, -, x1, -⟩ := HQ6.out.two
                  have HNw := Lib.hid (new_any (n : Int) _ M w6 HTr6.out (by rw [HL.out.2]; omega))
                  go_upto_region 28 with fail
                  go_wp2_with fail
                  refine HNw.out.mono ?_
                  rintro e w7 ⟨hx, hb7⟩
                  rcases hx with ⟨-, g2, rfl, hTb, hg2⟩ | ⟨hno, -⟩
                  · have hA7 := (Below.refl w7.heap.size w7).alloc (Nat.le_refl _) (.cells #[.int .i64 0, .int .i64 0, .int .i64 0] 35)
                    have HM8 := Lib.hid ((HM6.out.below hb7).below hA7)
                    have HB8 := Lib.hid (bOn (bOn HB6.out hb7) hA7)
                    have HT8 := Lib.hid ((HT6.out.below hb7).below hA7)
                    have HTb8 := Lib.hid (hTb.below hA7)
                    have HQ8 := Lib.hid (Blk.new w7 35 #[.int .i64 0, .int .i64 0, .int .i64 0])
                    clear hb7 hA7 HNw x0 x1 l0 HM6 HB6 HT6 HTr6 HQ6 hTb hW6
                    obtain ⟨l0, x0, -, x1, -, x2, -⟩ := HQ8.out.three
                    simp only [witV]
                    have hkF : k < 3 * F := by rw [← HFl.out]; exact HK.out
                    go_upto_region 31 with fail
                    clear x0 x1 x2 l0 HQ8
                    generalize w7.alloc (.cells #[.int .i64 0, .int .i64 0, .int .i64 0] 35) = w8 at *
                    go_wp2
                    go_loopw [26, 182] (fun v26 i W => ∃ j r : Nat, j ≤ F ∧ i = .int .i64 j ∧ v26 = .int .i64 r ∧ RootOk p k j r ∧ W = w8) (fun _ i _ => F - (intOf i).toNat)
                    case atStart => exact ⟨0, 0, Nat.zero_le _, rfl, rfl, fun i k' hi => absurd hi (Nat.not_lt_zero _), rfl⟩
                    case round =>
                      rename World => wr2
                      obtain ⟨j2, r2, hj2, rfl, rfl, hR, hwq⟩ := hrel
                      have hwq := hwq.symm
                      subst hwq
                      by_cases hlt2 : j2 < F
                      · have hc2 := HM8.out.cellP HPl.out.len hlt2
                        have hj4 : (j2 : Int) < (F : Int) := by omega
                        obtain ⟨z, hz⟩ : ∃ z, p.getD j2 0 = z := ⟨_, rfl⟩
                        have hpz : p[j2]? = some z := by rw [← hz, getN (by rw [HPl.out.len]; exact hlt2)]; exact List.getElem?_eq_getElem _
                        rw [hz] at hc2
                        have hz3 : z < 3 * F := HPl.out.rng z (List.mem_of_getElem? hpz)
                        have hRn := root_next HPl.out hR hpz
                        by_cases he : z / 3 = k / 3
                        · rw [if_pos he] at hRn
                          have he3 : (z : Int) / 3 = (k : Int) / 3 := by omega
                          have HRn2 := Lib.hid hRn
                          clear hR hRn hz hpz
                          go_wp2
                          refine ⟨⟨j2 + 1, 3 * j2 + (k % 3 + 3 - z % 3) % 3, by omega, by go_num, ?_, HRn2.out, trivial⟩, ?_⟩
                          · congr 1; omega
                          · simp [intOf]; omega
                        · rw [if_neg he] at hRn
                          have he3 : ¬ (z : Int) / 3 = (k : Int) / 3 := by omega
                          have he4 : ((z : Int) / 3 == (k : Int) / 3) = false := by simpa using he3
                          have he5 : decide ((z : Int) / 3 = (k : Int) / 3) = false := by simpa using he3
                          have HRn2 := Lib.hid hRn
                          clear hR hRn hz hpz
                          go_wp2
                          exact ⟨⟨j2 + 1, r2, by omega, by go_num, rfl, HRn2.out, trivial⟩, by simp [intOf]; omega⟩
                      · obtain rfl : F = j2 := by omega
                        obtain ⟨hSM, hr2, hw, hlT, hlM, hall⟩ := HMv.out r2 (by rw [HFl.out]; exact hR)
                        rw [HFl.out] at hr2
                        have HSM := Lib.hid hSM
                        have Hall := Lib.hid hall
                        obtain ⟨s1, hs1⟩ : ∃ s1, wordS (stepsM T k) = s1 := ⟨_, rfl⟩
                        have HWw := Lib.hid (And.intro hs1 (hw.trans hs1))
                        have HLl := Lib.hid (And.intro hlT hlM)
                        have HW1 := Lib.hid (walk_any HSi.out HT8.out HK.out)
                        clear hR hSM hall hw hs1 hlT hlM HMv HSu
                        go_wp2_with fail
                        refine HW1.out.mono ?_
                        rintro e w9 ⟨vV1, vC1, rfl, hV1, hC1, hb9⟩
                        have HV1 := Lib.hid (show IntsRd w9 vV1 (walkV T k) from IntsRd.of_row hV1 rfl)
                        have hl1 : ((beginS T k).come ++ newV T (stepsM T k)).length = n := HLl.out.1
                        rw [hl1] at hV1
                        obtain ⟨aV1, cV1, rfl⟩ := ownsRow_slice hV1
                        obtain ⟨aC1, cC1, rfl⟩ := ownsRow_slice hC1
                        obtain ⟨nC1, hnC⟩ : ∃ nC, (stepsM T k).length.succ = nC := ⟨_, rfl⟩
                        rw [hnC, HWw.out.1]
                        have hA9 := (Below.refl w9.heap.size w9).alloc (Nat.le_refl _) (.cells #[.string s1, .slice aV1 n cV1, .slice aC1 nC1 cC1] 39)
                        have HM10 := Lib.hid ((HM8.out.below hb9).below hA9)
                        have HB10 := Lib.hid (bOn (bOn HB8.out hb9) hA9)
                        have HTb10 := Lib.hid ((HTb8.out.below hb9).below hA9)
                        have HV10 := Lib.hid (HV1.out.below hA9)
                        have HX10 := Lib.hid (Blk.new w9 39 #[.string s1, .slice aV1 n cV1, .slice aC1 nC1 cC1])
                        generalize hW10 : w9.alloc (.cells #[.string s1, .slice aV1 n cV1, .slice aC1 nC1 cC1] 39) = w10 at *
                        clear hV1 hC1 hl1 hnC hb9 hA9 HW1 HM8 HB8 HTb8 HT8 HV1
                        have HW2 := Lib.hid (walk_any HSM.out HTb10.out (c := r2) (by rw [HL.out.2]; exact hr2))
                        go_upto_region 39 with fail
                        go_wp2_with fail
                        refine HW2.out.mono ?_
                        rintro e w11 ⟨vV2, vC2, rfl, hV2, hC2, hb11⟩
                        have HV2 := Lib.hid (show IntsRd w11 vV2 (walkV M r2) from IntsRd.of_row hV2 rfl)
                        have hl2 : ((beginS M r2).come ++ newV M (stepsM M r2)).length = n := HLl.out.2
                        rw [hl2] at hV2
                        obtain ⟨aV2, cV2, rfl⟩ := ownsRow_slice hV2
                        obtain ⟨aC2, cC2, rfl⟩ := ownsRow_slice hC2
                        obtain ⟨nC2, hnC⟩ : ∃ nC, (stepsM M r2).length.succ = nC := ⟨_, rfl⟩
                        rw [hnC, HWw.out.2]
                        have hA11 := (Below.refl w11.heap.size w11).alloc (Nat.le_refl _) (.cells #[.string s1, .slice aV2 n cV2, .slice aC2 nC2 cC2] 39)
                        have HM12 := Lib.hid ((HM10.out.below hb11).below hA11)
                        have HB12 := Lib.hid (bOn (bOn HB10.out hb11) hA11)
                        have HV12 := Lib.hid ((HV10.out.below hb11).below hA11)
                        have HU12 := Lib.hid (HV2.out.below hA11)
                        have HX12 := Lib.hid ((HX10.out.below hb11 HX10.out.lt).below hA11 (HX10.out.below hb11 HX10.out.lt).lt)
                        have HY12 := Lib.hid (Blk.new w11 39 #[.string s1, .slice aV2 n cV2, .slice aC2 nC2 cC2])
                        generalize hW12 : w11.alloc (.cells #[.string s1, .slice aV2 n cV2, .slice aC2 nC2 cC2] 39) = w12 at *
                        clear hV2 hC2 hl2 hnC hb11 hA11 HW2 HM10 HB10 HTb10 HV10 HX10 HV2 hW10
                        obtain ⟨lx, x0, -, x1, -⟩ := HX12.out.three
                        obtain ⟨ly, y0, -, y1, -⟩ := HY12.out.three
                        have hq : (s1.toList == s1.toList) = true := by simp
                        go_upto_region 42 with fail
                        go_wp2
                        clear x0 x1 y0 y1 lx ly hW12 hq
                        go_loopw [234] (fun i W => ∃ j : Nat, j ≤ n ∧ i = .int .i64 j ∧ Below w12.heap.size w12 W) (fun i _ => n - (intOf i).toNat)
                        case atStart => exact ⟨0, Nat.zero_le _, rfl, Below.refl _ _⟩
                        case round =>
                          rename World => wz
                          obtain ⟨j3, hj3, rfl, hbz⟩ := hrel
                          by_cases hlt3 : j3 < n
                          · obtain ⟨u, u', e1, hun, e2, e3⟩ := Hall.out j3 hlt3
                            have hXz := HX12.out.below hbz HX12.out.lt
                            have hYz := HY12.out.below hbz HY12.out.lt
                            have hMz := HM12.out.below hbz
                            obtain ⟨lx, x0, -, x1, -⟩ := hXz.three
                            obtain ⟨ly, y0, -, y1, -⟩ := hYz.three
                            obtain ⟨a', c', f1, -, g1⟩ := HV12.out.below hbz
                            obtain ⟨b1, o1, rfl, hbl1, cv1⟩ := g1 j3 _ e1
                            obtain ⟨a', c', f2, -, g2'⟩ := HU12.out.below hbz
                            obtain ⟨b2, o2, rfl, hbl2, cv2⟩ := g2' j3 _ e2
                            obtain ⟨rfl, -, -⟩ := Value.slice.inj f1
                            obtain ⟨rfl, -, -⟩ := Value.slice.inj f2
                            have cu := hMz.cellT HNl.out.len hun
                            rw [e3] at cu
                            have hj5 : (j3 : Int) < (n : Int) := by omega
                            have hu5 : (u : Int) < (n : Int) := by omega
                            have HBz := Lib.hid hbz
                            clear e1 e2 e3 hXz hYz hMz g1 g2' hbz f1 f2
                            go_upto_region 45 with fail
                            go_region
                  
                            go_wp2
                            go_roundw
                            case measure => simp [intOf]; omega
                            case rel => exact ⟨j3 + 1, by omega, by go_num, below_d HBz.out⟩
                          · go_wp2
                            go_ret
                            exact ⟨rfl, bOn HB12.out hbz⟩
                  · exact absurd HSu.out hno
end Go.Proofs.YtpnkhgjjlionnaaGreat
namespace Go.Proofs.YtpnkhgjjlionnaaGreat
open Go.RowKit

theorem three_cells {P : Program} {H : Type} {enc : TypeId × Value → H} {w : World} {base : Nat} {spare : Nat → Bool} {held : Bool} {t u : TypeId} {m : Nat} {cs : List Value} {x : DataW H × List MemPlace}
    (ht : P.underlying t = some (.array 3 u)) (hu : P.underlying u = some (.int .i64)) (hc : P.cellsOf u = 1) (hl : cs.length = 3) (h : DataW.trod enc P w base spare held m t cs = some x) :
    ∃ a b c : Int, cs = [.int .i64 a, .int .i64 b, .int .i64 c] := by
  obtain ⟨xs, n, -, -, -, hx, hel⟩ := DataW.trod_array ht h
  rw [hc] at hel
  match cs, hl with
  | [v0, v1, v2], _ =>
    have key : ∀ i v, i < 3 → ([v0, v1, v2].drop (i * 1)).take 1 = [v] → ∃ z : Int, v = .int .i64 z := by
      intro i v hi hv
      have e := hel i hi
      rw [hv] at e
      obtain ⟨y, hy⟩ : ∃ y, xs[i]? = some y := ⟨xs[i]'(by omega), List.getElem?_eq_getElem _⟩
      rw [hy] at e
      obtain ⟨z, hz, -, -⟩ := DataW.trod_int hu e
      exact ⟨z, by simpa using hz⟩
    obtain ⟨a, rfl⟩ := key 0 v0 (by omega) rfl
    obtain ⟨b, rfl⟩ := key 1 v1 (by omega) rfl
    obtain ⟨c, rfl⟩ := key 2 v2 (by omega) rfl
    exact ⟨a, b, c, rfl⟩
theorem tris_open {H : Type} {enc : TypeId × Value → H} {w : World} {base : Nat} {spare : Nat → Bool} {held : Bool} {m : Nat} {v : Value} {x : DataW H × List MemPlace}
    (h : DataW.trod enc Tryz.prog w base spare held m 22 [v] = some x) : ∃ T, TrisRd w v T := by
  rcases Go.Deep.open_slice Tryz.underlying22 h with ⟨e1, -⟩ | ⟨a, len, cap, q, n, D, Pl, e1, hb, hl, hm, hq, -, hall⟩
  · have e : v = .slice none 0 0 := by simpa using e1
    subst e
    exact ⟨[], none, 0, rfl, by simp, by decide, fun k x y z hk => by simp at hk⟩
  · have e : v = .slice (some a) len cap := by simpa using e1
    subst e
    have h3 : Tryz.prog.cellsOf 60 = 3 := by kernel_rfl
    have hlq : len ≤ q := by rw [hq]; split <;> omega
    have key : ∀ i, ∃ t : Tr, i < len → w.cell? (a.add (i * 3)) = some (.int .i64 t.1) ∧ w.cell? ((a.add (i * 3)).add 1) = some (.int .i64 t.2.1) ∧ w.cell? ((a.add (i * 3)).add 2) = some (.int .i64 t.2.2) := by
      intro i
      by_cases hi : i < len
      · obtain ⟨cs, hcs, htr⟩ := hall i (by omega)
        rw [h3] at hcs
        obtain ⟨-, hcl, hce⟩ := World.cells?_some hcs
        obtain ⟨x, y, z, rfl⟩ := three_cells Tryz.underlying60 Tryz.underlying3 (by kernel_rfl) hcl htr
        refine ⟨(x, y, z), fun _ => ⟨?_, hce 1 (by omega), hce 2 (by omega)⟩⟩
        have := hce 0 (by omega)
        have e0 : (a.add (i * 3)).add 0 = a.add (i * 3) := by simp [Addr.add]
        rw [e0] at this
        exact this
      · exact ⟨(0, 0, 0), fun h => absurd h hi⟩
    obtain ⟨f, hf⟩ := Classical.axiomOfChoice key
    refine ⟨(List.range len).map f, some a, cap, by simp, by simpa using hl, by unfold maxLen at hm; omega, fun k x y z hk => ?_⟩
    have hk' : k < len := by
      have := (List.getElem?_eq_some_iff.1 hk).1
      simpa using this
    rw [List.getElem?_map, List.getElem?_range hk'] at hk
    have hfk : f k = (x, y, z) := by simpa using hk
    obtain ⟨c0, c1, c2⟩ := hf k hk'
    rw [hfk] at c0 c1 c2
    obtain ⟨b, off, spot⟩ := a
    have hspot : spot = none := by simpa [Addr.add] using World.cell?_spot (hf 0 (by omega)).1
    subst hspot
    rw [Addr.add_lit] at c0
    rw [Addr.add_lit, Addr.add_lit] at c1 c2
    refine ⟨b, off, rfl, ?_, c0, c1, c2⟩
    rcases Nat.lt_or_ge b w.heap.size with hlt | hge
    · exact hlt
    · exfalso
      unfold World.cell? at c0
      simp [Array.getElem?_eq_none hge] at c0
set_option maxRecDepth 100000 in
theorem soup_open {H : Type} {enc : TypeId × Value → H} {w : World} {base : Nat} {spare : Nat → Bool} {held : Bool} {r : Go.Reach} {b0 : Nat} {v : Value} {d : DataW H} {p : List MemPlace}
    (hv : Value.okWide Tryz.prog w r b0 24 v) (h : DataW.Trod enc Tryz.prog w base spare held 24 v d p) :
    ∃ (N : Int) (vT : Value) (T : List Tr), v = .agg #[.int .i64 N, vT] ∧ TrisRd w vT T ∧ (Lit.int .i64 N).wf = true := by
  obtain ⟨v0, v1, y0, y1, n, rfl, -, -, h0, h1⟩ := Go.Joins.open_agg2 Tryz.underlying24 (by kernel_rfl) (by kernel_rfl) hv h
  obtain ⟨N, e0, -, hw⟩ := DataW.trod_int Tryz.underlying3 h0
  obtain ⟨T, hT⟩ := tris_open h1
  exact ⟨N, v1, T, by simpa using e0, hT, hw⟩
end Go.Proofs.YtpnkhgjjlionnaaGreat
namespace Go.Proofs.YtpnkhgjjlionnaaGreat
open Go.RowKit Go.WideShapes Go.ChangeShapes Go.Joins Go.Deep

theorem u8_rng {n : Int} (h : (Lit.int .u8 n).wf = true) : 0 ≤ n ∧ n ≤ 255 := by
  have h3 : IntKind.u8.min = 0 := by decide
  have h4 : IntKind.u8.max = 255 := by decide
  simp [Lit.wf, h3, h4] at h
  omega
theorem bytes_open {H : Type} {enc : TypeId × Value → H} {w : World} {base : Nat} {spare : Nat → Bool} {held : Bool} {m : Nat} {v : Value} {x : DataW H × List MemPlace}
    (h : DataW.trod enc Tryz.prog w base spare held m 25 [v] = some x) : ∃ mb, BytesRd w v mb := by
  rcases Go.Deep.open_slice Tryz.underlying25 h with ⟨e1, -⟩ | ⟨a, len, cap, q, n, D, Pl, e1, hb, hl, hm, hq, -, hall⟩
  · have e : v = .slice none 0 0 := by simpa using e1
    subst e
    exact ⟨0, none, 0, rfl, by decide, fun k hk => absurd hk (Nat.not_lt_zero _)⟩
  · have e : v = .slice (some a) len cap := by simpa using e1
    subst e
    have h1 : Tryz.prog.cellsOf 5 = 1 := by kernel_rfl
    have hlq : len ≤ q := by rw [hq]; split <;> omega
    have key : ∀ i, ∃ t : Int, i < len → (0 ≤ t ∧ t ≤ 255) ∧ w.cell? (a.add i) = some (.int .u8 t) := by
      intro i
      by_cases hi : i < len
      · obtain ⟨cs, hcs, htr⟩ := hall i (by omega)
        rw [h1] at hcs
        obtain ⟨-, hcl, hce⟩ := World.cells?_some hcs
        obtain ⟨z, hz, -, hwf⟩ := DataW.trod_int Tryz.underlying5 htr
        subst hz
        refine ⟨z, fun _ => ⟨u8_rng hwf, ?_⟩⟩
        have := hce 0 (by omega)
        have e0 : (a.add (i * 1)).add 0 = a.add i := by simp [Addr.add]
        rw [e0] at this
        exact this
      · exact ⟨0, fun h => absurd h hi⟩
    obtain ⟨f, hf⟩ := Classical.axiomOfChoice key
    refine ⟨len, some a, cap, rfl, by unfold maxLen at hm; omega, fun k hk => ?_⟩
    obtain ⟨hr, c0⟩ := hf k hk
    obtain ⟨b, off, spot⟩ := a
    have hspot : spot = none := by simpa [Addr.add] using World.cell?_spot (hf 0 (by omega)).2
    subst hspot
    rw [Addr.add_lit] at c0
    refine ⟨b, off, (f k).toNat, rfl, ?_, by omega, by rw [c0, show (((f k).toNat : Nat) : Int) = f k from Int.toNat_of_nonneg hr.1]⟩
    rcases Nat.lt_or_ge b w.heap.size with hlt | hge
    · exact hlt
    · exfalso
      unfold World.cell? at c0
      simp [Array.getElem?_eq_none hge] at c0
set_option maxRecDepth 100000 in
theorem bytes_arg {H : Type} {enc : TypeId × Value → H} {w : World} {base : Nat} {spare : Nat → Bool} {held : Bool} {r : Go.Reach} {b0 : Nat} {v : Value} {d : DataW H} {p : List MemPlace}
    (hv : Value.okWide Tryz.prog w r b0 25 v) (h : DataW.Trod enc Tryz.prog w base spare held 25 v d p) : ∃ mb, BytesRd w v mb := by
  obtain ⟨a1, len, cap, rfl⟩ := okWide_slice Tryz.underlying25 hv
  obtain ⟨fuel, hf⟩ := h
  exact bytes_open (v := .slice a1 len cap) hf
end Go.Proofs.YtpnkhgjjlionnaaGreat
