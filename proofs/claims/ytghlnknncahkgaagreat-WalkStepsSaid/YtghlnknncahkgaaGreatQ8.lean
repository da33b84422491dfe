/-
  Texts joined by program: SurD Fit21 BrdM BrdE SteO BrdW BrdL BrdO WkBoth R21A R21R.
-/
import Derived.Test.YtghlnknncahkgaaGreatQ7
import Derived.Test.YtghlnknncahkgaaGreatQ4
import Derived.Test.YtghlnknncahkgaaGreatQ6
import Derived.Sort.LoopGhostIn
import Derived.Test.YtghlnknncahkgaaGreatQ2
import Derived.Maps.OwnIn
import Derived.Lib.Slices
import Derived.Deep.AppendLies
import Derived.RegionTactic
/-
  gypsumref09.All and Surface come to an end.
-/
namespace Go.Proofs.YtghlnknncahkgaaGreat
open Go.RowKit

theorem own_base9 {w : World} {base base' n s : Nat} {e : TypeId} {v : Value} {xs : List Value} (h : w.ownsRow base e s v n xs) (hb : base' ≤ base) : w.ownsRow base' e s v n xs := by
  obtain ⟨h1, h2 | ⟨g, cap, cur, rfl, a1, a2⟩⟩ := h
  · exact ⟨h1, .inl h2⟩
  · exact ⟨h1, .inr ⟨g, cap, cur, rfl, Nat.le_trans hb a1, a2⟩⟩
/-- A row of witnesses of the call's own, and its argument. -/
structure AS9 (w : World) (N : Int) (vT : Value) (v : Value) (m : Nat) (W : World) : Prop where
  row : ∃ xs, W.ownsRow w.heap.size 155 3 v m xs
  soup : Blk W w.heap.size 24 #[.int .i64 N, vT]
  below : Below w.heap.size w W
theorem AS9.le {w W W' : World} {N : Int} {vT v : Value} {m : Nat} (h : AS9 w N vT v m W) (hb : Below W.heap.size W W') : AS9 w N vT v m W' := by
  obtain ⟨⟨xs, h1⟩, h2, h3⟩ := h
  exact ⟨⟨xs, own_below9 h1 hb⟩, h2.below hb h2.lt, h3.trans (hb.mono h3.size)⟩
theorem AS9.form {w W : World} {N : Int} {vT v : Value} {m : Nat} (h : AS9 w N vT v m W) : ∃ a c, v = .slice a m c := by
  obtain ⟨⟨xs, h1⟩, -, -⟩ := h
  rcases h1.2 with ⟨rfl, h0⟩ | ⟨g, cap, cur, rfl, _⟩
  · rw [h0]; exact ⟨_, _, rfl⟩
  · exact ⟨_, _, rfl⟩
theorem AS9.ret {w W W' : World} {N : Int} {vT v v' : Value} {m : Nat} (h : AS9 w N vT v m W) {n : Nat} {xs : List Value} (h1 : W'.ownsRow W.heap.size 155 3 v' n xs) (hb : Below W.heap.size W W') : AS9 w N vT v' n W' :=
  ⟨⟨xs, own_base9 h1 h.below.size⟩, h.soup.below hb h.soup.lt, h.below.trans (hb.mono h.below.size)⟩
theorem AS9.app {w W W' : World} {N : Int} {vT v v' : Value} {m n : Nat} {xs : List Value} {o : Obj} (h : AS9 w N vT v m W) (h1 : W'.ownsRow w.heap.size 155 3 v' n xs) (hg : (W.alloc o).grownBy W' v.ownBlock) : AS9 w N vT v' n W' := by
  obtain ⟨⟨ys, h2⟩, h3, h4⟩ := h
  refine ⟨⟨xs, h1⟩, (h3.alloc _).grown hg (fun e => own_blk_ne h2 h3 (by decide) e.symm), ?_⟩
  exact h4.grown (gGrown (World.grownBy_alloc _ _ _) hg (row := v.ownBlock) (fun _ e => .inl e)) h4.size (fun j e => (h2.lt j e).1)
set_option maxRecDepth 100000 in
set_option maxHeartbeats 4000000 in
theorem all9_any (N : Int) (v : Value) (T : List Tr) (w : World) (h : TrisRd w v T) (hl : T.length ≤ 40) (hN : N ≤ 120) : Calls Tryz.prog 80 #[.agg #[.int .i64 N, v]] w (RetW w 10000) := by
  obtain ⟨i1, hi', hy0, hy1, hy2⟩ := info_parts infoWit9
  obtain ⟨a, c, rfl, hc1, hc2, hr⟩ := id h
  have b1 := Blk.new w 24 #[.int .i64 N, .slice a T.length c]
  obtain ⟨l0, x0, -, x1, -⟩ := b1.two
  have hB0 : Below w.heap.size w (w.alloc (.cells #[.int .i64 N, .slice a T.length c] 24)) := (Below.refl _ _).alloc (Nat.le_refl _) _
  have HI := Lib.hid (fun (W : World) (hW : Below w.heap.size w W) => index9_any N _ T W (h.below hW) hl)
  have HP3 := Lib.hid (fun (W : World) (hW : Below w.heap.size w W) => pairs9_any 3 (.inl rfl) N _ T W (h.below hW) hl)
  have HP4 := Lib.hid (fun (W : World) (hW : Below w.heap.size w W) => pairs9_any 4 (.inr rfl) N _ T W (h.below hW) hl)
  have HPi := Lib.hid (fun (W : World) (u : Int) (hW : Below w.heap.size w W) => pinched9_any N u _ T W (h.below hW) hl)
  have HA := Lib.hid has9_any
  obtain ⟨n, hn⟩ : ∃ n, T.length = n := ⟨_, rfl⟩
  rw [hn] at hl hc1 x0 x1 hB0 b1 l0 HI HP3 HP4 HPi ⊢
  have HR := Lib.hid hr
  have HN := Lib.hid hn
  have HB0 := Lib.hid hB0
  have Hb1 := Lib.hid b1
  clear hr hn b1 hB0 h
  go_enter Tryz.func80, Tryz.ntmps80
  go_wp2_with fail
  refine (HI.out _ HB0.out).mono ?_
  rintro e w1 ⟨v1, m1, xs1, rfl, hr1, hm1, hb1⟩
  have S1 : AS9 w N (.slice a n c) v1 m1 w1 := ⟨⟨_, own_base9 hr1 (by simp)⟩, Hb1.out.below hb1 l0, HB0.out.trans (hb1.mono HB0.out.size)⟩
  obtain ⟨a1, c1, rfl⟩ := S1.form
  have HS1 := Lib.hid S1
  clear S1 hr1 hb1 x0 x1
  obtain ⟨ly, y0, -, y1, -⟩ := HS1.out.soup.two
  rcases Nat.eq_zero_or_pos m1 with hm0 | hm0
  rotate_left
  · have nz : (0 : Int) < (m1 : Int) := by omega
    go_wp2
    go_ret
    obtain ⟨⟨xs, k1⟩, -, k3⟩ := HS1.out
    exact ⟨_, _, _, rfl, k1, by omega, k3⟩
  subst hm0
  go_wp2
  go_loopw [3, 4] (fun v3 i wr => ∃ (k m : Nat) (v' : Value), v' = v3 ∧ k ≤ n ∧ i = .int .i64 k ∧ AS9 w N (.slice a n c) v' m wr ∧ m ≤ k) (fun _ i _ => n - (intOf i).toNat)
  case atStart => exact ⟨0, 0, _, rfl, by omega, rfl, HS1.out, by omega⟩
  case round =>
    obtain ⟨k, m, v3, rfl, hk, rfl, hS, hm⟩ := hrel
    rename World => wr
    clear y0 y1 ly
    have HS := Lib.hid hS
    obtain ⟨ly, y0, -, y1, -⟩ := hS.soup.two
    obtain ⟨⟨xs, hrow⟩, -, hB⟩ := hS
    have hsz := hB.size
    by_cases hlt : k < n
    · have hk3 : (k : Int) < (n : Int) := by omega
      have hk0 : (0 : Int) ≤ (k : Int) := by omega
      obtain ⟨⟨x, y, z⟩, ht⟩ : ∃ t, T[k]? = some t := ⟨T[k]'(by have := HN.out; omega), List.getElem?_eq_getElem _⟩
      obtain ⟨b, o, rfl, hbl, s0, s1, s2⟩ := HR.out k x y z ht
      have s0' := (hB.cell (p := ⟨b, _, none⟩) hbl).trans s0
      have s1' := (hB.cell (p := ⟨b, _, none⟩) hbl).trans s1
      have s2' := (hB.cell (p := ⟨b, _, none⟩) hbl).trans s2
      have c3 : m + 1 ≤ maxLen := by unfold maxLen; omega
      have c4 : (m + 1) * 24 ≤ 140737488355328 := by omega
      clear ht s0 s1 s2
      have Q : ((x == y) = false ∧ (y == z) = false ∧ (z == x) = false) ∨ ((x == y) = true ∨ ((x == y) = false ∧ (y == z) = true) ∨ ((x == y) = false ∧ (y == z) = false ∧ (z == x) = true)) := by
        cases (x == y) <;> cases (y == z) <;> cases (z == x) <;> simp
      rcases Q with ⟨q1, q2, q3⟩ | q
      · clear hrow hB
        go_wp2
        go_roundw
        case measure => simp [intOf]; omega
        case rel => exact ⟨k + 1, m, _, rfl, by omega, by go_num, HS.out.le ((Below.refl _ _).alloc (Nat.le_refl _) _), by omega⟩
      · have HS' := Lib.hid (HS.out.le ((Below.refl _ _).alloc (Nat.le_refl _) (.cells #[.int .i64 x, .int .i64 y, .int .i64 z] 72)))
        rcases q with q1 | ⟨q1, q2⟩ | ⟨q1, q2, q3⟩
        all_goals go_wp2_with (at_builtin; refine wpList_append_lies _ rfl (.tmp 47) (.tmp 50) 136 rfl w.heap.size 155 i1 _ 3 24 Tryz.underlying136 hi' hy0 hy1 hy2 rfl (by decide) _ _ _ rfl ((hrow.alloc _).alloc _) ⟨wr.heap.size + 1, 0, none⟩ 1 1 [.int .i64 2, .int .i64 k, .int .i64 0] rfl rfl (World.news_of_block (heap_alloc_new2 _ _ _)) (by simp [Value.oneCell']) (by decide) c3 c4 (by rw [size_alloc', size_alloc']; omega) (wr.heap.size + 2) (by simp) ?_; intro g4 cap4 W4 hr4 hg4 _ _)
        all_goals go_roundw
        case measure | measure | measure => simp [intOf]; omega
        case rel | rel | rel => exact ⟨k + 1, m + 1, _, rfl, by omega, by go_num, HS'.out.app hr4 hg4, by omega⟩
    · obtain rfl : k = n := by omega
      clear hrow hB
      obtain ⟨a3, c3, rfl⟩ := HS.out.form
      rcases Nat.eq_zero_or_pos m with hm0 | hm0
      rotate_left
      · have nz : (0 : Int) < (m : Int) := by omega
        go_wp2
        go_ret
        obtain ⟨⟨xs, k1⟩, -, k3⟩ := HS.out
        exact ⟨_, _, _, rfl, k1, by omega, k3⟩
      subst hm0
      go_wp2_with fail
      refine (HP3.out _ HS.out.below).mono ?_
      rintro e w2 ⟨v2, m2, xs2, rfl, hr2, hm2, hb2⟩
      have HS2 := Lib.hid (HS.out.ret hr2 hb2)
      obtain ⟨a2, c2, rfl⟩ := HS2.out.form
      clear y0 y1 ly hr2 hb2
      obtain ⟨ly, y0, -, y1, -⟩ := HS2.out.soup.two
      rcases Nat.eq_zero_or_pos m2 with hm0 | hm0
      rotate_left
      · have nz : (0 : Int) < (m2 : Int) := by omega
        go_wp2
        go_ret
        obtain ⟨⟨xs, k1⟩, -, k3⟩ := HS2.out
        exact ⟨_, _, _, rfl, k1, by omega, k3⟩
      subst hm0
      go_wp2_with fail
      refine (HP4.out _ HS2.out.below).mono ?_
      rintro e w3 ⟨v3, m3, xs3, rfl, hr3, hm3, hb3⟩
      have HS3 := Lib.hid (HS2.out.ret hr3 hb3)
      obtain ⟨a3, c3, rfl⟩ := HS3.out.form
      clear y0 y1 ly hr3 hb3
      obtain ⟨ly, y0, -, y1, -⟩ := HS3.out.soup.two
      rcases Nat.eq_zero_or_pos m3 with hm0 | hm0
      rotate_left
      · have nz : (0 : Int) < (m3 : Int) := by omega
        go_wp2
        go_ret
        obtain ⟨⟨xs, k1⟩, -, k3⟩ := HS3.out
        exact ⟨_, _, _, rfl, k1, by omega, k3⟩
      subst hm0
      go_wp2
      go_loopw [3, 6] (fun v3 i wr => ∃ (j m : Nat) (v' : Value), v' = v3 ∧ (j = 0 ∨ (j : Int) ≤ N) ∧ i = .int .i64 j ∧ AS9 w N (.slice a k c) v' m wr ∧ m ≤ j) (fun _ i _ => N.toNat - (intOf i).toNat)
      case atStart => exact ⟨0, 0, _, rfl, .inl rfl, rfl, HS3.out, by omega⟩
      case round =>
        obtain ⟨j, m, v4, rfl, hj, rfl, hS, hm⟩ := hrel
        rename World => wA
        clear y0 y1 ly HS HS2 HS3 HS1
        have HS := Lib.hid hS
        obtain ⟨ly, y0, -, y1, -⟩ := hS.soup.two
        clear hS
        by_cases hlt : (j : Int) < N
        · go_wp2
          go_loopw [7, 8] (fun v7 i W => ∃ (i1 : Nat) (b : Bool), i1 ≤ k ∧ i = .int .i64 i1 ∧ v7 = .bool b ∧ AS9 w N (.slice a k c) v4 m W) (fun _ i _ => k - (intOf i).toNat)
          case atStart => exact ⟨0, false, by omega, rfl, rfl, HS.out⟩
          case round =>
            obtain ⟨i1x, b, hi1, rfl, rfl, hS⟩ := hrel
            rename World => wB
            have HSB := Lib.hid hS
            obtain ⟨lz, z0, -, z1, -⟩ := hS.soup.two
            by_cases hik : i1x < k
            · have hi3 : (i1x : Int) < (k : Int) := by omega
              have hi0 : (0 : Int) ≤ (i1x : Int) := by omega
              cases b
              · obtain ⟨⟨x, y, z⟩, ht⟩ : ∃ t, T[i1x]? = some t := ⟨T[i1x]'(by have := HN.out; omega), List.getElem?_eq_getElem _⟩
                obtain ⟨b, o, rfl, hbl, s0, s1, s2⟩ := HR.out i1x x y z ht
                have s0' := (hS.below.cell (p := ⟨b, _, none⟩) hbl).trans s0
                have s1' := (hS.below.cell (p := ⟨b, _, none⟩) hbl).trans s1
                have s2' := (hS.below.cell (p := ⟨b, _, none⟩) hbl).trans s2
                clear ht s0 s1 s2 hS
                go_wp2_with fail
                refine (HA.out _ _ _ _ _).mono ?_
                rintro e w5 ⟨⟨b5, rfl⟩, hb5⟩
                have HS5 := Lib.hid (HSB.out.le hb5)
                clear hb5 z0 z1 s0' s1' s2'
                go_wp2
                go_roundw
                case measure => simp [intOf]; omega
                case rel => exact ⟨i1x + 1, b5, by omega, by go_num, rfl, HS5.out⟩
              · clear hS
                go_wp2
                go_roundw
                case measure => simp [intOf]; omega
                case rel => exact ⟨i1x + 1, true, by omega, by go_num, rfl, HSB.out⟩
            · obtain rfl : i1x = k := by omega
              clear hS
              obtain ⟨⟨xs, hrow⟩, -, hB⟩ := HSB.out
              have hsz := hB.size
              have c3 : m + 1 ≤ maxLen := by unfold maxLen; omega
              have c4 : (m + 1) * 24 ≤ 140737488355328 := by omega
              cases b
              · clear hB
                go_wp2_with (at_builtin; refine wpList_append_lies _ rfl (.tmp 93) (.tmp 96) 136 rfl w.heap.size 155 i1 _ 3 24 Tryz.underlying136 hi' hy0 hy1 hy2 rfl (by decide) _ _ _ rfl (hrow.alloc _) ⟨wB.heap.size, 0, none⟩ 1 1 [.int .i64 5, .int .i64 j, .int .i64 0] rfl rfl (World.news_of_block (heap_alloc_new _ _)) (by simp [Value.oneCell']) (by decide) c3 c4 (by rw [size_alloc']; omega) (wB.heap.size + 1) (by simp) ?_; intro g4 cap4 W4 hr4 hg4 _ _)
                go_roundw
                case measure => simp [intOf]; omega
                case rel => exact ⟨j + 1, m + 1, _, rfl, by omega, by go_num, HSB.out.app hr4 hg4, by omega⟩
              · clear hB hrow
                go_wp2
                go_roundw
                case measure => simp [intOf]; omega
                case rel => exact ⟨j + 1, m, _, rfl, by omega, by go_num, HSB.out, by omega⟩
        · obtain ⟨a4, c4, rfl⟩ := HS.out.form
          rcases Nat.eq_zero_or_pos m with hm0 | hm0
          rotate_left
          · have nz : (0 : Int) < (m : Int) := by omega
            go_wp2
            go_ret
            obtain ⟨⟨xs, k1⟩, -, k3⟩ := HS.out
            exact ⟨_, _, _, rfl, k1, by omega, k3⟩
          subst hm0
          go_wp2
          clear hj hlt hm
          go_loopw [3, 9] (fun v3 i wr => ∃ (j m : Nat) (v' : Value), v' = v3 ∧ (j = 0 ∨ (j : Int) ≤ N) ∧ i = .int .i64 j ∧ AS9 w N (.slice a k c) v' m wr ∧ m ≤ j) (fun _ i _ => N.toNat - (intOf i).toNat)
          case atStart => exact ⟨0, 0, _, rfl, .inl rfl, rfl, HS.out, by omega⟩
          case round =>
            obtain ⟨j2, m, v5, rfl, hj, rfl, hS, hm⟩ := hrel
            rename World => wB
            clear y0 y1 ly HS
            have HS := Lib.hid hS
            obtain ⟨ly, y0, -, y1, -⟩ := hS.soup.two
            clear hS
            by_cases hlt : (j2 : Int) < N
            · go_wp2_with fail
              refine (HPi.out _ _ HS.out.below).mono ?_
              rintro e w5 ⟨⟨b5, rfl⟩, hb5⟩
              have HS5 := Lib.hid (HS.out.le hb5)
              clear hb5 y0 y1 ly
              obtain ⟨⟨xs, hrow⟩, -, hB⟩ := HS5.out
              have hsz := hB.size
              have c3 : m + 1 ≤ maxLen := by unfold maxLen; omega
              have c4 : (m + 1) * 24 ≤ 140737488355328 := by omega
              obtain ⟨ly, y0, -, y1, -⟩ := HS5.out.soup.two
              cases b5
              · clear hB hrow
                go_wp2
                go_roundw
                case measure => simp [intOf]; omega
                case rel => exact ⟨j2 + 1, m, _, rfl, by omega, by go_num, HS5.out, by omega⟩
              · clear hB
                go_wp2_with (at_builtin; refine wpList_append_lies _ rfl (.tmp 111) (.tmp 114) 136 rfl w.heap.size 155 i1 _ 3 24 Tryz.underlying136 hi' hy0 hy1 hy2 rfl (by decide) _ _ _ rfl (hrow.alloc _) ⟨w5.heap.size, 0, none⟩ 1 1 [.int .i64 6, .int .i64 j2, .int .i64 0] rfl rfl (World.news_of_block (heap_alloc_new _ _)) (by simp [Value.oneCell']) (by decide) c3 c4 (by rw [size_alloc']; omega) (w5.heap.size + 1) (by simp) ?_; intro g4 cap4 W4 hr4 hg4 _ _)
                go_roundw
                case measure => simp [intOf]; omega
                case rel => exact ⟨j2 + 1, m + 1, _, rfl, by omega, by go_num, HS5.out.app hr4 hg4, by omega⟩
            · go_wp2
              go_ret
              obtain ⟨⟨xs, k1⟩, -, k3⟩ := HS.out
              exact ⟨_, _, _, rfl, k1, by omega, k3⟩
set_option maxHeartbeats 1000000 in
/-- The document's decision comes to an end. -/
theorem surface9_any (N : Int) (v : Value) (T : List Tr) (w : World) (h : TrisRd w v T) (hl : T.length ≤ 40) (hN : N ≤ 120) : Calls Tryz.prog 50 #[.agg #[.int .i64 N, v]] w (RetB w) := by
  have hB0 : Below w.heap.size w (w.alloc (.cells #[.int .i64 N, v] 24)) := (Below.refl _ _).alloc (Nat.le_refl _) _
  have HI := Lib.hid (all9_any N v T _ (h.below hB0) hl hN)
  have b1 := Blk.new w 24 #[.int .i64 N, v]
  obtain ⟨l0, x0, -, x1, -⟩ := b1.two
  have HB0 := Lib.hid hB0
  clear hB0 b1 h
  go_enter Tryz.func50, Tryz.ntmps50
  go_wp2_with fail
  refine HI.out.mono ?_
  rintro e w1 ⟨v1, m1, xs1, rfl, hr1, hm1, hb1⟩
  have hf : ∃ a c, v1 = .slice a m1 c := by
    rcases hr1.2 with ⟨rfl, h0⟩ | ⟨g, cap, cur, rfl, _⟩
    · rw [h0]; exact ⟨_, _, rfl⟩
    · exact ⟨_, _, rfl⟩
  obtain ⟨a1, c1, rfl⟩ := hf
  have HB := Lib.hid (HB0.out.trans (hb1.mono HB0.out.size))
  clear hr1 hb1 x0 x1
  go_wp2
  go_ret
  exact ⟨⟨_, rfl⟩, HB.out⟩
end Go.Proofs.YtghlnknncahkgaaGreat
/-
  walk.Walk where there is no walk; which surfaces layer 21 looks at.
-/
namespace Go.Proofs.YtghlnknncahkgaaGreat
open Go.RowKit Go.Maps Go.Shelf
attribute [local go_sem] Oper.semAt_some

/-- No walk: the error, and nothing else. -/
def NoWalk (w : World) (z : Int) (e : Ending) (w' : World) : Prop := e = .returned (.tuple #[.agg #[.string ByteArray.empty, .slice none 0 0, .slice none 0 0], .int .i64 z]) ∧ Below w.heap.size w w'
set_option maxRecDepth 100000 in
set_option maxHeartbeats 1000000 in
theorem walk_err {w : World} {a : Option Addr} {r z : Int} (hz : z ≠ 0) (HCk : ∀ W, Below w.heap.size w W → Calls Tryz.prog 52 #[.pointer a, .int .i64 r] W fun e w' => e = .returned (.int .i64 z) ∧ Below W.heap.size W w') :
    Calls Tryz.prog 23 #[.pointer a, .int .i64 r] w (NoWalk w z) := by
  have hB0 : Below w.heap.size w ((w.alloc (.cells #[.pointer a] 26)).alloc (.cells #[.string ByteArray.empty, .slice none 0 0, .slice none 0 0] 45)) := ((Below.refl _ _).alloc (Nat.le_refl _) _).alloc (by simp) _
  have bt := (Blk.new w 26 #[.pointer a]).alloc (.cells #[.string ByteArray.empty, .slice none 0 0, .slice none 0 0] 45)
  have br : Blk ((w.alloc (.cells #[.pointer a] 26)).alloc (.cells #[.string ByteArray.empty, .slice none 0 0, .slice none 0 0] 45)) (w.heap.size + 1) 45 #[.string ByteArray.empty, .slice none 0 0, .slice none 0 0] := blk_new_at (by simp)
  have HC := Lib.hid (HCk _ hB0)
  have HB0 := Lib.hid hB0
  have HBr := Lib.hid br
  obtain ⟨lt, x0, -⟩ := bt.one
  have nz : (z == 0) = false := by simpa using hz
  clear HCk hB0 bt br hz
  refine (callsIn_wide (n := 9)).1 ?_
  refine callsIn_of_wp_marks Tryz.func23 rfl trivial ?_ rfl
  simp only [Tryz.ntmps23, List.size_toArray, List.length_cons, List.length_nil, Nat.reduceAdd, Nat.reduceSub, Array.replicate_succ, Array.replicate_zero, List.push_toArray, List.append_toArray, List.nil_append, List.cons_append]
  gi_hideQ
  gi_wp2_with fail
  refine ⟨trivial, (callsIn_wide.2 HC.out).mono ?_⟩
  rintro e w1 ⟨rfl, hb1⟩
  have hBr1 := HBr.out.below hb1 HBr.out.lt
  obtain ⟨l1, y0, f0, y1, f1, y2, f2⟩ := hBr1.three
  have HB1 := Lib.hid (HB0.out.trans (hb1.mono HB0.out.size))
  have HBr1 := Lib.hid hBr1
  clear x0 hb1 hBr1
  gi_wp2
  have bF : Blk (((w1.setCell ⟨w.heap.size + 1, 0, none⟩ (.string ⟨#[]⟩)).setCell ⟨w.heap.size + 1, 1, none⟩ (.slice none 0 0)).setCell ⟨w.heap.size + 1, 2, none⟩ (.slice none 0 0)) (w.heap.size + 1) 45 #[.string ⟨#[]⟩, .slice none 0 0, .slice none 0 0] := by
    have := ((HBr1.out.set_ 0 (.string ⟨#[]⟩)).set_ 1 (.slice none 0 0)).set_ 2 (.slice none 0 0)
    simpa using this
  have hBF : Below w.heap.size w (((w1.setCell ⟨w.heap.size + 1, 0, none⟩ (.string ⟨#[]⟩)).setCell ⟨w.heap.size + 1, 1, none⟩ (.slice none 0 0)).setCell ⟨w.heap.size + 1, 2, none⟩ (.slice none 0 0)) := ((HB1.out.setCell (p := ⟨w.heap.size + 1, 0, none⟩) (by simp only; omega) _).setCell (p := ⟨w.heap.size + 1, 1, none⟩) (by simp only; omega) _).setCell (p := ⟨w.heap.size + 1, 2, none⟩) (by simp only; omega) _
  generalize ((w1.setCell ⟨w.heap.size + 1, 0, none⟩ (.string ⟨#[]⟩)).setCell ⟨w.heap.size + 1, 1, none⟩ (.slice none 0 0)).setCell ⟨w.heap.size + 1, 2, none⟩ (.slice none 0 0) = WE at *
  obtain ⟨-, p0, -, p1, -, p2, -⟩ := bF.three
  refine ⟨.tuple #[.agg #[.string ⟨#[]⟩, .slice none 0 0, .slice none 0 0], .int .i64 z], ?_, rfl, hBF⟩
  simp [results, Tryz.results23, go_sem, p0, p1, p2]
set_option maxHeartbeats 1000000 in
/-- Out of range: told before the surface is looked at. -/
theorem check_range (g n : Nat) (T : List Tr) (w : World) (r : Int) (hT : Tab w g n T) (hr : r < 0 ∨ r = 3 * T.length) :
    Calls Tryz.prog 52 #[.pointer (some ⟨g, 0, none⟩), .int .i64 r] w fun e w' => e = .returned (.int .i64 2) ∧ Below w.heap.size w w' := by
  have H0 := Lib.hid (triangles_any g n T w hT.toTabS)
  have hl := hT.len
  obtain ⟨F, hF⟩ : ∃ F, T.length = F := ⟨_, rfl⟩
  rw [hF] at hl H0 hr
  clear hT hF
  by_cases h0 : r < 0
  · go_enter Tryz.func52, Tryz.ntmps52
    go_wp2
    go_ret
    exact ⟨rfl, Below.refl _ _⟩
  · obtain rfl : r = 3 * F := by omega
    clear hr
    go_enter Tryz.func52, Tryz.ntmps52
    go_wp2_with fail
    refine H0.out.mono ?_
    rintro e w0 ⟨rfl, rfl⟩
    go_wp2
    go_ret
    exact ⟨rfl, Below.refl _ _⟩
/-- What fits: a surface's table, of few triangles; else no matter what. -/
def Fit21 (N : Int) (T : List Tr) (w : World) (e : Ending) (w' : World) : Prop :=
  ∃ p b, e = .returned (.tuple #[.pointer p, .bool b]) ∧ (b = true → ∃ g n : Nat, N = n ∧ p = some ⟨g, 0, none⟩ ∧ Tab w' g n T ∧ Surf n T ∧ T.length ≤ 40) ∧ Below w.heap.size w w'
set_option maxHeartbeats 2000000 in
theorem fits21_any (N : Int) (v : Value) (T : List Tr) (w : World) (h : TrisRd w v T) : Calls Tryz.prog 21 #[.agg #[.int .i64 N, v]] w (Fit21 N T w) := by
  have hB0 : Below w.heap.size w (w.alloc (.cells #[.int .i64 N, v] 24)) := (Below.refl _ _).alloc (Nat.le_refl _) _
  have b1 := Blk.new w 24 #[.int .i64 N, v]
  obtain ⟨l0, x0, -, x1, -⟩ := b1.two
  have HT := Lib.hid (fun (W : World) (hW : Below w.heap.size w W) => h.below hW)
  obtain ⟨a, c, rfl, hc1, hc2, -⟩ := h
  have HB0 := Lib.hid hB0
  have Hb1 := Lib.hid b1
  clear b1 hB0
  by_cases hl : 40 < T.length
  · have hl' : (40 : Int) < (T.length : Int) := by omega
    go_enter Tryz.func21, Tryz.ntmps21
    go_wp2
    go_ret2
    exact ⟨_, _, rfl, fun h => (by cases h), HB0.out⟩
  · have hl' : ¬ (40 : Int) < (T.length : Int) := by omega
    by_cases hN : 120 < N
    · go_enter Tryz.func21, Tryz.ntmps21
      go_wp2
      go_ret2
      exact ⟨_, _, rfl, fun h => (by cases h), HB0.out⟩
    · have HS := Lib.hid (fun (W : World) (hW : Below w.heap.size w W) => surface9_any N _ T W (HT.out W hW) (by omega) (by omega))
      have HNw := Lib.hid (fun (W : World) (hW : Below w.heap.size w W) => new_any N _ T W (HT.out W hW) (by omega))
      have Hl := Lib.hid hl
      obtain ⟨F, hF⟩ : ∃ F, T.length = F := ⟨_, rfl⟩
      rw [hF] at x1 HB0 Hb1 l0 x0 hl' HS HNw hc1 ⊢
      clear hl hF
      go_enter Tryz.func21, Tryz.ntmps21
      go_wp2_with fail
      refine (HS.out _ HB0.out).mono ?_
      rintro e w1 ⟨⟨b1, rfl⟩, hb1⟩
      have Hbk1 := Lib.hid (Hb1.out.below hb1 l0)
      have HB1 := Lib.hid (HB0.out.trans (hb1.mono HB0.out.size))
      clear x0 x1 hb1 l0
      obtain ⟨l0, x0, -, x1, -⟩ := Hbk1.out.two
      cases b1
      · go_wp2
        go_ret2
        exact ⟨_, _, rfl, fun h => (by cases h), HB1.out⟩
      · go_wp2_with fail
        refine (HNw.out _ HB1.out).mono ?_
        rintro e w2 ⟨hR, hb2⟩
        have HB2 := Lib.hid (HB1.out.trans (hb2.mono HB1.out.size))
        have hsz := HB2.out.size
        clear x0 x1 hb2 l0
        rcases hR with ⟨hSu, g, rfl, hT, hg⟩ | ⟨hno, k, p, q, hk, rfl⟩
        · have bw := Blk.new w2 74 #[.int .i64 0, .int .i64 0, .int .i64 0]
          obtain ⟨lw, z0, zf0, z1, zf1, z2, zf2⟩ := bw.three
          have HTab := Lib.hid hT
          have HSu := Lib.hid hSu
          clear hT hSu bw
          unfold witV
          go_wp2
          go_region
          all_goals
            go_wp2
            go_ret2
            have hn : ((N.toNat : Nat) : Int) = N := by have := HSu.out.n0; omega
            exact ⟨_, _, rfl, fun _ => ⟨g, N.toNat, hn.symm, rfl, by rw [hn]; exact HTab.out.below (below_d ((Below.refl _ _).alloc (Nat.le_refl _) _)), by rw [hn]; exact HSu.out, by have := Hl.out; omega⟩, below_d (HB2.out.alloc hsz _)⟩
        · have bw := Blk.new w2 74 #[.int .i64 k, .int .i64 p, .int .i64 q]
          obtain ⟨lw, z0, zf0, z1, zf1, z2, zf2⟩ := bw.three
          have nk : (k == 0) = false := by simp; omega
          clear bw hno hk
          unfold witV
          go_wp2
          go_region
          all_goals
            go_wp2
            go_ret2
            exact ⟨_, _, rfl, fun h => absurd h (by simp), below_d (HB2.out.alloc hsz _)⟩
end Go.Proofs.YtghlnknncahkgaaGreat
/-
  A surface's border, in plain words: round each vertex one fan at most begins and ends; who comes behind whom is one to one, and leads back.
-/
namespace Go.Proofs.YtghlnknncahkgaaGreat
open Go.RowKit Go.Maps

theorem opp_isI {T : List Tr} (hu : (T.flatMap edges3).Nodup) {c d : Nat} (hc : c < 3 * T.length) (hd : d < 3 * T.length) (h : edgeN T d = ((edgeN T c).2, (edgeN T c).1)) : oppI T (c : Int) = (d : Int) := by
  unfold oppI
  rw [edgeI_nat hc, ← h, facI_of hu hd]
/-- Round a vertex one comes to all its triangles. -/
theorem aroundB {N : Int} {T : List Tr} (hS : Surf N T) {v : Int} (hv : inR N v) (S : Nat → Prop) (h0 : ∃ c, c < 3 * T.length ∧ vertN T c = v ∧ S (c / 3))
    (hs : ∀ c, c < 3 * T.length → vertN T c = v → S (c / 3) → (∀ o : Nat, oppI T ((Jor.nx c : Nat) : Int) = (o : Int) → S (o / 3)) ∧ (∀ o : Nat, oppI T ((Jor.pv c : Nat) : Int) = (o : Int) → S (o / 3))) : ∀ c, c < 3 * T.length → vertN T c = v → S (c / 3) := by
  have hl := hS.pinch v hv
  have cl : ∀ i ∈ atV T v, ∀ k ∈ atV T v, S i → adjV T v i k → S k := by
    intro i hi k hk hSi hadj
    obtain ⟨c, hc, rfl, hcv⟩ := atV_corner.1 hi
    obtain ⟨d, hd, rfl, hdv⟩ := atV_corner.1 hk
    obtain ⟨a, b, x, ha, hb, hx, hax, hbx⟩ := hadj
    obtain ⟨c', hc', e1, hcx⟩ := (vert_has ha).1 hax
    obtain ⟨d', hd', e2, hdx⟩ := (vert_has hb).1 hbx
    have hc3 : c' = Jor.nx c ∨ c' = Jor.pv c := by
      have : c' = c ∨ c' = Jor.nx c ∨ c' = Jor.pv c := by unfold Jor.nx Jor.pv; omega
      rcases this with rfl | h
      · exact absurd (hcx.symm.trans hcv) hx
      · exact h
    have hd3 : d' = Jor.nx d ∨ d' = Jor.pv d := by
      have : d' = d ∨ d' = Jor.nx d ∨ d' = Jor.pv d := by unfold Jor.nx Jor.pv; omega
      rcases this with rfl | h
      · exact absurd (hdx.symm.trans hdv) hx
      · exact h
    have hst := hs c hc hcv hSi
    have hpc : Jor.pv c < 3 * T.length := Jor.pv_lt hc
    have hnc : Jor.nx c < 3 * T.length := Jor.nx_lt hc
    have hpd : Jor.pv d < 3 * T.length := Jor.pv_lt hd
    have hnd : Jor.nx d < 3 * T.length := Jor.nx_lt hd
    rcases hc3 with rfl | rfl
    · rcases hd3 with rfl | rfl
      · have e := edge_inj hS.twice hpc hpd (by rw [edge_pv, edge_pv, hcv, hdv, hcx, hdx])
        have : c / 3 = d / 3 := by rw [← Jor.pv_div c, e, Jor.pv_div]
        rw [← this]
        exact hSi
      · have e := opp_isI hS.twice hpc hnd (by rw [edge_pv, edge_nx, hcv, hdv, hcx, hdx])
        rw [← Jor.nx_div d]
        exact hst.2 _ e
    · rcases hd3 with rfl | rfl
      · have e := opp_isI hS.twice hnc hpd (by rw [edge_pv, edge_nx, hcv, hdv, hcx, hdx])
        rw [← Jor.pv_div d]
        exact hst.1 _ e
      · have e := edge_inj hS.twice hnc hnd (by rw [edge_nx, edge_nx, hcv, hdv, hcx, hdx])
        have : c / 3 = d / 3 := by rw [← Jor.nx_div c, e, Jor.nx_div]
        rw [← this]
        exact hSi
  have sym : ∀ i k, adjV T v i k → adjV T v k i := fun i k ⟨a, b, x, h1, h2, h3, h4, h5⟩ => ⟨b, a, x, h2, h1, h3, h5, h4⟩
  obtain ⟨c0, hc0, hv0, hS0⟩ := h0
  have hm0 : c0 / 3 ∈ atV T v := atV_corner.2 ⟨c0, hc0, rfl, hv0⟩
  intro c hc hcv
  have hm : c / 3 ∈ atV T v := atV_corner.2 ⟨c, hc, rfl, hcv⟩
  cases hh : (atV T v).head? with
  | none =>
    rw [List.head?_eq_none_iff] at hh
    rw [hh] at hm
    cases hm
  | some i0 =>
    by_cases hi : S i0
    · exact hl S (fun i e => by rw [hh] at e; cases e; exact hi) (fun i hi k hk h1 h2 => cl i hi k hk h1 h2) _ hm
    · exfalso
      exact hl (fun k => ¬ S k) (fun i e => by rw [hh] at e; cases e; exact hi) (fun i hi k hk h1 h2 h3 => h1 (cl k hk i hi h3 (sym _ _ h2))) _ hm0 hS0

/-- A fan ends: the edge into the vertex is a border edge. -/
def EndC (T : List Tr) (c : Nat) : Prop := c < 3 * T.length ∧ oppI T ((Jor.nx c : Nat) : Int) = -1
/-- A fan begins: the edge out of the vertex is a border edge. -/
def StaC (T : List Tr) (c : Nat) : Prop := c < 3 * T.length ∧ oppI T ((Jor.pv c : Nat) : Int) = -1
section
variable {N : Int} {T : List Tr}
/-- From corner to corner round a vertex, over the edge behind. -/
theorem turn_nx (hS : Surf N T) {c o : Nat} (hc : c < 3 * T.length) (h : oppI T ((Jor.nx c : Nat) : Int) = (o : Int)) : Jor.nx o < 3 * T.length ∧ vertN T (Jor.nx o) = vertN T c ∧ oppI T ((Jor.pv (Jor.nx o) : Nat) : Int) = ((Jor.nx c : Nat) : Int) := by
  have h1 := opp_some (Jor.nx_lt hc) h
  rw [edge_nx] at h1
  have h2 : vertN T (Jor.nx o) = vertN T c := congrArg Prod.fst h1.2
  refine ⟨Jor.nx_lt h1.1, h2, ?_⟩
  rw [Jor.pv_nx]
  exact opp_back hS.twice (Jor.nx_lt hc) h
theorem turn_pv (hS : Surf N T) {c o : Nat} (hc : c < 3 * T.length) (h : oppI T ((Jor.pv c : Nat) : Int) = (o : Int)) : Jor.pv o < 3 * T.length ∧ vertN T (Jor.pv o) = vertN T c ∧ oppI T ((Jor.nx (Jor.pv o) : Nat) : Int) = ((Jor.pv c : Nat) : Int) := by
  have h1 := opp_some (Jor.pv_lt hc) h
  rw [edge_pv] at h1
  have h2 : vertN T (Jor.pv o) = vertN T c := congrArg Prod.snd h1.2
  refine ⟨Jor.pv_lt h1.1, h2, ?_⟩
  rw [Jor.nx_pv]
  exact opp_back hS.twice (Jor.pv_lt hc) h
theorem nx_inj {a b : Nat} (h : Jor.nx a = Jor.nx b) : a = b := by rw [← Jor.pv_nx a, h, Jor.pv_nx]
theorem pv_inj {a b : Nat} (h : Jor.pv a = Jor.pv b) : a = b := by rw [← Jor.nx_pv a, h, Jor.nx_pv]
open Classical in
/-- Where a fan begins one ends. -/
theorem sta_end (hS : Surf N T) {d : Nat} (hd : StaC T d) : ∃ c, EndC T c ∧ vertN T c = vertN T d := by
  refine Classical.byContradiction fun hno => ?_
  have tot : ∀ c, c < 3 * T.length → vertN T c = vertN T d → ∃ o : Nat, oppI T ((Jor.nx c : Nat) : Int) = (o : Int) := fun c hc hv => by
    rcases opp_cases T ((Jor.nx c : Nat) : Int) with h | ⟨o, h, -⟩
    · exact absurd ⟨c, ⟨hc, h⟩, hv⟩ hno
    · exact ⟨o, h⟩
  let l := (List.range (3 * T.length)).filter fun c => decide (vertN T c = vertN T d)
  let f : Nat → Nat := fun c => Jor.nx (oppI T ((Jor.nx c : Nat) : Int)).toNat
  have hl : ∀ c, c ∈ l ↔ c < 3 * T.length ∧ vertN T c = vertN T d := fun c => by
    show c ∈ (List.range (3 * T.length)).filter _ ↔ _
    rw [List.mem_filter, List.mem_range]
    simp
  have hln : l.Nodup := List.Pairwise.filter _ List.nodup_range
  have hin : ∀ x ∈ d :: l.map f, x ∈ l := by
    intro x hx
    rcases List.mem_cons.1 hx with rfl | hx
    · exact (hl x).2 ⟨hd.1, rfl⟩
    · obtain ⟨c, hc, rfl⟩ := List.mem_map.1 hx
      obtain ⟨h1, h2⟩ := (hl c).1 hc
      obtain ⟨o, ho⟩ := tot c h1 h2
      have := turn_nx hS h1 ho
      refine (hl _).2 ?_
      show Jor.nx (oppI T ((Jor.nx c : Nat) : Int)).toNat < _ ∧ vertN T (Jor.nx (oppI T ((Jor.nx c : Nat) : Int)).toNat) = _
      rw [ho, Int.toNat_natCast]
      exact ⟨this.1, by rw [this.2.1, h2]⟩
  have hfn : (l.map f).Nodup := by
    refine List.pairwise_map.2 (List.Pairwise.imp_of_mem (fun {a b} ha hb hab => ?_) hln)
    obtain ⟨h1, h2⟩ := (hl a).1 ha
    obtain ⟨k1, k2⟩ := (hl b).1 hb
    obtain ⟨o, ho⟩ := tot a h1 h2
    obtain ⟨p, hp⟩ := tot b k1 k2
    intro e
    have e' : Jor.nx (oppI T ((Jor.nx a : Nat) : Int)).toNat = Jor.nx (oppI T ((Jor.nx b : Nat) : Int)).toNat := e
    rw [ho, hp, Int.toNat_natCast, Int.toNat_natCast] at e'
    have e2 := nx_inj e'
    subst e2
    have b1 := opp_back hS.twice (Jor.nx_lt h1) ho
    have b2 := opp_back hS.twice (Jor.nx_lt k1) hp
    rw [b1] at b2
    exact hab (nx_inj (by omega))
  have hdn : d ∉ l.map f := fun hm => by
    obtain ⟨c, hc, he⟩ := List.mem_map.1 hm
    obtain ⟨h1, h2⟩ := (hl c).1 hc
    obtain ⟨o, ho⟩ := tot c h1 h2
    have h3 := (turn_nx hS h1 ho).2.2
    have he' : Jor.nx (oppI T ((Jor.nx c : Nat) : Int)).toNat = d := he
    rw [ho, Int.toNat_natCast] at he'
    rw [he', hd.2] at h3
    omega
  have := Jor.nodup_le (List.nodup_cons.2 ⟨hdn, hfn⟩) hin
  rw [List.length_cons, List.length_map] at this
  omega
/-- Round a vertex one fan begins at most. -/
theorem sta_one (hS : Surf N T) {d e : Nat} (hd : StaC T d) (he : StaC T e) (hv : vertN T d = vertN T e) : d = e := by
  refine Classical.byContradiction fun hne => ?_
  -- who is come to from d, turn by turn
  let R : Nat → Prop := fun x => ∀ P : Nat → Prop, P d → (∀ c o : Nat, c < 3 * T.length → vertN T c = vertN T d → P c → oppI T ((Jor.nx c : Nat) : Int) = (o : Int) → P (Jor.nx o)) → P x
  have hRd : R d := fun P h _ => h
  have hRs : ∀ c o : Nat, c < 3 * T.length → vertN T c = vertN T d → R c → oppI T ((Jor.nx c : Nat) : Int) = (o : Int) → R (Jor.nx o) := fun c o hc hcv h ho P h0 hs => hs c o hc hcv (h P h0 hs) ho
  have hRv : ∀ x, R x → x < 3 * T.length ∧ vertN T x = vertN T d ∧ (x = d ∨ ∃ c o : Nat, c < 3 * T.length ∧ vertN T c = vertN T d ∧ R c ∧ oppI T ((Jor.nx c : Nat) : Int) = (o : Int) ∧ x = Jor.nx o) := fun x hx => hx (fun x => x < 3 * T.length ∧ vertN T x = vertN T d ∧ (x = d ∨ ∃ c o : Nat, c < 3 * T.length ∧ vertN T c = vertN T d ∧ R c ∧ oppI T ((Jor.nx c : Nat) : Int) = (o : Int) ∧ x = Jor.nx o)) ⟨hd.1, rfl, .inl rfl⟩ (fun c o hc hcv hp ho => by
    have := turn_nx hS hc ho
    refine ⟨this.1, by rw [this.2.1, hcv], .inr ⟨c, o, hc, hcv, ?_, ho, rfl⟩⟩
    rcases hp.2.2 with rfl | ⟨c2, o2, h1, h2, h3, h4, rfl⟩
    · exact hRd
    · exact hRs c2 o2 h1 h2 h3 h4)
  have corner : ∀ x y : Nat, x < 3 * T.length → y < 3 * T.length → vertN T x = vertN T y → x / 3 = y / 3 → x = y := fun x y hx hy h1 h2 => by
    have h3 := vert_ne hS.simple hx
    have : y = x ∨ y = Jor.nx x ∨ y = Jor.pv x := by unfold Jor.nx Jor.pv; omega
    rcases this with rfl | rfl | rfl
    · rfl
    · exact absurd h1.symm h3.1
    · exact absurd h1.symm h3.2.1
  have all := aroundB hS (v := vertN T d) (vert_rng hS hd.1) (fun t => ∃ x, R x ∧ x / 3 = t) ⟨d, hd.1, rfl, d, hRd, rfl⟩ (fun c hc hcv ⟨x, hx, hxt⟩ => by
    have hxv := hRv x hx
    obtain rfl := corner x c hxv.1 hc (by rw [hxv.2.1, hcv]) hxt
    refine ⟨fun o ho => ⟨Jor.nx o, hRs x o hc hcv hx ho, Jor.nx_div o⟩, fun o ho => ?_⟩
    rcases hxv.2.2 with rfl | ⟨c2, o2, h1, h2, h3, h4, rfl⟩
    · rw [hd.2] at ho; omega
    · have h5 := (turn_nx hS h1 h4).2.2
      rw [ho] at h5
      have h6 : o = Jor.nx c2 := by omega
      exact ⟨c2, h3, by rw [h6, Jor.nx_div]⟩)
  obtain ⟨x, hx, hxt⟩ := all e he.1 hv.symm
  have hxv := hRv x hx
  obtain rfl := corner x e hxv.1 he.1 (by rw [hxv.2.1, hv]) hxt
  rcases hxv.2.2 with rfl | ⟨c2, o2, h1, h2, h3, h4, rfl⟩
  · exact hne rfl
  · have h5 := (turn_nx hS h1 h4).2.2
    rw [he.2] at h5
    omega
/-- Who comes behind whom on the border. -/
def Nxt (T : List Tr) (v u : Int) : Prop := ∃ c, EndC T c ∧ vertN T c = v ∧ vertN T (Jor.pv c) = u
theorem EndC.sta {c : Nat} (h : EndC T c) : StaC T (Jor.pv c) := ⟨Jor.pv_lt h.1, by rw [Jor.pv_pv]; exact h.2⟩
theorem Nxt.on (hS : Surf N T) {v u : Int} (h : Nxt T v u) : ∃ z, Nxt T u z := by
  obtain ⟨c, h1, -, h3⟩ := h
  obtain ⟨d, h4, h5⟩ := sta_end hS h1.sta
  exact ⟨_, d, h4, by rw [h5, h3], rfl⟩
theorem Nxt.inj (hS : Surf N T) {v v' u : Int} (h : Nxt T v u) (h' : Nxt T v' u) : v = v' := by
  obtain ⟨c, h1, h2, h3⟩ := h
  obtain ⟨d, k1, k2, k3⟩ := h'
  have := pv_inj (sta_one hS h1.sta k1.sta (by rw [h3, k3]))
  subst this
  rw [← h2, ← k2]
theorem Nxt.rng (hS : Surf N T) {v u : Int} (h : Nxt T v u) : (0 ≤ v ∧ v < N) ∧ 0 ≤ u ∧ u < N := by
  obtain ⟨c, h1, rfl, rfl⟩ := h
  exact ⟨vert_rng hS h1.1, vert_rng hS (Jor.pv_lt h1.1)⟩
end
end Go.Proofs.YtghlnknncahkgaaGreat
/-
  border.Edges, border.behind on any surface, by walking their texts.
-/
namespace Go.Proofs.YtghlnknncahkgaaGreat
open Go.RowKit Go.Maps Go.Shelf

def es2 (E : List (Int × Int)) : List Value := E.flatMap fun e => [.int .i64 e.1, .int .i64 e.2]
theorem es2_snoc (E : List (Int × Int)) (e : Int × Int) : es2 (E ++ [e]) = es2 E ++ [.int .i64 e.1, .int .i64 e.2] := by simp [es2]
theorem es2_at : ∀ (E : List (Int × Int)) (j : Nat) (e : Int × Int), E[j]? = some e → (es2 E)[j * 2]? = some (.int .i64 e.1) ∧ (es2 E)[j * 2 + 1]? = some (.int .i64 e.2)
  | [], j, e, h => by simp at h
  | a :: E, 0, e, h => by
    have h' : a = e := by simpa using h
    subst h'
    simp [es2]
  | a :: E, j + 1, e, h => by
    have ih := es2_at E j e (by simpa using h)
    have e1 : es2 (a :: E) = .int .i64 a.1 :: .int .i64 a.2 :: es2 E := by simp [es2]
    rw [e1, show (j + 1) * 2 = j * 2 + 1 + 1 from by omega]
    simpa using ih
theorem es2_len (E : List (Int × Int)) : (es2 E).length = E.length * 2 := by
  induction E with
  | nil => rfl
  | cons a E ih =>
    have e1 : es2 (a :: E) = .int .i64 a.1 :: .int .i64 a.2 :: es2 E := by simp [es2]
    rw [e1]
    simp only [List.length_cons, ih]
    omega
theorem infoEdge : (Tryz.prog.info? 108).map (fun i => (i.zero, i.size, i.bytes)) = some (some (.agg #[.int .i64 0, .int .i64 0]), 2, 16) := by kernel_rfl
/-- The border's edges among the corners up to k. -/
def EdgesUp (T : List Tr) (k : Nat) (E : List (Int × Int)) : Prop := ∀ e, e ∈ E ↔ ∃ c, c < k ∧ oppI T (c : Int) = -1 ∧ edgeN T c = e
set_option maxRecDepth 100000 in
set_option maxHeartbeats 2000000 in
theorem edgesB_any (g : Nat) (N : Int) (T : List Tr) (w : World) (h : Tab w g N T) : Calls Tryz.prog 163 #[.pointer (some ⟨g, 0, none⟩)] w fun e w' => ∃ v' E, e = .returned v' ∧ w'.ownsRow w.heap.size 108 2 v' E.length (es2 E) ∧ EdgesUp T (3 * T.length) E ∧ E.length ≤ 3 * T.length ∧ Below w.heap.size w w' := by
  obtain ⟨i1, hi', hy0, hy1, hy2⟩ := info_parts infoEdge
  have H0 := Lib.hid (triangles_any g N T w h.toTabS)
  have HO := Lib.hid (fun (W : World) (c : Int) (hW : Below w.heap.size w W) => opp_any g N c T W (h.below hW))
  have HE := Lib.hid (fun (W : World) (c : Nat) (hc : c < 3 * T.length) (hW : Below w.heap.size w W) => (show Calls Tryz.prog 61 #[.pointer (some ⟨g, 0, none⟩), .int .i64 (c : Int)] W fun e w' => e = .returned (pairV (edgeN T c)) ∧ Below W.heap.size W w' from by
    have := edge_any g N (c : Int) T W (h.below hW).toTabS
    rwa [edgeI_nat hc] at this))
  have hl := h.len
  have HBd := Lib.hid (fun (c : Nat) => opp_cases T (c : Int))
  obtain ⟨F, hF⟩ : ∃ F, T.length = F := ⟨_, rfl⟩
  rw [hF] at hl H0 HE HBd ⊢
  clear hF h
  go_enter Tryz.func163, Tryz.ntmps163
  go_wp2_with fail
  refine H0.out.mono ?_
  rintro e w0 ⟨rfl, rfl⟩
  go_wp2
  go_loopw [3, 10] (fun v3 ix wr => ∃ (k : Nat) (E : List (Int × Int)) (v' : Value), v' = v3 ∧ k ≤ 3 * F ∧ ix = .int .i64 k ∧ wr.ownsRow w.heap.size 108 2 v' E.length (es2 E) ∧ E.length ≤ k ∧ EdgesUp T k E ∧ Below w.heap.size w wr) (fun _ ix _ => 3 * F - (intOf ix).toNat)
  case atStart => exact ⟨0, [], _, rfl, Nat.zero_le _, rfl, World.ownsRow_nil _ _ _ _, Nat.le_refl _, fun e => ⟨fun h => (List.not_mem_nil h).elim, fun ⟨c, h, _⟩ => absurd h (by omega)⟩, Below.refl _ _⟩
  case round =>
    obtain ⟨k, E, v3, rfl, hk, rfl, hrow, hEl, hE, hB⟩ := hrel
    rename World => wr
    have HB := Lib.hid hB
    have HEd := Lib.hid hE
    have Hrow := Lib.hid hrow
    clear hB hE hrow
    by_cases hlt : k < 3 * F
    · have k3 : (k : Int) < 3 * (F : Int) := by omega
      have c3 : E.length + 1 ≤ maxLen := by unfold maxLen; omega
      have c4 : (E.length + 1) * 16 ≤ 140737488355328 := by omega
      go_wp2_with fail
      refine (HO.out wr k HB.out).mono ?_
      rintro e w2 ⟨rfl, hb2⟩
      have HB2 := Lib.hid (HB.out.trans (hb2.mono HB.out.size))
      have Hr2 := Lib.hid (own_below Hrow.out hb2)
      clear hb2
      rcases HBd.out k with ho | ⟨o, ho, ho2⟩
      · have Ho := Lib.hid ho
        rw [ho]
        clear ho
        go_wp2_with fail
        refine (HE.out w2 k hlt HB2.out).mono ?_
        rintro e w3 ⟨rfl, hb3⟩
        have HB3 := Lib.hid (HB2.out.trans (hb3.mono HB2.out.size))
        have hr3 := own_below Hr2.out hb3
        have hsz3 := HB3.out.size
        clear hb3
        obtain ⟨ea, hea⟩ : ∃ ea, edgeN T k = ea := ⟨_, rfl⟩
        have Hea := Lib.hid hea
        rw [hea]
        clear hea
        unfold pairV
        go_wp2_with (at_builtin; refine wpList_append_lies _ rfl (.tmp 17) (.tmp 21) 208 rfl w.heap.size 108 i1 _ 2 16 Tryz.underlying208 hi' hy0 hy1 hy2 rfl (by decide) _ _ _ rfl (hr3.alloc _) ⟨w3.heap.size, 0, none⟩ 1 1 [.int .i64 ea.1, .int .i64 ea.2] rfl rfl (World.news_of_block (heap_alloc_new _ _)) (by simp [Value.oneCell']) (by decide) c3 c4 (by rw [size_alloc']; omega) (w3.heap.size + 1) (by simp) ?_; intro g4 cap4 W4 hr4 hg4 _ _)
        go_roundw
        case measure => simp [intOf]; omega
        case rel =>
          refine ⟨k + 1, E ++ [ea], _, rfl, by omega, by go_num, by rw [es2_snoc]; simpa using hr4, by simp; omega, fun e => ?_, HB3.out.grown (gGrown (World.grownBy_alloc _ _ _) hg4 (row := v3.ownBlock) (fun _ e => .inl e)) (by omega) (fun j e => (Hrow.out.lt j e).1)⟩
          rw [List.mem_append, List.mem_singleton, HEd.out e]
          constructor
          · rintro (⟨c, h1, h2, h3⟩ | rfl)
            · exact ⟨c, by omega, h2, h3⟩
            · exact ⟨k, by omega, Ho.out, Hea.out⟩
          · rintro ⟨c, h1, h2, h3⟩
            rcases Nat.lt_or_ge c k with e1 | e1
            · exact .inl ⟨c, e1, h2, h3⟩
            · obtain rfl : c = k := by omega
              exact .inr (by rw [← h3, Hea.out])
      · have Ho := Lib.hid ho
        rw [ho]
        clear ho
        have ho3 : ¬ ((o : Int) < 0) := by omega
        go_wp2
        go_roundw
        case measure => simp [intOf]; omega
        case rel =>
          refine ⟨k + 1, E, _, rfl, by omega, by go_num, Hr2.out, by omega, fun e => ?_, HB2.out⟩
          rw [HEd.out e]
          constructor
          · rintro ⟨c, h1, h2, h3⟩
            exact ⟨c, by omega, h2, h3⟩
          · rintro ⟨c, h1, h2, h3⟩
            rcases Nat.lt_or_ge c k with e1 | e1
            · exact ⟨c, e1, h2, h3⟩
            · obtain rfl : c = k := by omega
              have := Ho.out
              omega
    · obtain rfl : k = 3 * F := by omega
      go_wp2
      go_ret
      exact ⟨_, E, rfl, Hrow.out, HEd.out, hEl, HB.out⟩
theorem own_blk_none_map {w : World} {base : Nat} {e : TypeId} {size n : Nat} {v : Value} {xs : List Value} {k : TypeId} {b : Nat} {f : Value → Option Value} (h : w.ownsRow base e size v n xs) (hm : MapP Tryz.prog k w b f) : v.ownBlock = none ∨ v.ownBlock ≠ some b := by
  rcases h.2 with ⟨rfl, _⟩ | ⟨g', cap, cur, rfl, _, hh, _⟩
  · exact .inl rfl
  · refine .inr (fun he => ?_)
    have e1 : g' = b := by simpa [Value.ownBlock] using he
    subst e1
    obtain ⟨es, clock, hb⟩ := hm.obj
    rw [hb] at hh
    cases hh
/-- Who comes behind whom, as a map holds it. -/
def BhMap (T : List Tr) (f : Value → Option Value) : Prop := ∀ v : Int, (∀ y, f (.int .i64 v) = some y → ∃ u : Int, y = .int .i64 u ∧ Nxt T v u) ∧ (f (.int .i64 v) = none → ∀ u, ¬ Nxt T v u)
theorem nxt_edge {T : List Tr} {v u : Int} : Nxt T v u ↔ ∃ c, c < 3 * T.length ∧ oppI T (c : Int) = -1 ∧ edgeN T c = (u, v) := by
  constructor
  · rintro ⟨c, h1, rfl, rfl⟩
    exact ⟨Jor.nx c, Jor.nx_lt h1.1, h1.2, by rw [edge_nx]⟩
  · rintro ⟨c, h1, h2, h3⟩
    refine ⟨Jor.pv c, ⟨Jor.pv_lt h1, by rw [Jor.nx_pv]; exact h2⟩, ?_, ?_⟩
    · exact congrArg Prod.snd h3
    · rw [Jor.pv_pv]
      exact congrArg Prod.fst h3
set_option maxRecDepth 100000 in
set_option maxHeartbeats 2000000 in
theorem behindB_any (g : Nat) (N : Int) (T : List Tr) (w : World) (h : Tab w g N T) (hN : N ≤ 4096) (hS : Surf N T) : Calls Tryz.prog 146 #[.pointer (some ⟨g, 0, none⟩)] w fun e w' => ∃ b f, e = .returned (.map (some b)) ∧ w.heap.size ≤ b ∧ MapP Tryz.prog 3 w' b f ∧ BhMap T f ∧ Below w.heap.size w w' := by
  have hB : Below w.heap.size w (w.alloc (.map #[] 0)) := (Below.refl _ _).alloc (Nat.le_refl _) _
  have HB := Lib.hid hB
  have HM := Lib.hid (MapP.made w Tryz.prog 3)
  have HE := Lib.hid (edgesB_any g N T _ (h.below hB))
  have hl := h.len
  have HR := Lib.hid (fun (c : Nat) (hc : c < 3 * T.length) => And.intro (vert_rng hS (Jor.nx_lt hc)) (vert_rng hS (Jor.pv_lt hc)))
  clear hB h hS
  have hmm := @run_makeMap Tryz.prog
  go_enter Tryz.func146, Tryz.ntmps146
  go_wp2_with fail
  refine HE.out.mono ?_
  rintro e w1 ⟨v', E, rfl, hrow, hEd, hEl, hb1⟩
  obtain ⟨a, c, rfl⟩ := ownsRow_slice hrow
  have HEd := Lib.hid hEd
  have Hrow := Lib.hid hrow
  have HB1 := Lib.hid (HB.out.trans (hb1.mono HB.out.size))
  have HM1 := Lib.hid (HM.out.below hb1 (by simp))
  obtain ⟨m, hm⟩ : ∃ m, E.length = m := ⟨_, rfl⟩
  rw [hm] at hEl Hrow ⊢
  have Hm := Lib.hid hm
  clear hrow hEd hb1 hm HM HB HE hmm
  go_wp2
  go_loopw [10] (fun ix wr => ∃ (k : Nat) (f : Value → Option Value), k ≤ m ∧ ix = .int .i64 k ∧ MapP Tryz.prog 3 wr w.heap.size f ∧ (∀ v : Int, (∀ y, f (.int .i64 v) = some y → ∃ u : Int, y = .int .i64 u ∧ (u, v) ∈ E) ∧ (f (.int .i64 v) = none → ∀ u, (u, v) ∉ E.take k)) ∧ wr.ownsRow (w.heap.size + 1) 108 2 (.slice a m c) m (es2 E) ∧ Below w.heap.size w wr) (fun ix _ => m - (intOf ix).toNat)
  case atStart => exact ⟨0, _, Nat.zero_le _, rfl, HM1.out, fun v => ⟨fun y h => (by cases h), fun _ u h => (by simp at h)⟩, by have := Hrow.out; rwa [size_alloc'] at this, HB1.out⟩
  case round =>
    obtain ⟨k, f, hk, rfl, hmp, hf, hrow, hB⟩ := hrel
    rename World => wr
    have HMp := Lib.hid hmp
    have Hf := Lib.hid hf
    have Hr := Lib.hid hrow
    have HB := Lib.hid hB
    have hsz := hB.size
    clear hmp hf hB
    by_cases hlt : k < m
    · have k3 : (k : Int) < (m : Int) := by omega
      have k0 : (0 : Int) ≤ (k : Int) := by omega
      have hkE : k < E.length := by rw [Hm.out]; exact hlt
      obtain ⟨gE, cE, e0, -, -⟩ := hrow.form (by omega)
      cases e0
      obtain ⟨u, x, hux⟩ : ∃ u x, E[k] = (u, x) := ⟨_, _, rfl⟩
      have hx := List.getElem?_eq_getElem hkE
      rw [hux] at hx
      obtain ⟨z0, z1⟩ := es2_at E k (u, x) hx
      have c0 : wr.cell? ⟨gE, k * 2, none⟩ = some (.int .i64 u) := by rw [hrow.cellAt _ (by omega)]; exact z0
      have c1 : wr.cell? ⟨gE, k * 2 + 1, none⟩ = some (.int .i64 x) := by rw [hrow.cellAt _ (by omega)]; exact z1
      have hmem : (u, x) ∈ E := List.mem_of_getElem? hx
      obtain ⟨cc, h1, h2, h3⟩ := (HEd.out (u, x)).1 hmem
      have hrg := HR.out cc h1
      have e1 : vertN T (Jor.nx cc) = u := congrArg Prod.fst h3
      have e2 : vertN T (Jor.pv cc) = x := congrArg Prod.snd h3
      rw [e1, e2] at hrg
      have Hmem := Lib.hid hmem
      have htk : E.take (k + 1) = E.take k ++ [(u, x)] := by rw [List.take_succ_eq_append_getElem hkE, hux]
      have Htk := Lib.hid htk
      have hkeyv := keyOf_int_mk (P := Tryz.prog) (k := 3) (q := .i64) Tryz.underlying3 (wfV (x := x) ⟨by omega, by omega⟩)
      clear hx z0 z1 hmem h1 h2 h3 e1 e2 hrg hux htk hrow
      obtain ⟨le, d0, df0, d1, df1⟩ := (Blk.new wr 108 #[.int .i64 u, .int .i64 x]).two
      go_wp2_with (at_mapUpdate; refine wpList_storeP (HMp.out.alloc (.cells #[.int .i64 u, .int .i64 x] 108)) rfl _ _ _ 78 3 (.inl rfl) (int_keyed Tryz.underlying3) Tryz.underlying78 rfl (.int .i64 x) (.int .i64 u) rfl rfl hkeyv ?_; intro w6 hm6 hg6 hs6)
      go_roundw
      case measure => simp [intOf]; omega
      case rel =>
        refine ⟨k + 1, _, by omega, by go_num, hm6, fun v => ⟨fun y hy => ?_, fun hno u' hu' => ?_⟩, (Hr.out.alloc _).kept hg6 (own_blk_none_map Hr.out HMp.out), ?_⟩
        · by_cases e : v = x
          · subst e
            rw [updP_same] at hy
            cases hy
            exact ⟨u, rfl, Hmem.out⟩
          · rw [updP_other (by intro h; cases h; exact e rfl)] at hy
            exact (Hf.out v).1 y hy
        · by_cases e : v = x
          · subst e
            rw [updP_same] at hno
            cases hno
          · rw [updP_other (by intro h; cases h; exact e rfl)] at hno
            rw [Htk.out, List.mem_append, List.mem_singleton] at hu'
            rcases hu' with h | h
            · exact (Hf.out v).2 hno u' h
            · cases h; exact e rfl
        · exact HB.out.grown (gGrown (World.grownBy_alloc _ _ _) hg6 (row := some w.heap.size) (fun _ e => .inl e)) hsz (fun j e => by cases e; exact Nat.le_refl _)
    · obtain rfl : k = m := by omega
      have HF : Hid (BhMap T f) := Lib.hid (fun v => ⟨fun y hy => by
        obtain ⟨u, rfl, hu⟩ := (Hf.out v).1 y hy
        exact ⟨u, rfl, nxt_edge.2 ((HEd.out _).1 hu)⟩, fun hno u hu => by
        have := (Hf.out v).2 hno u
        rw [List.take_of_length_le (by rw [Hm.out]; exact Nat.le_refl _)] at this
        exact this ((HEd.out _).2 (nxt_edge.1 hu))⟩)
      clear hrow
      go_wp2
      go_ret
      exact ⟨_, f, rfl, Nat.le_refl _, HMp.out, HF.out, HB.out⟩
end Go.Proofs.YtghlnknncahkgaaGreat
/-
  walk.Steps: the iterator's contract once more, where a round may know that what it is handed is the next step.
-/
namespace Go.Proofs.YtghlnknncahkgaaGreat
open Go.RowKit Go.Maps Go.Shelf
attribute [local go_sem] Oper.semAt_some

/-- The iterator's contract. -/
def SeqSepO {α : Type} (F : Fence) (n : Nat) (P : Program) (g : Nat) (lb : Array Value) (encs : α → Array Value) (Ok : List α → α → Prop) (Fin Sp : List α → Prop) (N : Nat) (w0 : World) (R : Nat → Prop) (Pre : World → Prop) : Prop :=
  ∀ (l : Nat) (J Jx : List α → (Nat → Prop) → World → Prop) (W : World) (C : Nat → Prop), Below w0.heap.size w0 W → Pre W → (∀ k, R k → k < W.heap.size) → Stable w0.heap.size J → Stable w0.heap.size Jx →
    (∀ pre x C1 W1, J pre C1 W1 → pre.length < N → Ok pre x → YieldAt F (n - 1) P l (encs x) W1 fun e W' =>
      Kept C1 W1 W' ∧ ∃ C', Anew C1 C' W1 W' ∧ ((e = .returned (.bool true) ∧ J (pre ++ [x]) C' W') ∨ (e = .returned (.bool false) ∧ Jx (pre ++ [x]) C' W'))) →
    J [] C W → (∀ k, C k → w0.heap.size ≤ k ∧ k < W.heap.size ∧ ¬ R k) →
    CallsIn F n P g (#[.func (.yield l) #[] #[]] ++ lb) W fun e W' => (∃ v, e = .returned v) ∧ ((∃ xs C', Fin xs ∧ J xs C' W') ∨ (∃ pre C', Sp pre ∧ Jx pre C' W'))
section
variable {F : Fence} {n : Nat} {P : Program} {w : World}
set_option maxHeartbeats 1000000 in
theorem wpIn_rangeFunc_sepO {α : Type} {g : Operand} {ps : Array Tmp} {assign body : Code} {Q : Exit → Act → World → Prop} {a : Act} {w : World}
    (hro : F.round = none) (h1 : 1 ≤ n) {gf : Nat} {lb : Array Value} (hg : a.eval g = .func (.func gf) #[] lb) (hFg : F.fn gf) (eg : ∀ args w, (callFunc gf args).run P w = .ok (.enter gf args) w)
    {encs : α → Array Value} {Ok : List α → α → Prop} {Fin Sp : List α → Prop} {N : Nat} {w0 : World} {R : Nat → Prop} {Pre : World → Prop} (hseq : SeqSepO F (n - 1) P gf lb encs Ok Fin Sp N w0 R Pre) (hpre : ∀ W, Below w.heap.size w W → Pre W) (hR : ∀ k, R k → k < w.heap.size) (hb0 : Below w0.heap.size w0 w) (hps : ∀ x, (encs x).size = ps.size)
    (I : List α → (Nat → Prop) → World → Prop) (Ix : Code → List α → (Nat → Prop) → World → Prop) (hI : Stable w0.heap.size I) (hIx : ∀ c, Stable w0.heap.size (Ix c)) (C0 : Nat → Prop) (hC0 : ∀ k, C0 k → w0.heap.size ≤ k ∧ k < w.heap.size ∧ ¬ R k) (h0 : I [] C0 w)
    (hround : ∀ (l : Nat) (pre : List α) (x : α) (C : Nat → Prop) (W : World), w.heap.size ≤ l → l < W.heap.size → I pre C W → (∀ k, C k → w0.heap.size ≤ k ∧ k < W.heap.size) → pre.length < N → Ok pre x →
      assign.wpIn (F.inRound l) (n - 1 - 1) P (Exit.then (fun a' W1 => Kept C W W1 ∧ I pre C W1 ∧ ∀ W2, Kept (fun k => k = l) W1 W2 → I pre C W2 → (∀ k, C k → w0.heap.size ≤ k ∧ k < W2.heap.size) → W2.heap.size = W1.heap.size → body.wpIn (F.inRound l) (n - 1 - 1) P (sepPost I Ix C (pre ++ [x]) W2) a' W2) (fun _ _ _ => False))
        { tmps := (ps.zip (encs x)).foldl (fun t (p, v) => t.setIfInBounds p v) a.tmps, defers := [] } W)
    (hdone : ∀ (D : Nat) (xs : List α) (C : Nat → Prop) (W : World), w.heap.size ≤ D → ¬ C D → Fin xs → I xs C W → W.heap[D]? = some (.deferred (some [])) → Q .normal { a with defers := { target := .collected D, args := #[] } :: a.defers } W)
    (hstop : ∀ (D : Nat) (c : Code) (pre : List α) (C : Nat → Prop) (W : World), w.heap.size ≤ D → ¬ C D → Sp pre → Ix c pre C W → W.heap[D]? = some (.deferred (some [])) → c.wpIn F n P Q { a with defers := { target := .collected D, args := #[] } :: a.defers } W) :
    (Code.rangeFunc g ps assign body).wpIn F n P Q a w := by
  refine wpIn_rangeFunc ?_
  intro fn hfn
  rw [hro]
  obtain ⟨rec, hrec⟩ : ∃ rec : LoopState → Option Code → Loop, rec = fun st pe => { state := st, pending := pe, fn, tmps := a.tmps, params := ps, assign, body, defers := w.heap.size } := ⟨_, rfl⟩
  obtain ⟨W1, hW1⟩ : ∃ W1, (w.alloc (.deferred (some []))).alloc (.loop (rec .ready none)) = W1 := ⟨_, rfl⟩
  have hL1 : W1.heap[w.heap.size + 1]? = some (.loop (rec .ready none)) := by
    rw [← hW1]; have := World.alloc_heap_new (w.alloc (.deferred (some []))) (.loop (rec .ready none)); rwa [World.size_alloc] at this
  have hK1 : W1.heap[w.heap.size]? = some (.deferred (some [])) := by
    rw [← hW1]; exact (Below.heap_alloc _ _ _ (by simp)).trans (World.alloc_heap_new w _)
  have hz1 : W1.heap.size = w.heap.size + 2 := by rw [← hW1]; simp
  have hbw : Below w.heap.size w W1 := by rw [← hW1]; exact ((Below.refl _ w).alloc (Nat.le_refl _) _).alloc (by simp) _
  have hz0 := hb0.size
  have hI1 : I [] C0 W1 := hI _ _ _ _ h0 (hbw.mono hz0) (fun k hk => hbw.block k (hC0 k hk).2.1)
  have hb1 : Below w0.heap.size w0 W1 := hb0.trans (hbw.mono hz0)
  -- the law's own set
  let J : (List α → (Nat → Prop) → World → Prop) → (World → Prop) → List α → (Nat → Prop) → World → Prop := fun I R pre C W => ∃ Cu, (∀ k, C k ↔ Cu k ∨ k = w.heap.size ∨ k = w.heap.size + 1) ∧ I pre Cu W ∧ (∀ k, Cu k → w0.heap.size ≤ k ∧ k < W.heap.size ∧ k ≠ w.heap.size ∧ k ≠ w.heap.size + 1) ∧ R W ∧ W.heap[w.heap.size]? = some (.deferred (some []))
  have hJ : ∀ (I : List α → (Nat → Prop) → World → Prop) (R : World → Prop), Stable w0.heap.size I → (∀ A B : World, R A → B.heap[w.heap.size + 1]? = A.heap[w.heap.size + 1]? → R B) → Stable w0.heap.size (J I R) := by
    rintro I R hI hR xs C A B ⟨Cu, hC, hi, hbd, hl, hd⟩ hbel hsame
    exact ⟨Cu, hC, hI _ _ _ _ hi hbel (fun k hk => hsame k ((hC k).2 (.inl hk))), fun k hk => by have := hbd k hk; have := hbel.size; omega, hR _ _ hl (hsame _ ((hC _).2 (.inr (.inr rfl)))), (hsame _ ((hC _).2 (.inr (.inl rfl)))).trans hd⟩
  refine ⟨w.heap.size + 1, [{ target := .collected w.heap.size, args := #[] }], W1, { target := .fn (.func gf) lb, args := #[.func (.yield (w.heap.size + 1)) #[] #[]] }, W1, gf,
    #[.func (.yield (w.heap.size + 1)) #[] #[]] ++ lb, W1, ?_, ?_, ?_, ?_, fun _ => h1, ?_⟩
  · rw [← hW1, hrec]; exact run_enterLoop_outer _ _ _ _ _
  · simp only [resolve, hg]
    simp [go_sem]
  · intro f' hf'; simp [Target.leads] at hf'; subst hf'; exact hFg
  · simp [invoke, go_sem, eg]
  · refine (hseq (w.heap.size + 1) (J I (fun W => W.heap[w.heap.size + 1]? = some (.loop (rec .ready none)))) (J (fun xs C W => ∃ c, Ix c xs C W ∧ W.heap[w.heap.size + 1]? = some (.loop (rec .done (some c)))) (fun _ => True)) W1
      (fun k => C0 k ∨ k = w.heap.size ∨ k = w.heap.size + 1) hb1 (hpre W1 hbw) (fun k hk => by have := hR k hk; omega) (hJ _ _ hI (fun A B h e => e.trans h)) ?_ ?_ ⟨C0, fun k => Iff.rfl, hI1, fun k hk => by have := hC0 k hk; omega, hL1, hK1⟩ (fun k hk => by
        have hR' := hR k
        rcases hk with hk | hk | hk
        · have := hC0 k hk; exact ⟨this.1, by omega, this.2.2⟩
        · exact ⟨by omega, by omega, fun h => by have := hR' h; omega⟩
        · exact ⟨by omega, by omega, fun h => by have := hR' h; omega⟩)).mono ?_
    · rintro xs C A B ⟨Cu, hC, ⟨c, hc, hl⟩, hbd, -, hd⟩ hbel hsame
      exact ⟨Cu, hC, ⟨c, hIx c _ _ _ _ hc hbel (fun k hk => hsame k ((hC k).2 (.inl hk))), (hsame _ ((hC _).2 (.inr (.inr rfl)))).trans hl⟩, fun k hk => by have := hbd k hk; have := hbel.size; omega, trivial, (hsame _ ((hC _).2 (.inr (.inl rfl)))).trans hd⟩
    · -- one round
      rintro pre x C W ⟨Cu, hC, hi, hbd, hl, hk⟩ hlen hok
      have hlt : w.heap.size + 1 < W.heap.size := (Array.getElem?_eq_some_iff.1 hl).1
      have hy := run_yield (P := P) (args := encs x) hl (by rw [hrec]; exact hps x)
      rw [hrec] at hy
      refine ⟨fn, _, assign, body, hy, roundIn_of_wpIn hfn (wpIn_mono (hround (w.heap.size + 1) pre x Cu W (by omega) hlt hi (fun k hk => ⟨(hbd k hk).1, (hbd k hk).2.1⟩) hlen hok) ?_)⟩
      clear hy
      intro e a' Wa hp
      cases e with
      | normal =>
        obtain ⟨hka, hia, hb⟩ := hp
        have hla := (hka.block _ hlt (fun h => (hbd _ h).2.2.2 rfl)).trans hl
        have hda := (hka.block _ (by omega) (fun h => (hbd _ h).2.2.1 rfl)).trans hk
        have hza := hka.size
        refine ⟨_, run_beginRound hla (by rw [hrec]), ?_⟩
        obtain ⟨W2, hW2⟩ : ∃ W2, Wa.putObj (w.heap.size + 1) (.loop { rec .ready none with state := .busy }) = W2 := ⟨_, rfl⟩
        have hl2 : W2.heap[w.heap.size + 1]? = some (.loop { rec .ready none with state := .busy }) := by rw [← hW2]; exact World.putObj_heap_same (by omega)
        have hd2 : W2.heap[w.heap.size]? = some (.deferred (some [])) := by rw [← hW2]; exact (World.putObj_heap_other (by omega)).trans hda
        have hz2 : W2.heap.size = Wa.heap.size := by rw [← hW2]; simp
        have hk2 : Kept (fun k => k = w.heap.size + 1) Wa W2 := by rw [← hW2]; exact putObj_kept rfl
        have hi2 : I pre Cu W2 := by
          refine hI _ _ _ _ hia ?_ (fun k hk => ?_)
          · rw [← hW2]; exact putObj_below (by omega)
          · rw [← hW2]; exact World.putObj_heap_other (hbd k hk).2.2.2
        rw [hW2]
        refine wpIn_mono (hb W2 hk2 hi2 (fun k hk => by have := hbd k hk; omega) hz2) ?_
        have fin : ∀ (jump : Option Code) (W3 : World) (C' : Nat → Prop), Kept Cu W2 W3 → Anew Cu C' W2 W3 →
            (Instr.endRound (w.heap.size + 1) jump).run P W3 = .ok (.bool jump.isNone) (W3.putObj (w.heap.size + 1) (.loop (rec (if jump.isNone then .ready else .done) jump))) ∧
            (W3.putObj (w.heap.size + 1) (.loop (rec (if jump.isNone then .ready else .done) jump))).heap[w.heap.size + 1]? = some (.loop (rec (if jump.isNone then .ready else .done) jump)) ∧
            (W3.putObj (w.heap.size + 1) (.loop (rec (if jump.isNone then .ready else .done) jump))).heap[w.heap.size]? = some (.deferred (some [])) ∧
            Kept C W (W3.putObj (w.heap.size + 1) (.loop (rec (if jump.isNone then .ready else .done) jump))) ∧
            Anew C (fun k => C' k ∨ k = w.heap.size ∨ k = w.heap.size + 1) W (W3.putObj (w.heap.size + 1) (.loop (rec (if jump.isNone then .ready else .done) jump))) ∧
            (∀ k, C' k → w0.heap.size ≤ k ∧ k < (W3.putObj (w.heap.size + 1) (.loop (rec (if jump.isNone then .ready else .done) jump))).heap.size ∧ k ≠ w.heap.size ∧ k ≠ w.heap.size + 1) := fun jump W3 C' hk3 hn3 => by
          have hl3 := (hk3.block _ (by omega) (fun h => (hbd _ h).2.2.2 rfl)).trans hl2
          have hd3 := (hk3.block _ (by omega) (fun h => (hbd _ h).2.2.1 rfl)).trans hd2
          have hz3 := hk3.size
          have := run_endRound (P := P) jump hl3
          rw [hrec] at this ⊢
          refine ⟨this, World.putObj_heap_same (by omega), (World.putObj_heap_other (by omega)).trans hd3, ?_, ?_, ?_⟩
          · have c1 : Kept C W Wa := hka.mono (fun k hk => (hC k).2 (.inl hk))
            have c2 : Kept C Wa W2 := hk2.mono (fun k hk => (hC k).2 (.inr (.inr hk)))
            have c3 : Kept C W2 W3 := hk3.mono (fun k hk => (hC k).2 (.inl hk))
            exact ((c1.trans c2).trans c3).trans (putObj_kept ((hC _).2 (.inr (.inr rfl))))
          · intro k hk
            rw [World.putObj_size]
            rcases hk with hk | hk | hk
            · rcases hn3 k hk with h | h
              · exact .inl ((hC k).2 (.inl h))
              · exact .inr (by omega)
            · exact .inl ((hC k).2 (.inr (.inl hk)))
            · exact .inl ((hC k).2 (.inr (.inr hk)))
          · intro k hk
            rw [World.putObj_size]
            rcases hn3 k hk with h | h
            · have := hbd k h
              omega
            · omega
        have put : ∀ {J : List α → (Nat → Prop) → World → Prop} (xs : List α) (C' : Nat → Prop) (W3 : World) (o : Obj), Stable w0.heap.size J → J xs C' W3 → (∀ k, C' k → k ≠ w.heap.size + 1) → J xs C' (W3.putObj (w.heap.size + 1) o) := fun xs C' W3 o hJ h hk => hJ _ _ _ _ h (putObj_below (by omega)) (fun k h' => World.putObj_heap_other (hk k h'))
        rintro e a3 W3 hp
        cases e with
        | normal =>
          obtain ⟨hk3, C', hn3, hi3⟩ := hp
          obtain ⟨hr, hl4, hd4, c4, n4, b4⟩ := fin none W3 C' hk3 hn3
          exact ⟨_, _, hr, c4, _, n4, .inl ⟨rfl, C', fun k => Iff.rfl, put _ _ _ _ hI hi3 (fun k h => (b4 k h).2.2.2), b4, hl4, hd4⟩⟩
        | ret =>
          obtain ⟨hk3, C', hn3, hi3⟩ := hp
          obtain ⟨hr, hl4, hd4, c4, n4, b4⟩ := fin (some .ret) W3 C' hk3 hn3
          exact ⟨_, _, hr, c4, _, n4, .inr ⟨rfl, C', fun k => Iff.rfl, ⟨.ret, put _ _ _ _ (hIx _) hi3 (fun k h => (b4 k h).2.2.2), hl4⟩, b4, trivial, hd4⟩⟩
        | exit id =>
          obtain ⟨hk3, C', hn3, hi3⟩ := hp
          obtain ⟨hr, hl4, hd4, c4, n4, b4⟩ := fin (some (.exit id)) W3 C' hk3 hn3
          exact ⟨_, _, hr, c4, _, n4, .inr ⟨rfl, C', fun k => Iff.rfl, ⟨.exit id, put _ _ _ _ (hIx _) hi3 (fun k h => (b4 k h).2.2.2), hl4⟩, b4, trivial, hd4⟩⟩
        | goto t =>
          obtain ⟨hk3, C', hn3, hi3⟩ := hp
          obtain ⟨hr, hl4, hd4, c4, n4, b4⟩ := fin (some (.goto t)) W3 C' hk3 hn3
          exact ⟨_, _, hr, c4, _, n4, .inr ⟨rfl, C', fun k => Iff.rfl, ⟨.goto t, put _ _ _ _ (hIx _) hi3 (fun k h => (b4 k h).2.2.2), hl4⟩, b4, trivial, hd4⟩⟩
        | panic ch => exact hp.elim
        | outgrown => exact hp.elim
      | ret => exact hp.elim
      | exit id => exact hp.elim
      | goto t => exact hp.elim
      | panic ch => exact hp.elim
      | outgrown => exact hp.elim
    · -- behind the iterator
      rintro e W2 ⟨⟨v, rfl⟩, (⟨xs, C', hS, Cu, hC, hi, hbd, hl, hd⟩ | ⟨pre, C', hSp, Cu, hC, ⟨c, hi, hl⟩, hbd, -, hd⟩)⟩
      · exact ⟨none, _, by have := run_endLoop (P := P) hl (by rw [hrec]; simp); rw [hrec] at this; exact this, hdone _ xs Cu _ (Nat.le_refl _) (fun h => (hbd _ h).2.2.1 rfl) hS (hI _ _ _ _ hi (putObj_below (by omega)) (fun k hk => World.putObj_heap_other (hbd k hk).2.2.2)) ((World.putObj_heap_other (by omega)).trans hd)⟩
      · exact ⟨some c, _, by have := run_endLoop (P := P) hl (by rw [hrec]; simp); rw [hrec] at this; exact this, hstop _ c pre Cu _ (Nat.le_refl _) (fun h => (hbd _ h).2.2.1 rfl) hSp (hIx c _ _ _ _ hi (putObj_below (by omega)) (fun k hk => World.putObj_heap_other (hbd k hk).2.2.2)) ((World.putObj_heap_other (by omega)).trans hd)⟩
end
set_option maxRecDepth 100000 in
set_option maxHeartbeats 4000000 in
theorem steps1_sepO {w : World} {m Bt Bc g n c : Nat} {T : List Tr} (hs : Simp n T) (hT : Tab w g n T) (hc : c < 3 * T.length) :
    SeqSepO Fence.wide m Tryz.prog 58 #[.pointer (some ⟨Bt, 0, none⟩), .pointer (some ⟨Bc, 0, none⟩)] encS (fun pre x => ∃ s, Ran T (beginS T c) (pre ++ [x]) s) (fun xs => xs = stepsM T c) (fun pre => ∃ s, Ran T (beginS T c) pre s) T.length w (fun _ => False) (fun W => W.cell? ⟨Bt, 0, none⟩ = some (.pointer (some ⟨g, 0, none⟩)) ∧ W.cell? ⟨Bc, 0, none⟩ = some (.int .i64 c) ∧ Bt < W.heap.size ∧ Bc < W.heap.size) := by
  rintro l J Jx W C hW ⟨t0, c0, lt, lc⟩ - hJ hJx hY h0 hC
  have hTl := hT.len
  have hn : n ≤ 4096 := by have := hs.surf.n1; omega
  have hz := hW.size
  have HCk := Lib.hid (check_walk g n T W (c : Int) (hT.below hW) hs.surf (by omega) (fun W' hW' => loopsPost_closed ((hT.below hW).below hW') hs.closed hn))
  rw [if_neg (by omega), if_pos ((chk_simp hs.surf).2 hs)] at HCk
  have HT := Lib.hid (fun (W' : World) (hW' : Below w.heap.size w W') => hT.below hW')
  have HS := Lib.hid hs
  have HJ := Lib.hid hJ
  have HY := Lib.hid hY
  have HJ0 := Lib.hid h0
  have HC := Lib.hid hC
  have HW := Lib.hid hW
  clear hs hT hJ hJx hY h0 hC hW
  refine callsIn_of_wp Tryz.func58 rfl trivial ?_ rfl
  simp only [Tryz.ntmps58, List.size_toArray, List.length_cons, List.length_nil, Nat.reduceAdd, Nat.reduceSub, Array.replicate_succ, Array.replicate_zero, List.push_toArray, List.append_toArray, List.nil_append, List.cons_append]
  gi_wp2_with fail
  refine ⟨trivial, fun h => (by simp [Fence.wide] at h), (callsIn_wide.2 HCk.out).mono ?_⟩
  rintro e w1 ⟨rfl, hb1⟩
  have t1 := (hb1.cell (p := ⟨Bt, 0, none⟩) (by simp only; omega)).trans t0
  have c1 := (hb1.cell (p := ⟨Bc, 0, none⟩) (by simp only; omega)).trans c0
  have HW1 := Lib.hid (HW.out.trans (hb1.mono hz))
  have HB1 := Lib.hid hb1
  clear hb1 HCk t0 c0
  gi_wp2_with fail
  refine ⟨trivial, fun h => (by simp [Fence.wide] at h), (callsIn_wide.2 (begin_any (HT.out w1 HW1.out) HS.out.surf hc)).mono ?_⟩
  rintro e w2 ⟨b, vC, vL, vW, vs, rfl, hA, hb2⟩
  have hb12 := HB1.out.trans (hb2.mono HB1.out.size)
  have HI := Lib.hid (show SteI w g n T c b w1.heap.size J T.length w2 from ⟨⟨[], beginS T c, OwnA b vC vL vW vs, C, .nil, ⟨fun j hj => hA.own_ge hj, .inl ⟨vC, vL, vW, vs, hA, fun _ h => h⟩⟩, HJ.out _ _ _ _ HJ0.out (hb12.mono hz) (fun j hj => hb12.block j (HC.out j hj).2.1),
    fun j hj => by
      have h1 := HC.out j hj
      have h2 := hb12.size
      have h3 := HB1.out.size
      exact ⟨h1.1, by omega, fun h => by have := (hA.own_ge h).1; omega⟩, by simp⟩, HW1.out.trans (hb2.mono HW1.out.size)⟩)
  have hz1 := HW1.out.size
  clear hA hb2 hb12 t1 c1 HB1
  gi_wp2
  gi_loopg [] T.length (fun k wr => SteI w g n T c b w1.heap.size J k wr)
  case atStart => exact HI.out
  case round =>
    clear HI HJ0 HC
    rename World => wr
    obtain ⟨⟨L, s, S, C1, R, hWs, hJL, hC1, hk⟩, hB⟩ := hrel
    obtain ⟨Xs, G⟩ := R.gone HS.out hc
    have hzr := hB.size
    have hbw1 : w.heap.size ≤ w1.heap.size := hz1
    have stab : ∀ (A : World), Kept S wr A → J L C1 A := fun A hK => HJ.out _ _ _ _ hJL (hK.below (fun j hj => by have := (hWs.1 j hj).1; omega) hzr) (fun j hj => hK.block j (hC1 j hj).2.1 (hC1 j hj).2.2)
    have HST := Lib.hid stab
    by_cases hl : s.loop = []
    · have HE := Lib.hid (step_end hWs hl (by
        obtain ⟨h1, ⟨vC, vL, vW, vs, h2, h3⟩ | ⟨h2, h3, h4⟩⟩ := hWs
        · exact h2.ble
        · have := h1 b h3
          omega))
      have HR := Lib.hid (R.steps HS.out hc hl)
      clear hWs hJL hC1 hB G R stab
      gi_wp2_with fail
      refine ⟨trivial, fun h => (by simp [Fence.wide] at h), (callsIn_wide.2 HE.out).mono ?_⟩
      rintro e w3 ⟨rfl, hK⟩
      have HJ3 := Lib.hid (HST.out _ (hK.alloc (.cells #[.int .u8 0, .int .i64 0, .int .i64 0, .int .i64 0] 55)))
      clear hK HE
      gi_wp2
      refine ⟨fun f h => (by cases h), ?_⟩
      gi_wp2
      refine bodyPost_ret (results_none rfl _ _ _) rfl ?_
      exact ⟨⟨_, rfl⟩, .inl ⟨L, C1, HR.out, HJ3.out⟩⟩
    · obtain ⟨x, s', Xs', hst, G', -⟩ := G.next HS.out hl
      obtain ⟨q1, q2, q3, q4, q5⟩ := G.wants HS.out
      have hlt := (G'.lt HS.out).1
      have HE := Lib.hid (step_any (HT.out wr hB) hWs hst q1 hn (by omega) (by omega) (q4 hl) q5)
      have HR := Lib.hid (Ran.snoc R hst)
      have HWs := Lib.hid hWs.1
      have HC1 := Lib.hid hC1
      have HBr := Lib.hid hB
      have hLx : (L ++ [x]).length = L.length + 1 := by simp
      clear hWs hJL hC1 hB G G' R stab q1 q2 q3 q4 q5 hst
      gi_wp2_with fail
      refine ⟨trivial, fun h => (by simp [Fence.wide] at h), (callsIn_wide.2 HE.out).mono ?_⟩
      rintro e w3 ⟨rfl, S', hWs', hS', hK⟩
      obtain ⟨xl, xc, xo, xn⟩ := x
      have hK4 := hK.alloc (.cells #[.int .u8 xl, .int .i64 xc, .int .i64 xo, .int .i64 xn] 55)
      have hJ4 := HST.out _ hK4
      have hz3 := hK.size
      have bs := Blk.new w3 55 #[.int .u8 xl, .int .i64 xc, .int .i64 xo, .int .i64 xn]
      obtain ⟨fn, tmps, assign, body, hy, hR⟩ := HY.out L ⟨xl, xc, xo, xn⟩ C1 _ hJ4 (by omega) ⟨_, HR.out⟩
      have hz4 : (w3.alloc (.cells #[.int .u8 xl, .int .i64 xc, .int .i64 xo, .int .i64 xn] 55)).heap.size = w3.heap.size + 1 := World.size_alloc _ _
      have hWs4 := hWs'.same (w' := w3.alloc (.cells #[.int .u8 xl, .int .i64 xc, .int .i64 xo, .int .i64 xn] 55)) (by omega) (fun j hj => Below.heap_alloc _ _ _ (hWs'.1 j hj).2)
      have hB4 := HBr.out.trans ((hK4.below (fun j hj => by have := (HWs.out j hj).1; omega) hzr))
      have Hz4 := Lib.hid hz4
      have HWs4 := Lib.hid hWs4
      have HWb := Lib.hid hWs'.1
      have HS' := Lib.hid hS'
      have HB4 := Lib.hid hB4
      unfold encS at hy
      dsimp only at hy
      obtain ⟨-, b0, b1, b2, b3, -⟩ := four bs
      clear hWs' hS' hK hK4 hJ4 hWs4 hB4 HE bs hz4
      gi_wp2
      refine ⟨fun h => (by simp [Fence.wide] at h), hR.mono ?_⟩
      rintro e w5 ⟨hK5, C', hC', ⟨rfl, hJ5⟩ | ⟨rfl, hJ5⟩⟩
      · have hz5 := hK5.size
        have hSd : ∀ j, S' j → ¬ C1 j := fun j hj hc1 => by
          have h1 := HC1.out j hc1
          rcases HS'.out j hj with h | h
          · exact h1.2.2 h
          · omega
        have hWs5 := HWs4.out.same hz5 (fun j hj => hK5.block j (HWs4.out.1 j hj).2 (hSd j hj))
        have hB5 := HB4.out.trans (hK5.below (fun j hj => (HC1.out j hj).1) HB4.out.size)
        have HI5 := Lib.hid (show SteI w g n T c b w1.heap.size J (T.length - (L.length + 1)) w5 from ⟨⟨L ++ [⟨xl, xc, xo, xn⟩], s', S', C', HR.out, hWs5, hJ5, fun j hj => by
          rcases hC' j hj with h | h
          · have h1 := HC1.out j h
            exact ⟨h1.1, by have := Hz4.out; omega, fun h2 => hSd j h2 h⟩
          · have := Hz4.out
            have := HB4.out.size
            exact ⟨by omega, h.2, fun h2 => by have := (HWb.out j h2).2; omega⟩, by simp; omega⟩, hB5⟩)
        clear hK5 hC' hJ5 hWs5 hB5 hR hSd
        gi_wp2
        gi_roundg (T.length - (L.length + 1))
        case measure => omega
        case rel => exact HI5.out
      · have HJ5 := Lib.hid hJ5
        clear hJ5 hK5 hC' hR
        gi_wp2
        refine bodyPost_ret (results_none rfl _ _ _) rfl ?_
        exact ⟨⟨_, rfl⟩, .inr ⟨_, C', ⟨s', HR.out⟩, HJ5.out⟩⟩
end Go.Proofs.YtghlnknncahkgaaGreat
/-
  border.Walk on any surface: the iterator's contract.
-/
namespace Go.Proofs.YtghlnknncahkgaaGreat
open Go.RowKit Go.Maps Go.Shelf
attribute [local go_sem] Oper.semAt_some

/-- The next vertex, out of the map; and so on. -/
def nxB (f : Value → Option Value) (x : Int) : Int := match f (.int .i64 x) with
  | some (.int .i64 u) => u
  | _ => 0
def itB (f : Value → Option Value) (v : Int) : Nat → Int
  | 0 => v
  | j + 1 => nxB f (itB f v j)
section
variable {n : Nat} {T : List Tr} {f : Value → Option Value}
theorem bh_some (hf : BhMap T f) {x : Int} (h : f (.int .i64 x) ≠ none) : f (.int .i64 x) = some (.int .i64 (nxB f x)) ∧ Nxt T x (nxB f x) := by
  cases hx : f (.int .i64 x) with
  | none => exact absurd hx h
  | some y =>
    obtain ⟨u, rfl, hu⟩ := (hf x).1 y hx
    have : nxB f x = u := by unfold nxB; rw [hx]
    rw [this]
    exact ⟨rfl, hu⟩
theorem bh_on (hS : Surf n T) (hf : BhMap T f) {x : Int} (h : f (.int .i64 x) ≠ none) : f (.int .i64 (nxB f x)) ≠ none := fun e => by
  obtain ⟨z, hz⟩ := (bh_some hf h).2.on hS
  exact (hf _).2 e z hz
theorem it_dom (hS : Surf n T) (hf : BhMap T f) {v : Int} (h : f (.int .i64 v) ≠ none) : ∀ j, f (.int .i64 (itB f v j)) ≠ none
  | 0 => h
  | j + 1 => bh_on hS hf (it_dom hS hf h j)
theorem it_rng (hS : Surf n T) (hf : BhMap T f) {v : Int} (h : f (.int .i64 v) ≠ none) (j : Nat) : 0 ≤ itB f v j ∧ itB f v j < n := ((bh_some hf (it_dom hS hf h j)).2.rng hS).1
theorem it_back (hS : Surf n T) (hf : BhMap T f) {v : Int} (h : f (.int .i64 v) ≠ none) : ∀ (i k : Nat), itB f v i = itB f v (i + k) → v = itB f v k
  | 0, k, e => by simpa [itB] using e
  | i + 1, k, e => it_back hS hf h i k (by
    have e2 : itB f v (i + 1 + k) = nxB f (itB f v (i + k)) := by rw [show i + 1 + k = (i + k) + 1 from by omega]; rfl
    have h1 := (bh_some hf (it_dom hS hf h i)).2
    have h2 := (bh_some hf (it_dom hS hf h (i + k))).2
    have e3 : nxB f (itB f v i) = nxB f (itB f v (i + k)) := by rw [← e2, ← e]; rfl
    rw [← e3] at h2
    exact h1.inj hS h2)
/-- One cannot go on for ever without coming back. -/
theorem it_bound (hS : Surf n T) (hf : BhMap T f) {v : Int} (h : f (.int .i64 v) ≠ none) {j : Nat} (hj : ∀ i, 1 ≤ i → i ≤ j → itB f v i ≠ v) : j + 1 ≤ n := by
  have hnd : ((List.range (j + 1)).map fun i => (itB f v i).toNat).Nodup := by
    refine List.pairwise_map.2 (List.Pairwise.imp_of_mem (fun {a b} ha hb hab => ?_) (List.pairwise_lt_range (n := j + 1)))
    intro e
    have ra := it_rng hS hf h a
    have rb := it_rng hS hf h b
    have e1 : itB f v a = itB f v (a + (b - a)) := by rw [show a + (b - a) = b from by omega]; omega
    have := it_back hS hf h a (b - a) e1
    exact hj (b - a) (by omega) (by have := List.mem_range.1 hb; omega) this.symm
  have := Jor.nodup_le (m := List.range n) hnd (fun x hx => by
    obtain ⟨i, -, rfl⟩ := List.mem_map.1 hx
    have := it_rng hS hf h i
    exact List.mem_range.2 (by omega))
  simpa using this
end
/-- What is yielded: nothing where there is no border; else the vertex first. -/
def FinB (n : Nat) (T : List Tr) (v : Nat) (xs : List Int) : Prop := (xs = [] → ∀ u, ¬ Nxt T v u) ∧ (xs ≠ [] → (∃ r, xs = (v : Int) :: r) ∧ ∃ u, Nxt T v u) ∧ xs.length ≤ n ∧ ∀ x ∈ xs, 0 ≤ x ∧ x < n
theorem MapP.same9 {P : Program} {k : TypeId} {b : Nat} {w w' : World} {f : Value → Option Value} (h : MapP P k w b f) (hg : w'.heap[b]? = w.heap[b]?) : MapP P k w' b f := by
  obtain ⟨es, clock, hb, h1⟩ := h
  exact ⟨es, clock, hg.trans hb, h1⟩
theorem Below.cell_same9 {w w' : World} {q : Nat} (hg : w'.heap[q]? = w.heap[q]?) : w'.cell? ⟨q, 0, none⟩ = w.cell? ⟨q, 0, none⟩ := by
  unfold World.cell?
  simp only [hg]
/-- The iterator's state between two rounds. -/
structure BwI (w : World) (n : Nat) (f : Value → Option Value) (v b Bv : Nat) (J : List Int → (Nat → Prop) → World → Prop) (k : Nat) (u5 : Value) (W : World) : Prop where
  st : ∃ j C, u5 = .int .i64 (itB f v (j + 1)) ∧ J ((List.range (j + 1)).map (itB f v)) C W ∧ (∀ i, 1 ≤ i → i ≤ j → itB f v i ≠ v) ∧ (∀ q, C q → w.heap.size ≤ q ∧ q < W.heap.size ∧ q ≠ b ∧ q ≠ Bv) ∧ k + j + 1 = n
  map : MapP Tryz.prog 3 W b f
  box : W.cell? ⟨Bv, 0, none⟩ = some (.int .i64 v)
  lt : Bv < W.heap.size
  below : Below w.heap.size w W
set_option maxRecDepth 100000 in
set_option maxHeartbeats 4000000 in
theorem bwalkB_sepO {w : World} {m Bt Bv g n v : Nat} {T : List Tr} (hS : Surf n T) (hT : Tab w g n T) (hv : v < n) :
    SeqSepO Fence.wide m Tryz.prog 145 #[.pointer (some ⟨Bt, 0, none⟩), .pointer (some ⟨Bv, 0, none⟩)] (fun x : Int => #[.int .i64 x]) (fun _ x => 0 ≤ x ∧ x < (n : Int)) (FinB n T v) (fun _ => True) n w (fun k => k = Bv) (fun W => W.cell? ⟨Bt, 0, none⟩ = some (.pointer (some ⟨g, 0, none⟩)) ∧ W.cell? ⟨Bv, 0, none⟩ = some (.int .i64 v) ∧ Bt < W.heap.size ∧ Bv < W.heap.size) := by
  rintro l J Jx W C hW ⟨t0, c0, lt, lc⟩ - hJ hJx hY h0 hC
  have hn : n ≤ 4096 := by have := hS.n1; omega
  have hz := hW.size
  have HE := Lib.hid (behindB_any g n T W (hT.below hW) (by omega) hS)
  have HS := Lib.hid hS
  have HJ := Lib.hid hJ
  have HY := Lib.hid hY
  have HJ0 := Lib.hid h0
  have HC := Lib.hid hC
  have HW := Lib.hid hW
  clear hS hT hJ hJx hY h0 hC hW
  refine callsIn_of_wp Tryz.func145 rfl trivial ?_ rfl
  simp only [Tryz.ntmps145, List.size_toArray, List.length_cons, List.length_nil, Nat.reduceAdd, Nat.reduceSub, Array.replicate_succ, Array.replicate_zero, List.push_toArray, List.append_toArray, List.nil_append, List.cons_append]
  gi_wp2_with fail
  refine ⟨trivial, fun h => (by simp [Fence.wide] at h), (callsIn_wide.2 HE.out).mono ?_⟩
  rintro e w1 ⟨b, f, rfl, hb, hm, hf, hb1⟩
  have HB1 := Lib.hid hb1
  have HM := Lib.hid hm
  have HF := Lib.hid hf
  have Hb := Lib.hid hb
  have hkeyv := keyOf_int_mk (P := Tryz.prog) (k := 3) (q := .i64) Tryz.underlying3 (wfV (x := (v : Int)) ⟨by omega, by omega⟩)
  have hlk := hm.lookOk (t := 78) (int_keyed Tryz.underlying3) Tryz.underlying78 (zero_int _) hkeyv
  have t1 := (hb1.cell (p := ⟨Bt, 0, none⟩) lt).trans t0
  have v1 := (hb1.cell (p := ⟨Bv, 0, none⟩) lc).trans c0
  have HJ1 := Lib.hid (HJ.out _ _ _ _ HJ0.out (hb1.mono hz) (fun j hj => hb1.block j (HC.out j hj).2.1))
  have HBw := Lib.hid (HW.out.trans (hb1.mono hz))
  have hz1 := hb1.size
  cases hfv : f (.int .i64 (v : Int)) with
  | none =>
    have HN := Lib.hid ((hf _).2 hfv)
    rw [hfv] at hlk
    clear hb1 hm hf hfv HE t0 c0 hb
    gi_wp2
    refine ⟨fun f h => (by cases h), ?_⟩
    gi_wp2
    refine bodyPost_ret (results_none rfl _ _ _) rfl ?_
    exact ⟨⟨_, rfl⟩, .inl ⟨[], C, ⟨fun _ => HN.out, fun h => absurd rfl h, Nat.zero_le _, fun x hx => by simp at hx⟩, HJ1.out⟩⟩
  | some y =>
    have hne : f (.int .i64 (v : Int)) ≠ none := by rw [hfv]; simp
    have hs := (bh_some hf hne).1
    rw [hs] at hlk
    have HNe := Lib.hid hne
    obtain ⟨fn, tmps, assign, body, hy, hR⟩ := HY.out [] (v : Int) C w1 HJ1.out (by simp; omega) (by omega)
    clear hb1 hm hf hfv HE t0 c0 hb hs hne
    gi_wp2
    refine ⟨fun h => (by simp [Fence.wide] at h), hR.mono ?_⟩
    rintro e w5 ⟨hK5, C', hC', ⟨rfl, hJ5⟩ | ⟨rfl, hJ5⟩⟩
    rotate_left
    · have HJ5 := Lib.hid hJ5
      clear hJ5 hK5 hC' hR
      gi_wp2
      refine bodyPost_ret (results_none rfl _ _ _) rfl ?_
      exact ⟨⟨_, rfl⟩, .inr ⟨_, C', trivial, HJ5.out⟩⟩
    have hCw : ∀ q, C q → w.heap.size ≤ q ∧ q < W.heap.size ∧ q ≠ Bv := fun q hq => HC.out q hq
    have HI := Lib.hid (show BwI w n f v b Bv J (n - 1) (.int .i64 (itB f v 1)) w5 from ⟨⟨0, C', rfl, hJ5, fun i h1 h2 => absurd h1 (by omega), fun q hq => by
      rcases hC' q hq with h | h
      · have h1 := hCw q h
        have h2 := hK5.size
        have h3 := Hb.out
        exact ⟨h1.1, by omega, by omega, h1.2.2⟩
      · exact ⟨by have := HBw.out.size; omega, h.2, by have := HM.out.lt; omega, by omega⟩, by omega⟩,
      HM.out.same9 (hK5.block b HM.out.lt (fun h => by have := hCw b h; have := Hb.out; omega)),
      (Below.cell_same9 (hK5.block Bv (by omega) (fun h => (hCw Bv h).2.2 rfl))).trans v1, by have := hK5.size; omega, HBw.out.trans (hK5.below (fun q hq => (hCw q hq).1) HBw.out.size)⟩)
    have HC0 := Lib.hid hCw
    have hn1 : (itB f v 1) = nxB f v := rfl
    rw [← hn1]
    clear hK5 hC' hJ5 hR hCw hlk t1 v1 HJ0 HJ1 hn1
    gi_wp2
    gi_loopg [5] (n - 1) (fun k v5 wr => BwI w n f v b Bv J k v5 wr)
    case atStart => exact HI.out
    case round =>
      clear HI HM HC HC0
      rename World => wr
      obtain ⟨⟨j, C1, rfl, hJL, hne, hC1, hk⟩, hm, hbx, hlt, hB⟩ := hrel
      by_cases hu : itB f v (j + 1) = v
      · have hq : (itB f v (j + 1) != (v : Int)) = false := by simpa using hu
        have HFin := Lib.hid (show FinB n T v ((List.range (j + 1)).map (itB f v)) from by
          have hd : (List.range (j + 1)).map (itB f v) = (v : Int) :: (List.range' 1 j).map (itB f v) := by
            rw [List.range_eq_range', List.range'_succ, List.map_cons]
            rfl
          refine ⟨fun h => (by rw [hd] at h; cases h), fun _ => ⟨⟨_, hd⟩, _, (bh_some HF.out HNe.out).2⟩, ?_, fun x hx => ?_⟩
          · have := it_bound HS.out HF.out HNe.out hne
            simpa using this
          · obtain ⟨i, -, rfl⟩ := List.mem_map.1 hx
            exact it_rng HS.out HF.out HNe.out i)
        have HJL := Lib.hid hJL
        clear hJL hne hC1 hm hB hu
        gi_wp2
        refine bodyPost_end (results_none rfl _ _ _) rfl ?_
        exact ⟨⟨_, rfl⟩, .inl ⟨_, C1, HFin.out, HJL.out⟩⟩
      · have hq : (itB f v (j + 1) != (v : Int)) = true := by simpa using hu
        have hne2 : ∀ i, 1 ≤ i → i ≤ j + 1 → itB f v i ≠ v := fun i h1 h2 => by
          rcases Nat.lt_or_ge i (j + 1) with e | e
          · exact hne i h1 (by omega)
          · obtain rfl : i = j + 1 := by omega
            exact hu
        have hbd := it_bound HS.out HF.out HNe.out hne2
        obtain ⟨fn, tmps, assign, body, hy, hR⟩ := HY.out _ (itB f v (j + 1)) C1 wr hJL (by simp; omega) (it_rng HS.out HF.out HNe.out (j + 1))
        have hrg := it_rng HS.out HF.out HNe.out (j + 1)
        have Hne2 := Lib.hid hne2
        have HC1 := Lib.hid hC1
        have HM := Lib.hid hm
        have HBr := Lib.hid hB
        have Hbx := Lib.hid hbx
        obtain ⟨u, hU⟩ : ∃ u, itB f v (j + 1) = u := ⟨_, rfl⟩
        rw [hU] at hy hR hq hrg ⊢
        have HU := Lib.hid hU
        clear hJL hne hC1 hm hB hu hne2 hU
        gi_wp2
        refine ⟨fun h => (by simp [Fence.wide] at h), hR.mono ?_⟩
        rintro e w5 ⟨hK5, C', hC', ⟨rfl, hJ5⟩ | ⟨rfl, hJ5⟩⟩
        rotate_left
        · have HJ5 := Lib.hid hJ5
          clear hJ5 hK5 hC' hR
          gi_wp2
          refine bodyPost_ret (results_none rfl _ _ _) rfl ?_
          exact ⟨⟨_, rfl⟩, .inr ⟨_, C', trivial, HJ5.out⟩⟩
        have hM5 := HM.out.same9 (hK5.block b HM.out.lt (fun h => (HC1.out b h).2.2.1 rfl))
        have hkeyu := keyOf_int_mk (P := Tryz.prog) (k := 3) (q := .i64) Tryz.underlying3 (wfV (x := u) ⟨by omega, by omega⟩)
        have hlk := hM5.look (t := 78) (int_keyed Tryz.underlying3) Tryz.underlying78 (zero_int _) hkeyu
        have hs := (bh_some HF.out (it_dom HS.out HF.out HNe.out (j + 1))).1
        rw [HU.out] at hs
        rw [hs, Option.getD_some] at hlk
        have HI5 := Lib.hid (show BwI w n f v b Bv J (n - (j + 2)) (.int .i64 (nxB f u)) w5 from ⟨⟨j + 1, C', by rw [← HU.out]; rfl, by
            have e : (List.range (j + 1 + 1)).map (itB f v) = (List.range (j + 1)).map (itB f v) ++ [u] := by rw [List.range_succ, List.map_append, List.map_singleton, HU.out]
            rw [e]
            exact hJ5, Hne2.out, fun q hq => by
            rcases hC' q hq with h | h
            · have h1 := HC1.out q h
              have h2 := hK5.size
              exact ⟨h1.1, by omega, h1.2.2.1, h1.2.2.2⟩
            · exact ⟨by have := HBr.out.size; omega, h.2, by have := HM.out.lt; omega, by omega⟩, by omega⟩,
          hM5, (Below.cell_same9 (hK5.block Bv hlt (fun h => (HC1.out Bv h).2.2.2 rfl))).trans Hbx.out, by have := hK5.size; omega, HBr.out.trans (hK5.below (fun q hq => (HC1.out q hq).1) HBr.out.size)⟩)
        clear hK5 hC' hJ5 hR hM5 hs hbx hy
        gi_wp2
        gi_roundg (n - (j + 2))
        case measure => omega
        case rel => exact HI5.out
theorem bwalkB_sep {w : World} {m Bt Bv g n v : Nat} {T : List Tr} (hS : Surf n T) (hT : Tab w g n T) (hv : v < n) :
    SeqSep Fence.wide m Tryz.prog 145 #[.pointer (some ⟨Bt, 0, none⟩), .pointer (some ⟨Bv, 0, none⟩)] (fun x : Int => #[.int .i64 x]) (FinB n T v) (fun _ => True) n w (fun k => k = Bv) (fun W => W.cell? ⟨Bt, 0, none⟩ = some (.pointer (some ⟨g, 0, none⟩)) ∧ W.cell? ⟨Bv, 0, none⟩ = some (.int .i64 v) ∧ Bt < W.heap.size ∧ Bv < W.heap.size) :=
  fun l J Jx W C hW hP hR hJ hJx hY h0 hC => bwalkB_sepO hS hT hv l J Jx W C hW hP hR hJ hJx (fun pre x C1 W1 h1 h2 _ => hY pre x C1 W1 h1 h2) h0 hC
end Go.Proofs.YtghlnknncahkgaaGreat
/-
  slices.Collect of any iterator that keeps apart: the row of what it yields.
-/
namespace Go.Proofs.YtghlnknncahkgaaGreat
open Go.RowKit Go.Maps Go.Shelf
attribute [local go_sem] Oper.semAt_some

/-- What is collected so far. -/
structure CoS (w : World) (pre : List Int) (v : Value) (W : World) : Prop where
  bx : Blk W w.heap.size 28 #[v]
  row : W.ownsRow w.heap.size 3 1 v (intsV pre).length (intsV pre)
  below : Below w.heap.size w W
def CoI (w : World) (pre : List Int) (C : Nat → Prop) (W : World) : Prop := ∃ v, (∀ k, C k ↔ k = w.heap.size ∨ v.ownBlock = some k) ∧ CoS w pre v W
section
variable {w W W' : World} {pre : List Int} {v : Value}
theorem CoS.same (h : CoS w pre v W) (hb : Below w.heap.size W W') (hs : ∀ k, k = w.heap.size ∨ v.ownBlock = some k → W'.heap[k]? = W.heap[k]?) : CoS w pre v W' :=
  ⟨blk_same h.bx (hs _ (.inl rfl)), own_same h.row (fun k e => hs k (.inr e)), h.below.trans hb⟩
theorem CoS.alloc (h : CoS w pre v W) (o : Obj) : CoS w pre v (W.alloc o) :=
  h.same ((Below.refl _ _).alloc h.below.size _) (fun k hk => Below.heap_alloc _ _ _ (by
    rcases hk with rfl | e
    · exact h.bx.lt
    · exact (h.row.lt k e).2))
theorem CoS.app (h : CoS w pre v W) {x : Int} {g' cap : Nat} {k : Nat} (hg : W.grownBy W' v.ownBlock) (hr : W'.ownsRow w.heap.size 3 1 (.slice (some ⟨g', 0, none⟩) k cap) k (intsV pre ++ [.int .i64 x])) (hk : k = (intsV pre).length + 1) (hat : v.ownBlock = some g' ∨ g' = W.heap.size) :
    CoS w (pre ++ [x]) (.slice (some ⟨g', 0, none⟩) k cap) (W'.setCell ⟨w.heap.size, 0, none⟩ (.slice (some ⟨g', 0, none⟩) k cap)) ∧ Kept (fun k => k = w.heap.size ∨ v.ownBlock = some k) W (W'.setCell ⟨w.heap.size, 0, none⟩ (.slice (some ⟨g', 0, none⟩) k cap)) ∧
      Anew (fun k => k = w.heap.size ∨ v.ownBlock = some k) (fun j => j = w.heap.size ∨ Value.ownBlock (.slice (some ⟨g', 0, none⟩) k cap) = some j) W (W'.setCell ⟨w.heap.size, 0, none⟩ (.slice (some ⟨g', 0, none⟩) k cap)) := by
  subst hk
  have hx := h.bx.grown hg (fun e => own_blk_ne h.row h.bx (by decide) e.symm)
  have hr' := own_blk_far (j := 0) (u := .slice (some ⟨g', 0, none⟩) ((intsV pre).length + 1) cap) hr hx (by decide)
  have e1 : intsV (pre ++ [x]) = intsV pre ++ [.int .i64 x] := by simp [intsV]
  refine ⟨⟨hx.set1 _, by rw [e1, List.length_append]; exact hr', ?_⟩, ?_, ?_⟩
  · exact (h.below.grown hg h.below.size (fun j e => by have := h.row.lt j e; omega)).setCell (p := ⟨w.heap.size, 0, none⟩) (Nat.le_refl _) _
  · exact ((Kept.refl _ _).grown hg (fun j e => .inl (.inr e))).setCell (p := ⟨w.heap.size, 0, none⟩) (.inl (.inl rfl)) _
  · intro k hk
    rcases hk with e | e
    · exact .inl (.inl e)
    · have e' : g' = k := Option.some.inj e
      rcases hat with hat | hat
      · exact .inl (.inr (by rw [hat, e']))
      · have := hr'.lt g' rfl
        exact .inr (by omega)
end
set_option maxRecDepth 100000 in
set_option maxHeartbeats 2000000 in
theorem appendSeqB {w : World} {gf N : Nat} {lb : Array Value} {Fin : List Int → Prop} {R : Nat → Prop} {Pre : World → Prop} (eg : ∀ args w, (callFunc gf args).run Tryz.prog w = .ok (.enter gf args) w) (hN : N ≤ 5000) (hseq : SeqSep Fence.wide 8 Tryz.prog gf lb (fun x : Int => #[.int .i64 x]) Fin (fun _ => True) N w R Pre) (hpre : ∀ W, Below w.heap.size w W → Pre W) (hR : ∀ k, R k → k < w.heap.size) :
    Calls Tryz.prog 144 #[.slice none 0 0, .func (.func gf) #[] lb] w fun e w' => ∃ v xs, e = .returned v ∧ Fin xs ∧ w'.ownsRow w.heap.size 3 1 v xs.length (intsV xs) ∧ Below w.heap.size w w' := by
  refine (callsIn_wide (n := 9)).1 ?_
  refine callsIn_of_wp_marks Tryz.func144 rfl trivial ?_ rfl
  simp only [Tryz.ntmps144, List.size_toArray, List.length_cons, List.length_nil, Nat.reduceAdd, Nat.reduceSub, Array.replicate_succ, Array.replicate_zero, List.push_toArray, List.append_toArray, List.nil_append, List.cons_append]
  gi_wp2
  have hB : Below w.heap.size w (w.alloc (.cells #[.slice none 0 0] 28)) := (Below.refl _ _).alloc (Nat.le_refl _) _
  have bx := Blk.new w 28 #[.slice none 0 0]
  refine wpIn_rangeFunc_sep rfl (by omega) (gf := gf) (lb := lb) rfl trivial eg hseq (fun W h => hpre W (hB.trans (h.mono hB.size))) (fun k h => by have := hR k h; have := hB.size; omega) hB (fun _ => rfl)
    (CoI w) (fun _ _ _ _ => False) ?_ ?_ (fun k => k = w.heap.size) (fun k hk => by subst hk; refine ⟨Nat.le_refl _, by simp, fun h => ?_⟩; have := hR _ h; omega) ⟨_, fun k => by simp [Value.ownBlock], bx, World.ownsRow_nil _ _ _ _, hB⟩ ?_ ?_ ?_
  · rintro xs C A B ⟨v, hC, h⟩ hb hs
    exact ⟨v, hC, h.same hb (fun k hk => hs k ((hC k).2 hk))⟩
  · rintro c xs C A B h
    exact h.elim
  · intro l pre x C W hl hl2 hI hCb hlen
    obtain ⟨i3, hi3, a30, a31, a32⟩ := info_parts infoInt
    gi_wp2
    refine ⟨Kept.refl _ _, hI, ?_⟩
    intro W2 hk2 hI2 hCb2 hz2
    obtain ⟨v, hC, hS⟩ := hI2
    have HS := Lib.hid hS
    have HC := Lib.hid hC
    obtain ⟨q0, q1, q2⟩ := hS.bx.one
    have hbs := hS.below.size
    clear hS hC hk2 hCb2 hI hz2
    gi_wp2_with (first
        | (gi_at_builtin; refine wpListIn_append_lies rfl (.tmp 8) (.tmp 10) 28 rfl w.heap.size 3 i3 _ 1 8 Tryz.underlying28 hi3 a30 a31 a32 rfl (by decide) v _ _ rfl (HS.out.alloc (.cells #[.int .i64 x] 3)).row ⟨W2.heap.size, 0, none⟩ 1 1 [.int .i64 x] rfl rfl (World.news_of_block (heap_alloc_new _ _)) (by simp [Value.oneCell']) (by decide) (by unfold maxLen; simp [intsV]; omega) (by simp [intsV]; omega) (by simp; omega) ?_; intro g8 cap8 W5 hr8 hg8 hat8 hlt8; obtain ⟨y0, y1, y2⟩ := ((HS.out.alloc (.cells #[.int .i64 x] 3)).bx.grown hg8 (fun e => own_blk_ne (HS.out.alloc (.cells #[.int .i64 x] 3)).row (HS.out.alloc (.cells #[.int .i64 x] 3)).bx (by decide) e.symm)).one; have HR8 := Lib.hid hr8; have HG8 := Lib.hid hg8; have HA8 := Lib.hid hat8; clear hr8 hg8 hat8))
    obtain ⟨s9, k9, n9⟩ := (HS.out.alloc (.cells #[.int .i64 x] 3)).app HG8.out HR8.out rfl HA8.out
    have K9 := ((Kept.refl (fun k => k = w.heap.size ∨ v.ownBlock = some k) W2).alloc (.cells #[.int .i64 x] 3)).trans k9
    have N9 := n9.of_alloc
    refine ⟨K9.mono (fun k hk => (HC.out k).2 hk), _, fun k hk => ?_, _, fun k => Iff.rfl, s9⟩
    rcases N9 k hk with h | h
    · exact .inl ((HC.out k).2 h)
    · exact .inr h
  · rintro D xs C W hD hCD hF ⟨v, hC, h⟩ hK
    obtain ⟨q0, q1, q2⟩ := h.bx.one
    have hz := h.below.size
    have hDw : D ≠ w.heap.size := fun e => hCD ((hC D).2 (.inl e))
    have hDv : v.ownBlock ≠ some D := fun e => hCD ((hC D).2 (.inr e))
    gi_wp2
    refine ⟨by simp, .inl ⟨_, _, rfl, run_takeDeferred hK, ?_⟩⟩
    have g1 := put_calm2 (W := W) (D := D) (.deferred none)
    refine ⟨_, ?_, v, xs, rfl, hF, by simpa [intsV] using h.row.kept g1 (.inr hDv), h.below.grown g1 h.below.size (fun k e => by cases e; simp at hD; omega)⟩
    simp [results, Tryz.results144, go_sem]
  · intro D c pre C W _ _ _ h _
    exact h.elim
set_option maxHeartbeats 1000000 in
theorem collectB {w : World} {gf N : Nat} {lb : Array Value} {Fin : List Int → Prop} {R : Nat → Prop} {Pre : World → Prop} (eg : ∀ args w, (callFunc gf args).run Tryz.prog w = .ok (.enter gf args) w) (hN : N ≤ 5000) (hseq : SeqSep Fence.wide 8 Tryz.prog gf lb (fun x : Int => #[.int .i64 x]) Fin (fun _ => True) N w R Pre) (hpre : ∀ W, Below w.heap.size w W → Pre W) (hR : ∀ k, R k → k < w.heap.size) :
    Calls Tryz.prog 127 #[.func (.func gf) #[] lb] w fun e w' => ∃ v xs, e = .returned v ∧ Fin xs ∧ w'.ownsRow w.heap.size 3 1 v xs.length (intsV xs) ∧ Below w.heap.size w w' := by
  have H := Lib.hid (appendSeqB eg hN hseq hpre hR)
  clear hseq hpre hR
  go_enter Tryz.func127, Tryz.ntmps127
  go_wp2_with fail
  refine H.out.mono ?_
  rintro e w1 ⟨v, xs, rfl, hF, hr, hb⟩
  go_wp2
  go_ret
  exact ⟨v, xs, rfl, hF, hr, hb⟩
end Go.Proofs.YtghlnknncahkgaaGreat
/-
  border.Loops on any surface: the loops' rows, none just if the surface is closed.
-/
namespace Go.Proofs.YtghlnknncahkgaaGreat
open Go.RowKit Go.Maps Go.Shelf
attribute [local go_sem] Oper.semAt_some

theorem wpListIn_storeP {F : Fence} {n : Nat} {P : Program} {k : TypeId} {b : Nat} {w : World} {f : Value → Option Value} {ops : Array Oper} {rest : List Oper} {o : Oper} {a : Act} {Q : Exit → Act → World → Prop} (h : MapP P k w b f)
    (hg : o.guard = none) (m x v : Operand) (t E : TypeId) (hop : o.op = Op.mapUpdate t m x v) (K : Keyed P k) (ht : P.underlying t = some (.map k E))
    (hm : a.eval m = .map (some b)) (key vv : Value) (hx : a.eval x = key) (hv : a.eval v = vv) {kl : Lit} (hkey : keyOf P k key = some kl)
    (hK : ∀ w', MapP P k w' b (updP f key vv) → w.grownBy w' (some b) → w'.heap.size = w.heap.size → wpListIn F n P ops Q rest (a.put o.dst undef) w') : wpListIn F n P ops Q (o :: rest) a w := by
  refine wpListIn_plain hg fun K' hK' => ?_
  obtain ⟨w', hrun, r1, r2, r3⟩ := h.store K ht hkey vv
  unfold Oper.wpIn
  refine ⟨?_, ?_⟩
  · simp [Oper.about, hop]
  · rw [Oper.semAt_plain F _ _ (by rw [hop]; intro c hc'; cases hc')]
    simp [execOp, hop, hm, hx, hv, hrun, Result.andThen]
    exact hK' _ _ (hK w' r1 r2 r3)
/-- What border.Loops holds between two rounds. -/
structure LoI (q : Prop) (w : World) (n : Nat) (T : List Tr) (k : Nat) (vO : Value) (L : List (List Int)) (us : List Value) (f : Value → Option Value) (W : World) : Prop where
  bx : Blk W (w.heap.size + 1) 59 #[.map (some w.heap.size)]
  map : MapP Tryz.prog 3 W w.heap.size f
  row : W.ownsRow w.heap.size 28 1 vO us.length us
  len : us.length = L.length
  lk : L.length ≤ k
  els : ∀ (i : Nat) (u : Value) (r : List Int), us[i]? = some u → L[i]? = some r → W.ownsRow w.heap.size 3 1 u r.length (intsV r) ∧ ∃ a r', r = a :: r' ∧ 0 ≤ a ∧ a < n
  tru : ∀ y v, f y = some v → v = .bool true
  emp : q → L = [] → (∀ y, f y = none) ∧ ∀ j : Nat, j < k → ∀ u, ¬ Nxt T j u
  ne : L ≠ [] → ¬ ClosedT T
  below : Below w.heap.size w W
section
variable {w W W' : World} {n k : Nat} {T : List Tr} {vO : Value} {L : List (List Int)} {us : List Value} {f : Value → Option Value}
theorem LoI.same (h : LoI True w n T k vO L us f W) (hb : Below w.heap.size W W') (hs : ∀ j, j < W.heap.size → j ≠ w.heap.size → W'.heap[j]? = W.heap[j]?) {f' : Value → Option Value} (hm : MapP Tryz.prog 3 W' w.heap.size f') (ht : ∀ y v, f' y = some v → v = .bool true) {q : Prop} (he : q → L = [] → ∀ y, f' y = none) : LoI q w n T k vO L us f' W' := by
  have go : ∀ {e : TypeId} {s m : Nat} {v : Value} {xs : List Value}, W.ownsRow w.heap.size e s v m xs → W'.ownsRow w.heap.size e s v m xs := fun hr => own_same hr (fun j e => hs j (hr.lt j e).2 (fun e2 => by
    subst e2
    rcases own_blk_none_map hr h.map with h1 | h1
    · rw [e] at h1; cases h1
    · exact h1 e))
  exact ⟨blk_same h.bx (hs _ h.bx.lt (by omega)), hm, go h.row, h.len, h.lk, fun i u r h1 h2 => ⟨go (h.els i u r h1 h2).1, (h.els i u r h1 h2).2⟩, ht, fun hq e => ⟨he hq e, (h.emp trivial e).2⟩, h.ne, h.below.trans hb⟩
theorem LoI.below' (h : LoI True w n T k vO L us f W) (hb : Below W.heap.size W W') : LoI True w n T k vO L us f W' :=
  h.same (hb.mono h.below.size) (fun j hj _ => hb.block j hj) (h.map.below hb h.map.lt) h.tru (fun _ e => (h.emp trivial e).1)
theorem LoI.alloc {q : Prop} (h : LoI q w n T k vO L us f W) (o : Obj) : LoI q w n T k vO L us f (W.alloc o) := by
  have go : ∀ {e : TypeId} {s m : Nat} {v : Value} {xs : List Value}, W.ownsRow w.heap.size e s v m xs → (W.alloc o).ownsRow w.heap.size e s v m xs := fun hr => hr.alloc o
  exact ⟨h.bx.alloc o, h.map.alloc o, go h.row, h.len, h.lk, fun i u r h1 h2 => ⟨go (h.els i u r h1 h2).1, (h.els i u r h1 h2).2⟩, h.tru, h.emp, h.ne, h.below.alloc h.below.size o⟩
theorem LoI.next (h : LoI True w n T k vO L us f W) (hk : L = [] → ∀ u, ¬ Nxt T k u) : LoI True w n T (k + 1) vO L us f W :=
  ⟨h.bx, h.map, h.row, h.len, by have := h.lk; omega, h.els, h.tru, fun _ e => ⟨(h.emp trivial e).1, fun j hj u hu => by
    rcases Nat.lt_or_ge j k with h1 | h1
    · exact (h.emp trivial e).2 j h1 u hu
    · obtain rfl : j = k := by omega
      exact hk e u hu⟩, h.ne, h.below⟩
end
theorem own_no_mark {W : World} {base m s j : Nat} {e : TypeId} {v : Value} {xs : List Value} (h : W.ownsRow base e s v m xs) (hj : v.ownBlock = some j) {r : Option (List Deferred)} (hm : W.heap[j]? = some (.deferred r)) : False := by
  rcases h.2 with ⟨rfl, _⟩ | ⟨g', cap, cur, rfl, _, hh, _⟩
  · cases hj
  · have e1 : g' = j := by simpa [Value.ownBlock] using hj
    subst e1
    rw [hm] at hh
    cases hh
theorem LoI.marks {w W W' : World} {n k : Nat} {T : List Tr} {vO : Value} {L : List (List Int)} {us : List Value} {f : Value → Option Value} {S : Nat → Prop} (h : LoI True w n T k vO L us f W) (hk : Kept S W W') (hs : ∀ j, S j → w.heap.size ≤ j ∧ ∃ r, W.heap[j]? = some (.deferred r)) : LoI True w n T k vO L us f W' := by
  have go : ∀ {e : TypeId} {s m : Nat} {v : Value} {xs : List Value}, W.ownsRow w.heap.size e s v m xs → W'.ownsRow w.heap.size e s v m xs := fun hr => own_same hr (fun j e => hk.block j (hr.lt j e).2 (fun hS => by
    obtain ⟨-, r, h2⟩ := hs j hS
    exact own_no_mark hr e h2))
  refine ⟨blk_same h.bx (hk.block _ h.bx.lt (fun hS => ?_)), h.map.same9 (hk.block _ h.map.lt (fun hS => ?_)), go h.row, h.len, h.lk, fun i u r h1 h2 => ⟨go (h.els i u r h1 h2).1, (h.els i u r h1 h2).2⟩, h.tru, h.emp, h.ne, h.below.trans (hk.below (fun j hj => (hs j hj).1) h.below.size)⟩
  · obtain ⟨-, r, h2⟩ := hs _ hS
    have := h.bx.symm.trans h2
    exact absurd this (by simp)
  · obtain ⟨-, r, h2⟩ := hs _ hS
    obtain ⟨es, clock, hm⟩ := h.map.obj
    rw [hm] at h2
    exact absurd h2 (by simp)
theorem Mks.alloc9 {base : Nat} {W : World} {ds : List Deferred} (h : Mks base W ds) (o : Obj) : Mks base (W.alloc o) ds := h.below ((Below.refl _ _).alloc (Nat.le_refl _) _)
theorem Mks.grown9 {base base' m s : Nat} {e : TypeId} {v : Value} {xs : List Value} {W W' : World} {ds : List Deferred} (h : Mks base W ds) (hg : W.grownBy W' v.ownBlock) (hr : W.ownsRow base' e s v m xs) : Mks base W' ds :=
  ⟨fun d hd => by
    obtain ⟨r, h1, h2, h3⟩ := h.1 d hd
    exact ⟨r, h1, h2, (hg.block r (Array.getElem?_eq_some_iff.1 h3).1 (fun e => own_no_mark hr e.symm h3)).trans h3⟩, h.2⟩
theorem nxt_open {T : List Tr} {v u : Int} (h : Nxt T v u) : ¬ ClosedT T := fun hc => by
  obtain ⟨c, h1, -⟩ := h
  have := hc _ (Jor.nx_lt h1.1)
  rw [h1.2] at this
  omega
theorem open_nxt {n : Nat} {T : List Tr} (hS : Surf n T) (h : ¬ ClosedT T) : ∃ j : Nat, j < n ∧ ∃ u, Nxt T j u := by
  refine Classical.byContradiction fun hno => h fun c hc => ?_
  rcases opp_cases T (c : Int) with ho | ⟨o, ho, -⟩
  · exfalso
    have he : EndC T (Jor.pv c) := ⟨Jor.pv_lt hc, by rw [Jor.nx_pv]; exact ho⟩
    have hr := vert_rng hS he.1
    exact hno ⟨(vertN T (Jor.pv c)).toNat, by omega, _, _, he, by omega, rfl⟩
  · omega
theorem LoI.post {w W : World} {n : Nat} {T : List Tr} {vO : Value} {L : List (List Int)} {us : List Value} {f : Value → Option Value} (hS : Surf n T) (h : LoI True w n T n vO L us f W) : LoopsPost n T w (.returned vO) W :=
  ⟨vO, us, L, rfl, by rw [← h.len]; exact h.row, h.lk, h.els, ⟨fun e => Classical.byContradiction fun hc => by
    obtain ⟨j, h1, u, h2⟩ := open_nxt hS hc
    exact (h.emp trivial e).2 j h1 u h2, fun hc => Classical.byContradiction fun hne => h.ne hne hc⟩, h.below⟩
theorem LoI.app {w W W' : World} {n k : Nat} {T : List Tr} {vO v : Value} {L : List (List Int)} {us : List Value} {f : Value → Option Value} {xs : List Int} {g' cap m : Nat} (h : LoI False w n T k vO L us f W) (hr : W.ownsRow w.heap.size 3 1 v xs.length (intsV xs)) (hx : ∃ a r', xs = a :: r' ∧ 0 ≤ a ∧ a < n) (hc : ¬ ClosedT T)
    (hg : W.grownBy W' vO.ownBlock) (hn : W'.ownsRow w.heap.size 28 1 (.slice (some ⟨g', 0, none⟩) m cap) m (us ++ [v])) (hm : m = us.length + 1) : LoI True w n T (k + 1) (.slice (some ⟨g', 0, none⟩) m cap) (L ++ [xs]) (us ++ [v]) f W' := by
  subst hm
  have kp : ∀ {v' : Value} {m : Nat} {xs : List Value}, W.ownsRow w.heap.size 3 1 v' m xs → W'.ownsRow w.heap.size 3 1 v' m xs := fun hr => hr.kept hg (own_own_ne hr h.row (by decide))
  refine ⟨h.bx.grown hg (fun e => own_blk_ne h.row h.bx (by decide) e.symm), h.map.kept hg (fun e => ?_), by rw [List.length_append]; exact hn, by simp [h.len], by have := h.lk; simp; omega, ?_, h.tru, fun _ e => by simp at e, fun _ => hc, h.below.grown hg h.below.size (fun j e => by have := h.row.lt j e; omega)⟩
  · rcases own_blk_none_map h.row h.map with h1 | h1
    · rw [← e] at h1; cases h1
    · exact h1 e.symm
  · intro i u r h1 h2
    rcases Nat.lt_or_ge i us.length with hi | hi
    · rw [List.getElem?_append_left hi] at h1
      rw [List.getElem?_append_left (by rw [← h.len]; exact hi)] at h2
      have := h.els i u r h1 h2
      exact ⟨kp this.1, this.2⟩
    · rw [List.getElem?_append_right hi] at h1
      rw [List.getElem?_append_right (by rw [← h.len]; exact hi)] at h2
      rw [h.len] at h1
      cases hj : i - L.length with
      | zero =>
        rw [hj] at h1 h2
        simp at h1 h2
        subst h1; subst h2
        exact ⟨kp hr, hx⟩
      | succ j => rw [hj] at h1; simp at h1
theorem Mks.same {base : Nat} {W W' : World} {ds : List Deferred} (h : Mks base W ds) {q : Nat} (hq : ∃ es clock, W.heap[q]? = some (.map es clock)) (hs : ∀ j, j < W.heap.size → j ≠ q → W'.heap[j]? = W.heap[j]?) : Mks base W' ds :=
  ⟨fun d hd => by
    obtain ⟨r, h1, h2, h3⟩ := h.1 d hd
    refine ⟨r, h1, h2, (hs r (Array.getElem?_eq_some_iff.1 h3).1 (fun e => ?_)).trans h3⟩
    obtain ⟨es, clock, hm⟩ := hq
    rw [e, hm] at h3
    exact absurd h3 (by simp), h.2⟩
/-- While the vertices are marked. -/
def MkI (w W4 : World) (Bv : Nat) (f : Value → Option Value) (pre : List Int) (C : Nat → Prop) (W : World) : Prop :=
  (∀ k, C k ↔ w.heap.size ≤ k ∧ k < W4.heap.size ∧ k ≠ Bv) ∧ (∀ k, C k → k ≠ w.heap.size → W.heap[k]? = W4.heap[k]?) ∧ Below w.heap.size W4 W ∧ ∃ f', MapP Tryz.prog 3 W w.heap.size f' ∧ (∀ y v, f' y = some v → v = .bool true) ∧ (pre = [] → f' = f)

set_option maxRecDepth 100000 in
set_option maxHeartbeats 4000000 in
theorem loopsB_any (g n : Nat) (T : List Tr) (w : World) (h : Tab w g n T) (hS : Surf n T) (hn : n ≤ 4096) :
    Calls Tryz.prog 109 #[.pointer (some ⟨g, 0, none⟩)] w (LoopsPost n T w) := by
  have H0 := Lib.hid (fun (W : World) (hW : Below w.heap.size w W) => vertices_any g n T W (h.below hW).toTabS)
  have HT := Lib.hid (fun (W : World) (hW : Below w.heap.size w W) => h.below hW)
  have HT0 := Lib.hid h
  have HS := Lib.hid hS
  clear h hS
  have hmm := @run_makeMap Tryz.prog
  refine (callsIn_wide (n := 9)).1 ?_
  refine callsIn_of_wp_marks Tryz.func109 rfl trivial ?_ rfl
  simp only [Tryz.ntmps109, List.size_toArray, List.length_cons, List.length_nil, Nat.reduceAdd, Nat.reduceSub, Array.replicate_succ, Array.replicate_zero, List.push_toArray, List.append_toArray, List.nil_append, List.cons_append]
  have hB0 : Below w.heap.size w ((w.alloc (.map #[] 0)).alloc (.cells #[.map (some w.heap.size)] 59)) := ((Below.refl _ _).alloc (Nat.le_refl _) _).alloc (by simp) _
  have hm0 : MapP Tryz.prog 3 ((w.alloc (.map #[] 0)).alloc (.cells #[.map (some w.heap.size)] 59)) w.heap.size (fun _ => none) := (MapP.made w Tryz.prog 3).alloc _
  have b0 : Blk ((w.alloc (.map #[] 0)).alloc (.cells #[.map (some w.heap.size)] 59)) (w.heap.size + 1) 59 #[.map (some w.heap.size)] := by
    have := Blk.new (w.alloc (.map #[] 0)) 59 #[.map (some w.heap.size)]
    rwa [World.size_alloc] at this
  have HI0 := Lib.hid (show LoI True w n T 0 (.slice none 0 0) [] [] (fun _ => none) _ from ⟨b0, hm0, World.ownsRow_nil _ _ _ _, rfl, Nat.le_refl _, fun i u r h1 => by simp at h1, fun y v h => by simp at h, fun _ _ => ⟨fun _ => rfl, fun j hj => absurd hj (by omega)⟩, fun h => absurd rfl h, hB0⟩)
  have HB0 := Lib.hid hB0
  clear hB0 hm0 b0
  gi_wp2_with fail
  refine ⟨trivial, (callsIn_wide.2 (H0.out _ HB0.out)).mono ?_⟩
  rintro e w1 ⟨rfl, rfl⟩
  gi_wp2
  refine wpIn_loop (fun a' W => ∃ (k : Nat) (vO u5 u6 u7 u14 u15 u16 u17 u18 u19 u20 u21 u22 u23 u24 u25 u29 u30 u31 u32 u33 u34 u35 u36 : Value) (ds : List Deferred) (L : List (List Int)) (us : List Value) (f : Value → Option Value), a' = { tmps := List.toArray (.pointer (some ⟨g, 0, none⟩) :: undef :: .slice none 0 0 :: vO :: .pointer (some ⟨w.heap.size + 1, 0, none⟩) :: u5 :: u6 :: u7 :: .pointer (some ⟨g, 0, none⟩) :: .bool false :: .map (some w.heap.size) :: .pointer (some ⟨g, 0, none⟩) :: .int .i64 (n : Int) :: .int .i64 (k : Int) :: u14 :: u15 :: u16 :: u17 :: u18 :: u19 :: u20 :: u21 :: u22 :: u23 :: u24 :: u25 :: undef :: undef :: undef :: u29 :: u30 :: u31 :: u32 :: u33 :: u34 :: u35 :: u36 :: undef :: []), defers := ds } ∧
    k ≤ n ∧ Mks w.heap.size W ds ∧ LoI True w n T k vO L us f W)
    (fun a' _ => n - (intOf (a'.tmps.getD 13 undef)).toNat) ?_ ?_
  · exact ⟨0, _, _, _, _, _, _, _, _, _, _, _, _, _, _, _, _, _, _, _, _, _, _, _, _, _, _, _, _, rfl, Nat.zero_le _, Mks.nil _ _, HI0.out⟩
  · rintro a' W ⟨k, vO, u5, u6, u7, u14, u15, u16, u17, u18, u19, u20, u21, u22, u23, u24, u25, u29, u30, u31, u32, u33, u34, u35, u36, ds, L, us, f, rfl, hk, hM, hI⟩
    clear HI0 HB0
    obtain ⟨q0, q1, q2⟩ := hI.bx.one
    have hsz := hI.below.size
    have hlk := hI.lk
    have hul := hI.len
    by_cases hlt : k < n
    · have k3 : (k : Int) < (n : Int) := by omega
      have hkeyv := keyOf_int_mk (P := Tryz.prog) (k := 3) (q := .i64) Tryz.underlying3 (wfV (x := (k : Int)) ⟨by omega, by omega⟩)
      have hlook := hI.map.look (t := 59) (int_keyed Tryz.underlying3) Tryz.underlying59 (zero_bool _) hkeyv
      have HM := Lib.hid hM
      have HI := Lib.hid hI
      cases hfk : f (.int .i64 (k : Int)) with
      | some y =>
        have hy := hI.tru _ _ hfk
        subst hy
        rw [hfk, Option.getD_some] at hlook
        have HN := Lib.hid (hI.next (fun e => by rw [(hI.emp trivial e).1] at hfk; cases hfk))
        clear hM hI HI hfk
        gi_wp2
        refine ⟨⟨k + 1, _, _, _, _, _, _, _, _, _, _, _, _, _, _, _, _, _, _, _, _, _, _, _, _, _, _, _, _, by go_num, by omega, HM.out, HN.out⟩, ?_⟩
        simp [intOf]
        omega
      | none =>
      rw [hfk, Option.getD_none] at hlook
      clear hM hI hfk
      gi_wp2_with fail
      refine ⟨trivial, (callsIn_wide.2 (callsIn_wide.1 (bwalk_any Fence.wide 8 trivial rfl g (k : Int) W))).mono ?_⟩
      rintro e w2 ⟨rfl, rfl⟩
      have hB2 : Below W.heap.size W ((W.alloc (.cells #[.pointer (some ⟨g, 0, none⟩)] 26)).alloc (.cells #[.int .i64 (k : Int)] 3)) := ((Below.refl _ _).alloc (Nat.le_refl _) _).alloc (by simp) _
      have bt : Blk ((W.alloc (.cells #[.pointer (some ⟨g, 0, none⟩)] 26)).alloc (.cells #[.int .i64 (k : Int)] 3)) W.heap.size 26 #[.pointer (some ⟨g, 0, none⟩)] := (Blk.new _ _ _).alloc _
      have bv : Blk ((W.alloc (.cells #[.pointer (some ⟨g, 0, none⟩)] 26)).alloc (.cells #[.int .i64 (k : Int)] 3)) (W.heap.size + 1) 3 #[.int .i64 (k : Int)] := by
        have := Blk.new (W.alloc (.cells #[.pointer (some ⟨g, 0, none⟩)] 26)) 3 #[.int .i64 (k : Int)]
        rwa [World.size_alloc] at this
      generalize (W.alloc (.cells #[.pointer (some ⟨g, 0, none⟩)] 26)).alloc (.cells #[.int .i64 (k : Int)] 3) = W2 at *
      have hBw2 := HI.out.below.trans (hB2.mono hsz)
      have Hbt := Lib.hid bt
      have Hbv := Lib.hid bv
      have hz2 := hB2.size
      gi_wp2_with fail
      refine ⟨trivial, (callsIn_wide.2 (collectB (N := n) (enters_of Tryz.func145 (by kernel_rfl) rfl) (by omega) (bwalkB_sep (v := k) HS.out (HT.out W2 hBw2) hlt) (fun X hX => ⟨(hX.cell (p := ⟨W.heap.size, 0, none⟩) bt.lt).trans (bt.cell 0), (hX.cell (p := ⟨W.heap.size + 1, 0, none⟩) bv.lt).trans (bv.cell 0), Nat.lt_of_lt_of_le bt.lt hX.size, Nat.lt_of_lt_of_le bv.lt hX.size⟩) (fun j e => by rw [e]; exact bv.lt))).mono ?_⟩
      rintro e w3 ⟨v, xs, rfl, hF, hvr, hb3⟩
      have hB3 := hB2.trans (hb3.mono hz2)
      have HI3 := Lib.hid (HI.out.below' hB3)
      have HM3 := Lib.hid (HM.out.below hB3)
      have HV3 := Lib.hid (own_base hvr (Nat.le_trans hsz hz2))
      have HF := Lib.hid hF
      have h3s : W.heap.size ≤ w3.heap.size := hB3.size
      clear bt bv hb3 hB2 hBw2 Hbt Hbv hz2 hB3 hvr hF HI HM
      gi_wp2_with fail
      refine ⟨trivial, (callsIn_wide.2 (callsIn_wide.1 (bwalk_any Fence.wide 8 trivial rfl g (k : Int) w3))).mono ?_⟩
      rintro e w4 ⟨rfl, rfl⟩
      have hB4 : Below w3.heap.size w3 ((w3.alloc (.cells #[.pointer (some ⟨g, 0, none⟩)] 26)).alloc (.cells #[.int .i64 (k : Int)] 3)) := ((Below.refl _ _).alloc (Nat.le_refl _) _).alloc (by simp) _
      have bt : Blk ((w3.alloc (.cells #[.pointer (some ⟨g, 0, none⟩)] 26)).alloc (.cells #[.int .i64 (k : Int)] 3)) w3.heap.size 26 #[.pointer (some ⟨g, 0, none⟩)] := (Blk.new _ _ _).alloc _
      have bv : Blk ((w3.alloc (.cells #[.pointer (some ⟨g, 0, none⟩)] 26)).alloc (.cells #[.int .i64 (k : Int)] 3)) (w3.heap.size + 1) 3 #[.int .i64 (k : Int)] := by
        have := Blk.new (w3.alloc (.cells #[.pointer (some ⟨g, 0, none⟩)] 26)) 3 #[.int .i64 (k : Int)]
        rwa [World.size_alloc] at this
      generalize (w3.alloc (.cells #[.pointer (some ⟨g, 0, none⟩)] 26)).alloc (.cells #[.int .i64 (k : Int)] 3) = W4 at *
      have HI4 := Lib.hid (HI3.out.below' hB4)
      have Hbt := Lib.hid bt
      have Hbv := Lib.hid bv
      have HB4 := Lib.hid hB4
      have h4s : w3.heap.size ≤ W4.heap.size := hB4.size
      have h4t := bt.lt
      have h4v := bv.lt
      clear bt bv hB4
      gi_wp2
      refine wpIn_rangeFunc_sepO rfl (by omega) (gf := 145) (lb := #[.pointer (some ⟨w3.heap.size, 0, none⟩), .pointer (some ⟨w3.heap.size + 1, 0, none⟩)]) rfl trivial (enters_of Tryz.func145 (by kernel_rfl) rfl)
        (bwalkB_sepO (m := 8) (Bt := w3.heap.size) (Bv := w3.heap.size + 1) (v := k) HS.out HT0.out hlt) (fun X hX => ⟨(hX.cell (p := ⟨w3.heap.size, 0, none⟩) Hbt.out.lt).trans (Hbt.out.cell 0), (hX.cell (p := ⟨w3.heap.size + 1, 0, none⟩) Hbv.out.lt).trans (Hbv.out.cell 0), Nat.lt_of_lt_of_le Hbt.out.lt hX.size, Nat.lt_of_lt_of_le Hbv.out.lt hX.size⟩) (fun j e => by rw [e]; exact Hbv.out.lt) HI4.out.below (fun _ => rfl)
        (MkI w W4 (w3.heap.size + 1) f) (fun _ _ _ _ => False) ?_ (fun _ _ _ _ _ h => h.elim) (fun j => w.heap.size ≤ j ∧ j < W4.heap.size ∧ j ≠ w3.heap.size + 1) (fun j hj => hj) ⟨fun _ => Iff.rfl, fun _ _ _ => rfl, Below.refl _ _, f, HI4.out.map, HI4.out.tru, fun _ => rfl⟩ ?_ ?_ ?_
      · rintro xs C A B ⟨h1, h2, h3, f', h4, h5, h6⟩ hb hs
        exact ⟨h1, fun j hj hne => (hs j hj).trans (h2 j hj hne), h3.trans hb, f', h4.same9 (hs _ ((h1 _).2 ⟨Nat.le_refl _, by omega, by omega⟩)), h5, h6⟩
      · intro l pre x C X hl hl2 hX hCb hlen hxb
        gi_wp2
        refine ⟨Kept.refl _ _, hX, ?_⟩
        intro W2 hk2 hX2 hCb2 hz2
        obtain ⟨h1, h2, h3, f', h4, h5, h6⟩ := hX2
        have bx2 : Blk W2 (w.heap.size + 1) 59 #[.map (some w.heap.size)] := blk_same HI4.out.bx (h2 _ ((h1 _).2 ⟨by omega, HI4.out.bx.lt, by omega⟩) (by omega))
        obtain ⟨r0, r1, r2⟩ := bx2.one
        have hkeyx := keyOf_int_mk (P := Tryz.prog) (k := 3) (q := .i64) Tryz.underlying3 (wfV (x := x) ⟨by omega, by omega⟩)
        have H1 := Lib.hid h1
        have H2 := Lib.hid h2
        have H3 := Lib.hid h3
        have H4 := Lib.hid h4
        have H5 := Lib.hid h5
        clear h1 h2 h3 h4 h5 h6 hX hCb hCb2 hk2 bx2
        gi_wp2_with (first
          | (gi_at_mapUpdate; go_loud (refine wpListIn_storeP H4.out rfl _ _ _ 59 4 rfl (int_keyed Tryz.underlying3) Tryz.underlying59 rfl (.int .i64 x) (.bool true) rfl rfl hkeyx ?_); intro W5 hm5 hg5 hz5))
        have hcm : C w.heap.size := (H1.out _).2 ⟨Nat.le_refl _, by omega, by omega⟩
        refine ⟨(Kept.refl _ _).grown hg5 (fun j e => by cases e; exact .inl hcm), C, fun j hj => .inl hj, H1.out, fun j hj hne => (hg5.block j ?_ (fun e => hne (by cases e; rfl))).trans (H2.out j hj hne), H3.out.grown hg5 (Nat.le_trans HI4.out.below.size H3.out.size) (fun j e => by cases e; omega), _, hm5, fun y u hu => ?_, fun e => by simp at e⟩
        · have := ((H1.out j).1 hj).2.1
          have := H3.out.size
          omega
        · by_cases e : y = .int .i64 x
          · subst e
            rw [updP_same] at hu
            cases hu; rfl
          · rw [updP_other e] at hu
            exact H5.out y u hu
      · rintro D xs' C W5 hD hCD hF' ⟨h1, h2, h3, f', h4, h5, h6⟩ hK
        have hz5 := h3.size
        have hsm : ∀ j, j < w3.heap.size → j ≠ w.heap.size → W5.heap[j]? = w3.heap[j]? := fun j hj hne => by
          rcases Nat.lt_or_ge j w.heap.size with hj2 | hj2
          · exact (h3.block j hj2).trans (HB4.out.block j hj)
          · exact (h2 j ((h1 j).2 ⟨hj2, by omega, by omega⟩) hne).trans (HB4.out.block j hj)
        have hb35 : Below w.heap.size w3 W5 := (HB4.out.mono HI3.out.below.size).trans h3
        have hxx : xs = [] → xs' = [] := fun e => Classical.byContradiction fun hne => by
          obtain ⟨-, u, hu⟩ := hF'.2.1 hne
          exact HF.out.1 e u hu
        have hMd : Mks w.heap.size W5 ({ target := .collected D, args := #[] } :: ds) := (HM3.out.same HI3.out.map.obj hsm).cons hK (by omega) (fun d hd e => by
          obtain ⟨r, e1, e2, e3⟩ := HM3.out.1 d hd
          rw [e] at e1
          have := (Array.getElem?_eq_some_iff.1 e3).1
          injection e1 with e1
          omega)
        have HMd := Lib.hid hMd
        have HV5 := Lib.hid (own_same HV3.out (fun j e => hsm j (HV3.out.lt j e).2 (fun e2 => by
          subst e2
          rcases own_blk_none_map HV3.out HI3.out.map with h1 | h1
          · rw [e] at h1; cases h1
          · exact h1 e)))
        by_cases hxe : xs = []
        · have hf : f' = f := h6 (hxx hxe)
          subst hf
          have HI5 := Lib.hid ((HI3.out.same hb35 hsm h4 h5 (q := True) (fun _ e => (HI3.out.emp trivial e).1)).next (fun _ => HF.out.1 hxe))
          subst hxe
          obtain ⟨av, cv, rfl⟩ := ownsRow_slice HV3.out
          clear h1 h2 h3 h4 h5 h6 hsm hb35 hxx hMd hF' hCD
          gi_wp2
          refine ⟨⟨k + 1, _, _, _, _, _, _, _, _, _, _, _, _, _, _, _, _, _, _, _, _, _, _, _, _, _, _, _, _, by go_num, by omega, HMd.out, HI5.out⟩, ?_⟩
          simp [intOf]
          omega
        · have hxp : (0 : Int) < (xs.length : Int) := by have := List.length_pos_iff.2 hxe; omega
          obtain ⟨⟨r, hr⟩, u, hu⟩ := HF.out.2.1 hxe
          have hcl := nxt_open hu
          have hfst : ∃ a r', xs = a :: r' ∧ 0 ≤ a ∧ a < (n : Int) := ⟨_, r, hr, by omega, by omega⟩
          have HI5 := Lib.hid (HI3.out.same hb35 hsm h4 h5 (q := False) (fun e => e.elim))
          obtain ⟨i1, hi', hy0, hy1, hy2⟩ := info_parts infoInts
          obtain ⟨av, cv, rfl⟩ := ownsRow_slice HV3.out
          have hz3 := HI5.out.below.size
          have HFst := Lib.hid hfst
          have HU := Lib.hid hul
          have hul2 : us.length ≤ k := by omega
          clear h1 h2 h3 h4 h5 h6 hsm hb35 hxx hMd hF' hCD hr hu hfst hxe hul
          gi_wp2_with (first
            | (gi_at_builtin; go_loud (refine wpListIn_append_lies rfl (.tmp 32) (.tmp 34) 98 rfl w.heap.size 28 i1 _ 1 24 Tryz.underlying98 hi' hy0 hy1 hy2 rfl (by decide) vO _ _ rfl (HI5.out.alloc (.cells #[.slice av xs.length cv] 28)).row ⟨W5.heap.size, 0, none⟩ 1 1 [.slice av xs.length cv] rfl rfl (World.news_of_block (heap_alloc_new _ _)) (by simp [Value.oneCell']) (by decide) (by unfold maxLen; omega) (by omega) (by simp; omega) ?_); intro g8 cap8 W8 hr8 hg8 hat8 hlt8; have HR8 := Lib.hid hr8; have HG8 := Lib.hid hg8; clear hr8 hg8 hat8))
          have HI8 := Lib.hid ((HI5.out.alloc (.cells #[.slice av xs.length cv] 28)).app (HV5.out.alloc _) HFst.out hcl HG8.out HR8.out rfl)
          refine ⟨⟨k + 1, _, _, _, _, _, _, _, _, _, _, _, _, _, _, _, _, _, _, _, _, _, _, _, _, _, _, _, _, by go_num, by omega, (HMd.out.alloc9 (.cells #[.slice av xs.length cv] 28)).grown9 HG8.out (HI5.out.alloc (.cells #[.slice av xs.length cv] 28)).row, HI8.out⟩, ?_⟩
          simp [intOf]
          omega
      · intro D c pre C W' _ _ _ h _
        exact h.elim
    · obtain rfl : k = n := by omega
      have HI := Lib.hid hI
      clear hI
      gi_wp2
      refine leaves_marks (base := w.heap.size) ds _ hM fun W' hk => ?_
      refine ⟨vO, ?_, LoI.post HS.out (HI.out.marks hk (fun j hj => by
          obtain ⟨h1, d, h2, h3⟩ := hj
          obtain ⟨r, k1, k2, k3⟩ := hM.1 d h2
          rw [h3] at k1
          injection k1 with k1
          exact ⟨h1, _, by rw [k1]; exact k3⟩))⟩
      simp [results, Tryz.results109, go_sem]
end Go.Proofs.YtghlnknncahkgaaGreat
/-
  walk.Walk of any surface; what genus.Of tells is enough.
-/
namespace Go.Proofs.YtghlnknncahkgaaGreat
open Go.RowKit Go.Maps Go.Shelf

/-- walk.Walk of a surface: a walk just if it is simple. -/
theorem walk_both {w : World} {g n c : Nat} {T : List Tr} (hS : Surf n T) (hT : Tab w g n T) (hl : T.length ≤ 40) (hc : c < 3 * T.length) :
    Calls Tryz.prog 23 #[.pointer (some ⟨g, 0, none⟩), .int .i64 c] w fun e w' => (Simp n T ∧ WalkPost w T c e w') ∨ (¬ Simp n T ∧ NoWalk w 12 e w') := by
  by_cases hs : Simp n T
  · exact (walk_any hs hT hc).mono fun e w' h => .inl ⟨hs, h⟩
  · refine (walk_err (z := 12) (by decide) (fun W hW => ?_)).mono fun e w' h => .inr ⟨hs, h⟩
    have := check_walk g n T W c (hT.below hW) hS (by omega) (fun W' hW' => loopsB_any g n T W' ((hT.below hW).below hW') hS (by have := hS.n1; omega))
    rw [if_neg (by omega), if_neg (fun h => hs ((chk_simp hS).1 h))] at this
    exact this
/-- What genus.Of tells of a surface is enough. -/
theorem genus_simp {n m : Nat} {T : List Tr} {out cs : List Int} (hS : Surf n T) (hSh : Shl T out) (hm : cntL out = m) (h6 : m = 1 → ∃ E b : Int, cs = [(n : Int), E, T.length, b, n - E + T.length, (2 - b - (n - E + T.length)).tdiv 2] ∧ 0 ≤ b ∧ (b = 0 ↔ ClosedT T) ∧ (ClosedT T → E = 3 * (T.length : Int) / 2)) :
    Simp n T ↔ m = 1 ∧ at_ cs 3 = 0 ∧ at_ cs 5 = 0 := by
  rw [← chk_simp hS]
  constructor
  · rintro ⟨out', h1, h2, h3, h4⟩
    have := hSh.one h1
    subst this
    have hm1 : m = 1 := by omega
    obtain ⟨E, b, rfl, hb0, hb1, hE⟩ := h6 hm1
    have hb := hb1.2 h3
    refine ⟨hm1, hb, ?_⟩
    show (2 - b - ((n : Int) - E + T.length)).tdiv 2 = 0
    rw [hb, hE h3]
    exact h4
  · rintro ⟨hm1, h3, h5⟩
    obtain ⟨E, b, rfl, hb0, hb1, hE⟩ := h6 hm1
    have hb : b = 0 := h3
    have hc := hb1.1 hb
    refine ⟨out, hSh, by rw [hm, hm1]; rfl, hc, ?_⟩
    have h5' : (2 - b - ((n : Int) - E + T.length)).tdiv 2 = 0 := h5
    rw [hb, hE hc] at h5'
    exact h5'
end Go.Proofs.YtghlnknncahkgaaGreat
/-
  gypsumref21.place, join, gypsumlaw21.ints.
-/
namespace Go.Proofs.YtghlnknncahkgaaGreat
open Go.RowKit Go.Maps

set_option maxHeartbeats 1000000 in
theorem place_any (v : Value) (xs : List Int) (x : Int) (w : World) (h : IntsRd w v xs) (hl : xs.length ≤ 100000) : Calls Tryz.prog 56 #[v, .int .i64 x] w fun e w' => e = .returned (.int .i64 (Lib.idxOf xs x)) ∧ w' = w := by
  obtain ⟨a, c, rfl, l1, r1⟩ := h
  have R1 := Lib.hid r1
  clear r1
  go_enter Tryz.func56, Tryz.ntmps56
  go_wp2
  go_loopw [5] (fun i wr => ∃ k : Nat, k ≤ xs.length ∧ i = .int .i64 k ∧ wr = w ∧ ∀ j, j < k → xs.getD j 0 ≠ x) (fun i _ => xs.length - (intOf i).toNat)
  case atStart => exact ⟨0, Nat.zero_le _, rfl, rfl, fun j hj => absurd hj (by omega)⟩
  case round =>
    obtain ⟨k, hk, rfl, rfl, hne⟩ := hrel
    by_cases hlt : k < xs.length
    · obtain ⟨b, o, rfl, hb, s1⟩ := R1.out k _ (List.getElem?_eq_getElem hlt)
      have k3 : (k : Int) < (xs.length : Int) := by omega
      have hg : xs.getD k 0 = xs[k] := by simp [List.getD, List.getElem?_eq_getElem hlt]
      by_cases hx : xs[k] = x
      · have hq : (xs[k] == x) = true := by simpa using hx
        have HI := Lib.hid (show Lib.idxOf xs x = k from by
          have := Lib.idxOf_hit xs xs.length k x hlt (Nat.le_refl _) (by rw [hg, hx]) hne
          rwa [List.take_length] at this)
        clear hne hg
        rw [hx] at s1 hq
        go_wp2
        go_ret
        exact ⟨by rw [HI.out]; rfl, rfl⟩
      · have hq : (xs[k] == x) = false := by simpa using hx
        have HN := Lib.hid (show ∀ j, j < k + 1 → xs.getD j 0 ≠ x from fun j hj => by
          rcases Nat.lt_or_ge j k with h | h
          · exact hne j h
          · obtain rfl : j = k := by omega
            rw [hg]
            exact hx)
        clear hne hg
        go_wp2
        go_roundw
        case measure => simp [intOf]; omega
        case rel => exact ⟨k + 1, by omega, by go_num, by first | rfl | trivial, HN.out⟩
    · obtain rfl : k = xs.length := by omega
      have HI := Lib.hid (show Lib.idxOf xs x = -1 from by
        have := Lib.idxOf_miss xs xs.length x hne
        rwa [List.take_length] at this)
      clear hne
      go_wp2
      go_ret
      exact ⟨by rw [HI.out]; rfl, rfl⟩
set_option maxHeartbeats 1000000 in
theorem ints_any (v1 v2 : Value) (xs : List Int) (w : World) (h1 : IntsRd w v1 xs) (h2 : IntsRd w v2 xs) (hl : xs.length ≤ 100000) : Calls Tryz.prog 26 #[v1, v2] w fun e w' => e = .returned (.bool true) ∧ Below w.heap.size w w' := by
  obtain ⟨a1, c1, rfl, l1, r1⟩ := h1
  obtain ⟨a2, c2, rfl, l2, r2⟩ := h2
  have R1 := Lib.hid r1
  have R2 := Lib.hid r2
  clear r1 r2
  go_enter Tryz.func26, Tryz.ntmps26
  go_wp2
  go_loopw [13] (fun i wr => ∃ k : Nat, k ≤ xs.length ∧ i = .int .i64 k ∧ Below w.heap.size w wr) (fun i _ => xs.length - (intOf i).toNat)
  case atStart => exact ⟨0, Nat.zero_le _, rfl, Below.refl _ _⟩
  case round =>
    obtain ⟨k, hk, rfl, hB⟩ := hrel
    rename World => wr
    by_cases hlt : k < xs.length
    · obtain ⟨b1, o1, rfl, hb1, s1⟩ := R1.out k _ (List.getElem?_eq_getElem hlt)
      obtain ⟨b2, o2, rfl, hb2, s2⟩ := R2.out k _ (List.getElem?_eq_getElem hlt)
      have k3 : (k : Int) < (xs.length : Int) := by omega
      generalize xs[k] = x at *
      have t1 := (hB.cell (p := ⟨b1, o1 + k, none⟩) hb1).trans s1
      have t2 := (hB.cell (p := ⟨b2, o2 + k, none⟩) hb2).trans s2
      have HB := Lib.hid hB
      clear s1 s2 hB
      go_wp2
      go_region
      all_goals
        go_wp2
        go_roundw
        case measure => simp [intOf]; omega
        case rel => exact ⟨k + 1, by omega, by go_num, below_d HB.out⟩
    · obtain rfl : k = xs.length := by omega
      have HB := Lib.hid hB
      clear hB
      go_wp2
      go_ret
      exact ⟨rfl, HB.out⟩
/-- A slice of numbers is what an append reads. -/
theorem IntsRd.news {w : World} {v : Value} {xs : List Int} (h : IntsRd w v xs) (hne : xs ≠ []) : ∃ b o c, v = .slice (some ⟨b, o, none⟩) xs.length c ∧ b < w.heap.size ∧ ∀ j u, (intsV xs)[j]? = some u → w.cell? ((⟨b, o, none⟩ : Addr).add j) = some u := by
  obtain ⟨a, c, rfl, l1, r1⟩ := h
  have hp := List.length_pos_iff.2 hne
  obtain ⟨b, o, rfl, hb, -⟩ := r1 0 _ (List.getElem?_eq_getElem hp)
  refine ⟨b, o, c, rfl, hb, fun j u hu => ?_⟩
  unfold intsV at hu
  rw [List.getElem?_map] at hu
  cases hx : xs[j]? with
  | none => rw [hx] at hu; cases hu
  | some x =>
    rw [hx] at hu
    cases hu
    obtain ⟨b', o', e, -, hc⟩ := r1 j x hx
    cases e
    rw [Addr.add_lit]
    exact hc
theorem own_cap9 {w : World} {base n s g cap m : Nat} {e : TypeId} {xs : List Value} (h : w.ownsRow base e s (.slice (some ⟨g, 0, none⟩) m cap) n xs) : n ≤ cap := by
  rcases h.2 with ⟨e, _⟩ | ⟨g, cap, cur, e, _, _, k1, _⟩
  · cases e
  · cases e
    exact k1
theorem intsV_one (xs : List Int) : ∀ u ∈ intsV xs, u.oneCell' = true := by
  intro u hu
  obtain ⟨x, -, rfl⟩ := List.mem_map.1 hu
  rfl
set_option maxRecDepth 100000 in
set_option maxHeartbeats 2000000 in
theorem join_any (vA vB : Value) (A B : List Int) (w : World) (hA : IntsRd w vA A) (hB : IntsRd w vB B) (hne : A ≠ []) (hb : B ≠ [] ∨ vB = .slice none 0 0) (lA : A.length ≤ 100000) (lB : B.length ≤ 100000) : Calls Tryz.prog 57 #[vA, vB] w fun e w' => ∃ v, e = .returned v ∧ w'.ownsRow w.heap.size 3 1 v (A ++ B).length (intsV (A ++ B)) ∧ Below w.heap.size w w' := by
  obtain ⟨i3, hi3, a30, a31, a32⟩ := info_parts infoInt
  have hBB := hB
  obtain ⟨bA, oA, cA, rfl, hla, hnA⟩ := hA.news hne
  have hpA := List.length_pos_iff.2 hne
  have hb0 : Below w.heap.size w (w.alloc (.cells #[] 3)) := (Below.refl _ _).alloc (Nat.le_refl _) _
  have hown0 : (w.alloc (.cells #[] 3)).ownsRow w.heap.size 3 1 (.slice (some ⟨w.heap.size, 0, none⟩) 0 0) 0 [] := ⟨rfl, .inr ⟨w.heap.size, 0, _, rfl, Nat.le_refl _, Blk.new w 3 #[], Nat.le_refl _, by decide, rfl, rfl⟩⟩
  have hnA0 : ∀ j u, (intsV A)[j]? = some u → (w.alloc (.cells #[] 3)).cell? ((⟨bA, oA, none⟩ : Addr).add j) = some u := fun j u hu => by
    have := hnA j u hu
    rw [Addr.add_lit] at this ⊢
    exact (hb0.cell (p := ⟨bA, oA + j, none⟩) hla).trans this
  have HB0 := Lib.hid hb0
  have HO0 := Lib.hid hown0
  have HNA := Lib.hid hnA0
  have HBB := Lib.hid hBB
  have HA1 := Lib.hid (intsV_one A)
  have lA' : (intsV A).length = A.length := by simp [intsV]
  obtain ⟨nA, hnA'⟩ : ∃ nA, A.length = nA := ⟨_, rfl⟩
  rw [hnA'] at lA hpA lA' ⊢
  have HlA := Lib.hid hnA'
  clear hb0 hown0 hnA hnA0 hBB hA hnA' hB
  rcases Classical.em (B = []) with hB0 | hB0
  · have hv : vB = .slice none 0 0 := by
      rcases hb with h | h
      · exact absurd hB0 h
      · exact h
    subst hv hB0
    rw [List.append_nil]
    clear hb
    go_enter Tryz.func57, Tryz.ntmps57
    go_wp2_with (first
      | (at_builtin; refine wpList_append_lies _ rfl (.tmp 5) (.tmp 6) 28 rfl w.heap.size 3 i3 _ 1 8 Tryz.underlying28 hi3 a30 a31 a32 rfl (by decide) _ _ _ rfl HO0.out ⟨bA, oA, none⟩ nA cA (intsV A) rfl (by rw [lA']; omega) HNA.out HA1.out (by omega) (by unfold maxLen; omega) (by omega) (by simp) (w.heap.size + 1) (by simp) ?_; intro g4 cap4 W4 hr4 hg4 hat4 hlt4; rw [Nat.zero_add, List.nil_append] at hr4; have hcap4 := own_cap9 hr4; have HR4 := Lib.hid hr4; have HB4 := Lib.hid (HB0.out.grown hg4 (by simp) (fun j e => by cases e; exact Nat.le_refl _)); clear hr4 hg4 hat4))
    go_ret
    refine ⟨_, rfl, ?_, HB4.out⟩
    have := HR4.out
    rw [HlA.out]
    exact this
  · obtain ⟨bB, oB, cB, rfl, hlb, hnB⟩ := HBB.out.news hB0
    have hpB := List.length_pos_iff.2 hB0
    have lB' : (intsV B).length = B.length := by simp [intsV]
    have HB1 := Lib.hid (intsV_one B)
    have HNB := Lib.hid hnB
    obtain ⟨nB, hnB'⟩ : ∃ nB, B.length = nB := ⟨_, rfl⟩
    rw [hnB'] at lB hpB lB' ⊢
    have HlB := Lib.hid hnB'
    clear hb hnB hnB' hB0
    go_enter Tryz.func57, Tryz.ntmps57
    go_wp2_with (first
      | (at_builtin; refine wpList_append_lies _ rfl (.tmp 5) (.tmp 6) 28 rfl w.heap.size 3 i3 _ 1 8 Tryz.underlying28 hi3 a30 a31 a32 rfl (by decide) _ _ _ rfl HO0.out ⟨bA, oA, none⟩ nA cA (intsV A) rfl (by rw [lA']; omega) HNA.out HA1.out (by omega) (by unfold maxLen; omega) (by omega) (by simp) (w.heap.size + 1) (by simp) ?_; intro g4 cap4 W4 hr4 hg4 hat4 hlt4; rw [Nat.zero_add, List.nil_append] at hr4; have hcap4 := own_cap9 hr4; have HR4 := Lib.hid hr4; have HB4 := Lib.hid (HB0.out.grown hg4 (by simp) (fun j e => by cases e; exact Nat.le_refl _)); clear hr4 hg4 hat4)
      | (at_builtin; go_loud (refine wpList_append_lies _ rfl (.tmp 7) (.tmp 8) 28 rfl w.heap.size 3 i3 _ 1 8 Tryz.underlying28 hi3 a30 a31 a32 rfl (by decide) _ _ _ rfl HR4.out ⟨bB, oB, none⟩ nB cB (intsV B) rfl (by rw [lB']; omega) (fun j u hu => by have := HNB.out j u hu; rw [Addr.add_lit] at this ⊢; exact (HB4.out.cell (p := ⟨bB, oB + j, none⟩) hlb).trans this) HB1.out (by omega) (by unfold maxLen; omega) (by omega) HB4.out.size W4.heap.size rfl ?_); intro g5 cap5 W5 hr5 hg5 hat5 hlt5; have HR5 := Lib.hid hr5; have HB5 := Lib.hid (HB4.out.grown hg5 HB4.out.size (fun j e => (HR4.out.lt j e).1)); clear hr5 hg5 hat5))
    go_ret
    refine ⟨_, rfl, ?_, HB5.out⟩
    have := HR5.out
    rw [List.length_append, HlA.out, HlB.out]
    have e1 : intsV (A ++ B) = intsV A ++ intsV B := by simp [intsV]
    rw [e1]
    exact this
end Go.Proofs.YtghlnknncahkgaaGreat
/-
  Rows of numbers, each in a block of its own: one grows, one is new, some are left aside.
-/
namespace Go.Proofs.YtghlnknncahkgaaGreat
open Go.RowKit Go.Maps

def Apart (p q : Value × List Int) : Prop := p.1.ownBlock = none ∨ p.1.ownBlock ≠ q.1.ownBlock
theorem Apart.symm {p q : Value × List Int} (h : Apart p q) : Apart q p := by
  rcases h with h | h
  · by_cases e : q.1.ownBlock = none
    · exact .inl e
    · exact .inr (by rw [h]; exact e)
  · exact .inr (Ne.symm h)
structure RwL (W : World) (base : Nat) (l : List (Value × List Int)) : Prop where
  own : ∀ p ∈ l, W.ownsRow base 3 1 p.1 p.2.length (intsV p.2)
  ne : l.Pairwise Apart
section
variable {W W' : World} {base : Nat} {l l1 l2 : List (Value × List Int)} {v v' : Value} {xs xs' : List Int}
theorem RwL.get (h : RwL W base (l1 ++ (v, xs) :: l2)) : W.ownsRow base 3 1 v xs.length (intsV xs) := h.own (v, xs) (by simp)
theorem RwL.below (h : RwL W base l) (hb : Below W.heap.size W W') : RwL W' base l :=
  ⟨fun p hp => own_same (h.own p hp) (fun j e => hb.block j ((h.own p hp).lt j e).2), h.ne⟩
theorem RwL.alloc (h : RwL W base l) (o : Obj) : RwL (W.alloc o) base l := h.below ((Below.refl _ _).alloc (Nat.le_refl _) _)
theorem RwL.far (h : RwL W base l) {q j : Nat} {t : TypeId} {cs : Array Value} {u : Value} (hq : Blk W q t cs) (ht : 3 ≠ t) : RwL (W.setCell ⟨q, j, none⟩ u) base l :=
  ⟨fun p hp => own_blk_far (h.own p hp) hq ht, h.ne⟩
theorem RwL.other (h : RwL W base l) {e : TypeId} {s m : Nat} {us : List Value} (hr : W.ownsRow base e s v m us) (he : 3 ≠ e) (hg : W.grownBy W' v.ownBlock) : RwL W' base l :=
  ⟨fun p hp => (h.own p hp).kept hg (own_own_ne (h.own p hp) hr he), h.ne⟩
theorem RwL.sub (h : RwL W base l) {l' m : List (Value × List Int)} (h1 : l'.Perm m) (h2 : m.Sublist l) : RwL W base l' :=
  ⟨fun p hp => h.own p (h2.subset (h1.subset hp)), (h1.pairwise_iff (fun h => Apart.symm h)).2 (h.ne.sublist h2)⟩
theorem RwL.mid (h : RwL W base (l1 ++ (v, xs) :: l2)) : (∀ p ∈ l1, Apart p (v, xs)) ∧ (∀ p ∈ l2, Apart (v, xs) p) ∧ (l1 ++ l2).Pairwise Apart := by
  have h1 := List.pairwise_append.1 h.ne
  have h2 := List.pairwise_cons.1 h1.2.1
  exact ⟨fun p hp => h1.2.2 p hp _ (List.mem_cons_self ..), h2.1, List.pairwise_append.2 ⟨h1.1, h2.2, fun a ha b hb => h1.2.2 a ha b (List.mem_cons_of_mem _ hb)⟩⟩
theorem RwL.put (h : RwL W base (l1 ++ (v, xs) :: l2)) (hk : ∀ p ∈ l1 ++ l2, W'.ownsRow base 3 1 p.1 p.2.length (intsV p.2)) (hr : W'.ownsRow base 3 1 v' xs'.length (intsV xs')) (hat : v'.ownBlock = v.ownBlock ∨ ∃ q, v'.ownBlock = some q ∧ W.heap.size ≤ q) : RwL W' base (l1 ++ (v', xs') :: l2) := by
  obtain ⟨m1, m2, m3⟩ := h.mid
  have ap : ∀ p ∈ l1 ++ l2, Apart (v', xs') p := fun p hp => by
    have ho : Apart (v, xs) p := by
      rcases List.mem_append.1 hp with hp | hp
      · exact (m1 p hp).symm
      · exact m2 p hp
    rcases hat with e | ⟨q, e, hq⟩
    · unfold Apart at ho ⊢
      simp only at ho ⊢
      rw [e]
      exact ho
    · refine .inr (fun e2 => ?_)
      have e3 : p.1.ownBlock = some q := by rw [← e2]; exact e
      have hp2 : p ∈ l1 ++ (v, xs) :: l2 := by
        rcases List.mem_append.1 hp with hp | hp
        · exact List.mem_append_left _ hp
        · exact List.mem_append_right _ (List.mem_cons_of_mem _ hp)
      have := ((h.own p hp2).lt q e3).2
      omega
  have m4 := List.pairwise_append.1 m3
  refine ⟨fun p hp => ?_, List.pairwise_append.2 ⟨m4.1, List.pairwise_cons.2 ⟨fun p hp => ap p (List.mem_append_right _ hp), m4.2.1⟩, fun a ha b hb => ?_⟩⟩
  · rcases List.mem_append.1 hp with hp | hp
    · exact hk p (List.mem_append_left _ hp)
    · rcases List.mem_cons.1 hp with rfl | hp
      · exact hr
      · exact hk p (List.mem_append_right _ hp)
  · rcases List.mem_cons.1 hb with rfl | hb
    · exact (ap a (List.mem_append_left _ ha)).symm
    · exact m4.2.2 a ha b hb
theorem RwL.mem12 (h : RwL W base (l1 ++ (v, xs) :: l2)) : ∀ p ∈ l1 ++ l2, W.ownsRow base 3 1 p.1 p.2.length (intsV p.2) ∧ (p.1.ownBlock = none ∨ p.1.ownBlock ≠ v.ownBlock) := fun p hp => by
  obtain ⟨m1, m2, m3⟩ := h.mid
  rcases List.mem_append.1 hp with hp | hp
  · exact ⟨h.own p (List.mem_append_left _ hp), m1 p hp⟩
  · exact ⟨h.own p (List.mem_append_right _ (List.mem_cons_of_mem _ hp)), (m2 p hp).symm⟩
/-- One row grows. -/
theorem RwL.app (h : RwL W base (l1 ++ (v, xs) :: l2)) (hg : W.grownBy W' v.ownBlock) (hr : W'.ownsRow base 3 1 v' xs'.length (intsV xs')) (hat : v'.ownBlock = v.ownBlock ∨ ∃ q, v'.ownBlock = some q ∧ W.heap.size ≤ q) : RwL W' base (l1 ++ (v', xs') :: l2) :=
  h.put (fun p hp => ((h.mem12 p hp).1).kept hg (h.mem12 p hp).2) hr hat
/-- One row is put in another one's place. -/
theorem RwL.new (h : RwL W base (l1 ++ (v, xs) :: l2)) (hb : Below W.heap.size W W') (hbs : base ≤ W.heap.size) (hr : W'.ownsRow W.heap.size 3 1 v' xs'.length (intsV xs')) (hne : xs' ≠ []) : RwL W' base (l1 ++ (v', xs') :: l2) := by
  refine h.put (fun p hp => own_same (h.mem12 p hp).1 (fun j e => hb.block j ((h.mem12 p hp).1.lt j e).2)) (own_base hr hbs) ?_
  have hp := List.length_pos_iff.2 hne
  obtain ⟨g, cap, rfl, h1, -⟩ := hr.form (by omega)
  exact .inr ⟨g, rfl, h1⟩
/-- One row more. -/
theorem RwL.more (h : RwL W base l) (hb : Below W.heap.size W W') (hbs : base ≤ W.heap.size) (hr : W'.ownsRow W.heap.size 3 1 v' xs'.length (intsV xs')) : RwL W' base (l ++ [(v', xs')]) := by
  have h' := h.below hb
  refine ⟨fun p hp => ?_, List.pairwise_append.2 ⟨h'.ne, List.pairwise_cons.2 ⟨fun _ hb => (by cases hb), List.Pairwise.nil⟩, fun a ha b hb2 => ?_⟩⟩
  · rcases List.mem_append.1 hp with hp | hp
    · exact h'.own p hp
    · rw [List.mem_singleton.1 hp]
      exact own_base hr hbs
  · rw [List.mem_singleton.1 hb2]
    by_cases e : a.1.ownBlock = none
    · exact .inl e
    · refine .inr (fun e2 => ?_)
      obtain ⟨j, hj⟩ := Option.ne_none_iff_exists'.1 e
      have h1 := ((h.own a ha).lt j hj).2
      have h2 := (hr.lt j (by rw [← e2]; exact hj)).1
      omega
end
end Go.Proofs.YtghlnknncahkgaaGreat
