/-
  Texts joined by program: SurB SurC SurD F13 F13B R10B R10C Dual RrS Rr46.
-/
import Derived.Test.YtghlnknncahkgaaGreatF8
import Derived.Test.YtghlnknncahkgaaGreatF7
import Derived.Deep.RegionHeld3
import Derived.Lib.QuietBelow
import Derived.Test.YtghlnknncahkgaaGreatF6
import Derived.Deep.DeepCutAuto
import Derived.Test.YtghlnknncahkgaaGreatF5
/-
  gypsumref09.pairs comes to an end.
-/
namespace Go.Proofs.YtghlnknncahkgaaGreat
open Go.RowKit

set_option maxRecDepth 100000 in
set_option maxHeartbeats 4000000 in
theorem pairs9_any (kind : Int) (hkd : kind = 3 ∨ kind = 4) (N : Int) (v : Value) (T : List Tr) (w : World) (h : TrisRd w v T) (hl : T.length ≤ 40) : Calls Tryz.prog 104 #[.agg #[.int .i64 N, v], .int .i64 kind] w (RetW w 10000) := by
  obtain ⟨i1, hi', hy0, hy1, hy2⟩ := info_parts infoWit9
  obtain ⟨a, c, rfl, hc1, hc2, hr⟩ := id h
  have b1 := Blk.new w 24 #[.int .i64 N, .slice a T.length c]
  obtain ⟨l0, x0, -, x1, -⟩ := b1.two
  have hB0 : Below w.heap.size w (w.alloc (.cells #[.int .i64 N, .slice a T.length c] 24)) := (Below.refl _ _).alloc (Nat.le_refl _) _
  have HH := Lib.hid h
  obtain ⟨n, hn⟩ : ∃ n, T.length = n := ⟨_, rfl⟩
  rw [hn] at hl hc1 x0 x1 hB0 b1 l0 ⊢
  have HN := Lib.hid hn
  have HB0 := Lib.hid hB0
  have Hb1 := Lib.hid b1
  have HE := Lib.hid twice9_any
  have HA := Lib.hid has9_any
  have HK := Lib.hid hkd
  clear hr hn h b1 hB0 hkd
  go_enter Tryz.func104, Tryz.ntmps104
  go_wp2
  go_loopw [5, 6] (fun v3 i wr => ∃ (k : Nat) (m : Nat) (xs : List Value) (v' : Value), v' = v3 ∧ k ≤ n ∧ i = .int .i64 k ∧ wr.ownsRow w.heap.size 155 3 v' m xs ∧ m ≤ k * 40 ∧ Blk wr w.heap.size 24 #[.int .i64 N, .slice a n c] ∧ Below w.heap.size w wr) (fun _ i _ => n - (intOf i).toNat)
  case atStart => exact ⟨0, 0, _, _, rfl, Nat.zero_le _, rfl, World.ownsRow_nil _ _ _ _, by omega, Hb1.out, HB0.out⟩
  case round =>
    obtain ⟨k, m, xs, v3, rfl, hk, rfl, hrow, hm, hS, hB⟩ := hrel
    rename World => wr
    clear x0 x1 l0
    obtain ⟨ly, y0, -, y1, -⟩ := hS.two
    have HS := Lib.hid hS
    have HB := Lib.hid hB
    have Hro := Lib.hid hrow
    have hsz := hB.size
    clear hS hB hrow
    by_cases hlt : k < n
    · have hk3 : (k : Int) < (n : Int) := by omega
      have hk0 : (0 : Int) ≤ (k : Int) := by omega
      go_wp2
      go_loopw [5, 7] (fun v5 i wq => ∃ (j : Nat) (m : Nat) (xs : List Value) (v' : Value), v' = v5 ∧ j ≤ k ∧ i = .int .i64 j ∧ wq.ownsRow w.heap.size 155 3 v' m xs ∧ m ≤ k * 40 + j ∧ Blk wq w.heap.size 24 #[.int .i64 N, .slice a n c] ∧ Below w.heap.size w wq) (fun _ i _ => k - (intOf i).toNat)
      case atStart => exact ⟨0, m, xs, _, rfl, by omega, rfl, Hro.out, by omega, HS.out, HB.out⟩
      case round =>
        clear y0 y1 ly hsz
        obtain ⟨j, m, xs, v5, rfl, hj, rfl, hrow, hm, hS, hB⟩ := hrel
        rename World => wq
        obtain ⟨ly, y0, -, y1, -⟩ := hS.two
        have htr := (HH.out.below hB)
        have HS := Lib.hid hS
        have HB := Lib.hid hB
        have Hro := Lib.hid hrow
        have hsz := hB.size
        clear hS hB hrow
        by_cases hjk : j < k
        · have hj3 : (j : Int) < (k : Int) := by omega
          have hj5 : (j : Int) < (n : Int) := by omega
          have hj0 : (0 : Int) ≤ (j : Int) := by omega
          have c3 : m + 1 ≤ maxLen := by unfold maxLen; omega
          have c4 : (m + 1) * 24 ≤ 140737488355328 := by omega
          obtain ⟨⟨x, y, z⟩, ht⟩ : ∃ t, T[j]? = some t := ⟨T[j]'(by have := HN.out; omega), List.getElem?_eq_getElem _⟩
          obtain ⟨⟨x', y', z'⟩, hu⟩ : ∃ t, T[k]? = some t := ⟨T[k]'(by have := HN.out; omega), List.getElem?_eq_getElem _⟩
          obtain ⟨_, _, e1, _, _, hrd⟩ := htr
          cases e1
          obtain ⟨b, o, rfl, hbl, s0, s1, s2⟩ := hrd j x y z ht
          obtain ⟨b', o', e2, hbl', r0, r1, r2⟩ := hrd k x' y' z' hu
          cases e2
          clear hrd ht hu
          go_upto_region 8 with fail
          go_cut [8, 9] (fun v8 v9 W => ∃ p q, v8 = .pointer (some ⟨p, 0, none⟩) ∧ v9 = .pointer (some ⟨q, 0, none⟩) ∧ Blk W p 72 #[.int .i64 x, .int .i64 y, .int .i64 z] ∧ Blk W q 72 #[.int .i64 x', .int .i64 y', .int .i64 z'] ∧ Below wq.heap.size wq W)
          case first =>
            go_region_held3 (fun w' => w'.cell? ⟨w.heap.size, 1, none⟩ = some (.slice (some ⟨b, o, none⟩) n c) ∧ w'.cell? ⟨b, o + j * 3, none⟩ = some (.int .i64 x) ∧ w'.cell? ⟨b, o + j * 3 + 1, none⟩ = some (.int .i64 y) ∧ w'.cell? ⟨b, o + j * 3 + 2, none⟩ = some (.int .i64 z) ∧ w'.cell? ⟨b, o + k * 3, none⟩ = some (.int .i64 x') ∧ w'.cell? ⟨b, o + k * 3 + 1, none⟩ = some (.int .i64 y') ∧ w'.cell? ⟨b, o + k * 3 + 2, none⟩ = some (.int .i64 z')) (go_keep) (fail)
            all_goals
              go_wp2_with fail
              go_meet
              refine ⟨_, _, rfl, rfl, ?_, ?_, ?_⟩
              · repeat (first | with_reducible exact blk_new9 (by simp) | with_reducible refine Blk.drew ?_ | with_reducible refine Blk.alloc ?_ _)
              · repeat (first | with_reducible exact blk_new9 (by simp) | with_reducible refine Blk.drew ?_ | with_reducible refine Blk.alloc ?_ _)
              · exact below_d (((Below.refl _ _).alloc (Nat.le_refl _) _).alloc (by simp) _)
          case rest =>
            obtain ⟨p, q, rfl, rfl, bp, bq, hb8⟩ := hcut
            clear s0 s1 s2 r0 r1 r2 y0 y1
            have HP := Lib.hid bp
            have HQ := Lib.hid bq
            have hrc := own_below9 Hro.out hb8
            have hSc := HS.out.below hb8 ly
            have hBc := HB.out.trans (hb8.mono hsz)
            obtain ⟨lp, p0, -, p1, -, p2, -⟩ := bp.three
            obtain ⟨lq, q0, -, q1, -, q2, -⟩ := bq.three
            have Hrc := Lib.hid hrc
            have HSc := Lib.hid hSc
            have HBc := Lib.hid hBc
            have hszc := hBc.size
            clear bp bq hrc hSc hBc hb8
            rcases HK.out with rfl | rfl
            · go_wp2_with fail
              refine (HE.out _ _ _ _ _ _ _).mono ?_
              rintro e w2 ⟨⟨b2, rfl⟩, hb2⟩
              have hr2 := own_below9 Hrc.out hb2
              have HS2 := Lib.hid (HSc.out.below hb2 HSc.out.lt)
              have HB2 := Lib.hid (HBc.out.trans (hb2.mono hszc))
              have hsz2 := HB2.out.size
              clear hb2 p0 p1 p2 q0 q1 q2
              cases b2
              · have Hr2 := Lib.hid hr2
                clear hr2
                go_wp2
                go_roundw
                case measure => simp [intOf]; omega
                case rel => exact ⟨j + 1, m, _, _, rfl, by omega, by go_num, Hr2.out, by omega, HS2.out, HB2.out⟩
              · go_wp2_with (at_builtin; refine wpList_append_lies _ rfl (.tmp 61) (.tmp 66) 136 rfl w.heap.size 155 i1 _ 3 24 Tryz.underlying136 hi' hy0 hy1 hy2 rfl (by decide) _ _ _ rfl (hr2.alloc _) ⟨w2.heap.size, 0, none⟩ 1 1 [.int .i64 3, .int .i64 j, .int .i64 k] rfl rfl (World.news_of_block (heap_alloc_new _ _)) (by simp [Value.oneCell']) (by decide) c3 c4 (by rw [size_alloc']; omega) (w2.heap.size + 1) (by simp) ?_; intro g4 cap4 W4 hr4 hg4 _ _)
                go_roundw
                case measure => simp [intOf]; omega
                case rel => exact ⟨j + 1, m + 1, _, _, rfl, by omega, by go_num, hr4, by omega, (HS2.out.alloc _).grown hg4 (fun e => own_blk_ne hr2 HS2.out (by decide) e.symm), HB2.out.grown (gGrown (World.grownBy_alloc _ _ _) hg4 (row := v5.ownBlock) (fun _ e => .inl e)) (by omega) (fun j e => (hr2.lt j e).1)⟩
            · go_wp2_with fail
              refine (HA.out _ _ _ _ _).mono ?_
              rintro e w2 ⟨⟨b2, rfl⟩, hb2⟩
              clear p0 p1 p2 q0 q1 q2
              have HP2 := Lib.hid (HP.out.below hb2 lp)
              have HQ2 := Lib.hid (HQ.out.below hb2 lq)
              obtain ⟨lp2, p0, -, p1, -, p2, -⟩ := HP2.out.three
              obtain ⟨lq2, q0, -, q1, -, q2, -⟩ := HQ2.out.three
              have Hr2 := Lib.hid (own_below9 Hrc.out hb2)
              have HS2 := Lib.hid (HSc.out.below hb2 HSc.out.lt)
              have HB2 := Lib.hid (HBc.out.trans (hb2.mono hszc))
              have hsz2 := HB2.out.size
              clear hb2
              cases b2
              · go_wp2
                go_roundw
                case measure => simp [intOf]; omega
                case rel => exact ⟨j + 1, m, _, _, rfl, by omega, by go_num, Hr2.out, by omega, HS2.out, HB2.out⟩
              · go_wp2_with fail
                refine (HA.out _ _ _ _ _).mono ?_
                rintro e w3 ⟨⟨b3, rfl⟩, hb3⟩
                clear p0 p1 p2 q0 q1 q2
                have HP3 := Lib.hid (HP2.out.below hb3 lp2)
                have HQ3 := Lib.hid (HQ2.out.below hb3 lq2)
                obtain ⟨lp3, p0, -, p1, -, p2, -⟩ := HP3.out.three
                obtain ⟨lq3, q0, -, q1, -, q2, -⟩ := HQ3.out.three
                have Hr3 := Lib.hid (own_below9 Hr2.out hb3)
                have HS3 := Lib.hid (HS2.out.below hb3 HS2.out.lt)
                have HB3 := Lib.hid (HB2.out.trans (hb3.mono hsz2))
                have hsz3 := HB3.out.size
                clear hb3
                cases b3
                · go_wp2
                  go_roundw
                  case measure => simp [intOf]; omega
                  case rel => exact ⟨j + 1, m, _, _, rfl, by omega, by go_num, Hr3.out, by omega, HS3.out, HB3.out⟩
                · go_wp2_with fail
                  refine (HA.out _ _ _ _ _).mono ?_
                  rintro e w4 ⟨⟨b4, rfl⟩, hb4⟩
                  clear p0 p1 p2 q0 q1 q2
                  have hr4' := own_below9 Hr3.out hb4
                  have HS4 := Lib.hid (HS3.out.below hb4 HS3.out.lt)
                  have HB4 := Lib.hid (HB3.out.trans (hb4.mono hsz3))
                  have hsz4 := HB4.out.size
                  clear hb4
                  cases b4
                  · have Hr4 := Lib.hid hr4'
                    clear hr4'
                    go_wp2
                    go_roundw
                    case measure => simp [intOf]; omega
                    case rel => exact ⟨j + 1, m, _, _, rfl, by omega, by go_num, Hr4.out, by omega, HS4.out, HB4.out⟩
                  · go_wp2_with (at_builtin; refine wpList_append_lies _ rfl (.tmp 61) (.tmp 66) 136 rfl w.heap.size 155 i1 _ 3 24 Tryz.underlying136 hi' hy0 hy1 hy2 rfl (by decide) _ _ _ rfl (hr4'.alloc _) ⟨w4.heap.size, 0, none⟩ 1 1 [.int .i64 4, .int .i64 j, .int .i64 k] rfl rfl (World.news_of_block (heap_alloc_new _ _)) (by simp [Value.oneCell']) (by decide) c3 c4 (by rw [size_alloc']; omega) (w4.heap.size + 1) (by simp) ?_; intro g4 cap4 W4 hr4 hg4 _ _)
                    go_roundw
                    case measure => simp [intOf]; omega
                    case rel => exact ⟨j + 1, m + 1, _, _, rfl, by omega, by go_num, hr4, by omega, (HS4.out.alloc _).grown hg4 (fun e => own_blk_ne hr4' HS4.out (by decide) e.symm), HB4.out.grown (gGrown (World.grownBy_alloc _ _ _) hg4 (row := v5.ownBlock) (fun _ e => .inl e)) (by omega) (fun j e => (hr4'.lt j e).1)⟩
        · obtain rfl : j = k := by omega
          clear htr
          go_wp2
          go_roundw
          case measure => simp [intOf]; omega
          case rel => exact ⟨j + 1, m, _, _, rfl, by omega, by go_num, Hro.out, by omega, HS.out, HB.out⟩
    · obtain rfl : k = n := by omega
      go_wp2
      go_ret
      exact ⟨_, _, _, rfl, Hro.out, by omega, HB.out⟩
end Go.Proofs.YtghlnknncahkgaaGreat
/-
  gypsumref09.Pinched comes to an end.
-/
namespace Go.Proofs.YtghlnknncahkgaaGreat
open Go.RowKit

theorem infoTri9 : (Tryz.prog.info? 72).map (fun i => (i.zero, i.size, i.bytes)) = some (some (.agg #[.int .i64 0, .int .i64 0, .int .i64 0]), 3, 24) := by kernel_rfl
theorem ws3_snoc9 (L : List Tr) (x y z : Int) : ws3 (L ++ [(x, y, z)]) = ws3 L ++ [.int .i64 x, .int .i64 y, .int .i64 z] := ws3_snoc L x y z
theorem ws3_get9 : ∀ (L : List Tr) (k : Nat) (x y z : Int), L[k]? = some (x, y, z) → (ws3 L)[k * 3]? = some (.int .i64 x) ∧ (ws3 L)[k * 3 + 1]? = some (.int .i64 y) ∧ (ws3 L)[k * 3 + 2]? = some (.int .i64 z)
  | [], k, x, y, z, h => by simp at h
  | (a, b, c) :: L, 0, x, y, z, h => by
    simp at h
    obtain ⟨rfl, rfl, rfl⟩ := h
    simp [ws3, flatT]
  | (a, b, c) :: L, k + 1, x, y, z, h => by
    have ih := ws3_get9 L k x y z (by simpa using h)
    have e : ws3 ((a, b, c) :: L) = .int .i64 a :: .int .i64 b :: .int .i64 c :: ws3 L := by simp [ws3, flatT]
    rw [e]
    have e1 : (k + 1) * 3 = k * 3 + 1 + 1 + 1 := by omega
    rw [e1]
    simpa using ih
theorem ws3_len9 (L : List Tr) : (ws3 L).length = L.length * 3 := by
  induction L with
  | nil => rfl
  | cons a L ih =>
    obtain ⟨x, y, z⟩ := a
    have e : ws3 ((x, y, z) :: L) = .int .i64 x :: .int .i64 y :: .int .i64 z :: ws3 L := by simp [ws3, flatT]
    rw [e]
    simp only [List.length_cons, ih]
    omega
/-- The state between the rounds: the vertex's triangles, and which are come to. -/
structure PS9 (w : World) (m : Nat) (L : List Tr) (gL cL gB : Nat) (W : World) : Prop where
  bs : ∃ bs : List Bool, bs.length = m ∧ W.ownsRow w.heap.size 4 1 (.slice (some ⟨gB, 0, none⟩) m m) m (bools bs)
  tri : W.ownsRow w.heap.size 72 3 (.slice (some ⟨gL, 0, none⟩) m cL) m (ws3 L)
  ll : L.length = m
  below : Below w.heap.size w W
section
variable {w W W' : World} {m gL cL gB : Nat} {L : List Tr}
theorem PS9.le (h : PS9 w m L gL cL gB W) (hb : Below W.heap.size W W') : PS9 w m L gL cL gB W' := by
  obtain ⟨⟨bs, h1, h2⟩, h3, h5, h4⟩ := h
  exact ⟨⟨bs, h1, own_below9 h2 hb⟩, own_below9 h3 hb, h5, h4.trans (hb.mono h4.size)⟩
theorem PS9.bit (h : PS9 w m L gL cL gB W) {i : Nat} (hi : i < m) : ∃ b : Bool, W.cell? ⟨gB, i, none⟩ = some (.bool b) ∧ W.frozen? ⟨gB, i, none⟩ = false := by
  obtain ⟨⟨bs, h1, h2⟩, -, -, -⟩ := h
  obtain ⟨b, hb⟩ : ∃ b, bs[i]? = some b := ⟨bs[i]'(by omega), List.getElem?_eq_getElem _⟩
  exact ⟨b, by rw [h2.cellAt i (by omega), bools, List.getElem?_map, hb]; rfl, h2.frozenAt i⟩
theorem PS9.set_ (h : PS9 w m L gL cL gB W) (i : Nat) : PS9 w m L gL cL gB (W.setCell ⟨gB, i, none⟩ (.bool true)) := by
  obtain ⟨⟨bs, h1, h2⟩, h3, h5, h4⟩ := h
  have hs := h2.stored i (.bool true)
  refine ⟨⟨bs.set i true, by simpa using h1, by rw [← bools_set]; exact hs.1⟩, h3.kept hs.2 (own_own_ne h3 h2 (by decide)), h5, h4.grown hs.2 h4.size (fun j e => (h2.lt j e).1)⟩
theorem PS9.three (h : PS9 w m L gL cL gB W) {i : Nat} (hi : i < m) : ∃ x y z, W.cell? ⟨gL, i * 3, none⟩ = some (.int .i64 x) ∧ W.cell? ⟨gL, i * 3 + 1, none⟩ = some (.int .i64 y) ∧ W.cell? ⟨gL, i * 3 + 2, none⟩ = some (.int .i64 z) := by
  obtain ⟨-, h3, h5, -⟩ := h
  obtain ⟨⟨x, y, z⟩, ht⟩ : ∃ q, L[i]? = some q := ⟨L[i]'(by omega), List.getElem?_eq_getElem _⟩
  obtain ⟨d0, d1, d2⟩ := ws3_get9 L i x y z ht
  refine ⟨x, y, z, ?_, ?_, ?_⟩
  · rw [h3.cellAt _ (by omega)]; exact d0
  · rw [h3.cellAt _ (by omega)]; exact d1
  · rw [h3.cellAt _ (by omega)]; exact d2
theorem PS9.at_ (h : PS9 w m L gL cL gB W) {i j : Nat} (hi : i < m) (hj : j < 3) : ∃ x, W.cell? ⟨gL, i * 3 + j, none⟩ = some (.int .i64 x) := by
  obtain ⟨x, y, z, h0, h1, h2⟩ := h.three hi
  have : j = 0 ∨ j = 1 ∨ j = 2 := by omega
  rcases this with rfl | rfl | rfl
  · exact ⟨_, h0⟩
  · exact ⟨_, h1⟩
  · exact ⟨_, h2⟩
end
set_option maxRecDepth 100000 in
set_option maxHeartbeats 4000000 in
theorem pinched9_any (N u : Int) (v : Value) (T : List Tr) (w : World) (h : TrisRd w v T) (hl : T.length ≤ 40) : Calls Tryz.prog 106 #[.agg #[.int .i64 N, v], .int .i64 u] w (RetB w) := by
  obtain ⟨i1, hi', hy0, hy1, hy2⟩ := info_parts infoTri9
  obtain ⟨i2, hj', hz0, hz1, hz2⟩ := info_parts infoBool
  obtain ⟨a, c, rfl, hc1, hc2, hr⟩ := h
  have b1 := Blk.new w 24 #[.int .i64 N, .slice a T.length c]
  obtain ⟨l0, x0, -, x1, -⟩ := b1.two
  have hB0 : Below w.heap.size w (w.alloc (.cells #[.int .i64 N, .slice a T.length c] 24)) := (Below.refl _ _).alloc (Nat.le_refl _) _
  obtain ⟨n, hn⟩ : ∃ n, T.length = n := ⟨_, rfl⟩
  rw [hn] at hl hc1 x0 x1 hB0 b1 l0 ⊢
  have HR := Lib.hid hr
  have HN := Lib.hid hn
  have HB0 := Lib.hid hB0
  have Hb1 := Lib.hid b1
  have HA := Lib.hid has9_any
  clear hr hn b1 hB0
  go_enter Tryz.func106, Tryz.ntmps106
  go_wp2
  go_loopw [5, 6] (fun v5 i wr => ∃ (k : Nat) (L : List Tr) (v' : Value), v' = v5 ∧ k ≤ n ∧ i = .int .i64 k ∧ wr.ownsRow w.heap.size 72 3 v' L.length (ws3 L) ∧ L.length ≤ k ∧ Blk wr w.heap.size 24 #[.int .i64 N, .slice a n c] ∧ Below w.heap.size w wr) (fun _ i _ => n - (intOf i).toNat)
  case atStart => exact ⟨0, [], _, rfl, Nat.zero_le _, rfl, World.ownsRow_nil _ _ _ _, by simp, Hb1.out, HB0.out⟩
  case round =>
    obtain ⟨k, L, v3, rfl, hk, rfl, hrow, hm, hS, hB⟩ := hrel
    rename World => wr
    clear x0 x1 l0
    obtain ⟨ly, y0, -, y1, -⟩ := hS.two
    have HS := Lib.hid hS
    have HB := Lib.hid hB
    have Hro := Lib.hid hrow
    have hsz := hB.size
    by_cases hlt : k < n
    · have hk3 : (k : Int) < (n : Int) := by omega
      have hk0 : (0 : Int) ≤ (k : Int) := by omega
      obtain ⟨⟨x, y, z⟩, ht⟩ : ∃ t, T[k]? = some t := ⟨T[k]'(by have := HN.out; omega), List.getElem?_eq_getElem _⟩
      obtain ⟨b, o, rfl, hbl, s0, s1, s2⟩ := HR.out k x y z ht
      have s0' := (hB.cell (p := ⟨b, _, none⟩) hbl).trans s0
      have s1' := (hB.cell (p := ⟨b, _, none⟩) hbl).trans s1
      have s2' := (hB.cell (p := ⟨b, _, none⟩) hbl).trans s2
      have c3 : L.length + 1 ≤ maxLen := by unfold maxLen; omega
      have c4 : (L.length + 1) * 24 ≤ 140737488355328 := by omega
      clear ht hS hB hrow
      go_wp2_with fail
      refine (HA.out _ _ _ _ _).mono ?_
      rintro e w2 ⟨⟨b2, rfl⟩, hb2⟩
      have hr2 := own_below9 Hro.out hb2
      have HS2 := Lib.hid (HS.out.below hb2 ly)
      have HB2 := Lib.hid (HB.out.trans (hb2.mono hsz))
      have hsz2 := HB2.out.size
      clear y0 y1 s0' s1' s2' hb2
      obtain ⟨ly2, y0, -, y1, -⟩ := HS2.out.two
      have s0' := (HB2.out.cell (p := ⟨b, _, none⟩) hbl).trans s0
      have s1' := (HB2.out.cell (p := ⟨b, _, none⟩) hbl).trans s1
      have s2' := (HB2.out.cell (p := ⟨b, _, none⟩) hbl).trans s2
      clear s0 s1 s2
      cases b2
      · have Hr2 := Lib.hid hr2
        clear hr2
        go_wp2
        go_roundw
        case measure => simp [intOf]; omega
        case rel => exact ⟨k + 1, L, _, rfl, by omega, by go_num, Hr2.out, by omega, HS2.out, HB2.out⟩
      · go_wp2_with (at_builtin; refine wpList_append_lies _ rfl (.tmp 27) (.tmp 33) 22 rfl w.heap.size 72 i1 _ 3 24 Tryz.underlying22 hi' hy0 hy1 hy2 rfl (by decide) _ _ _ rfl (hr2.alloc _) ⟨w2.heap.size, 0, none⟩ 1 1 [.int .i64 x, .int .i64 y, .int .i64 z] rfl rfl (World.news_of_block (heap_alloc_new _ _)) (by simp [Value.oneCell']) (by decide) c3 c4 (by rw [size_alloc']; omega) (w2.heap.size + 1) (by simp) ?_; intro g4 cap4 W4 hr4 hg4 _ _)
        go_roundw
        case measure => simp [intOf]; omega
        case rel => exact ⟨k + 1, L ++ [(x, y, z)], _, rfl, by omega, by go_num, by rw [ws3_snoc9]; simpa using hr4, by simp; omega, (HS2.out.alloc _).grown hg4 (fun e => own_blk_ne hr2 HS2.out (by decide) e.symm), HB2.out.grown (gGrown (World.grownBy_alloc _ _ _) hg4 (row := v3.ownBlock) (fun _ e => .inl e)) (by omega) (fun j e => (hr2.lt j e).1)⟩
    · obtain rfl : k = n := by omega
      clear HS hS
      obtain ⟨m, hmL⟩ : ∃ m, L.length = m := ⟨_, rfl⟩
      rw [hmL] at hrow hm
      clear Hro
      rcases Nat.eq_zero_or_pos m with hm0 | hm0
      · subst hm0
        have e : ∃ a cc, v3 = .slice a 0 cc := by
          rcases hrow.2 with ⟨rfl, h0⟩ | ⟨g, cap, cur, rfl, _⟩
          · exact ⟨_, _, rfl⟩
          · exact ⟨_, _, rfl⟩
        obtain ⟨a', cc, rfl⟩ := e
        clear hrow hB hmL
        go_wp2
        go_ret
        exact ⟨⟨_, rfl⟩, HB.out⟩
      · obtain ⟨gL, cL, rfl, -, -⟩ := hrow.form hm0
        have HL := Lib.hid hmL
        have Hr := Lib.hid hrow
        have nz : ((m : Int) == 0) = false := by simp; omega
        have hm4 : (0 : Int) < (m : Int) := by omega
        clear hmL hrow hB
        go_wp2_with (at_make; refine wpList_make_full _ rfl (.tmp 39) (.tmp 39) 122 rfl w.heap.size 4 i2 _ 1 Tryz.underlying122 hj' hz0 hz1 .i64 .i64 _ _ m rfl rfl rfl rfl (by rw [hz2]; omega) (by unfold maxLen; omega) (by omega) ?_; intro w1 hr1 hg1; have hbm := below_of_grown hg1 (Nat.le_refl _) (fun j e => by cases e); rw [made_bools] at hr1; have f0 := hr1.frozenAt 0; have c0 : w1.cell? ⟨wr.heap.size, 0, none⟩ = some (.bool false) := by rw [hr1.cellAt 0 (by omega)]; simp [bools, hm0])
        have hps : PS9 w m L gL cL wr.heap.size w1 := ⟨⟨_, by simp, hr1⟩, own_below9 Hr.out hbm, HL.out, HB.out.trans (hbm.mono hsz)⟩
        have HPS := Lib.hid (hps.set_ 0)
        clear hps hr1 hg1 hbm f0 c0 y0 y1 ly
        generalize w1.setCell ⟨wr.heap.size, 0, none⟩ (.bool true) = W1 at *
        go_loopw [45] (fun i W => ∃ q : Nat, q ≤ m ∧ i = .int .i64 q ∧ PS9 w m L gL cL wr.heap.size W) (fun i _ => m - (intOf i).toNat)
        case atStart => exact ⟨0, by omega, rfl, HPS.out⟩
        case round =>
          obtain ⟨q, hq, rfl, hP⟩ := hrel
          rename World => wA
          have HPA := Lib.hid hP
          clear hP
          by_cases hqm : q < m
          · have hq3 : (q : Int) < (m : Int) := by omega
            go_wp2
            go_loopw [8] (fun i W => ∃ i1 : Nat, i1 ≤ m ∧ i = .int .i64 i1 ∧ PS9 w m L gL cL wr.heap.size W) (fun i _ => m - (intOf i).toNat)
            case atStart => exact ⟨0, by omega, rfl, HPA.out⟩
            case round =>
              obtain ⟨i1, hi1, rfl, hP⟩ := hrel
              rename World => wB
              have HPB := Lib.hid hP
              clear hP
              by_cases him : i1 < m
              · have hi3 : (i1 : Int) < (m : Int) := by omega
                have hi0 : (0 : Int) ≤ (i1 : Int) := by omega
                go_wp2
                go_loopw [9] (fun i W => ∃ k1 : Nat, k1 ≤ m ∧ i = .int .i64 k1 ∧ PS9 w m L gL cL wr.heap.size W) (fun i _ => m - (intOf i).toNat)
                case atStart => exact ⟨0, by omega, rfl, HPB.out⟩
                case round =>
                  obtain ⟨k1, hk1, rfl, hP⟩ := hrel
                  rename World => wC
                  have HPC := Lib.hid hP
                  clear hP
                  by_cases hkm : k1 < m
                  · have hk3 : (k1 : Int) < (m : Int) := by omega
                    have hk0 : (0 : Int) ≤ (k1 : Int) := by omega
                    obtain ⟨bi, ci, -⟩ := HPC.out.bit him
                    obtain ⟨bk, ck, fk⟩ := HPC.out.bit hkm
                    cases bi
                    · go_wp2
                      go_roundw
                      case measure => simp [intOf]; omega
                      case rel => exact ⟨k1 + 1, by omega, by go_num, HPC.out⟩
                    · cases bk
                      · go_wp2
                        clear ci ck fk
                        go_loopw [10] (fun i W => ∃ j1 : Nat, j1 ≤ 3 ∧ i = .int .i64 j1 ∧ PS9 w m L gL cL wr.heap.size W) (fun i _ => 3 - (intOf i).toNat)
                        case atStart => exact ⟨0, by omega, rfl, HPC.out⟩
                        case round =>
                          obtain ⟨j1, hj1, rfl, hP⟩ := hrel
                          rename World => wD
                          have HPD := Lib.hid hP
                          clear hP
                          by_cases hj3 : j1 < 3
                          · have hj4 : (j1 : Int) < 3 := by omega
                            have hj0 : (0 : Int) ≤ (j1 : Int) := by omega
                            obtain ⟨x, hx⟩ := HPD.out.at_ him hj3
                            obtain ⟨a1, a2, a3, h1, h2, h3⟩ := HPD.out.three hkm
                            by_cases hxu : x = u
                            · have hxu' : (x != u) = false := by simpa using hxu
                              clear hxu
                              go_wp2
                              go_roundw
                              case measure => simp [intOf]; omega
                              case rel => exact ⟨j1 + 1, by omega, by go_num, HPD.out⟩
                            · have hxu' : (x != u) = true := by simpa using hxu
                              clear hxu
                              go_wp2_with fail
                              refine (HA.out _ _ _ _ _).mono ?_
                              rintro e w2 ⟨⟨b2, rfl⟩, hb2⟩
                              have HP2 := Lib.hid (HPD.out.le hb2)
                              obtain ⟨bk, ck, fk⟩ := HP2.out.bit hkm
                              clear hx h1 h2 h3 hb2
                              cases b2
                              · go_wp2
                                go_roundw
                                case measure => simp [intOf]; omega
                                case rel => exact ⟨j1 + 1, by omega, by go_num, HP2.out⟩
                              · go_wp2
                                go_roundw
                                case measure => simp [intOf]; omega
                                case rel => exact ⟨j1 + 1, by omega, by go_num, HP2.out.set_ _⟩
                          · obtain rfl : j1 = 3 := by omega
                            go_wp2
                            go_roundw
                            case measure => simp [intOf]; omega
                            case rel => exact ⟨k1 + 1, by omega, by go_num, HPD.out⟩
                      · go_wp2
                        go_roundw
                        case measure => simp [intOf]; omega
                        case rel => exact ⟨k1 + 1, by omega, by go_num, HPC.out⟩
                  · obtain rfl : k1 = m := by omega
                    go_wp2
                    go_roundw
                    case measure => simp [intOf]; omega
                    case rel => exact ⟨i1 + 1, by omega, by go_num, HPC.out⟩
              · obtain rfl : i1 = m := by omega
                go_wp2
                go_roundw
                case measure => simp [intOf]; omega
                case rel => exact ⟨q + 1, by omega, by go_num, HPB.out⟩
          · obtain rfl : q = m := by omega
            go_wp2
            go_loopw [12] (fun i W => ∃ i1 : Nat, i1 ≤ q ∧ i = .int .i64 i1 ∧ PS9 w q L gL cL wr.heap.size W) (fun i _ => q - (intOf i).toNat)
            case atStart => exact ⟨0, by omega, rfl, HPA.out⟩
            case round =>
              obtain ⟨i1, hi1, rfl, hP⟩ := hrel
              rename World => wB
              have HPB := Lib.hid hP
              clear hP
              by_cases him : i1 < q
              · have hi3 : (i1 : Int) < (q : Int) := by omega
                have hi0 : (0 : Int) ≤ (i1 : Int) := by omega
                obtain ⟨bi, ci, -⟩ := HPB.out.bit him
                cases bi
                · go_wp2
                  go_ret
                  exact ⟨⟨_, rfl⟩, HPB.out.below⟩
                · go_wp2
                  go_roundw
                  case measure => simp [intOf]; omega
                  case rel => exact ⟨i1 + 1, by omega, by go_num, HPB.out⟩
              · obtain rfl : i1 = q := by omega
                go_wp2
                go_ret
                exact ⟨⟨_, rfl⟩, HPB.out.below⟩
end Go.Proofs.YtghlnknncahkgaaGreat
/-
  gypsumref09.All and Surface come to an end.
-/
namespace Go.Proofs.YtghlnknncahkgaaGreat
open Go.RowKit

theorem own_base9 {w : World} {base base' n s : Nat} {e : TypeId} {v : Value} {xs : List Value} (h : w.ownsRow base e s v n xs) (hb : base' ≤ base) : w.ownsRow base' e s v n xs := by
  obtain ⟨h1, h2 | ⟨g, cap, cur, rfl, a1, a2⟩⟩ := h
  · exact ⟨h1, .inl h2⟩
  · exact ⟨h1, .inr ⟨g, cap, cur, rfl, Nat.le_trans hb a1, a2⟩⟩
/-- A row of witnesses of the call's own, and its argument. -/
structure AS9 (w : World) (N : Int) (vT : Value) (v : Value) (m : Nat) (W : World) : Prop where
  row : ∃ xs, W.ownsRow w.heap.size 155 3 v m xs
  soup : Blk W w.heap.size 24 #[.int .i64 N, vT]
  below : Below w.heap.size w W
theorem AS9.le {w W W' : World} {N : Int} {vT v : Value} {m : Nat} (h : AS9 w N vT v m W) (hb : Below W.heap.size W W') : AS9 w N vT v m W' := by
  obtain ⟨⟨xs, h1⟩, h2, h3⟩ := h
  exact ⟨⟨xs, own_below9 h1 hb⟩, h2.below hb h2.lt, h3.trans (hb.mono h3.size)⟩
theorem AS9.form {w W : World} {N : Int} {vT v : Value} {m : Nat} (h : AS9 w N vT v m W) : ∃ a c, v = .slice a m c := by
  obtain ⟨⟨xs, h1⟩, -, -⟩ := h
  rcases h1.2 with ⟨rfl, h0⟩ | ⟨g, cap, cur, rfl, _⟩
  · rw [h0]; exact ⟨_, _, rfl⟩
  · exact ⟨_, _, rfl⟩
theorem AS9.ret {w W W' : World} {N : Int} {vT v v' : Value} {m : Nat} (h : AS9 w N vT v m W) {n : Nat} {xs : List Value} (h1 : W'.ownsRow W.heap.size 155 3 v' n xs) (hb : Below W.heap.size W W') : AS9 w N vT v' n W' :=
  ⟨⟨xs, own_base9 h1 h.below.size⟩, h.soup.below hb h.soup.lt, h.below.trans (hb.mono h.below.size)⟩
theorem AS9.app {w W W' : World} {N : Int} {vT v v' : Value} {m n : Nat} {xs : List Value} {o : Obj} (h : AS9 w N vT v m W) (h1 : W'.ownsRow w.heap.size 155 3 v' n xs) (hg : (W.alloc o).grownBy W' v.ownBlock) : AS9 w N vT v' n W' := by
  obtain ⟨⟨ys, h2⟩, h3, h4⟩ := h
  refine ⟨⟨xs, h1⟩, (h3.alloc _).grown hg (fun e => own_blk_ne h2 h3 (by decide) e.symm), ?_⟩
  exact h4.grown (gGrown (World.grownBy_alloc _ _ _) hg (row := v.ownBlock) (fun _ e => .inl e)) h4.size (fun j e => (h2.lt j e).1)
set_option maxRecDepth 100000 in
set_option maxHeartbeats 4000000 in
theorem all9_any (N : Int) (v : Value) (T : List Tr) (w : World) (h : TrisRd w v T) (hl : T.length ≤ 40) (hN : N ≤ 120) : Calls Tryz.prog 80 #[.agg #[.int .i64 N, v]] w (RetW w 10000) := by
  obtain ⟨i1, hi', hy0, hy1, hy2⟩ := info_parts infoWit9
  obtain ⟨a, c, rfl, hc1, hc2, hr⟩ := id h
  have b1 := Blk.new w 24 #[.int .i64 N, .slice a T.length c]
  obtain ⟨l0, x0, -, x1, -⟩ := b1.two
  have hB0 : Below w.heap.size w (w.alloc (.cells #[.int .i64 N, .slice a T.length c] 24)) := (Below.refl _ _).alloc (Nat.le_refl _) _
  have HI := Lib.hid (fun (W : World) (hW : Below w.heap.size w W) => index9_any N _ T W (h.below hW) hl)
  have HP3 := Lib.hid (fun (W : World) (hW : Below w.heap.size w W) => pairs9_any 3 (.inl rfl) N _ T W (h.below hW) hl)
  have HP4 := Lib.hid (fun (W : World) (hW : Below w.heap.size w W) => pairs9_any 4 (.inr rfl) N _ T W (h.below hW) hl)
  have HPi := Lib.hid (fun (W : World) (u : Int) (hW : Below w.heap.size w W) => pinched9_any N u _ T W (h.below hW) hl)
  have HA := Lib.hid has9_any
  obtain ⟨n, hn⟩ : ∃ n, T.length = n := ⟨_, rfl⟩
  rw [hn] at hl hc1 x0 x1 hB0 b1 l0 HI HP3 HP4 HPi ⊢
  have HR := Lib.hid hr
  have HN := Lib.hid hn
  have HB0 := Lib.hid hB0
  have Hb1 := Lib.hid b1
  clear hr hn b1 hB0 h
  go_enter Tryz.func80, Tryz.ntmps80
  go_wp2_with fail
  refine (HI.out _ HB0.out).mono ?_
  rintro e w1 ⟨v1, m1, xs1, rfl, hr1, hm1, hb1⟩
  have S1 : AS9 w N (.slice a n c) v1 m1 w1 := ⟨⟨_, own_base9 hr1 (by simp)⟩, Hb1.out.below hb1 l0, HB0.out.trans (hb1.mono HB0.out.size)⟩
  obtain ⟨a1, c1, rfl⟩ := S1.form
  have HS1 := Lib.hid S1
  clear S1 hr1 hb1 x0 x1
  obtain ⟨ly, y0, -, y1, -⟩ := HS1.out.soup.two
  rcases Nat.eq_zero_or_pos m1 with hm0 | hm0
  rotate_left
  · have nz : (0 : Int) < (m1 : Int) := by omega
    go_wp2
    go_ret
    obtain ⟨⟨xs, k1⟩, -, k3⟩ := HS1.out
    exact ⟨_, _, _, rfl, k1, by omega, k3⟩
  subst hm0
  go_wp2
  go_loopw [3, 4] (fun v3 i wr => ∃ (k m : Nat) (v' : Value), v' = v3 ∧ k ≤ n ∧ i = .int .i64 k ∧ AS9 w N (.slice a n c) v' m wr ∧ m ≤ k) (fun _ i _ => n - (intOf i).toNat)
  case atStart => exact ⟨0, 0, _, rfl, by omega, rfl, HS1.out, by omega⟩
  case round =>
    obtain ⟨k, m, v3, rfl, hk, rfl, hS, hm⟩ := hrel
    rename World => wr
    clear y0 y1 ly
    have HS := Lib.hid hS
    obtain ⟨ly, y0, -, y1, -⟩ := hS.soup.two
    obtain ⟨⟨xs, hrow⟩, -, hB⟩ := hS
    have hsz := hB.size
    by_cases hlt : k < n
    · have hk3 : (k : Int) < (n : Int) := by omega
      have hk0 : (0 : Int) ≤ (k : Int) := by omega
      obtain ⟨⟨x, y, z⟩, ht⟩ : ∃ t, T[k]? = some t := ⟨T[k]'(by have := HN.out; omega), List.getElem?_eq_getElem _⟩
      obtain ⟨b, o, rfl, hbl, s0, s1, s2⟩ := HR.out k x y z ht
      have s0' := (hB.cell (p := ⟨b, _, none⟩) hbl).trans s0
      have s1' := (hB.cell (p := ⟨b, _, none⟩) hbl).trans s1
      have s2' := (hB.cell (p := ⟨b, _, none⟩) hbl).trans s2
      have c3 : m + 1 ≤ maxLen := by unfold maxLen; omega
      have c4 : (m + 1) * 24 ≤ 140737488355328 := by omega
      clear ht s0 s1 s2
      have Q : ((x == y) = false ∧ (y == z) = false ∧ (z == x) = false) ∨ ((x == y) = true ∨ ((x == y) = false ∧ (y == z) = true) ∨ ((x == y) = false ∧ (y == z) = false ∧ (z == x) = true)) := by
        cases (x == y) <;> cases (y == z) <;> cases (z == x) <;> simp
      rcases Q with ⟨q1, q2, q3⟩ | q
      · clear hrow hB
        go_wp2
        go_roundw
        case measure => simp [intOf]; omega
        case rel => exact ⟨k + 1, m, _, rfl, by omega, by go_num, HS.out.le ((Below.refl _ _).alloc (Nat.le_refl _) _), by omega⟩
      · have HS' := Lib.hid (HS.out.le ((Below.refl _ _).alloc (Nat.le_refl _) (.cells #[.int .i64 x, .int .i64 y, .int .i64 z] 72)))
        rcases q with q1 | ⟨q1, q2⟩ | ⟨q1, q2, q3⟩
        all_goals go_wp2_with (at_builtin; refine wpList_append_lies _ rfl (.tmp 47) (.tmp 50) 136 rfl w.heap.size 155 i1 _ 3 24 Tryz.underlying136 hi' hy0 hy1 hy2 rfl (by decide) _ _ _ rfl ((hrow.alloc _).alloc _) ⟨wr.heap.size + 1, 0, none⟩ 1 1 [.int .i64 2, .int .i64 k, .int .i64 0] rfl rfl (World.news_of_block (heap_alloc_new2 _ _ _)) (by simp [Value.oneCell']) (by decide) c3 c4 (by rw [size_alloc', size_alloc']; omega) (wr.heap.size + 2) (by simp) ?_; intro g4 cap4 W4 hr4 hg4 _ _)
        all_goals go_roundw
        case measure | measure | measure => simp [intOf]; omega
        case rel | rel | rel => exact ⟨k + 1, m + 1, _, rfl, by omega, by go_num, HS'.out.app hr4 hg4, by omega⟩
    · obtain rfl : k = n := by omega
      clear hrow hB
      obtain ⟨a3, c3, rfl⟩ := HS.out.form
      rcases Nat.eq_zero_or_pos m with hm0 | hm0
      rotate_left
      · have nz : (0 : Int) < (m : Int) := by omega
        go_wp2
        go_ret
        obtain ⟨⟨xs, k1⟩, -, k3⟩ := HS.out
        exact ⟨_, _, _, rfl, k1, by omega, k3⟩
      subst hm0
      go_wp2_with fail
      refine (HP3.out _ HS.out.below).mono ?_
      rintro e w2 ⟨v2, m2, xs2, rfl, hr2, hm2, hb2⟩
      have HS2 := Lib.hid (HS.out.ret hr2 hb2)
      obtain ⟨a2, c2, rfl⟩ := HS2.out.form
      clear y0 y1 ly hr2 hb2
      obtain ⟨ly, y0, -, y1, -⟩ := HS2.out.soup.two
      rcases Nat.eq_zero_or_pos m2 with hm0 | hm0
      rotate_left
      · have nz : (0 : Int) < (m2 : Int) := by omega
        go_wp2
        go_ret
        obtain ⟨⟨xs, k1⟩, -, k3⟩ := HS2.out
        exact ⟨_, _, _, rfl, k1, by omega, k3⟩
      subst hm0
      go_wp2_with fail
      refine (HP4.out _ HS2.out.below).mono ?_
      rintro e w3 ⟨v3, m3, xs3, rfl, hr3, hm3, hb3⟩
      have HS3 := Lib.hid (HS2.out.ret hr3 hb3)
      obtain ⟨a3, c3, rfl⟩ := HS3.out.form
      clear y0 y1 ly hr3 hb3
      obtain ⟨ly, y0, -, y1, -⟩ := HS3.out.soup.two
      rcases Nat.eq_zero_or_pos m3 with hm0 | hm0
      rotate_left
      · have nz : (0 : Int) < (m3 : Int) := by omega
        go_wp2
        go_ret
        obtain ⟨⟨xs, k1⟩, -, k3⟩ := HS3.out
        exact ⟨_, _, _, rfl, k1, by omega, k3⟩
      subst hm0
      go_wp2
      go_loopw [3, 6] (fun v3 i wr => ∃ (j m : Nat) (v' : Value), v' = v3 ∧ (j = 0 ∨ (j : Int) ≤ N) ∧ i = .int .i64 j ∧ AS9 w N (.slice a k c) v' m wr ∧ m ≤ j) (fun _ i _ => N.toNat - (intOf i).toNat)
      case atStart => exact ⟨0, 0, _, rfl, .inl rfl, rfl, HS3.out, by omega⟩
      case round =>
        obtain ⟨j, m, v4, rfl, hj, rfl, hS, hm⟩ := hrel
        rename World => wA
        clear y0 y1 ly HS HS2 HS3 HS1
        have HS := Lib.hid hS
        obtain ⟨ly, y0, -, y1, -⟩ := hS.soup.two
        clear hS
        by_cases hlt : (j : Int) < N
        · go_wp2
          go_loopw [7, 8] (fun v7 i W => ∃ (i1 : Nat) (b : Bool), i1 ≤ k ∧ i = .int .i64 i1 ∧ v7 = .bool b ∧ AS9 w N (.slice a k c) v4 m W) (fun _ i _ => k - (intOf i).toNat)
          case atStart => exact ⟨0, false, by omega, rfl, rfl, HS.out⟩
          case round =>
            obtain ⟨i1x, b, hi1, rfl, rfl, hS⟩ := hrel
            rename World => wB
            have HSB := Lib.hid hS
            obtain ⟨lz, z0, -, z1, -⟩ := hS.soup.two
            by_cases hik : i1x < k
            · have hi3 : (i1x : Int) < (k : Int) := by omega
              have hi0 : (0 : Int) ≤ (i1x : Int) := by omega
              cases b
              · obtain ⟨⟨x, y, z⟩, ht⟩ : ∃ t, T[i1x]? = some t := ⟨T[i1x]'(by have := HN.out; omega), List.getElem?_eq_getElem _⟩
                obtain ⟨b, o, rfl, hbl, s0, s1, s2⟩ := HR.out i1x x y z ht
                have s0' := (hS.below.cell (p := ⟨b, _, none⟩) hbl).trans s0
                have s1' := (hS.below.cell (p := ⟨b, _, none⟩) hbl).trans s1
                have s2' := (hS.below.cell (p := ⟨b, _, none⟩) hbl).trans s2
                clear ht s0 s1 s2 hS
                go_wp2_with fail
                refine (HA.out _ _ _ _ _).mono ?_
                rintro e w5 ⟨⟨b5, rfl⟩, hb5⟩
                have HS5 := Lib.hid (HSB.out.le hb5)
                clear hb5 z0 z1 s0' s1' s2'
                go_wp2
                go_roundw
                case measure => simp [intOf]; omega
                case rel => exact ⟨i1x + 1, b5, by omega, by go_num, rfl, HS5.out⟩
              · clear hS
                go_wp2
                go_roundw
                case measure => simp [intOf]; omega
                case rel => exact ⟨i1x + 1, true, by omega, by go_num, rfl, HSB.out⟩
            · obtain rfl : i1x = k := by omega
              clear hS
              obtain ⟨⟨xs, hrow⟩, -, hB⟩ := HSB.out
              have hsz := hB.size
              have c3 : m + 1 ≤ maxLen := by unfold maxLen; omega
              have c4 : (m + 1) * 24 ≤ 140737488355328 := by omega
              cases b
              · clear hB
                go_wp2_with (at_builtin; refine wpList_append_lies _ rfl (.tmp 93) (.tmp 96) 136 rfl w.heap.size 155 i1 _ 3 24 Tryz.underlying136 hi' hy0 hy1 hy2 rfl (by decide) _ _ _ rfl (hrow.alloc _) ⟨wB.heap.size, 0, none⟩ 1 1 [.int .i64 5, .int .i64 j, .int .i64 0] rfl rfl (World.news_of_block (heap_alloc_new _ _)) (by simp [Value.oneCell']) (by decide) c3 c4 (by rw [size_alloc']; omega) (wB.heap.size + 1) (by simp) ?_; intro g4 cap4 W4 hr4 hg4 _ _)
                go_roundw
                case measure => simp [intOf]; omega
                case rel => exact ⟨j + 1, m + 1, _, rfl, by omega, by go_num, HSB.out.app hr4 hg4, by omega⟩
              · clear hB hrow
                go_wp2
                go_roundw
                case measure => simp [intOf]; omega
                case rel => exact ⟨j + 1, m, _, rfl, by omega, by go_num, HSB.out, by omega⟩
        · obtain ⟨a4, c4, rfl⟩ := HS.out.form
          rcases Nat.eq_zero_or_pos m with hm0 | hm0
          rotate_left
          · have nz : (0 : Int) < (m : Int) := by omega
            go_wp2
            go_ret
            obtain ⟨⟨xs, k1⟩, -, k3⟩ := HS.out
            exact ⟨_, _, _, rfl, k1, by omega, k3⟩
          subst hm0
          go_wp2
          clear hj hlt hm
          go_loopw [3, 9] (fun v3 i wr => ∃ (j m : Nat) (v' : Value), v' = v3 ∧ (j = 0 ∨ (j : Int) ≤ N) ∧ i = .int .i64 j ∧ AS9 w N (.slice a k c) v' m wr ∧ m ≤ j) (fun _ i _ => N.toNat - (intOf i).toNat)
          case atStart => exact ⟨0, 0, _, rfl, .inl rfl, rfl, HS.out, by omega⟩
          case round =>
            obtain ⟨j2, m, v5, rfl, hj, rfl, hS, hm⟩ := hrel
            rename World => wB
            clear y0 y1 ly HS
            have HS := Lib.hid hS
            obtain ⟨ly, y0, -, y1, -⟩ := hS.soup.two
            clear hS
            by_cases hlt : (j2 : Int) < N
            · go_wp2_with fail
              refine (HPi.out _ _ HS.out.below).mono ?_
              rintro e w5 ⟨⟨b5, rfl⟩, hb5⟩
              have HS5 := Lib.hid (HS.out.le hb5)
              clear hb5 y0 y1 ly
              obtain ⟨⟨xs, hrow⟩, -, hB⟩ := HS5.out
              have hsz := hB.size
              have c3 : m + 1 ≤ maxLen := by unfold maxLen; omega
              have c4 : (m + 1) * 24 ≤ 140737488355328 := by omega
              obtain ⟨ly, y0, -, y1, -⟩ := HS5.out.soup.two
              cases b5
              · clear hB hrow
                go_wp2
                go_roundw
                case measure => simp [intOf]; omega
                case rel => exact ⟨j2 + 1, m, _, rfl, by omega, by go_num, HS5.out, by omega⟩
              · clear hB
                go_wp2_with (at_builtin; refine wpList_append_lies _ rfl (.tmp 111) (.tmp 114) 136 rfl w.heap.size 155 i1 _ 3 24 Tryz.underlying136 hi' hy0 hy1 hy2 rfl (by decide) _ _ _ rfl (hrow.alloc _) ⟨w5.heap.size, 0, none⟩ 1 1 [.int .i64 6, .int .i64 j2, .int .i64 0] rfl rfl (World.news_of_block (heap_alloc_new _ _)) (by simp [Value.oneCell']) (by decide) c3 c4 (by rw [size_alloc']; omega) (w5.heap.size + 1) (by simp) ?_; intro g4 cap4 W4 hr4 hg4 _ _)
                go_roundw
                case measure => simp [intOf]; omega
                case rel => exact ⟨j2 + 1, m + 1, _, rfl, by omega, by go_num, HS5.out.app hr4 hg4, by omega⟩
            · go_wp2
              go_ret
              obtain ⟨⟨xs, k1⟩, -, k3⟩ := HS.out
              exact ⟨_, _, _, rfl, k1, by omega, k3⟩
set_option maxHeartbeats 1000000 in
/-- The document's decision comes to an end. -/
theorem surface9_any (N : Int) (v : Value) (T : List Tr) (w : World) (h : TrisRd w v T) (hl : T.length ≤ 40) (hN : N ≤ 120) : Calls Tryz.prog 50 #[.agg #[.int .i64 N, v]] w (RetB w) := by
  have hB0 : Below w.heap.size w (w.alloc (.cells #[.int .i64 N, v] 24)) := (Below.refl _ _).alloc (Nat.le_refl _) _
  have HI := Lib.hid (all9_any N v T _ (h.below hB0) hl hN)
  have b1 := Blk.new w 24 #[.int .i64 N, v]
  obtain ⟨l0, x0, -, x1, -⟩ := b1.two
  have HB0 := Lib.hid hB0
  clear hB0 b1 h
  go_enter Tryz.func50, Tryz.ntmps50
  go_wp2_with fail
  refine HI.out.mono ?_
  rintro e w1 ⟨v1, m1, xs1, rfl, hr1, hm1, hb1⟩
  have hf : ∃ a c, v1 = .slice a m1 c := by
    rcases hr1.2 with ⟨rfl, h0⟩ | ⟨g, cap, cur, rfl, _⟩
    · rw [h0]; exact ⟨_, _, rfl⟩
    · exact ⟨_, _, rfl⟩
  obtain ⟨a1, c1, rfl⟩ := hf
  have HB := Lib.hid (HB0.out.trans (hb1.mono HB0.out.size))
  clear hr1 hb1 x0 x1
  go_wp2
  go_ret
  exact ⟨⟨_, rfl⟩, HB.out⟩
end Go.Proofs.YtghlnknncahkgaaGreat
/-
  gypsumref13.Neighbours, Facing, by walking their texts.
-/
namespace Go.Proofs.YtghlnknncahkgaaGreat
open Go.RowKit Go.Maps

theorem tv0 (x y z : Int) : tv (x, y, z) 0 = x := rfl
theorem tv1 (x y z : Int) : tv (x, y, z) 1 = y := rfl
theorem tv2 (x y z : Int) : tv (x, y, z) 2 = z := rfl
set_option maxRecDepth 100000 in
set_option maxHeartbeats 4000000 in
theorem neigh13_any (x y z x' y' z' : Int) (w : World) : Calls Tryz.prog 83 #[.agg #[.int .i64 x, .int .i64 y, .int .i64 z], .agg #[.int .i64 x', .int .i64 y', .int .i64 z']] w fun e w' => ∃ b : Bool, e = .returned (.bool b) ∧ (b = true ↔ Nb (x, y, z) (x', y', z')) ∧ Below w.heap.size w w' := by
  have bt := (Blk.new w 72 #[.int .i64 x, .int .i64 y, .int .i64 z]).alloc (.cells #[.int .i64 x', .int .i64 y', .int .i64 z'] 72)
  have bu : Blk ((w.alloc (.cells #[.int .i64 x, .int .i64 y, .int .i64 z] 72)).alloc (.cells #[.int .i64 x', .int .i64 y', .int .i64 z'] 72)) (w.heap.size + 1) 72 #[.int .i64 x', .int .i64 y', .int .i64 z'] := blk_new9 (by simp)
  have hB : Below w.heap.size w ((w.alloc (.cells #[.int .i64 x, .int .i64 y, .int .i64 z] 72)).alloc (.cells #[.int .i64 x', .int .i64 y', .int .i64 z'] 72)) := ((Below.refl _ _).alloc (Nat.le_refl _) _).alloc (by simp) _
  go_enter Tryz.func83, Tryz.ntmps83
  go_wp2
  generalize (w.alloc (.cells #[.int .i64 x, .int .i64 y, .int .i64 z] 72)).alloc (.cells #[.int .i64 x', .int .i64 y', .int .i64 z'] 72) = W0 at *
  have HX := Lib.hid (fun (W : World) (hW : Below W0.heap.size W0 W) => And.intro (bt.below hW bt.lt) (bu.below hW bu.lt))
  have HB := Lib.hid hB
  clear bt bu hB
  go_loopw [5] (fun i W => ∃ a : Nat, a ≤ 3 ∧ i = .int .i64 a ∧ Below W0.heap.size W0 W ∧ (∀ a', a' < a → ∀ k, k < 3 → ¬ (tv (x, y, z) a' = tv (x', y', z') ((k + 1) % 3) ∧ tv (x, y, z) ((a' + 1) % 3) = tv (x', y', z') k))) (fun i _ => 3 - (intOf i).toNat)
  case atStart => exact ⟨0, by omega, rfl, Below.refl _ _, fun _ h => absurd h (by omega)⟩
  case round =>
    obtain ⟨a, ha, rfl, hW, hno⟩ := hrel
    rename World => wr
    have HW := Lib.hid hW
    have HNo := Lib.hid hno
    clear hW hno
    by_cases ha3 : a < 3
    · have ha4 : (a : Int) < 3 := by omega
      go_wp2
      go_loopw [6] (fun i W => ∃ k : Nat, k ≤ 3 ∧ i = .int .i64 k ∧ Below W0.heap.size W0 W ∧ (∀ k', k' < k → ¬ (tv (x, y, z) a = tv (x', y', z') ((k' + 1) % 3) ∧ tv (x, y, z) ((a + 1) % 3) = tv (x', y', z') k'))) (fun i _ => 3 - (intOf i).toNat)
      case atStart => exact ⟨0, by omega, rfl, HW.out, fun _ h => absurd h (by omega)⟩
      case round =>
        obtain ⟨k, hk, rfl, hW, hno⟩ := hrel
        rename World => wq
        obtain ⟨bt, bu⟩ := HX.out _ hW
        obtain ⟨lt, p0, -, p1, -, p2, -⟩ := bt.three
        obtain ⟨lu, r0, -, r1, -, r2, -⟩ := bu.three
        have HWq := Lib.hid hW
        have HNq := Lib.hid hno
        clear hW hno bt bu
        by_cases hk3 : k < 3
        · have hk4 : (k : Int) < 3 := by omega
          by_cases h1 : tv (x, y, z) a = tv (x', y', z') ((k + 1) % 3)
          · have q1 : (tv (x, y, z) a == tv (x', y', z') ((k + 1) % 3)) = true := by simpa using h1
            by_cases h2 : tv (x, y, z) ((a + 1) % 3) = tv (x', y', z') k
            · have q2 : (tv (x, y, z) ((a + 1) % 3) == tv (x', y', z') k) = true := by simpa using h2
              have HY : Hid (Nb (x, y, z) (x', y', z')) := Lib.hid ⟨a, k, ha3, hk3, h1, h2⟩
              clear h1 h2 HNq HNo ha hk
              rcases (by omega : a = 0 ∨ a = 1 ∨ a = 2) with rfl | rfl | rfl <;> rcases (by omega : k = 0 ∨ k = 1 ∨ k = 2) with rfl | rfl | rfl <;> simp only [tv0, tv1, tv2, Nat.reduceAdd, Nat.reduceMod] at q1 q2
              all_goals
                go_wp2
                go_quiet (fail)
                go_wp2
                go_ret
                exact ⟨true, rfl, ⟨fun _ => HY.out, fun _ => rfl⟩, below_dn (HB.out.trans (HWq.out.mono HB.out.size)) _⟩
            · have q2 : (tv (x, y, z) ((a + 1) % 3) == tv (x', y', z') k) = false := by simpa using h2
              have HN2 := Lib.hid (show ∀ k', k' < k + 1 → ¬ (tv (x, y, z) a = tv (x', y', z') ((k' + 1) % 3) ∧ tv (x, y, z) ((a + 1) % 3) = tv (x', y', z') k') from fun k' hk' hh => by
                rcases Nat.lt_or_ge k' k with e | e
                · exact HNq.out k' e hh
                · obtain rfl : k' = k := by omega
                  exact h2 hh.2)
              clear h1 h2 HNq ha hk
              rcases (by omega : a = 0 ∨ a = 1 ∨ a = 2) with rfl | rfl | rfl <;> rcases (by omega : k = 0 ∨ k = 1 ∨ k = 2) with rfl | rfl | rfl <;> simp only [tv0, tv1, tv2, Nat.reduceAdd, Nat.reduceMod] at q1 q2
              all_goals
                go_wp2
                go_quiet (fail)
                go_wp2
                go_roundw
              all_goals first
                | (show _ < _; simp [intOf]; done)
                | exact ⟨_, by omega, by go_num, below_dn HWq.out _, HN2.out⟩
          · have q1 : (tv (x, y, z) a == tv (x', y', z') ((k + 1) % 3)) = false := by simpa using h1
            have HN2 := Lib.hid (show ∀ k', k' < k + 1 → ¬ (tv (x, y, z) a = tv (x', y', z') ((k' + 1) % 3) ∧ tv (x, y, z) ((a + 1) % 3) = tv (x', y', z') k') from fun k' hk' hh => by
              rcases Nat.lt_or_ge k' k with e | e
              · exact HNq.out k' e hh
              · obtain rfl : k' = k := by omega
                exact h1 hh.1)
            clear h1 HNq ha hk
            rcases (by omega : a = 0 ∨ a = 1 ∨ a = 2) with rfl | rfl | rfl <;> rcases (by omega : k = 0 ∨ k = 1 ∨ k = 2) with rfl | rfl | rfl <;> simp only [tv0, tv1, tv2, Nat.reduceAdd, Nat.reduceMod] at q1
            all_goals
              go_wp2
              go_quiet (fail)
              go_wp2
              go_roundw
            all_goals first
              | (show _ < _; simp [intOf]; done)
              | exact ⟨_, by omega, by go_num, below_dn HWq.out _, HN2.out⟩
        · obtain rfl : k = 3 := by omega
          go_wp2
          go_roundw
          case measure => simp [intOf]; omega
          case rel =>
            refine ⟨a + 1, by omega, by go_num, HWq.out, fun a' ha' k hk => ?_⟩
            rcases Nat.lt_or_ge a' a with e | e
            · exact HNo.out a' e k hk
            · obtain rfl : a' = a := by omega
              exact HNq.out k hk
    · obtain rfl : a = 3 := by omega
      go_wp2
      go_ret
      exact ⟨false, rfl, ⟨fun h => (by cases h), fun ⟨i, k, hi, hk, h⟩ => absurd h (HNo.out i hi k hk)⟩, HB.out.trans (HW.out.mono HB.out.size)⟩
end Go.Proofs.YtghlnknncahkgaaGreat
/-
  gypsumref13.Facing, gypsumref21.Facing, by walking their texts.
-/
namespace Go.Proofs.YtghlnknncahkgaaGreat
open Go.RowKit Go.Maps

theorem edgeN_at {T : List Tr} {i : Nat} {x y z : Int} (h : T[i]? = some (x, y, z)) : edgeN T (3 * i) = (y, z) ∧ edgeN T (3 * i + 1) = (z, x) ∧ edgeN T (3 * i + 2) = (x, y) := by
  have hv : ∀ k, k < 3 → vertN T (3 * i + k) = tv (x, y, z) k := fun k hk => by
    rw [← tv_vert hk]
    unfold trs
    rw [List.getD_eq_getElem?_getD, h]
    rfl
  have v0 := hv 0 (by omega)
  have v1 := hv 1 (by omega)
  have v2 := hv 2 (by omega)
  rw [tv0] at v0
  rw [tv1] at v1
  rw [tv2] at v2
  have a0 : Jor.nx (3 * i) = 3 * i + 1 := by unfold Jor.nx; omega
  have b0 : Jor.pv (3 * i) = 3 * i + 2 := by unfold Jor.pv; omega
  have a1 : Jor.nx (3 * i + 1) = 3 * i + 2 := by unfold Jor.nx; omega
  have b1 : Jor.pv (3 * i + 1) = 3 * i + 0 := by unfold Jor.pv; omega
  have a2 : Jor.nx (3 * i + 2) = 3 * i + 0 := by unfold Jor.nx; omega
  have b2 : Jor.pv (3 * i + 2) = 3 * i + 1 := by unfold Jor.pv; omega
  unfold edgeN
  rw [a0, b0, a1, b1, a2, b2, v0, v1, v2]
  exact ⟨rfl, rfl, rfl⟩
theorem facI_at {T : List Tr} {k : Nat} {e : Int × Int} (hk : k < 3 * T.length) (h : facFrom T 0 e = facFrom T k e) (he : edgeN T k = e) : facI T e = (k : Int) := by
  unfold facI
  rw [h, facFrom_step hk, if_pos he]
theorem facI_no {T : List Tr} {e : Int × Int} (h : facFrom T 0 e = facFrom T (3 * T.length) e) : facI T e = -1 := by
  unfold facI
  rw [h]
  simp [facFrom]
theorem facFrom_on {T : List Tr} {k : Nat} {e : Int × Int} (hk : k < 3 * T.length) (h : facFrom T 0 e = facFrom T k e) (he : edgeN T k ≠ e) : facFrom T 0 e = facFrom T (k + 1) e := by
  rw [h, facFrom_step hk, if_neg he]
set_option maxRecDepth 100000 in
set_option maxHeartbeats 4000000 in
theorem facing13_any (N a b : Int) (v : Value) (T : List Tr) (w : World) (h : TrisRd w v T) (hl : T.length ≤ 100000) : Calls Tryz.prog 84 #[.agg #[.int .i64 N, v], .int .i64 a, .int .i64 b] w fun e w' => e = .returned (.int .i64 (facI T (a, b))) ∧ Below w.heap.size w w' := by
  have b1 := Blk.new w 24 #[.int .i64 N, v]
  have hB0 : Below w.heap.size w (w.alloc (.cells #[.int .i64 N, v] 24)) := (Below.refl _ _).alloc (Nat.le_refl _) _
  obtain ⟨l0, x0, -, x1, -⟩ := b1.two
  have ht := h.below hB0
  obtain ⟨ad, c, rfl, hc1, hc2, hr⟩ := ht
  obtain ⟨n, hn⟩ : ∃ n, T.length = n := ⟨_, rfl⟩
  obtain ⟨A, hA⟩ : ∃ A, facI T (a, b) = A := ⟨_, rfl⟩
  rw [hn] at hl hc1 x0 x1 hB0 b1 l0 hr ⊢
  rw [hA]
  have HN := Lib.hid hn
  have HA := Lib.hid hA
  have HB := Lib.hid hB0
  have HR := Lib.hid hr
  clear hn hA hB0 hr h b1
  go_enter Tryz.func84, Tryz.ntmps84
  go_wp2
  generalize w.alloc (.cells #[.int .i64 N, .slice ad n c] 24) = W0 at *
  go_loopw [7] (fun i W => ∃ k : Nat, k ≤ n ∧ i = .int .i64 k ∧ W = W0 ∧ facFrom T 0 (a, b) = facFrom T (3 * k) (a, b)) (fun i _ => n - (intOf i).toNat)
  case atStart => exact ⟨0, Nat.zero_le _, rfl, rfl, rfl⟩
  case round =>
    obtain ⟨k, hk, rfl, rfl, hf⟩ := hrel
    have HF := Lib.hid hf
    clear hf
    by_cases hlt : k < n
    · have hk3 : (k : Int) < (n : Int) := by omega
      have hk0 : (0 : Int) ≤ (k : Int) := by omega
      obtain ⟨⟨x, y, z⟩, ht⟩ : ∃ t, T[k]? = some t := ⟨T[k]'(by have := HN.out; omega), List.getElem?_eq_getElem _⟩
      obtain ⟨bb, o, rfl, hbl, s0, s1, s2⟩ := HR.out k x y z ht
      have HE := Lib.hid (edgeN_at ht)
      have HL := Lib.hid (show 3 * k + 2 < 3 * T.length by have := HN.out; omega)
      clear ht
      rename World => W0
      go_wp2
      go_loopw [8] (fun i W => ∃ j : Nat, j ≤ 3 ∧ i = .int .i64 j ∧ W = W0 ∧ facFrom T 0 (a, b) = facFrom T (3 * k + j) (a, b)) (fun i _ => 3 - (intOf i).toNat)
      case atStart => exact ⟨0, by omega, rfl, rfl, HF.out⟩
      case round =>
        obtain ⟨j, hj, rfl, rfl, hf⟩ := hrel
        have HF2 := Lib.hid hf
        clear hf
        rcases (by omega : j = 0 ∨ j = 1 ∨ j = 2 ∨ j = 3) with rfl | rfl | rfl | rfl
        · by_cases h1 : y = a
          · have q1 : (y == a) = true := by simpa using h1
            by_cases h2 : z = b
            · have q2 : (z == b) = true := by simpa using h2
              have HY := Lib.hid (facI_at (by have := HL.out; omega) HF2.out (by rw [Nat.add_zero, HE.out.1, h1, h2]))
              clear h1 h2
              go_wp2
              go_ret
              refine ⟨?_, HB.out⟩
              rw [← HA.out, HY.out]
              first | rfl | (push_cast; rfl) | (push_cast; simp)
            · have q2 : (z == b) = false := by simpa using h2
              have HY := Lib.hid (facFrom_on (by have := HL.out; omega) HF2.out (by rw [Nat.add_zero, HE.out.1]; intro e; cases e; exact h2 rfl))
              clear h1 h2
              go_wp2
              go_roundw
              case measure => simp [intOf]
              case rel => exact ⟨1, by omega, by go_num, by first | rfl | trivial, HY.out⟩
          · have q1 : (y == a) = false := by simpa using h1
            have HY := Lib.hid (facFrom_on (by have := HL.out; omega) HF2.out (by rw [Nat.add_zero, HE.out.1]; intro e; cases e; exact h1 rfl))
            clear h1
            go_wp2
            go_roundw
            case measure => simp [intOf]
            case rel => exact ⟨1, by omega, by go_num, by first | rfl | trivial, HY.out⟩
        · by_cases h1 : z = a
          · have q1 : (z == a) = true := by simpa using h1
            by_cases h2 : x = b
            · have q2 : (x == b) = true := by simpa using h2
              have HY := Lib.hid (facI_at (by have := HL.out; omega) HF2.out (by rw [HE.out.2.1, h1, h2]))
              clear h1 h2
              go_wp2
              go_ret
              refine ⟨?_, HB.out⟩
              rw [← HA.out, HY.out]
              first | rfl | (push_cast; rfl) | (push_cast; simp)
            · have q2 : (x == b) = false := by simpa using h2
              have HY := Lib.hid (facFrom_on (by have := HL.out; omega) HF2.out (by rw [HE.out.2.1]; intro e; cases e; exact h2 rfl))
              clear h1 h2
              go_wp2
              go_roundw
              case measure => simp [intOf]
              case rel => exact ⟨2, by omega, by go_num, by first | rfl | trivial, HY.out⟩
          · have q1 : (z == a) = false := by simpa using h1
            have HY := Lib.hid (facFrom_on (by have := HL.out; omega) HF2.out (by rw [HE.out.2.1]; intro e; cases e; exact h1 rfl))
            clear h1
            go_wp2
            go_roundw
            case measure => simp [intOf]
            case rel => exact ⟨2, by omega, by go_num, by first | rfl | trivial, HY.out⟩
        · by_cases h1 : x = a
          · have q1 : (x == a) = true := by simpa using h1
            by_cases h2 : y = b
            · have q2 : (y == b) = true := by simpa using h2
              have HY := Lib.hid (facI_at (by have := HL.out; omega) HF2.out (by rw [HE.out.2.2, h1, h2]))
              clear h1 h2
              go_wp2
              go_ret
              refine ⟨?_, HB.out⟩
              rw [← HA.out, HY.out]
              first | rfl | (push_cast; rfl) | (push_cast; simp)
            · have q2 : (y == b) = false := by simpa using h2
              have HY := Lib.hid (facFrom_on (by have := HL.out; omega) HF2.out (by rw [HE.out.2.2]; intro e; cases e; exact h2 rfl))
              clear h1 h2
              go_wp2
              go_roundw
              case measure => simp [intOf]
              case rel => exact ⟨3, by omega, by go_num, by first | rfl | trivial, HY.out⟩
          · have q1 : (x == a) = false := by simpa using h1
            have HY := Lib.hid (facFrom_on (by have := HL.out; omega) HF2.out (by rw [HE.out.2.2]; intro e; cases e; exact h1 rfl))
            clear h1
            go_wp2
            go_roundw
            case measure => simp [intOf]
            case rel => exact ⟨3, by omega, by go_num, by first | rfl | trivial, HY.out⟩
        · go_wp2
          go_roundw
          case measure => simp [intOf]; omega
          case rel => exact ⟨k + 1, by omega, by go_num, by first | rfl | trivial, by rw [show 3 * (k + 1) = 3 * k + 3 from by omega]; exact HF2.out⟩
    · obtain rfl : k = n := by omega
      have HY := Lib.hid (facI_no (T := T) (e := (a, b)) (by rw [HN.out]; exact HF.out))
      go_wp2
      go_ret
      exact ⟨by rw [← HA.out, HY.out]; rfl, HB.out⟩
set_option maxHeartbeats 1000000 in
theorem facing21_any (N a b : Int) (v : Value) (T : List Tr) (w : World) (h : TrisRd w v T) (hl : T.length ≤ 100000) : Calls Tryz.prog 55 #[.agg #[.int .i64 N, v], .int .i64 a, .int .i64 b] w fun e w' => e = .returned (.int .i64 (facI T (a, b))) ∧ Below w.heap.size w w' := by
  have b1 := Blk.new w 24 #[.int .i64 N, v]
  have hB0 : Below w.heap.size w (w.alloc (.cells #[.int .i64 N, v] 24)) := (Below.refl _ _).alloc (Nat.le_refl _) _
  obtain ⟨l0, x0, -, x1, -⟩ := b1.two
  have HF := Lib.hid (facing13_any N a b v T _ (h.below hB0) hl)
  have HB := Lib.hid hB0
  clear h hB0 b1
  go_enter Tryz.func55, Tryz.ntmps55
  go_wp2_with fail
  refine HF.out.mono ?_
  rintro e w1 ⟨rfl, hb⟩
  have HB1 := Lib.hid (HB.out.trans (hb.mono HB.out.size))
  clear hb x0 x1
  go_wp2
  go_ret
  exact ⟨rfl, HB1.out⟩
end Go.Proofs.YtghlnknncahkgaaGreat
/-
  gypsumref10's Edge, Facing, Opp, by walking their texts.
-/
namespace Go.Proofs.YtghlnknncahkgaaGreat
open Go.RowKit Go.Maps

set_option maxRecDepth 100000 in
set_option maxHeartbeats 40000000 in
theorem edge10_any (N : Int) (n : Nat) (v : Value) (T : List Tr) (w : World) (h : TrisRd w v T) (hn : n < 3 * T.length) (hl : T.length ≤ 100000) :
    Calls Tryz.prog 90 #[.agg #[.int .i64 N, v], .int .i64 (n : Int)] w fun e w' => e = .returned (pairV (edgeN T n)) ∧ Below w.heap.size w w' := by
  have hb1 := (Blk.new w 24 #[.int .i64 N, v]).alloc (.cells #[.int .i64 0, .int .i64 0] 108)
  have hb2 : Blk ((w.alloc (.cells #[.int .i64 N, v] 24)).alloc (.cells #[.int .i64 0, .int .i64 0] 108)) (w.heap.size + 1) 108 #[.int .i64 0, .int .i64 0] := blk_new_at (by simp)
  have hB0 : Below w.heap.size w ((w.alloc (.cells #[.int .i64 N, v] 24)).alloc (.cells #[.int .i64 0, .int .i64 0] 108)) := ((Below.refl _ _).alloc (Nat.le_refl _) _).alloc (by simp) _
  obtain ⟨x, hx⟩ : ∃ x, vertN T (Jor.nx n) = x := ⟨_, rfl⟩
  obtain ⟨y, hy⟩ : ∃ y, vertN T (Jor.pv n) = y := ⟨_, rfl⟩
  have HN := Lib.hid (fun (W : World) => next10_any n W (by omega))
  have HP := Lib.hid (fun (W : World) => prev10_any n W (by omega))
  have HX := Lib.hid (fun (W : World) (hW : Below w.heap.size w W) => vertex10_any N (Jor.nx n) v T W (h.below hW) (Jor.nx_lt hn) hl)
  have HY := Lib.hid (fun (W : World) (hW : Below w.heap.size w W) => vertex10_any N (Jor.pv n) v T W (h.below hW) (Jor.pv_lt hn) hl)
  rw [hx] at HX
  rw [hy] at HY
  have e0 : pairV (edgeN T n) = .agg #[.int .i64 x, .int .i64 y] := by unfold pairV edgeN; rw [hx, hy]
  rw [e0]
  obtain ⟨i, hi⟩ : ∃ i, Jor.nx n = i := ⟨_, rfl⟩
  obtain ⟨j, hj⟩ : ∃ j, Jor.pv n = j := ⟨_, rfl⟩
  rw [hi] at HN HX
  rw [hj] at HP HY
  obtain ⟨aT, cT, rfl, -⟩ := h
  obtain ⟨l0, x0, -, x1, -⟩ := hb1.two
  obtain ⟨l1, y0, f0, y1, f1⟩ := hb2.two
  have HB0 := Lib.hid hB0
  have HK1 := Lib.hid hb1
  have HK2 := Lib.hid hb2
  have hz0 := hB0.size
  clear e0 hx hy hi hj hn hb1 hb2
  go_enter Tryz.func90, Tryz.ntmps90
  go_upto_region 1 with fail
  generalize (w.alloc (.cells #[.int .i64 N, .slice aT T.length cT] 24)).alloc (.cells #[.int .i64 0, .int .i64 0] 108) = W0 at *
  have HX2 := Lib.hid (fun (W : World) (hW : Below W0.heap.size W0 W) => HX.out W (hB0.trans (hW.mono hz0)))
  have HY2 := Lib.hid (fun (W : World) (hW : Below W0.heap.size W0 W) => HY.out W (hB0.trans (hW.mono hz0)))
  generalize hs : w.heap.size = s at *
  have hcur : Below W0.heap.size W0 W0.drew := (Below.refl _ _).drew
  clear hB0 HX HY
  go_region_held3 (fun w' => w'.cell? ⟨s, 0, none⟩ = some (.int .i64 N) ∧ w'.cell? ⟨s, 1, none⟩ = some (.slice aT T.length cT)) (first | go_keep | exact ⟨(hcur.cell (p := ⟨s, 0, none⟩) l0).trans x0, (hcur.cell (p := ⟨s, 1, none⟩) l0).trans x1⟩)
    (first
    | (go_at_call 42; with_reducible refine (HN.out _).mono ?_; rintro e w' ⟨rfl, rfl⟩)
    | (go_at_call 43; with_reducible refine (HP.out _).mono ?_; rintro e w' ⟨rfl, rfl⟩)
    | (go_at_call 44; (first | with_reducible refine (HX2.out _ hcur).mono ?_ | with_reducible refine (HY2.out _ hcur).mono ?_); rintro e w9 ⟨rfl, hb9⟩; have hcur9 := hcur.trans (hb9.mono hcur.size); clear hb9 hcur; have hcur := hcur9; clear hcur9; obtain ⟨l1', y0', f0', y1', f1'⟩ := (HK2.out.below hcur HK2.out.lt).two))
  all_goals
    have HB9 := Lib.hid (HB0.out.trans (hcur.mono hz0))
    have hk := (HK2.out.below hcur HK2.out.lt)
    have h9 := (hk.set_ 0 (.int .i64 x)).set_ 1 (.int .i64 y)
    have HK9 := Lib.hid (show Blk _ (s + 1) 108 #[.int .i64 x, .int .i64 y] from by simpa using h9)
    have HBe := Lib.hid ((HB9.out.setCell (p := ⟨s + 1, 0, none⟩) (by simp) (.int .i64 x)).setCell (p := ⟨s + 1, 1, none⟩) (by simp) (.int .i64 y))
    clear hk h9
    go_wp2
    obtain ⟨-, p0, -, p1, -⟩ := HK9.out.two
    refine bodyPost_ret (v := .agg #[.int .i64 x, .int .i64 y]) (by simp [results, Tryz.results90, go_sem, p0, p1]) rfl ?_
    exact ⟨rfl, by rw [hs]; exact HBe.out⟩
end Go.Proofs.YtghlnknncahkgaaGreat
/-
  gypsumref10's Facing, Opp, by walking their texts.
-/
namespace Go.Proofs.YtghlnknncahkgaaGreat
open Go.RowKit Go.Maps

theorem pairEq9 (a b a' b' : Int) (w : World) :
    (Op.equalIn 10000 108 (.agg #[.int .i64 a, .int .i64 b]) (.agg #[.int .i64 a', .int .i64 b'])).run Tryz.prog w = .ok (decide ((a, b) = (a', b'))) w := by
  have e : decide ((a, b) = (a', b')) = (a == a' && b == b') := by
    simp only [Prod.mk.injEq]
    by_cases h1 : a = a' <;> by_cases h2 : b = b' <;> simp [h1, h2]
  rw [e]
  show (Op.equalIn (9998 + 2) _ _ _).run _ _ = _
  rw [Op.equalIn]
  simp [run_underlying Tryz.underlying108, List.range'_succ, part, go_sem]
  by_cases h1 : a = a' <;> by_cases h2 : b = b' <;> simp [h1, h2]
set_option maxRecDepth 100000 in
set_option maxHeartbeats 2000000 in
theorem facing10_any (N a b : Int) (v : Value) (T : List Tr) (w : World) (h : TrisRd w v T) (hl : T.length ≤ 100000) :
    Calls Tryz.prog 91 #[.agg #[.int .i64 N, v], .agg #[.int .i64 a, .int .i64 b]] w fun e w' => e = .returned (.int .i64 (facI T (a, b))) ∧ Below w.heap.size w w' := by
  have hb1 := (Blk.new w 24 #[.int .i64 N, v]).alloc (.cells #[.int .i64 a, .int .i64 b] 108)
  have hb2 : Blk ((w.alloc (.cells #[.int .i64 N, v] 24)).alloc (.cells #[.int .i64 a, .int .i64 b] 108)) (w.heap.size + 1) 108 #[.int .i64 a, .int .i64 b] := blk_new_at (by simp)
  have hB0 : Below w.heap.size w ((w.alloc (.cells #[.int .i64 N, v] 24)).alloc (.cells #[.int .i64 a, .int .i64 b] 108)) := ((Below.refl _ _).alloc (Nat.le_refl _) _).alloc (by simp) _
  have HE := Lib.hid (fun (k : Nat) (hk : k < 3 * T.length) (W : World) (hW : Below w.heap.size w W) => edge10_any N k v T W (h.below hW) hk hl)
  obtain ⟨aT, cT, rfl, -⟩ := h
  obtain ⟨n, hn⟩ : ∃ n, T.length = n := ⟨_, rfl⟩
  rw [hn] at hb1 hb2 hB0 HE hl ⊢
  obtain ⟨A, hA⟩ : ∃ A, facI T (a, b) = A := ⟨_, rfl⟩
  rw [hA]
  have Hn := Lib.hid hn
  have HA := Lib.hid hA
  have HB0 := Lib.hid hB0
  have hz0 := hB0.size
  have HK := Lib.hid (And.intro hb1 hb2)
  clear hb1 hb2 hB0 hn hA
  go_enter Tryz.func91, Tryz.ntmps91
  go_wp2
  generalize (w.alloc (.cells #[.int .i64 N, .slice aT n cT] 24)).alloc (.cells #[.int .i64 a, .int .i64 b] 108) = W0 at *
  go_loopw [5] (fun i wr => ∃ k : Nat, k ≤ 3 * n ∧ i = .int .i64 k ∧ Below W0.heap.size W0 wr ∧ facFrom T 0 (a, b) = facFrom T k (a, b)) (fun i _ => 3 * n - (intOf i).toNat)
  case atStart => exact ⟨0, Nat.zero_le _, rfl, Below.refl _ _, rfl⟩
  case round =>
    rename World => wr
    obtain ⟨k, hk, rfl, hB, hF⟩ := hrel
    have HB := Lib.hid hB
    have HF := Lib.hid hF
    obtain ⟨l0, x0, -, x1, -⟩ := (HK.out.1.below hB HK.out.1.lt).two
    obtain ⟨l1, y0, -, y1, -⟩ := (HK.out.2.below hB HK.out.2.lt).two
    clear hB hF
    by_cases hlt : k < 3 * n
    · have hki : (k : Int) < 3 * (n : Int) := by omega
      have hkT : k < 3 * T.length := by rw [Hn.out]; exact hlt
      obtain ⟨ex, ey, he⟩ : ∃ ex ey, edgeN T k = (ex, ey) := ⟨_, _, rfl⟩
      have HEk := Lib.hid (fun (W : World) (hW : Below w.heap.size w W) => show Calls Tryz.prog 90 #[.agg #[.int .i64 N, .slice aT n cT], .int .i64 (k : Int)] W fun e w' => e = .returned (.agg #[.int .i64 ex, .int .i64 ey]) ∧ Below W.heap.size W w' from by
        have := HE.out k hlt W hW
        rw [he] at this
        exact this)
      have HBq := Lib.hid (fun (d : Nat) (os : Array Obj) => HB0.out.trans ((HB.out.trans ((below_regrown wr d os).mono HB.out.size)).mono hz0))
      have HB2 := Lib.hid (fun (d : Nat) (os : Array Obj) => HB.out.trans ((below_regrown wr d os).mono HB.out.size))
      have He := Lib.hid he
      clear he hkT
      by_cases hq : (ex, ey) = (a, b)
      · have qe := fun W : World => pairEq9 ex ey a b W
        rw [decide_eq_true hq] at qe
        have HY := Lib.hid (show A = (k : Int) from by rw [← HA.out]; exact facI_at (by rw [Hn.out]; exact hlt) HF.out (He.out.trans hq))
        clear hq
        go_upto_region 4 with fail
        have u0 := cell_regrown x0
        have u1 := cell_regrown x1
        have u2 := cell_regrown y0
        have u3 := cell_regrown y1
        refine wp_region_quiet_below (by kernel_rfl) (by kernel_rfl) ?_
        repeat (go_big_quiet_step ((go_at_call 90; with_reducible exact Calls.regrown_of (HEk.out _ (HBq.out _ _)))))
        refine wpQuiet_nil ?_
        intro _ hw'
        obtain ⟨⟨dq, osq⟩, hw''⟩ := hw'
        subst hw''
        have HB9 := Lib.hid (HBq.out dq osq)
        clear u0 u1 u2 u3 x0 x1 y0 y1
        go_wp2
        go_ret
        exact ⟨by rw [HY.out]; rfl, HB9.out⟩
      · have qe := fun W : World => pairEq9 ex ey a b W
        rw [decide_eq_false hq] at qe
        have HY := Lib.hid (facFrom_on (by rw [Hn.out]; exact hlt) HF.out (by rw [He.out]; exact hq))
        clear hq
        go_upto_region 4 with fail
        have u0 := cell_regrown x0
        have u1 := cell_regrown x1
        have u2 := cell_regrown y0
        have u3 := cell_regrown y1
        refine wp_region_quiet_below (by kernel_rfl) (by kernel_rfl) ?_
        repeat (go_big_quiet_step ((go_at_call 90; with_reducible exact Calls.regrown_of (HEk.out _ (HBq.out _ _)))))
        refine wpQuiet_nil ?_
        intro _ hw'
        obtain ⟨⟨dq, osq⟩, hw''⟩ := hw'
        subst hw''
        have HB9 := Lib.hid (HB2.out dq osq)
        clear u0 u1 u2 u3 x0 x1 y0 y1
        go_wp2
        go_roundw
        case measure => simp [intOf]; omega
        case rel => exact ⟨k + 1, by omega, by go_num, HB9.out, HY.out⟩
    · obtain rfl : k = 3 * n := by omega
      have HY := Lib.hid (show A = -1 from by rw [← HA.out]; exact facI_no (by rw [Hn.out]; exact HF.out))
      have HB9 := Lib.hid (HB0.out.trans (HB.out.mono hz0))
      have hd : decide (((3 * n : Nat) : Int) < 3 * (n : Int)) = false := by simp
      push_cast at *
      go_wp2
      go_ret
      exact ⟨by rw [HY.out]; rfl, HB9.out⟩
set_option maxRecDepth 100000 in
set_option maxHeartbeats 2000000 in
theorem opp10_any (N : Int) (n : Nat) (v : Value) (T : List Tr) (w : World) (h : TrisRd w v T) (hn : n < 3 * T.length) (hl : T.length ≤ 100000) :
    Calls Tryz.prog 71 #[.agg #[.int .i64 N, v], .int .i64 (n : Int)] w fun e w' => e = .returned (.int .i64 (oppI T (n : Int))) ∧ Below w.heap.size w w' := by
  have hb1 := Blk.new w 24 #[.int .i64 N, v]
  have hB0 : Below w.heap.size w (w.alloc (.cells #[.int .i64 N, v] 24)) := (Below.refl _ _).alloc (Nat.le_refl _) _
  obtain ⟨ex, ey, he⟩ : ∃ ex ey, edgeN T n = (ex, ey) := ⟨_, _, rfl⟩
  have HE := Lib.hid (show Calls Tryz.prog 90 #[.agg #[.int .i64 N, v], .int .i64 (n : Int)] _ fun e w' => e = .returned (.agg #[.int .i64 ex, .int .i64 ey]) ∧ Below _ _ w' from by
    have := edge10_any N n v T _ (h.below hB0) hn hl
    rw [he] at this
    exact this)
  have ho : oppI T (n : Int) = facI T (ey, ex) := by unfold oppI; rw [edgeI_nat hn, he]
  rw [ho]
  have HF := Lib.hid (fun (W : World) (hW : Below w.heap.size w W) => facing10_any N ey ex v T W (h.below hW) hl)
  obtain ⟨aT, cT, rfl, -⟩ := h
  obtain ⟨l0, x0, -, x1, -⟩ := hb1.two
  have HB0 := Lib.hid hB0
  have HK := Lib.hid hb1
  clear hb1 hB0 ho he hn
  go_enter Tryz.func71, Tryz.ntmps71
  go_upto_region 2 with (go_at_call 90; go_loud (with_reducible refine HE.out.mono ?_; rintro e w1 ⟨rfl, hb⟩))
  have hA := (Below.refl w1.heap.size w1).alloc (Nat.le_refl _) (.cells #[.int .i64 ex, .int .i64 ey] 108)
  have hk := (HK.out.below hb l0).below hA (Nat.lt_of_lt_of_le l0 hb.size)
  have hq := Blk.new w1 108 #[.int .i64 ex, .int .i64 ey]
  have hBw := HB0.out.trans ((hb.trans (hA.mono hb.size)).mono HB0.out.size)
  obtain ⟨l2, y0, -, y1, -⟩ := hk.two
  obtain ⟨l3, z0, -, z1, -⟩ := hq.two
  have HF2 := Lib.hid (HF.out _ hBw)
  have HBw := Lib.hid hBw
  clear hA hk hq hBw hb x0 x1 l0
  generalize w1.alloc (.cells #[.int .i64 ex, .int .i64 ey] 108) = W1 at *
  go_wp2_with (go_at_call 91; with_reducible refine HF2.out.mono ?_; rintro e w2 ⟨rfl, hb2⟩)
  go_ret
  exact ⟨rfl, HBw.out.trans (hb2.mono HBw.out.size)⟩
end Go.Proofs.YtghlnknncahkgaaGreat
/-
  gypsumref18.Dual, by walking its text.
-/
namespace Go.Proofs.YtghlnknncahkgaaGreat
open Go.RowKit Go.Maps

theorem thereL_nil (F : Nat) : thereL F [] = List.replicate F false := by
  apply List.ext_getElem?
  intro j
  by_cases hj : j < F
  · rw [thereL_at hj]
    simp [trisOf, hj]
  · rw [List.getElem?_eq_none (by rw [thereL_len]; omega), List.getElem?_eq_none (by simp; omega)]
theorem thereL_one (F c : Nat) : thereL F [c] = (List.replicate F false).set (c / 3) true := by
  have := thereL_add (F := F) (L := []) (o := c)
  rw [thereL_nil] at this
  exact this
theorem rep_snoc (k : Nat) : intsV (List.replicate (k + 1) (-1)) = intsV (List.replicate k (-1)) ++ [.int .i64 (-1)] := by
  rw [List.replicate_succ']
  simp [intsV]
theorem own_nil_blk {W : World} {base g : Nat} (h : Blk W g 3 #[]) (hb : base ≤ g) : W.ownsRow base 3 1 (.slice (some ⟨g, 0, none⟩) 0 0) 0 [] := ⟨rfl, .inr ⟨g, 0, #[], rfl, hb, h, Nat.le_refl _, Nat.zero_le _, rfl, rfl⟩⟩
theorem own_one_blk {W : World} {base g : Nat} {x : Value} (h : Blk W g 3 #[x]) (hb : base ≤ g) : W.ownsRow base 3 1 (.slice (some ⟨g, 0, none⟩) 1 1) 1 [x] := ⟨rfl, .inr ⟨g, 1, #[x], rfl, hb, h, Nat.le_refl _, by decide, rfl, rfl⟩⟩
theorem infoBoolD : (Tryz.prog.info? 4).map (fun i => (i.zero, i.size, i.bytes)) = some (some (.bool false), 1, 1) := by kernel_rfl
set_option maxRecDepth 100000 in
set_option maxHeartbeats 4000000 in
theorem dual_any (N : Int) (c : Nat) (v : Value) (T : List Tr) (w : World) (h : TrisRd w v T) (hc : c < 3 * T.length) (hl : T.length ≤ 1000) :
    Calls Tryz.prog 41 #[.agg #[.int .i64 N, v], .int .i64 (c : Int)] w fun e w' => ∃ vL vO, e = .returned (.tuple #[vL, vO]) ∧
      w'.ownsRow w.heap.size 3 1 vL T.length (intsV (linkL T.length (rtL T c))) ∧ w'.ownsRow w.heap.size 3 1 vO (rtL T c).length (intsV (nats (trisOf (rtL T c)))) ∧ Below w.heap.size w w' := by
  obtain ⟨i2, hj2, b20, b21, b22⟩ := info_parts infoInt
  obtain ⟨i1, hj1, b10, b11, b12⟩ := info_parts infoBoolD
  have hb1 := Blk.new w 24 #[.int .i64 N, v]
  have hB0 : Below w.heap.size w (w.alloc (.cells #[.int .i64 N, v] 24)) := (Below.refl _ _).alloc (Nat.le_refl _) _
  have hIs := is10_any N (c : Int) v T _ (h.below hB0) (by omega)
  rw [hasC_true (T := T) (c := (c : Int)) (by omega) (by omega)] at hIs
  have HIs := Lib.hid hIs
  have HOp := Lib.hid (fun (k : Nat) (hk : k < 3 * T.length) (W : World) (hW : Below w.heap.size w W) => opp10_any N k v T W (h.below hW) hk (by omega))
  obtain ⟨aT, cT, rfl, -⟩ := h
  obtain ⟨F, hF⟩ : ∃ F, T.length = F := ⟨_, rfl⟩
  rw [hF] at hb1 hB0 HIs HOp hl hc ⊢
  obtain ⟨l0, x0, -, x1, -⟩ := hb1.two
  have HF := Lib.hid hF
  have HB0 := Lib.hid hB0
  have HK := Lib.hid hb1
  have hcI : (c : Int) < 3 * (F : Int) := by omega
  obtain ⟨ct, hct⟩ : ∃ ct, c / 3 = ct := ⟨_, rfl⟩
  have hc3 : ct < F := by omega
  have e3 : (c : Int) / 3 = (ct : Int) := by omega
  have Hct := Lib.hid hct
  clear hct
  have hcb0 : (0 : Int) ≤ (c : Int) := by omega
  have hcb1 : (c : Int) ≤ 100000 := by omega
  clear hb1 hB0 hIs hF
  go_enter Tryz.func41, Tryz.ntmps41
  go_upto_region 3 with (go_at_call 40; go_loud (with_reducible refine HIs.out.mono ?_; rintro e w1 ⟨rfl, hb⟩))
  have hBw := HB0.out.trans (hb.mono HB0.out.size)
  have hk := HK.out.below hb l0
  obtain ⟨l1, y0, -, y1, -⟩ := hk.two
  have HB1 := Lib.hid hBw
  have HK1 := Lib.hid hk
  have hz1 := hBw.size
  clear hb hBw hk x0 x1
  go_upto_region 5 with (at_make; refine wpList_make_full _ rfl (.tmp 23) (.tmp 23) 122 rfl w1.heap.size 4 i1 _ 1 Tryz.underlying122 hj1 b10 b11 .i64 .i64 _ _ F rfl rfl rfl rfl (by rw [b12]; omega) (by unfold maxLen; omega) (by simp) ?_; intro w2 hr2 hg2)
  rw [made_bools, show (w1.alloc (.cells #[] 3)).heap.size = w1.heap.size + 1 from by simp] at hr2
  have hL2 := (own_nil_blk (base := w1.heap.size) (Blk.new w1 3 #[]) (Nat.le_refl _)).kept hg2 (.inr (by simp [Value.ownBlock]))
  have hb2 : Below w1.heap.size w1 w2 := ((Below.refl w1.heap.size w1).alloc (Nat.le_refl _) (.cells #[] 3)).grown hg2 (by simp) (fun j e => by cases e)
  have H2 := Lib.hid (And.intro hL2 (And.intro hr2 hb2))
  generalize hgh : w1.heap.size + 1 = gH at *
  clear hL2 hr2 hg2 hb2
  go_wp2
  clear y0 y1
  go_loopw [6, 8] (fun vL i wr => ∃ k : Nat, k ≤ F ∧ i = .int .i64 k ∧ wr.ownsRow w1.heap.size 3 1 vL k (intsV (List.replicate k (-1))) ∧ wr.ownsRow w1.heap.size 4 1 (.slice (some ⟨gH, 0, none⟩) F F) F (bools (List.replicate F false)) ∧ Below w1.heap.size w1 wr) (fun _ i _ => F - (intOf i).toNat)
  case atStart => exact ⟨0, Nat.zero_le _, rfl, H2.out.1, H2.out.2.1, H2.out.2.2⟩
  case round =>
    rename World => wr
    obtain ⟨k, hk, rfl, hrL, hrH, hbr⟩ := hrel
    obtain ⟨l2, y0, -, y1, -⟩ := (HK1.out.below hbr l1).two
    have hzr := hbr.size
    by_cases hlt : k < F
    · have hki : (k : Int) < (F : Int) := by omega
      have HA := Lib.hid (And.intro hrL (And.intro hrH hbr))
      have c6 : k + 1 ≤ maxLen := by unfold maxLen; omega
      have c7 : (k + 1) * 8 ≤ 140737488355328 := by omega
      have hrLa := own_below hrL ((Below.refl wr.heap.size wr).alloc (Nat.le_refl _) (.cells #[.int .i64 (-1)] 3))
      have HLa := Lib.hid hrLa
      clear hrL hrH hbr hrLa
      go_upto_region 7 with (at_builtin; go_loud (refine wpList_append_lies _ rfl (.tmp 32) (.tmp 33) 28 rfl w1.heap.size 3 i2 _ 1 8 Tryz.underlying28 hj2 b20 b21 b22 rfl (by decide) _ _ _ rfl HLa.out ⟨wr.heap.size, 0, none⟩ 1 1 [.int .i64 (-1)] rfl rfl (World.news_of_block (heap_alloc_new _ _)) (by simp [Value.oneCell']) (by decide) c6 c7 (by simp; omega) (wr.heap.size + 1) (by simp) ?_); go_loud (intro g8 cap8 W8 hr8 hg8 hat8 hlt8))
      have hH8 := ((own_below HA.out.2.1 ((Below.refl wr.heap.size wr).alloc (Nat.le_refl _) (.cells #[.int .i64 (-1)] 3)))).kept hg8 (own_own_ne (own_below HA.out.2.1 ((Below.refl wr.heap.size wr).alloc (Nat.le_refl _) (.cells #[.int .i64 (-1)] 3))) HLa.out (by decide))
      have hb8 := (HA.out.2.2.trans (((Below.refl wr.heap.size wr).alloc (Nat.le_refl _) (.cells #[.int .i64 (-1)] 3)).mono hzr)).grown hg8 (by simp; omega) (fun j e => (HLa.out.lt j e).1)
      have H8 := Lib.hid (And.intro hr8 (And.intro hH8 hb8))
      clear hr8 hg8 hat8 hlt8 hH8 hb8
      go_wp2
      go_roundw
      case measure => simp [intOf]; omega
      case rel => exact ⟨k + 1, by omega, by go_num, by rw [rep_snoc]; exact H8.out.1, H8.out.2.1, H8.out.2.2⟩
    · obtain rfl : F = k := by omega
      have hF0 : 0 < F := by omega
      obtain ⟨gL, cL, rfl, -, hgL⟩ := hrL.form hF0
      have hcl := hrH.cellAt ct (by omega)
      have hc1 : wr.cell? ⟨gH, ct, none⟩ = some (.bool false) := by
        rw [hcl]
        unfold bools
        simp [hc3]
      have hfz := hrH.frozenAt ct
      have hst := hrH.stored ct (.bool true)
      have hrLa := hrL.kept hst.2 (own_own_ne hrL hrH (by decide))
      have hst1 := hst.1
      rw [bools_set9, ← Hct.out, ← thereL_one, Hct.out] at hst1
      rw [← linkL_one F c] at hrLa
      have hAl := (Below.refl (wr.setCell ⟨gH, ct, none⟩ (.bool true)).heap.size (wr.setCell ⟨gH, ct, none⟩ (.bool true))).alloc (Nat.le_refl _) (.cells #[.int .i64 (ct : Int)] 3)
      have hrOa : ((wr.setCell ⟨gH, ct, none⟩ (.bool true)).alloc (.cells #[.int .i64 (ct : Int)] 3)).ownsRow w1.heap.size 3 1 (.slice (some ⟨wr.heap.size, 0, none⟩) 1 1) 1 [.int .i64 (ct : Int)] := own_one_blk (blk_new_at (by simp)) hzr
      have HI0 := Lib.hid (show DuSt w1 ((wr.setCell ⟨gH, ct, none⟩ (.bool true)).alloc (.cells #[.int .i64 (ct : Int)] 3)) F [c] [c] (.slice (some ⟨gL, 0, none⟩) F cL) (.slice (some ⟨gH, 0, none⟩) F F) (.slice (some ⟨wr.heap.size, 0, none⟩) 1 1) from
        ⟨own_below hrLa hAl, own_below hst1 hAl, (by have e : intsV (nats (trisOf [c])) = [.int .i64 (ct : Int)] := (by show [Value.int .i64 ((c / 3 : Nat) : Int)] = _; rw [Hct.out]); rw [e]; exact hrOa), fun j e e2 => by
          have e3 : gL = j := by simpa [Value.ownBlock] using e
          have e4 : wr.heap.size = j := by simpa [Value.ownBlock] using e2
          omega, (hbr.grown hst.2 hzr (fun j e => by cases e; exact (hrH.lt gH rfl).1)).trans (hAl.mono (Nat.le_trans hzr hst.2.size))⟩)
      have hgHl := (hrH.lt gH rfl).2
      clear hrL hrH hbr hcl hAl hst hrLa hrOa hst1 H2
      go_wp2
      clear y0 y1 hc1 hfz
      go_loopw [9, 10] (fun vO i wx => ∃ k L, i = .int .i64 ((k : Nat) : Int) ∧ DuRel T c k L ∧ DuSt w1 wx F L L (.slice (some ⟨gL, 0, none⟩) F cL) (.slice (some ⟨gH, 0, none⟩) F F) vO) (fun _ i _ => F + 1 - (intOf i).toNat)
      case atStart => exact ⟨0, [c], rfl, DuRel.first (by rw [HF.out]; exact hc), HI0.out⟩
      case round =>
        clear HI0
        rename World => wx
        obtain ⟨k, L, rfl, hR, hI⟩ := hrel
        have hlen := hR.ok.len
        rw [HF.out] at hlen
        have hkl := hR.le
        obtain ⟨gO, cO, rfl, -, hgO⟩ := hI.rO.form (List.length_pos_iff.2 hR.ne)
        have hzx := hI.bel.size
        by_cases hkL : k < L.length
        · obtain ⟨d, hd⟩ : ∃ d, L[k]? = some d := ⟨L[k], List.getElem?_eq_getElem hkL⟩
          have hd3 : d < 3 * F := by have := hR.ok.lt d (List.mem_of_getElem? hd); rw [HF.out] at this; exact this
          have hd4 : d / 3 < F := by omega
          obtain ⟨dt, hdt⟩ : ∃ dt, d / 3 = dt := ⟨_, rfl⟩
          have o0 : wx.cell? ⟨gO, k, none⟩ = some (.int .i64 (dt : Int)) := by
            rw [hI.rO.cellAt k (by omega)]
            unfold intsV nats trisOf
            rw [List.getElem?_map, List.getElem?_map, List.getElem?_map, hd, ← hdt]
            rfl
          obtain ⟨lv, fv, sv, hlv, HN1, HN2, HS⟩ : ∃ (lv : Int) (fv sv : Nat), lv = (if k = 0 then -1 else (d : Int)) ∧ Hid (∀ W, Calls Tryz.prog 42 #[.int .i64 lv] W fun e w' => e = .returned (.int .i64 (fv : Int)) ∧ w' = W) ∧ Hid (∀ W, Calls Tryz.prog 42 #[.int .i64 (fv : Int)] W fun e w' => e = .returned (.int .i64 (sv : Int)) ∧ w' = W) ∧ Hid ((k = 0 → lv = -1) ∧ (k ≠ 0 → 0 ≤ lv ∧ sidesD c k d = [fv, sv])) := by
            by_cases hk0 : k = 0
            · exact ⟨-1, 0, 1, by rw [if_pos hk0], Lib.hid (fun W => next10_none W), Lib.hid (fun W => next10_any 0 W (by omega)), Lib.hid ⟨fun _ => rfl, fun h => absurd hk0 h⟩⟩
            · refine ⟨d, Jor.nx d, Jor.pv d, by rw [if_neg hk0], Lib.hid (fun W => next10_any d W (by omega)), Lib.hid (fun W => ?_), Lib.hid ⟨fun h => absurd h hk0, fun _ => ⟨by omega, by unfold sidesD; rw [if_neg hk0]⟩⟩⟩
              rw [← Jor.nx_nx d]
              exact next10_any (Jor.nx d) W (by have := Jor.nx_lt hd3; omega)
          have k0 : wx.cell? ⟨gL, dt, none⟩ = some (.int .i64 lv) := by
            rw [hI.rL.cellAt dt (by omega)]
            unfold intsV
            rw [List.getElem?_map, ← hdt, linkL_at hR.ok.nd hd hd4, hlv]
            rfl
          have hki : (k : Int) < (L.length : Int) := by omega
          have hdi : (dt : Int) < (F : Int) := by omega
          have HR := Lib.hid hR
          obtain ⟨n, hn⟩ : ∃ n, L.length = n := ⟨_, rfl⟩
          rw [hn] at hI
          have HI := Lib.hid hI
          have Hd := Lib.hid hd
          have hlO := (hI.rO.lt gO rfl).2
          have hlL := (hI.rL.lt gL rfl).2
          have Hlv := Lib.hid hlv
          have Hd3 := Lib.hid hd3
          rw [hn] at hki hlen ⊢
          have HLn := Lib.hid hn
          clear hI hR hd hlv hdt hd4 hd3 hn hkL hkl
          go_upto_if 65 with (go_at_call 42; (first | with_reducible refine (HN1.out _).mono ?_ | with_reducible refine (HN2.out _).mono ?_); rintro e w9 ⟨rfl, rfl⟩)
          have hA2 := (Below.refl w9.heap.size w9).alloc (Nat.le_refl _) (.cells #[.int .i64 (fv : Int), .int .i64 (sv : Int)] 3)
          have HI2 := Lib.hid (HI.out.below hA2)
          have hq2 := Blk.new w9 3 #[.int .i64 (fv : Int), .int .i64 (sv : Int)]
          have hl2 := (HK1.out.below HI.out.bel l1).below hA2 (Nat.lt_of_lt_of_le l1 HI.out.bel.size)
          have k1 := (hA2.cell (p := ⟨gL, dt, none⟩) hlL).trans k0
          generalize hw2 : w9.alloc (.cells #[.int .i64 (fv : Int), .int .i64 (sv : Int)] 3) = W2 at *
          have HQ2 := Lib.hid hq2
          have hz2 := hq2.lt
          generalize w9.heap.size = q2 at *
          obtain ⟨l3, y0', -, y1', -⟩ := hl2.two
          clear hA2 hq2 hl2 hw2 k0 o0
          go_cut [13] (fun v13 W => ∃ gs q, v13 = .slice (some ⟨gs, 0, none⟩) q q ∧ (sidesD c k d).length = q ∧ Blk W gs 3 (intsV (nats (sidesD c k d))).toArray ∧ DuSt w1 W F L L (.slice (some ⟨gL, 0, none⟩) F cL) (.slice (some ⟨gH, 0, none⟩) F F) (.slice (some ⟨gO, 0, none⟩) n cO) ∧ gs ≠ gL ∧ gs ≠ gO)
          case first =>
            by_cases hk0 : k = 0
            · have hlv := HS.out.1 hk0
              subst hlv
              have hcd : sidesD c k d = [c, Jor.nx c, Jor.pv c] := by unfold sidesD; rw [if_pos hk0]
              have HCd := Lib.hid hcd
              have HNc := Lib.hid (fun (W : World) => next10_any c W (by omega))
              have HPc := Lib.hid (fun (W : World) => prev10_any c W (by omega))
              obtain ⟨nc, hnc⟩ : ∃ nc, Jor.nx c = nc := ⟨_, rfl⟩
              obtain ⟨pc, hpc⟩ : ∃ pc, Jor.pv c = pc := ⟨_, rfl⟩
              rw [hnc] at HNc HCd
              rw [hpc] at HPc HCd
              clear hcd hk0 hnc hpc
              go_upto_region 18 with fail
              go_wp2_with (first | (go_at_call 42; with_reducible refine (HNc.out _).mono ?_; rintro e w8 ⟨rfl, rfl⟩) | (go_at_call 43; with_reducible refine (HPc.out _).mono ?_; rintro e w8 ⟨rfl, rfl⟩))
              go_meet
              rename World => W8
              have hA3 := (Below.refl W8.heap.size W8).alloc (Nat.le_refl _) (.cells #[.int .i64 (c : Int), .int .i64 (nc : Int), .int .i64 (pc : Int)] 3)
              exact ⟨_, 3, rfl, by rw [HCd.out]; rfl, by rw [HCd.out]; exact Blk.new W8 _ _, HI2.out.below hA3, by omega, by omega⟩
            · obtain ⟨hlv, hsd⟩ := HS.out.2 hk0
              have HSd := Lib.hid hsd
              have hd9 : decide (lv < 0) = false := by simp; omega
              clear hk0 hsd
              go_wp2
              go_meet
              exact ⟨_, 2, rfl, by rw [HSd.out]; rfl, by rw [HSd.out]; exact HQ2.out, HI2.out, by omega, by omega⟩
          case rest =>
            obtain ⟨gs, q, rfl, hq, hbs, hI3, hsL, hsO⟩ := hcut
            rename World => W3
            obtain ⟨sd, hsd⟩ : ∃ sd, sidesD c k d = sd := ⟨_, rfl⟩
            have hsl : ∀ e ∈ sd, e < 3 * F := by
              have h3 := Hd3.out
              intro e he
              rw [← hsd] at he
              unfold sidesD at he
              split at he
              · simp only [List.mem_cons, List.not_mem_nil, or_false] at he
                rcases he with rfl | rfl | rfl
                · exact hc
                · exact Jor.nx_lt hc
                · exact Jor.pv_lt hc
              · simp only [List.mem_cons, List.not_mem_nil, or_false] at he
                rcases he with rfl | rfl
                · exact Jor.nx_lt h3
                · exact Jor.pv_lt h3
            rw [hsd] at hq hbs
            have Hsd := Lib.hid hsd
            have Hsl := Lib.hid hsl
            have Hq := Lib.hid hq
            have hq3 : q ≤ 3 := by rw [← hq, ← hsd]; unfold sidesD; split <;> simp
            have HI4 := Lib.hid (And.intro hI3 hbs)
            have HLO := Lib.hid HR.out.ok
            have HLne := Lib.hid HR.out.ne
            clear hsd hsl hq hI3 hbs HI2 HQ2 HN1 HN2 HS k1 y0' y1' l3
            go_wp2
            go_loopw [9, 14] (fun vO i wy => ∃ j : Nat, j ≤ q ∧ i = .int .i64 j ∧ ∃ gO' cO', vO = .slice (some ⟨gO', 0, none⟩) (ovrs T L (sd.take j)).length cO' ∧ DuSt w1 wy F (ovrs T L (sd.take j)) (ovrs T L (sd.take j)) (.slice (some ⟨gL, 0, none⟩) F cL) (.slice (some ⟨gH, 0, none⟩) F F) vO ∧ Blk wy gs 3 (intsV (nats sd)).toArray ∧ gs ≠ gO') (fun _ i _ => q - (intOf i).toNat)
            case atStart => exact ⟨0, Nat.zero_le _, rfl, gO, cO, by rw [← HLn.out]; rfl, HI4.out.1, HI4.out.2, hsO⟩
            case round =>
              clear HI4
              rename World => wy
              obtain ⟨j, hj, rfl, gO', cO', rfl, hIy, hby, hsO'⟩ := hrel
              by_cases hjq : j < q
              · have hjs : j < sd.length := by rw [Hq.out]; exact hjq
                obtain ⟨e, he⟩ : ∃ e, sd[j]? = some e := ⟨sd[j], List.getElem?_eq_getElem hjs⟩
                have he3 := Hsl.out e (List.mem_of_getElem? he)
                have HTk := Lib.hid (ovrs_take (T := T) (L := L) he)
                have hOk := HLO.out.ovrs (sd.take j)
                have hNe := ovrs_ne (T := T) HLne.out (sd.take j)
                obtain ⟨Lj, hLj⟩ : ∃ Lj, ovrs T L (sd.take j) = Lj := ⟨_, rfl⟩
                rw [hLj] at HTk hOk hNe hIy ⊢
                obtain ⟨m, hm⟩ : ∃ m, Lj.length = m := ⟨_, rfl⟩
                have hlenj := hOk.len
                rw [HF.out, hm] at hlenj
                rw [hm] at hIy ⊢
                have Hm := Lib.hid hm
                obtain ⟨x, hx⟩ : ∃ x, oppI T (e : Int) = x := ⟨_, rfl⟩
                have HO := Lib.hid (fun (W : World) (hW : Below w.heap.size w W) => show Calls Tryz.prog 71 #[.agg #[.int .i64 N, .slice aT F cT], .int .i64 (e : Int)] W fun e w' => e = .returned (.int .i64 x) ∧ Below W.heap.size W w' from by
                  have := HOp.out e he3 W hW
                  rw [hx] at this
                  exact this)
                have s0 : wy.cell? ⟨gs, j, none⟩ = some (.int .i64 (e : Int)) := by
                  rw [hby.cell]
                  unfold intsV nats
                  simp [he]
                obtain ⟨l4, y0', -, y1', -⟩ := (HK1.out.below hIy.bel l1).two
                have hlg := hby.lt
                have hjI : (j : Int) < (q : Int) := by omega
                have HBq := Lib.hid (fun (dd : Nat) (os : Array Obj) => (HB1.out.trans (hIy.bel.mono hz1)).trans ((below_regrown wy dd os).mono (Nat.le_trans hz1 hIy.bel.size)))
                have HIy := Lib.hid (And.intro hIy hby)
                have Hx := Lib.hid hx
                have HNe := Lib.hid (And.intro hNe hOk)
                clear hIy hby he he3 hOk hNe hLj hm hjs hx
                go_upto_region 22 with fail
                have u0 := cell_regrown y0'
                have u1 := cell_regrown y1'
                have u2 := cell_regrown s0
                refine wp_region_quiet_below (by kernel_rfl) (by kernel_rfl) ?_
                repeat (go_big_quiet_step ((go_at_call 71; with_reducible exact Calls.regrown_of (HO.out _ (HBq.out _ _)))))
                refine wpQuiet_nil ?_
                intro _ hw'
                obtain ⟨⟨dq, osq⟩, hw''⟩ := hw'
                subst hw''
                have hI5 := HIy.out.1.below (below_regrown wy dq osq)
                have hb5 := HIy.out.2.below (below_regrown wy dq osq) HIy.out.2.lt
                clear u0 u1 u2 y0' y1' s0 l4
                generalize Sort.grow (redrawn wy dq) osq = wz at *
                rcases opp_cases T (e : Int) with h1 | ⟨o, h1, ho⟩
                · have hx1 : x = -1 := Hx.out.symm.trans h1
                  subst hx1
                  have HTj := Lib.hid (show ovrs T L (sd.take (j + 1)) = Lj from by rw [HTk.out]; exact ovr_none h1)
                  have H5 := Lib.hid (And.intro hI5 hb5)
                  clear hI5 hb5 h1
                  go_wp2
                  go_roundw
                  case measure => simp [intOf]; omega
                  case rel => exact ⟨j + 1, by omega, by go_num, gO', cO', by rw [HTj.out, Hm.out], by rw [HTj.out]; exact H5.out.1, H5.out.2, hsO'⟩
                · have hx1 : x = (o : Int) := Hx.out.symm.trans h1
                  subst hx1
                  rw [HF.out] at ho
                  obtain ⟨ot, hot⟩ : ∃ ot, o / 3 = ot := ⟨_, rfl⟩
                  have hot3 : ot < F := by omega
                  have e3o : (o : Int) / 3 = (ot : Int) := by omega
                  have ho0 : (0 : Int) ≤ (o : Int) := by omega
                  have ho1 : (o : Int) ≤ 100000 := by omega
                  have hotI : (ot : Int) < (F : Int) := by omega
                  have hcH := hI5.rH.cellAt ot (by omega)
                  have hth := thereL_at (L := Lj) hot3
                  have hgHl := (hI5.rH.lt gH rfl).2
                  have hgLl := (hI5.rL.lt gL rfl).2
                  have Hot := Lib.hid hot
                  by_cases hmem : ot ∈ trisOf Lj
                  · have c1 : wz.cell? ⟨gH, ot, none⟩ = some (.bool true) := by
                      rw [hcH]
                      unfold bools
                      rw [List.getElem?_map, hth, decide_eq_true hmem]
                      rfl
                    have HTj := Lib.hid (show ovrs T L (sd.take (j + 1)) = Lj from by rw [HTk.out]; exact ovr_had h1 (by rw [hot]; exact hmem))
                    have H5 := Lib.hid (And.intro hI5 hb5)
                    clear hI5 hb5 h1 hcH hth hmem ho hot
                    go_wp2
                    go_roundw
                    case measure => simp [intOf]; omega
                    case rel => exact ⟨j + 1, by omega, by go_num, gO', cO', by rw [HTj.out, Hm.out], by rw [HTj.out]; exact H5.out.1, H5.out.2, hsO'⟩
                  · have c1 : wz.cell? ⟨gH, ot, none⟩ = some (.bool false) := by
                      rw [hcH]
                      unfold bools
                      rw [List.getElem?_map, hth, decide_eq_false hmem]
                      rfl
                    have f1 := hI5.rH.frozenAt ot
                    have c2 : wz.cell? ⟨gL, ot, none⟩ = some (.int .i64 ((linkL F Lj).getD ot 0)) := by
                      rw [hI5.rL.cellAt ot (by omega)]
                      unfold intsV
                      have : ot < (linkL F Lj).length := by rw [linkL_len]; exact hot3
                      rw [List.getElem?_map, List.getElem?_eq_getElem this]
                      simp [List.getD, List.getElem?_eq_getElem this]
                    have f2 := hI5.rL.frozenAt ot
                    have HTj := Lib.hid (show ovrs T L (sd.take (j + 1)) = Lj ++ [o] from by rw [HTk.out]; exact ovr_add h1 (by rw [hot]; exact hmem))
                    have hmk := hI5.mark (o := o) HNe.out.1 (by rw [hot]; exact hmem)
                    rw [hot] at hmk
                    have hgh : gH ≠ gs := fun e => own_blk_ne hI5.rH hb5 (by decide) (by rw [← e]; rfl)
                    have hLH : gL ≠ gH := by
                      intro e
                      rcases own_own_ne hI5.rL hI5.rH (by decide) with h | h
                      · cases h
                      · exact h (by rw [e]; rfl)
                    have hbk := (hb5.far (p := ⟨gH, ot, none⟩) (fun e => hgh e.symm) (.bool true)).far (p := ⟨gL, ot, none⟩) hsL (.int .i64 (o : Int))
                    have HM := Lib.hid (And.intro hmk hbk)
                    clear hI5 hb5 h1 hcH hth hmem ho hmk hbk hot
                    go_upto_region 26 with fail
                    generalize (wz.setCell ⟨gH, ot, none⟩ (.bool true)).setCell ⟨gL, ot, none⟩ (.int .i64 (o : Int)) = wm at *
                    have hAm := HM.out.1.alloc (.cells #[.int .i64 (ot : Int)] 3)
                    have HAm := Lib.hid hAm
                    have hzm := HM.out.1.bel.size
                    have hsm := HM.out.2.lt
                    have c6 : m + 1 ≤ maxLen := by unfold maxLen; omega
                    have c7 : (m + 1) * 8 ≤ 140737488355328 := by omega
                    have hrO := hAm.rO
                    rw [Hm.out] at hrO
                    have HrO := Lib.hid hrO
                    clear hAm hrO c1 f1 c2 f2
                    go_upto_region 21 with (at_builtin; go_loud (refine wpList_append_lies _ rfl (.tmp 103) (.tmp 106) 28 rfl w1.heap.size 3 i2 _ 1 8 Tryz.underlying28 hj2 b20 b21 b22 rfl (by decide) (.slice (some ⟨gO', 0, none⟩) m cO') m (intsV (nats (trisOf Lj))) rfl HrO.out ⟨wm.heap.size, 0, none⟩ 1 1 [.int .i64 (ot : Int)] rfl rfl (World.news_of_block (heap_alloc_new _ _)) (by simp [Value.oneCell']) (by decide) c6 c7 (by simp; omega) (wm.heap.size + 1) (by simp) ?_); go_loud (intro g8 cap8 W8 hr8 hg8 hat8 hlt8))
                    have hl8 : (Lj ++ [o]).length = m + 1 := by rw [List.length_append, Hm.out]; rfl
                    have he8 : intsV (nats (trisOf (Lj ++ [o]))) = intsV (nats (trisOf Lj)) ++ [.int .i64 (ot : Int)] := by
                      rw [trisOf_snoc, Hot.out]
                      simp [nats, intsV]
                    have hd8 := HAm.out.appO hg8 (o := o) (v4 := .slice (some ⟨g8, 0, none⟩) (m + 1) cap8) rfl (by rw [hl8, he8]; exact hr8) (hat8.imp id (fun e => by rw [e]; simp))
                    have hb8 := (HM.out.2.alloc (.cells #[.int .i64 (ot : Int)] 3)).grown hg8 (fun e => hsO' (by injection e))
                    have hs8 : gs ≠ g8 := by
                      rcases hat8 with h | h
                      · intro e
                        have : gO' = g8 := by simpa [Value.ownBlock] using h
                        exact hsO' (e.trans this.symm)
                      · omega
                    have H8 := Lib.hid (And.intro hd8 (And.intro hb8 hs8))
                    have Hl8 := Lib.hid hl8
                    clear hr8 hg8 hat8 hlt8 hd8 hb8 hs8 hl8 he8
                    go_wp2
                    go_roundw
                    case measure => simp [intOf]; omega
                    case rel => exact ⟨j + 1, by omega, by go_num, g8, cap8, by rw [HTj.out, Hl8.out], by rw [HTj.out]; exact H8.out.1, H8.out.2.1, H8.out.2.2⟩
              · obtain rfl : j = q := by omega
                rw [List.take_of_length_le (by rw [Hq.out]; exact Nat.le_refl _)] at hIy ⊢
                have hst := HR.out.step Hd.out
                rw [Hsd.out] at hst
                have H5 := Lib.hid (And.intro hst hIy)
                clear hIy hby hst
                go_wp2
                go_roundw
                case measure => simp [intOf]; omega
                case rel => exact ⟨k + 1, ovrs T L sd, by go_num, H5.out.1, H5.out.2⟩
        · have hfin := hR.fin (by omega)
          subst hfin
          obtain ⟨n, hn⟩ : ∃ n, (rtL T c).length = n := ⟨_, rfl⟩
          have HI := Lib.hid (And.intro hI.rL (And.intro hI.rO hI.bel))
          rw [hn] at hkl hkL HI ⊢
          obtain rfl : k = n := by omega
          have Hn := Lib.hid hn
          clear hI hR hn
          go_wp2
          refine bodyPost_ret (v := .tuple #[.slice (some ⟨gL, 0, none⟩) F cL, .slice (some ⟨gO, 0, none⟩) k cO]) (by simp [results, Tryz.results41, go_sem]) rfl ?_
          exact ⟨_, _, rfl, own_lower HI.out.1 hz1, own_lower (by rw [Hn.out]; exact HI.out.2.1) hz1, HB1.out.trans (HI.out.2.2.mono hz1)⟩
end Go.Proofs.YtghlnknncahkgaaGreat
/-
  What gypsumref46.Rooted holds, and how it finds a vertex' number.
-/
namespace Go.Proofs.YtghlnknncahkgaaGreat
open Go.RowKit Go.Maps

theorem spot_first {old : List Int} {w : Int} {n : Nat} (h : old[n]? = some w) (hb : ∀ m, m < n → old[m]? ≠ some w) : spot old w = n := by
  induction old generalizing n with
  | nil => simp at h
  | cons a l ih =>
    simp only [spot]
    cases n with
    | zero =>
      have e : a = w := by simpa using h
      rw [if_pos e]
    | succ n =>
      have e : a ≠ w := fun e => hb 0 (by omega) (by simp [e])
      rw [if_neg e, ih (n := n) (by simpa using h) (fun m hm => by simpa using hb (m + 1) (by omega))]
theorem mem_of_at {old : List Int} {w : Int} {n : Nat} (h : old[n]? = some w) : w ∈ old := List.mem_of_getElem? h
theorem not_mem_all {old : List Int} {w : Int} (hb : ∀ m, m < old.length → old[m]? ≠ some w) : w ∉ old := by
  intro h
  obtain ⟨i, hi, e⟩ := List.getElem_of_mem h
  exact hb i hi (by rw [List.getElem?_eq_getElem hi, e])
theorem rtF_pre (T : List Tr) : ∀ (n i : Nat) (L : List Nat), ∃ m, rtF T n i L = L ++ m
  | 0, _, L => ⟨[], by simp [rtF]⟩
  | n + 1, i, L => by
    unfold rtF
    cases hd : L[i]? with
    | none => exact ⟨[], by simp⟩
    | some d =>
      obtain ⟨a, ha⟩ := ovr_pre T L (Jor.nx d : Nat)
      obtain ⟨b, hb⟩ := ovr_pre T (ovr T L (Jor.nx d : Nat)) (Jor.pv d : Nat)
      obtain ⟨c, hc⟩ := rtF_pre T n (i + 1) (ovr T (ovr T L (Jor.nx d : Nat)) (Jor.pv d : Nat))
      exact ⟨a ++ b ++ c, by simp only []; rw [hc, hb, ha]; simp⟩
theorem rtL_pre (T : List Tr) (c : Nat) : ∃ m, rtL T c = [c] ++ m := by
  obtain ⟨a, ha⟩ := ovr_pre T [c] (c : Int)
  obtain ⟨b, hb⟩ := rtF_pre T (T.length + 1) 0 (ovr T [c] (c : Int))
  exact ⟨a ++ b, by unfold rtL; rw [hb, ha]; simp⟩
structure RsSt (w2 W : World) (bx : Nat) (old : List Int) (TT : List Tr) (fs : List Int) (vT vV vF : Value) : Prop where
  kx : Blk W bx 24 #[.int .i64 0, vT]
  rT : W.ownsRow w2.heap.size 72 3 vT TT.length (ws3 TT)
  rV : W.ownsRow w2.heap.size 3 1 vV old.length (intsV old)
  rF : W.ownsRow w2.heap.size 3 1 vF fs.length (intsV fs)
  ne : ∀ j, vV.ownBlock = some j → vF.ownBlock ≠ some j
  bel : Below w2.heap.size w2 W
  le : w2.heap.size ≤ bx
section
variable {w2 W W' w4 : World} {bx : Nat} {old fs : List Int} {TT : List Tr} {vT vV vF v4 : Value}
theorem RsSt.below (h : RsSt w2 W bx old TT fs vT vV vF) (hb : Below W.heap.size W W') : RsSt w2 W' bx old TT fs vT vV vF :=
  ⟨h.kx.below hb h.kx.lt, own_below h.rT hb, own_below h.rV hb, own_below h.rF hb, h.ne, h.bel.trans (hb.mono h.bel.size), h.le⟩
theorem RsSt.alloc (h : RsSt w2 W bx old TT fs vT vV vF) (o : Obj) : RsSt w2 (W.alloc o) bx old TT fs vT vV vF := h.below ((Below.refl _ _).alloc (Nat.le_refl _) _)
theorem RsSt.appV (h : RsSt w2 W bx old TT fs vT vV vF) (hg : W.grownBy w4 vV.ownBlock) {old4 : List Int} {g4 k4 c4 : Nat} (hv : v4 = .slice (some ⟨g4, 0, none⟩) k4 c4) (hr : w4.ownsRow w2.heap.size 3 1 v4 old4.length (intsV old4)) (hat : vV.ownBlock = some g4 ∨ W.heap.size ≤ g4) : RsSt w2 w4 bx old4 TT fs vT v4 vF := by
  refine ⟨h.kx.grown hg (fun e => own_blk_ne h.rV h.kx (by decide) e.symm), h.rT.kept hg (own_own_ne h.rT h.rV (by decide)), hr, h.rF.kept hg ?_, ?_, h.bel.grown hg h.bel.size (fun j e => (h.rV.lt j e).1), h.le⟩
  · rcases hF : vF.ownBlock with _ | j
    · exact .inl rfl
    · exact .inr (fun e => h.ne j e.symm hF)
  · intro j ej ek
    subst hv
    have : g4 = j := by simpa [Value.ownBlock] using ej
    subst this
    rcases hat with e | hge
    · exact h.ne _ e ek
    · have := (h.rF.lt _ ek).2
      omega
theorem RsSt.appF (h : RsSt w2 W bx old TT fs vT vV vF) (hg : W.grownBy w4 vF.ownBlock) {fs4 : List Int} {g4 k4 c4 : Nat} (hv : v4 = .slice (some ⟨g4, 0, none⟩) k4 c4) (hr : w4.ownsRow w2.heap.size 3 1 v4 fs4.length (intsV fs4)) (hat : vF.ownBlock = some g4 ∨ W.heap.size ≤ g4) : RsSt w2 w4 bx old TT fs4 vT vV v4 := by
  refine ⟨h.kx.grown hg (fun e => own_blk_ne h.rF h.kx (by decide) e.symm), h.rT.kept hg (own_own_ne h.rT h.rF (by decide)), h.rV.kept hg ?_, hr, ?_, h.bel.grown hg h.bel.size (fun j e => (h.rF.lt j e).1), h.le⟩
  · rcases hV : vV.ownBlock with _ | j
    · exact .inl rfl
    · exact .inr (fun e => h.ne j hV e.symm)
  · intro j ej ek
    subst hv
    have : g4 = j := by simpa [Value.ownBlock] using ek
    subst this
    rcases hat with e | hge
    · exact h.ne _ ej e
    · have := (h.rV.lt _ ej).2
      omega
theorem RsSt.appT (h : RsSt w2 W bx old TT fs vT vV vF) (hg : W.grownBy w4 vT.ownBlock) {T4 : List Tr} (hr : w4.ownsRow w2.heap.size 72 3 v4 T4.length (ws3 T4)) :
    Blk w4 bx 24 #[.int .i64 0, vT] ∧ RsSt w2 (w4.setCell ⟨bx, 1, none⟩ v4) bx old T4 fs v4 vV vF := by
  have c := h.kx.grown hg (fun e => own_blk_ne h.rT h.kx (by decide) e.symm)
  have hS : w4.grownBy (w4.setCell ⟨bx, 1, none⟩ v4) (some bx) := gStR (World.grownBy.refl _ _)
  have rv := h.rV.kept hg (own_own_ne h.rV h.rT (by decide))
  have rf := h.rF.kept hg (own_own_ne h.rF h.rT (by decide))
  exact ⟨c, ⟨by simpa using c.set_ 1 v4, hr.kept hS (.inr (own_blk_ne hr c (by decide))), rv.kept hS (.inr (own_blk_ne rv c (by decide))), rf.kept hS (.inr (own_blk_ne rf c (by decide))), h.ne, (h.bel.grown hg h.bel.size (fun j e => (h.rT.lt j e).1)).setCell h.le _, h.le⟩⟩
end
end Go.Proofs.YtghlnknncahkgaaGreat
/-
  gypsumref46.Rooted, by walking its text.
-/
namespace Go.Proofs.YtghlnknncahkgaaGreat
open Go.RowKit Go.Maps

theorem infoTriR : (Tryz.prog.info? 72).map (fun i => (i.zero, i.size, i.bytes)) = some (some (.agg #[.int .i64 0, .int .i64 0, .int .i64 0]), 3, 24) := by kernel_rfl
theorem addVs_len : ∀ (l old : List Int), (addVs old l).length ≤ old.length + l.length
  | [], old => by simp [addVs]
  | a :: r, old => by
    have h1 := addVs_len r (addV old a)
    have h2 := (addV_len (old := old) (v := a)).2
    show (addVs (addV old a) r).length ≤ _
    rw [List.length_cons]
    omega
theorem RsSt.setT {w2 W : World} {bx gt q : Nat} {old fs : List Int} {TT : List Tr} {vT vV vF u : Value} {cs : Array Value} (h : RsSt w2 W bx old TT fs vT vV vF) (hb : Blk W gt 72 cs) (h1 : vT.ownBlock ≠ some gt) (hbx : bx ≠ gt) (hge : w2.heap.size ≤ gt) : RsSt w2 (W.setCell ⟨gt, q, none⟩ u) bx old TT fs vT vV vF :=
  ⟨h.kx.far (p := ⟨gt, q, none⟩) hbx u, h.rT.kept (gStR (World.grownBy.refl _ _) : W.grownBy (W.setCell ⟨gt, q, none⟩ u) (some gt)) (.inr h1), own_alloc_st h.rV hb (by decide), own_alloc_st h.rF hb (by decide), h.ne, h.bel.setCell hge u, h.le⟩
def vs3 (T : List Tr) (d : Nat) : List Int := [vertN T d, vertN T (Jor.nx d), vertN T (Jor.pv d)]
theorem cellsQ3 (T : List Tr) (old : List Int) (d : Nat) : cellsQ old (vs3 T d) 3 = [.int .i64 (triT T old d).1, .int .i64 (triT T old d).2.1, .int .i64 (triT T old d).2.2] := rfl
theorem addVs3 (T : List Tr) (old : List Int) (d : Nat) : addVs old (vs3 T d) = numT T old d := rfl
set_option maxRecDepth 100000 in
set_option maxHeartbeats 4000000 in
theorem rooted46_any (N : Int) (c : Nat) (v : Value) (T : List Tr) (w : World) (h : TrisRd w v T) (hc : c < 3 * T.length) (hl : T.length ≤ 1000) :
    Calls Tryz.prog 14 #[.agg #[.int .i64 N, v], .int .i64 (c : Int)] w fun e w' => ∃ vT vV vF, e = .returned (.tuple #[.agg #[.int .i64 ((rtN T c).1.length : Int), vT], vV, vF]) ∧
      w'.ownsRow w.heap.size 72 3 vT (rtN T c).2.length (ws3 (rtN T c).2) ∧ w'.ownsRow w.heap.size 3 1 vV (rtN T c).1.length (intsV (rtN T c).1) ∧ w'.ownsRow w.heap.size 3 1 vF (rtL T c).length (intsV (nats (rtL T c))) ∧ Below w.heap.size w w' := by
  obtain ⟨i2, hj2, b20, b21, b22⟩ := info_parts infoInt
  obtain ⟨i3, hj3, b30, b31, b32⟩ := info_parts infoTriR
  have hb1 := (Blk.new w 24 #[.int .i64 N, v]).alloc (.cells #[.int .i64 0, .slice none 0 0] 24)
  have hb2 : Blk ((w.alloc (.cells #[.int .i64 N, v] 24)).alloc (.cells #[.int .i64 0, .slice none 0 0] 24)) (w.heap.size + 1) 24 #[.int .i64 0, .slice none 0 0] := blk_new_at (by simp)
  have hB0 : Below w.heap.size w ((w.alloc (.cells #[.int .i64 N, v] 24)).alloc (.cells #[.int .i64 0, .slice none 0 0] 24)) := ((Below.refl _ _).alloc (Nat.le_refl _) _).alloc (by simp) _
  have hIs := is10_any N (c : Int) v T _ (h.below hB0) (by omega)
  rw [hasC_true (T := T) (c := (c : Int)) (by omega) (by omega)] at hIs
  have HIs := Lib.hid hIs
  have HD := Lib.hid (fun (W : World) (hW : Below w.heap.size w W) => dual_any N c v T W (h.below hW) hc hl)
  have HVx := Lib.hid (fun (k : Nat) (hk : k < 3 * T.length) (W : World) (hW : Below w.heap.size w W) => vertex10_any N k v T W (h.below hW) hk (by omega))
  obtain ⟨aT, cT, rfl, -⟩ := h
  obtain ⟨F, hF⟩ : ∃ F, T.length = F := ⟨_, rfl⟩
  rw [hF] at hb1 hb2 hB0 HIs HD HVx hl ⊢
  have HF := Lib.hid hF
  have Hc := Lib.hid hc
  rw [hF] at hc
  obtain ⟨l0, x0, -, x1, -⟩ := hb1.two
  have HB0 := Lib.hid hB0
  have HK := Lib.hid hb1
  have HKr := Lib.hid hb2
  clear hb1 hb2 hB0 hIs hF
  go_enter Tryz.func14, Tryz.ntmps14
  go_upto_region 3 with (go_at_call 40; go_loud (with_reducible refine HIs.out.mono ?_; rintro e w1 ⟨rfl, hb⟩))
  have hBw := HB0.out.trans (hb.mono HB0.out.size)
  have hk := HK.out.below hb l0
  have hkr := HKr.out.below hb HKr.out.lt
  obtain ⟨l1, y0, -, y1, -⟩ := hk.two
  have HB1 := Lib.hid hBw
  have HK1 := Lib.hid hk
  have HKr1 := Lib.hid hkr
  have hz1 := hBw.size
  have HD1 := Lib.hid (HD.out w1 hBw)
  clear hb hBw hk hkr x0 x1
  go_upto_region 4 with (go_at_call 41; go_loud (with_reducible refine HD1.out.mono ?_; rintro e w2 ⟨vL, vO, rfl, hrL, hrO, hb2⟩))
  obtain ⟨n, hn⟩ : ∃ n, (rtL T c).length = n := ⟨_, rfl⟩
  rw [hn] at hrO
  obtain ⟨aL, cL, rfl⟩ := ownsRow_slice hrL
  obtain ⟨aO, cO, rfl⟩ := ownsRow_slice hrO
  have hLk := LOk.rtL Hc.out
  have HLk := Lib.hid hLk
  have Hn := Lib.hid hn
  have hnF : n ≤ F := by have := hLk.len; rw [HF.out, hn] at this; exact this
  have HrL := Lib.hid hrL
  have HrO := Lib.hid hrO
  have hk2 := HK1.out.below hb2 l1
  have hkr2 := HKr1.out.below hb2 HKr1.out.lt
  have hB2 := HB1.out.trans (hb2.mono hz1)
  obtain ⟨l2, y0', -, y1', -⟩ := hk2.two
  have HK2 := Lib.hid hk2
  have HKr2 := Lib.hid hkr2
  have HB2 := Lib.hid hB2
  have hz2 := hB2.size
  clear hk2 hkr2 hB2 y0 y1 l1 hrL hrO hLk hn
  have hS0 : RsSt w2 (((w2.alloc (.cells #[.int .i64 0, .slice none 0 0] 24)).alloc (.cells #[] 3)).alloc (.cells #[] 3)) w2.heap.size [] [] [] (.slice none 0 0) (.slice (some ⟨w2.heap.size + 1, 0, none⟩) 0 0) (.slice (some ⟨w2.heap.size + 1 + 1, 0, none⟩) 0 0) :=
    ⟨((Blk.new w2 _ _).alloc _).alloc _, World.ownsRow_nil _ _ _ _, own_nil_blk ((show Blk ((w2.alloc (.cells #[.int .i64 0, .slice none 0 0] 24)).alloc (.cells #[] 3)) (w2.heap.size + 1) 3 #[] from blk_new_at (by simp)).alloc _) (by omega), own_nil_blk (blk_new_at (by simp)) (by omega), fun j e e2 => by
      have e3 : w2.heap.size + 1 = j := by simpa [Value.ownBlock] using e
      have e4 : w2.heap.size + 1 + 1 = j := by simpa [Value.ownBlock] using e2
      omega, (((Below.refl _ _).alloc (Nat.le_refl _) _).alloc (by simp) _).alloc (by simp; omega) _, Nat.le_refl _⟩
  have HS0 := Lib.hid hS0
  clear hS0
  go_wp2
  clear y0' y1'
  go_loopw [10, 11, 12] (fun vV vF i wr => ∃ k : Nat, k ≤ n ∧ i = .int .i64 k ∧ ∃ vT, RsSt w2 wr w2.heap.size (numL T ((rtL T c).take k) ([], [])).1 (numL T ((rtL T c).take k) ([], [])).2 (nats ((rtL T c).take k)) vT vV vF) (fun _ _ i _ => n - (intOf i).toNat)
  case atStart => exact ⟨0, Nat.zero_le _, rfl, _, HS0.out⟩
  case round =>
    clear HS0
    rename World => wr
    obtain ⟨k, hk, rfl, vT, hI⟩ := hrel
    have hzr := hI.bel.size
    obtain ⟨l3, y0, -, y1, -⟩ := (HK2.out.below hI.bel l2).two
    by_cases hlt : k < n
    · have hkl : k < (rtL T c).length := by rw [Hn.out]; exact hlt
      obtain ⟨d, hd⟩ : ∃ d, (rtL T c)[k]? = some d := ⟨(rtL T c)[k], List.getElem?_eq_getElem hkl⟩
      have hdF : d < 3 * F := by have := HLk.out.lt d (List.mem_of_getElem? hd); rw [HF.out] at this; exact this
      obtain ⟨dt, hdt⟩ : ∃ dt, d / 3 = dt := ⟨_, rfl⟩
      have hrO := own_below HrO.out hI.bel
      have hrL := own_below HrL.out hI.bel
      obtain ⟨gO, capO, eO, -, lO⟩ := hrO.form (by omega)
      cases eO
      obtain ⟨gL, capL, eL, -, lL⟩ := hrL.form (by omega)
      cases eL
      have o0 : wr.cell? ⟨gO, k, none⟩ = some (.int .i64 (dt : Int)) := by
        rw [hrO.cellAt k (by omega)]
        unfold intsV nats trisOf
        rw [List.getElem?_map, List.getElem?_map, List.getElem?_map, hd, ← hdt]
        rfl
      obtain ⟨lv, hlv⟩ : ∃ lv : Int, lv = if k = 0 then -1 else (d : Int) := ⟨_, rfl⟩
      have k0 : wr.cell? ⟨gL, dt, none⟩ = some (.int .i64 lv) := by
        rw [hrL.cellAt dt (by omega)]
        unfold intsV
        rw [List.getElem?_map, ← hdt, linkL_at HLk.out.nd hd (by omega), hlv]
        rfl
      have hd0 : k = 0 → d = c := by
        intro e
        subst e
        have : (rtL T c)[0]? = some c := by
          have hp : ∃ m, rtL T c = [c] ++ m := rtL_pre T c
          obtain ⟨m, hm⟩ := hp
          rw [hm]
          rfl
        rw [hd] at this
        exact Option.some.inj this
      have HLv := Lib.hid (And.intro hlv hd0)
      have hki : (k : Int) < (n : Int) := by omega
      have hdi : (dt : Int) < (F : Int) := by omega
      have HI := Lib.hid hI
      have HTk := Lib.hid (numL_take (T := T) hd ([], []))
      have HNk := Lib.hid (show nats ((rtL T c).take (k + 1)) = nats ((rtL T c).take k) ++ [(d : Int)] from by
        rw [List.take_succ_eq_append_getElem hkl]
        have : (rtL T c)[k] = d := by rw [List.getElem?_eq_getElem hkl] at hd; exact Option.some.inj hd
        rw [this]
        simp [nats])
      clear hI hrO hrL hlv hd0 hd hkl hdt
      go_upto_if 47 with fail
      go_cut [13] (fun v13 W => v13 = .int .i64 (d : Int) ∧ W = wr)
      case first =>
        by_cases h0 : k = 0
        · have hl9 := HLv.out.1
          rw [if_pos h0] at hl9
          subst hl9
          have hdc := HLv.out.2 h0
          have HDc := Lib.hid hdc
          clear h0 hdc
          go_wp2
          go_meet
          exact ⟨by rw [HDc.out], rfl⟩
        · have hl9 := HLv.out.1
          rw [if_neg h0] at hl9
          have hd9 : decide (lv < 0) = false := by simp; omega
          have hlv0 : 0 ≤ lv := by omega
          have HLd := Lib.hid hl9
          clear h0 hl9
          go_wp2
          go_meet
          exact ⟨by rw [HLd.out], rfl⟩
      case rest =>
        rename World => W3
        obtain ⟨rfl, hW⟩ := hcut
        subst hW
        obtain ⟨old, hold⟩ : ∃ old, (numL T ((rtL T c).take k) ([], [])).1 = old := ⟨_, rfl⟩
        obtain ⟨TT, hTT⟩ : ∃ TT, (numL T ((rtL T c).take k) ([], [])).2 = TT := ⟨_, rfl⟩
        obtain ⟨fs, hfs⟩ : ∃ fs, nats ((rtL T c).take k) = fs := ⟨_, rfl⟩
        rw [hold, hTT] at HTk
        rw [hfs] at HNk
        rw [hold, hTT, hfs] at HI
        have hlens := numL_len T ((rtL T c).take k) ([], [])
        rw [hold, hTT, List.length_take] at hlens
        simp only [List.length_nil] at hlens
        have hfl : fs.length ≤ 1000 := by rw [← hfs]; simp [nats]; omega
        have hoT : old.length ≤ 3000 ∧ TT.length ≤ 1000 := by omega
        obtain ⟨hol, hTl⟩ := hoT
        clear hold hTT hfs hlens o0 k0 lO lL
        have hA1 := HI.out.alloc (.cells #[.int .i64 (d : Int)] 3)
        have HA1 := Lib.hid hA1
        have c6 : fs.length + 1 ≤ maxLen := by unfold maxLen; omega
        have c7 : (fs.length + 1) * 8 ≤ 140737488355328 := by omega
        clear hA1
        go_upto_region 14 with (at_builtin; go_loud (refine wpList_append_lies _ rfl (.tmp 49) (.tmp 51) 28 rfl w2.heap.size 3 i2 _ 1 8 Tryz.underlying28 hj2 b20 b21 b22 rfl (by decide) _ fs.length (intsV fs) rfl HA1.out.rF ⟨W3.heap.size, 0, none⟩ 1 1 [.int .i64 (d : Int)] rfl rfl (World.news_of_block (heap_alloc_new _ _)) (by simp [Value.oneCell']) (by decide) c6 c7 (by simp; omega) (W3.heap.size + 1) (by simp) ?_); go_loud (intro g8 cap8 W8 hr8 hg8 hat8 hlt8))
        have hd8 := HA1.out.appF hg8 (fs4 := fs ++ [(d : Int)]) (v4 := .slice (some ⟨g8, 0, none⟩) (fs.length + 1) cap8) rfl (by rw [intsV_one1, List.length_append]; exact hr8) (hat8.imp id (fun e => by rw [e]; simp))
        have HNx := Lib.hid (fun (W : World) => next10_any d W (by omega))
        have HPv := Lib.hid (fun (W : World) => prev10_any d W (by omega))
        obtain ⟨nd, hnd⟩ : ∃ nd, Jor.nx d = nd := ⟨_, rfl⟩
        obtain ⟨pd, hpd⟩ : ∃ pd, Jor.pv d = pd := ⟨_, rfl⟩
        have hnF3 : nd < 3 * F := by rw [← hnd]; exact Jor.nx_lt hdF
        have hpF3 : pd < 3 * F := by rw [← hpd]; exact Jor.pv_lt hdF
        rw [hnd] at HNx
        rw [hpd] at HPv
        have HNP := Lib.hid (And.intro hnd hpd)
        have H8 := Lib.hid hd8
        have hz8 := hd8.bel.size
        obtain ⟨l4, y0, -, y1, -⟩ := (HK2.out.below hd8.bel l2).two
        clear hr8 hg8 hat8 hlt8 hd8 hnd hpd y0 y1 l3
        go_upto_region 16 with (first | (go_at_call 42; with_reducible refine (HNx.out _).mono ?_; rintro e W9 ⟨rfl, rfl⟩) | (go_at_call 43; with_reducible refine (HPv.out _).mono ?_; rintro e W9 ⟨rfl, rfl⟩))
        have hA9 := (((Below.refl W9.heap.size W9).alloc (Nat.le_refl _) (.cells #[.int .i64 (d : Int), .int .i64 (nd : Int), .int .i64 (pd : Int)] 3)).alloc (by simp) (.cells #[.int .i64 0, .int .i64 0, .int .i64 0] 72))
        have hI9 := H8.out.below hA9
        have hs9 := (Blk.new W9 3 #[.int .i64 (d : Int), .int .i64 (nd : Int), .int .i64 (pd : Int)]).alloc (.cells #[.int .i64 0, .int .i64 0, .int .i64 0] 72)
        have ht9 : Blk ((W9.alloc (.cells #[.int .i64 (d : Int), .int .i64 (nd : Int), .int .i64 (pd : Int)] 3)).alloc (.cells #[.int .i64 0, .int .i64 0, .int .i64 0] 72)) (W9.heap.size + 1) 72 #[.int .i64 0, .int .i64 0, .int .i64 0] := blk_new_at (by simp)
        have hgs9 := fun e => Nat.lt_irrefl _ (H8.out.rV.lt W9.heap.size e).2
        have hvT : vT.ownBlock ≠ some (W9.heap.size + 1) := fun e => by have := (H8.out.rT.lt _ e).2; omega
        have hget : w2.heap.size ≤ W9.heap.size + 1 := by omega
        generalize (W9.alloc (.cells #[.int .i64 (d : Int), .int .i64 (nd : Int), .int .i64 (pd : Int)] 3)).alloc (.cells #[.int .i64 0, .int .i64 0, .int .i64 0] 72) = Wa at *
        have hgt : W9.heap.size ≠ W9.heap.size + 1 := by omega
        generalize W9.heap.size + 1 = gt at *
        have HI9 := Lib.hid (And.intro hI9 (And.intro hs9 (And.intro ht9 hgs9)))
        have hbxl := hI9.kx.lt
        have hbxt : w2.heap.size ≠ gt := fun e => by
          have h1 := hI9.kx
          rw [e] at h1
          exact h1.ne_ ht9 (by decide) rfl
        generalize W9.heap.size = gs at *
        clear hA9 hI9 hs9 ht9 hgs9 l4
        go_wp2
        go_loopw [10, 16] (fun vV i wy => ∃ q : Nat, q ≤ 3 ∧ i = .int .i64 q ∧ RsSt w2 wy w2.heap.size (addVs old ((vs3 T d).take q)) TT (fs ++ [(d : Int)]) vT vV (.slice (some ⟨g8, 0, none⟩) (fs.length + 1) cap8) ∧ Blk wy gs 3 #[.int .i64 (d : Int), .int .i64 (nd : Int), .int .i64 (pd : Int)] ∧ Blk wy gt 72 (cellsQ old (vs3 T d) q).toArray ∧ vV.ownBlock ≠ some gs) (fun _ i _ => 3 - (intOf i).toNat)
        case atStart => exact ⟨0, by omega, rfl, HI9.out.1, HI9.out.2.1, HI9.out.2.2.1, HI9.out.2.2.2⟩
        case round =>
          clear HI9
          rename World => wy
          obtain ⟨q, hq, rfl, hIq, hsq, htq, hgq⟩ := hrel
          obtain ⟨aV, cV, rfl⟩ := ownsRow_slice hIq.rV
          by_cases hq3 : q < 3
          · obtain ⟨e, heF, hs0, hx0⟩ : ∃ e, e < 3 * F ∧ wy.cell? ⟨gs, q, none⟩ = some (.int .i64 (e : Int)) ∧ (vs3 T d)[q]? = some (vertN T e) := by
              obtain ⟨s0, s1, -, s2, -, s3, -⟩ := hsq.three
              obtain ⟨h1, h2⟩ := HNP.out
              rcases (by omega : q = 0 ∨ q = 1 ∨ q = 2) with rfl | rfl | rfl
              · exact ⟨d, hdF, s1, rfl⟩
              · exact ⟨nd, hnF3, s2, by rw [← h1]; rfl⟩
              · exact ⟨pd, hpF3, s3, by rw [← h2]; rfl⟩
            obtain ⟨x, hx⟩ : ∃ x, vertN T e = x := ⟨_, rfl⟩
            have hqv : q < (vs3 T d).length := by show q < 3; exact hq3
            have hadd : addVs old ((vs3 T d).take (q + 1)) = addV (addVs old ((vs3 T d).take q)) x := by
              rw [List.take_succ_eq_append_getElem hqv, addVs_snoc]
              rw [List.getElem?_eq_getElem hqv] at hx0
              rw [Option.some.inj hx0, hx]
            rw [hx] at hx0
            have hcs := fun (t : Nat) (ht : spot (addVs old ((vs3 T d).take (q + 1))) x = t) => (show (cellsQ old (vs3 T d) q).set q (.int .i64 (t : Int)) = cellsQ old (vs3 T d) (q + 1) from by rw [← ht]; exact cellsQ_step hx0 hq3)
            rw [hadd] at hcs
            have hcl : q < (cellsQ old (vs3 T d) q).length := by rw [cellsQ_len _ _ hq (Nat.le_of_lt hqv)]; exact hq3
            obtain ⟨tu, ht0⟩ : ∃ tu, wy.cell? ⟨gt, q, none⟩ = some tu := ⟨(cellsQ old (vs3 T d) q)[q], by rw [htq.cell]; simp [hcl]⟩
            have hHV := fun (W : World) (hW : Below w.heap.size w W) => HVx.out e heF W hW
            rw [hx] at hHV
            have HV := Lib.hid hHV
            obtain ⟨o', ho'⟩ : ∃ o', addVs old ((vs3 T d).take q) = o' := ⟨_, rfl⟩
            rw [ho'] at hIq hadd hcs hgq ⊢
            have hlo : o'.length ≤ 3003 := by
              have h1 := addVs_len ((vs3 T d).take q) old
              rw [ho', List.length_take] at h1
              have : (vs3 T d).length = 3 := rfl
              omega
            obtain ⟨m, hm⟩ : ∃ m, o'.length = m := ⟨_, rfl⟩
            rw [hm] at hIq hlo hgq ⊢
            have Hm := Lib.hid hm
            have HAd := Lib.hid (And.intro hadd hcs)
            obtain ⟨l5, y0, -, y1, -⟩ := (HK2.out.below hIq.bel l2).two
            have HBq := Lib.hid (fun (dd : Nat) (os : Array Obj) => HB2.out.trans ((hIq.bel.trans ((below_regrown wy dd os).mono hIq.bel.size)).mono hz2))
            have HIq := Lib.hid (And.intro hIq (And.intro hsq htq))
            have hqI : (q : Int) < 3 := by omega
            have hlgs := hsq.lt
            clear hIq hsq htq hx hx0 hm hadd hcs heF hHV hqv hcl ho'
            go_upto_region 19 with fail
            have u0 := cell_regrown y0
            have u1 := cell_regrown y1
            have u2 := cell_regrown hs0
            refine wp_region_quiet_below (by kernel_rfl) (by kernel_rfl) ?_
            repeat (go_big_quiet_step ((go_at_call 44; with_reducible exact Calls.regrown_of (HV.out _ (HBq.out _ _)))))
            refine wpQuiet_nil ?_
            intro _ hw'
            obtain ⟨⟨dq, osq⟩, hw''⟩ := hw'
            subst hw''
            have hI5 := HIq.out.1.below (below_regrown wy dq osq)
            have hs5 := HIq.out.2.1.below (below_regrown wy dq osq) HIq.out.2.1.lt
            have ht5 := HIq.out.2.2.below (below_regrown wy dq osq) HIq.out.2.2.lt
            have t0 := cell_regrown ht0 dq osq
            clear u0 u1 u2 y0 y1 hs0 l5 ht0
            generalize Sort.grow (redrawn wy dq) osq = wz at *
            have H5 := Lib.hid (And.intro hI5 (And.intro hs5 ht5))
            have tf := ht5.frozen q
            have hgtl := ht5.lt
            have hcv : ∀ (t : Nat) (y : Int), o'[t]? = some y → ∃ gV, aV = some ⟨gV, 0, none⟩ ∧ wz.cell? ⟨gV, t, none⟩ = some (.int .i64 y) := by
              intro t y hy
              have htm : t < m := by rw [← Hm.out]; exact (List.getElem?_eq_some_iff.1 hy).1
              obtain ⟨gV, cV', eV, -, -⟩ := hI5.rV.form (by rw [Hm.out]; omega)
              cases eV
              refine ⟨gV, rfl, ?_⟩
              rw [hI5.rV.cellAt t (by rw [Hm.out]; omega)]
              unfold intsV
              rw [List.getElem?_map, hy]
              rfl
            have HCv := Lib.hid hcv
            clear hI5 hs5 ht5 hcv
            go_wp2
            go_loopw [18] (fun i wq => ∃ t : Nat, t ≤ m ∧ i = .int .i64 t ∧ wq = wz ∧ ∀ t', t' < t → o'[t']? ≠ some x) (fun i _ => m - (intOf i).toNat)
            case atStart => exact ⟨0, Nat.zero_le _, rfl, rfl, fun _ h => absurd h (by omega)⟩
            case round =>
              rename World => wq
              obtain ⟨t, htm, rfl, hwq, hno⟩ := hrel
              obtain rfl : wz = wq := hwq.symm
              clear hwq
              have HNo := Lib.hid hno
              clear hno
              by_cases htl : t < m
              · obtain ⟨y, hy⟩ : ∃ y, o'[t]? = some y := ⟨o'[t]'(by rw [Hm.out]; exact htl), List.getElem?_eq_getElem _⟩
                obtain ⟨gV, rfl, hcy⟩ := HCv.out t y hy
                have hti : (t : Int) < (m : Int) := by omega
                by_cases hyx : y = x
                · subst hyx
                  have hmem := mem_of_at hy
                  have hsp := spot_first hy HNo.out
                  have hae : addV o' y = o' := by unfold addV; rw [if_pos hmem]
                  have hc9 := HAd.out.2 t (by rw [hae]; exact hsp)
                  have HA9 := Lib.hid (HAd.out.1.trans hae)
                  have htm2 : ((t : Int) == (m : Int)) = false := by simp; omega
                  have hst := H5.out.2.2.set_ q (.int .i64 (t : Int))
                  rw [List.setIfInBounds_toArray, hc9] at hst
                  have hR9 := H5.out.1.setT (q := q) (u := .int .i64 (t : Int)) H5.out.2.2 hvT hbxt hget
                  have hs9 := H5.out.2.1.far (p := ⟨gt, q, none⟩) hgt (.int .i64 (t : Int))
                  have H9 := Lib.hid (And.intro hR9 (And.intro hs9 hst))
                  clear hy hmem hsp hae hc9 hst hR9 hs9
                  go_wp2
                  go_roundw
                  case measure => simp [intOf]; omega
                  case rel => exact ⟨q + 1, by omega, by go_num, by rw [HA9.out]; exact H9.out.1, H9.out.2.1, H9.out.2.2, hgq⟩
                · have hyxb : (y != x) = true := by simpa using hyx
                  have HN2 := Lib.hid (show ∀ t', t' < t + 1 → o'[t']? ≠ some x from fun t' h => by
                    by_cases e : t' = t
                    · subst e
                      rw [hy]
                      exact fun e => hyx (Option.some.inj e)
                    · exact HNo.out t' (by omega))
                  clear hy hyx
                  go_wp2
                  go_roundw
                  case measure => simp [intOf]; omega
                  case rel => exact ⟨t + 1, by omega, by go_num, by first | rfl | trivial, HN2.out⟩
              · obtain rfl : m = t := by omega
                have hnm := not_mem_all (fun i hi => HNo.out i (by rw [← Hm.out]; exact hi))
                have hae : addV o' x = o' ++ [x] := by unfold addV; rw [if_neg hnm]
                have hc9 := HAd.out.2 m (by rw [hae, spot_new hnm]; exact Hm.out)
                have HA9 := Lib.hid (HAd.out.1.trans hae)
                have HC9 := Lib.hid hc9
                have HA1 := Lib.hid (H5.out.1.alloc (.cells #[.int .i64 x] 3))
                have hrV := HA1.out.rV
                rw [Hm.out] at hrV
                have HrV := Lib.hid hrV
                have hzz := H5.out.1.bel.size
                have hgsl := H5.out.2.1.lt
                have d6 : m + 1 ≤ maxLen := by unfold maxLen; omega
                have d7 : (m + 1) * 8 ≤ 140737488355328 := by omega
                clear hnm hae hc9 hrV HNo
                go_upto_region 25 with (at_builtin; go_loud (refine wpList_append_lies _ rfl (.tmp 88) (.tmp 90) 28 rfl w2.heap.size 3 i2 _ 1 8 Tryz.underlying28 hj2 b20 b21 b22 rfl (by decide) (.slice aV m cV) m (intsV o') rfl HrV.out ⟨wz.heap.size, 0, none⟩ 1 1 [.int .i64 x] rfl rfl (World.news_of_block (heap_alloc_new _ _)) (by simp [Value.oneCell']) (by decide) d6 d7 (by simp; omega) (wz.heap.size + 1) (by simp) ?_); go_loud (intro g9 cap9 W10 hr9 hg9 hat9 hlt9))
                have hl9 : (o' ++ [x]).length = m + 1 := by rw [List.length_append, Hm.out]; rfl
                have hR8 := HA1.out.appV hg9 (old4 := o' ++ [x]) (v4 := .slice (some ⟨g9, 0, none⟩) (m + 1) cap9) rfl (by rw [hl9, intsV_one1]; exact hr9) (hat9.imp id (fun e => by rw [e]; simp))
                have hs8 := (H5.out.2.1.alloc (.cells #[.int .i64 x] 3)).grown hg9 (fun e => hgq e.symm)
                have ht8 := (H5.out.2.2.alloc (.cells #[.int .i64 x] 3)).grown hg9 (fun e => own_blk_ne HrV.out (H5.out.2.2.alloc (.cells #[.int .i64 x] 3)) (by decide) e.symm)
                have hgn : (Value.slice (some ⟨g9, 0, none⟩) (m + 1) cap9).ownBlock ≠ some gs := by
                  intro e
                  have e2 : g9 = gs := by simpa [Value.ownBlock] using e
                  rcases hat9 with h | h
                  · exact hgq (h.trans (by rw [e2]))
                  · omega
                have t9 : W10.cell? ⟨gt, q, none⟩ = some tu := by
                  have ne9 : some gt ≠ (Value.slice aV m cV).ownBlock := fun e => own_blk_ne HrV.out (H5.out.2.2.alloc (.cells #[.int .i64 x] 3)) (by decide) e.symm
                  rw [hg9.cell_far ⟨gt, q, none⟩ (by simp; omega) ne9]
                  have : ((wz.alloc (.cells #[.int .i64 x] 3)).cell? ⟨gt, q, none⟩) = wz.cell? ⟨gt, q, none⟩ := ((Below.refl wz.heap.size wz).alloc (Nat.le_refl _) (.cells #[.int .i64 x] 3)).cell (p := ⟨gt, q, none⟩) hgtl
                  rw [this]
                  exact t0
                have hst := ht8.set_ q (.int .i64 (m : Int))
                rw [List.setIfInBounds_toArray, HC9.out] at hst
                have tf9 := ht8.frozen q
                have hR9 := hR8.setT (q := q) (u := .int .i64 (m : Int)) ht8 hvT hbxt hget
                have hs9 := hs8.far (p := ⟨gt, q, none⟩) hgt (.int .i64 (m : Int))
                have H9 := Lib.hid (And.intro hR9 (And.intro hs9 (And.intro hst hgn)))
                have Hl9 := Lib.hid hl9
                clear hl9 hR8 hs8 ht8 hgn hst hR9 hs9 hr9 hg9 hat9 hlt9 t0 tf
                go_wp2
                go_roundw
                case measure => simp [intOf]; omega
                case rel => exact ⟨q + 1, by omega, by go_num, by rw [HA9.out]; exact H9.out.1, H9.out.2.1, H9.out.2.2.1, H9.out.2.2.2⟩
          · obtain rfl : q = 3 := by omega
            have e3 : (vs3 T d).take 3 = vs3 T d := rfl
            rw [e3, addVs3] at hIq
            rw [cellsQ3] at htq
            obtain ⟨⟨tx, ty, tz⟩, htr⟩ : ∃ t, triT T old d = t := ⟨_, rfl⟩
            rw [htr] at htq HTk
            obtain ⟨lt0, t0, -, t1, -, t2, -⟩ : gt < wy.heap.size ∧ wy.cell? ⟨gt, 0, none⟩ = some (.int .i64 tx) ∧ wy.frozen? ⟨gt, 0, none⟩ = false ∧ wy.cell? ⟨gt, 1, none⟩ = some (.int .i64 ty) ∧ wy.frozen? ⟨gt, 1, none⟩ = false ∧ wy.cell? ⟨gt, 2, none⟩ = some (.int .i64 tz) ∧ wy.frozen? ⟨gt, 2, none⟩ = false := ⟨htq.lt, htq.cell 0, htq.frozen 0, htq.cell 1, htq.frozen 1, htq.cell 2, htq.frozen 2⟩
            obtain ⟨lx, z0, f0, z1, f1⟩ := hIq.kx.two
            have HA1 := Lib.hid (hIq.alloc (.cells #[.int .i64 tx, .int .i64 ty, .int .i64 tz] 72))
            have hzy := hIq.bel.size
            have d6 : TT.length + 1 ≤ maxLen := by unfold maxLen; omega
            have d7 : (TT.length + 1) * 24 ≤ 140737488355328 := by omega
            clear hIq hsq htq e3 htr
            go_upto_region 9 with (at_builtin; go_loud (refine wpList_append_lies _ rfl (.tmp 96) (.tmp 98) 22 rfl w2.heap.size 72 i3 _ 3 24 Tryz.underlying22 hj3 b30 b31 b32 rfl (by decide) vT TT.length (ws3 TT) rfl HA1.out.rT ⟨wy.heap.size, 0, none⟩ 1 1 [.int .i64 tx, .int .i64 ty, .int .i64 tz] rfl rfl (World.news_of_block (heap_alloc_new _ _)) (by simp [Value.oneCell']) (by decide) d6 d7 (by simp; omega) (wy.heap.size + 1) (by simp) ?_); go_loud (intro g9 cap9 W10 hr9 hg9 hat9 hlt9; have h9 := HA1.out.appT hg9 (T4 := TT ++ [(tx, ty, tz)]) (v4 := .slice (some ⟨g9, 0, none⟩) (TT.length + 1) cap9) (by rw [ws3_snoc, List.length_append]; exact hr9); obtain ⟨lx', z0', f0', z1', f1'⟩ := h9.1.two; have H9 := Lib.hid h9.2; clear hr9 hg9 hat9 hlt9 h9))
            go_wp2
            go_roundw
            case measure => simp [intOf]; omega
            case rel => exact ⟨k + 1, by omega, by go_num, _, by rw [HTk.out, HNk.out]; exact H9.out⟩
    · obtain rfl : k = n := by omega
      rw [List.take_of_length_le (by rw [Hn.out]; exact Nat.le_refl _)] at hI
      change RsSt w2 wr w2.heap.size (rtN T c).1 (rtN T c).2 (nats (rtL T c)) vT _ _ at hI
      obtain ⟨aT9, cT9, rfl⟩ := ownsRow_slice hI.rT
      obtain ⟨aV9, cV9, rfl⟩ := ownsRow_slice hI.rV
      obtain ⟨aF9, cF9, rfl⟩ := ownsRow_slice hI.rF
      obtain ⟨lx, z0, f0, z1, f1⟩ := hI.kx.two
      have hkr := HKr2.out.below hI.bel HKr2.out.lt
      have hs2 : w.heap.size + 1 < w2.heap.size := HKr2.out.lt
      obtain ⟨lr, r0, q0, r1, q1⟩ := hkr.two
      have hk1 := hI.kx.set_ 0 (.int .i64 ((rtN T c).1.length : Int))
      rw [List.setIfInBounds_toArray] at hk1
      have hk1 : Blk (wr.setCell ⟨w2.heap.size, 0, none⟩ (.int .i64 ((rtN T c).1.length : Int))) w2.heap.size 24 #[.int .i64 ((rtN T c).1.length : Int), .slice aT9 (rtN T c).2.length cT9] := hk1
      have hr1 := hkr.far (p := ⟨w2.heap.size, 0, none⟩) (fun e => by have e2 : w.heap.size + 1 = w2.heap.size := e; omega) (.int .i64 ((rtN T c).1.length : Int))
      have hr3 := (hr1.set_ 0 (.int .i64 ((rtN T c).1.length : Int))).set_ 1 (.slice aT9 (rtN T c).2.length cT9)
      rw [List.setIfInBounds_toArray, List.setIfInBounds_toArray] at hr3
      have HFin := Lib.hid (show Blk _ (w.heap.size + 1) 24 #[.int .i64 ((rtN T c).1.length : Int), .slice aT9 (rtN T c).2.length cT9] from hr3)
      have own3 : ∀ {e : TypeId} {s m : Nat} {u : Value} {xs : List Value}, wr.ownsRow w2.heap.size e s u m xs → e ≠ 24 → (((wr.setCell ⟨w2.heap.size, 0, none⟩ (.int .i64 ((rtN T c).1.length : Int))).setCell ⟨w.heap.size + 1, 0, none⟩ (.int .i64 ((rtN T c).1.length : Int))).setCell ⟨w.heap.size + 1, 1, none⟩ (.slice aT9 (rtN T c).2.length cT9)).ownsRow w2.heap.size e s u m xs := fun ho hne => own_alloc_st (own_alloc_st (own_alloc_st ho hI.kx hne) hr1 hne) (hr1.set_ 0 (.int .i64 ((rtN T c).1.length : Int))) hne
      have hfl : (nats (rtL T c)).length = (rtL T c).length := by simp [nats]
      have HRows := Lib.hid (And.intro (own3 hI.rT (by decide)) (And.intro (own3 hI.rV (by decide)) (own3 hI.rF (by decide))))
      have HBe := Lib.hid (((HB2.out.trans (hI.bel.mono hz2)).setCell (p := ⟨w2.heap.size, 0, none⟩) hz2 (.int .i64 ((rtN T c).1.length : Int))).setCell (p := ⟨w.heap.size + 1, 0, none⟩) (by simp) (.int .i64 ((rtN T c).1.length : Int)) |>.setCell (p := ⟨w.heap.size + 1, 1, none⟩) (by simp) (.slice aT9 (rtN T c).2.length cT9))
      have Hfl := Lib.hid hfl
      clear hI hkr hk1 hr1 hr3 own3 hfl
      go_wp2
      obtain ⟨-, p0, -, p1, -⟩ := HFin.out.two
      refine bodyPost_ret (v := .tuple #[.agg #[.int .i64 ((rtN T c).1.length : Int), .slice aT9 (rtN T c).2.length cT9], .slice aV9 (rtN T c).1.length cV9, .slice aF9 (nats (rtL T c)).length cF9]) (by simp [results, Tryz.results14, go_sem, p0, p1]) rfl ?_
      exact ⟨_, _, _, rfl, own_lower HRows.out.1 hz2, own_lower HRows.out.2.1 hz2, by
        have h9 := own_lower HRows.out.2.2 hz2
        rw [← Hfl.out]
        exact h9, HBe.out⟩
end Go.Proofs.YtghlnknncahkgaaGreat
