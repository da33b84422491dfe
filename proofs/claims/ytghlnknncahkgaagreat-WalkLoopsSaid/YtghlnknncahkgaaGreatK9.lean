/-
  Texts joined by program: SurB SurC SurD F13 F13B F13C.
-/
import Derived.Test.YtghlnknncahkgaaGreatK8
/-
  gypsumref09.pairs comes to an end.
-/
namespace Go.Proofs.YtghlnknncahkgaaGreat
open Go.RowKit

set_option maxRecDepth 100000 in
set_option maxHeartbeats 4000000 in
theorem pairs9_any (kind : Int) (hkd : kind = 3 ∨ kind = 4) (N : Int) (v : Value) (T : List Tr) (w : World) (h : TrisRd w v T) (hl : T.length ≤ 40) : Calls Tryz.prog 104 #[.agg #[.int .i64 N, v], .int .i64 kind] w (RetW w 10000) := by
  obtain ⟨i1, hi', hy0, hy1, hy2⟩ := info_parts infoWit9
  obtain ⟨a, c, rfl, hc1, hc2, hr⟩ := id h
  have b1 := Blk.new w 24 #[.int .i64 N, .slice a T.length c]
  obtain ⟨l0, x0, -, x1, -⟩ := b1.two
  have hB0 : Below w.heap.size w (w.alloc (.cells #[.int .i64 N, .slice a T.length c] 24)) := (Below.refl _ _).alloc (Nat.le_refl _) _
  have HH := Lib.hid h
  obtain ⟨n, hn⟩ : ∃ n, T.length = n := ⟨_, rfl⟩
  rw [hn] at hl hc1 x0 x1 hB0 b1 l0 ⊢
  have HN := Lib.hid hn
  have HB0 := Lib.hid hB0
  have Hb1 := Lib.hid b1
  have HE := Lib.hid twice9_any
  have HA := Lib.hid has9_any
  have HK := Lib.hid hkd
  clear hr hn h b1 hB0 hkd
  go_enter Tryz.func104, Tryz.ntmps104
  go_wp2
  go_loopw [5, 6] (fun v3 i wr => ∃ (k : Nat) (m : Nat) (xs : List Value) (v' : Value), v' = v3 ∧ k ≤ n ∧ i = .int .i64 k ∧ wr.ownsRow w.heap.size 155 3 v' m xs ∧ m ≤ k * 40 ∧ Blk wr w.heap.size 24 #[.int .i64 N, .slice a n c] ∧ Below w.heap.size w wr) (fun _ i _ => n - (intOf i).toNat)
  case atStart => exact ⟨0, 0, _, _, rfl, Nat.zero_le _, rfl, World.ownsRow_nil _ _ _ _, by omega, Hb1.out, HB0.out⟩
  case round =>
    obtain ⟨k, m, xs, v3, rfl, hk, rfl, hrow, hm, hS, hB⟩ := hrel
    rename World => wr
    clear x0 x1 l0
    obtain ⟨ly, y0, -, y1, -⟩ := hS.two
    have HS := Lib.hid hS
    have HB := Lib.hid hB
    have Hro := Lib.hid hrow
    have hsz := hB.size
    clear hS hB hrow
    by_cases hlt : k < n
    · have hk3 : (k : Int) < (n : Int) := by omega
      have hk0 : (0 : Int) ≤ (k : Int) := by omega
      go_wp2
      go_loopw [5, 7] (fun v5 i wq => ∃ (j : Nat) (m : Nat) (xs : List Value) (v' : Value), v' = v5 ∧ j ≤ k ∧ i = .int .i64 j ∧ wq.ownsRow w.heap.size 155 3 v' m xs ∧ m ≤ k * 40 + j ∧ Blk wq w.heap.size 24 #[.int .i64 N, .slice a n c] ∧ Below w.heap.size w wq) (fun _ i _ => k - (intOf i).toNat)
      case atStart => exact ⟨0, m, xs, _, rfl, by omega, rfl, Hro.out, by omega, HS.out, HB.out⟩
      case round =>
        clear y0 y1 ly hsz
        obtain ⟨j, m, xs, v5, rfl, hj, rfl, hrow, hm, hS, hB⟩ := hrel
        rename World => wq
        obtain ⟨ly, y0, -, y1, -⟩ := hS.two
        have htr := (HH.out.below hB)
        have HS := Lib.hid hS
        have HB := Lib.hid hB
        have Hro := Lib.hid hrow
        have hsz := hB.size
        clear hS hB hrow
        by_cases hjk : j < k
        · have hj3 : (j : Int) < (k : Int) := by omega
          have hj5 : (j : Int) < (n : Int) := by omega
          have hj0 : (0 : Int) ≤ (j : Int) := by omega
          have c3 : m + 1 ≤ maxLen := by unfold maxLen; omega
          have c4 : (m + 1) * 24 ≤ 140737488355328 := by omega
          obtain ⟨⟨x, y, z⟩, ht⟩ : ∃ t, T[j]? = some t := ⟨T[j]'(by have := HN.out; omega), List.getElem?_eq_getElem _⟩
          obtain ⟨⟨x', y', z'⟩, hu⟩ : ∃ t, T[k]? = some t := ⟨T[k]'(by have := HN.out; omega), List.getElem?_eq_getElem _⟩
          obtain ⟨_, _, e1, _, _, hrd⟩ := htr
          cases e1
          obtain ⟨b, o, rfl, hbl, s0, s1, s2⟩ := hrd j x y z ht
          obtain ⟨b', o', e2, hbl', r0, r1, r2⟩ := hrd k x' y' z' hu
          cases e2
          clear hrd ht hu
          go_upto_region 8 with fail
          go_cut [8, 9] (fun v8 v9 W => ∃ p q, v8 = .pointer (some ⟨p, 0, none⟩) ∧ v9 = .pointer (some ⟨q, 0, none⟩) ∧ Blk W p 72 #[.int .i64 x, .int .i64 y, .int .i64 z] ∧ Blk W q 72 #[.int .i64 x', .int .i64 y', .int .i64 z'] ∧ Below wq.heap.size wq W)
          case first =>
            go_region_held3 (fun w' => w'.cell? ⟨w.heap.size, 1, none⟩ = some (.slice (some ⟨b, o, none⟩) n c) ∧ w'.cell? ⟨b, o + j * 3, none⟩ = some (.int .i64 x) ∧ w'.cell? ⟨b, o + j * 3 + 1, none⟩ = some (.int .i64 y) ∧ w'.cell? ⟨b, o + j * 3 + 2, none⟩ = some (.int .i64 z) ∧ w'.cell? ⟨b, o + k * 3, none⟩ = some (.int .i64 x') ∧ w'.cell? ⟨b, o + k * 3 + 1, none⟩ = some (.int .i64 y') ∧ w'.cell? ⟨b, o + k * 3 + 2, none⟩ = some (.int .i64 z')) (go_keep) (fail)
            all_goals
              go_wp2_with fail
              go_meet
              refine ⟨_, _, rfl, rfl, ?_, ?_, ?_⟩
              · repeat (first | with_reducible exact blk_new9 (by simp) | with_reducible refine Blk.drew ?_ | with_reducible refine Blk.alloc ?_ _)
              · repeat (first | with_reducible exact blk_new9 (by simp) | with_reducible refine Blk.drew ?_ | with_reducible refine Blk.alloc ?_ _)
              · exact below_d (((Below.refl _ _).alloc (Nat.le_refl _) _).alloc (by simp) _)
          case rest =>
            obtain ⟨p, q, rfl, rfl, bp, bq, hb8⟩ := hcut
            clear s0 s1 s2 r0 r1 r2 y0 y1
            have HP := Lib.hid bp
            have HQ := Lib.hid bq
            have hrc := own_below9 Hro.out hb8
            have hSc := HS.out.below hb8 ly
            have hBc := HB.out.trans (hb8.mono hsz)
            obtain ⟨lp, p0, -, p1, -, p2, -⟩ := bp.three
            obtain ⟨lq, q0, -, q1, -, q2, -⟩ := bq.three
            have Hrc := Lib.hid hrc
            have HSc := Lib.hid hSc
            have HBc := Lib.hid hBc
            have hszc := hBc.size
            clear bp bq hrc hSc hBc hb8
            rcases HK.out with rfl | rfl
            · go_wp2_with fail
              refine (HE.out _ _ _ _ _ _ _).mono ?_
              rintro e w2 ⟨⟨b2, rfl⟩, hb2⟩
              have hr2 := own_below9 Hrc.out hb2
              have HS2 := Lib.hid (HSc.out.below hb2 HSc.out.lt)
              have HB2 := Lib.hid (HBc.out.trans (hb2.mono hszc))
              have hsz2 := HB2.out.size
              clear hb2 p0 p1 p2 q0 q1 q2
              cases b2
              · have Hr2 := Lib.hid hr2
                clear hr2
                go_wp2
                go_roundw
                case measure => simp [intOf]; omega
                case rel => exact ⟨j + 1, m, _, _, rfl, by omega, by go_num, Hr2.out, by omega, HS2.out, HB2.out⟩
              · go_wp2_with (at_builtin; refine wpList_append_lies _ rfl (.tmp 61) (.tmp 66) 136 rfl w.heap.size 155 i1 _ 3 24 Tryz.underlying136 hi' hy0 hy1 hy2 rfl (by decide) _ _ _ rfl (hr2.alloc _) ⟨w2.heap.size, 0, none⟩ 1 1 [.int .i64 3, .int .i64 j, .int .i64 k] rfl rfl (World.news_of_block (heap_alloc_new _ _)) (by simp [Value.oneCell']) (by decide) c3 c4 (by rw [size_alloc']; omega) (w2.heap.size + 1) (by simp) ?_; intro g4 cap4 W4 hr4 hg4 _ _)
                go_roundw
                case measure => simp [intOf]; omega
                case rel => exact ⟨j + 1, m + 1, _, _, rfl, by omega, by go_num, hr4, by omega, (HS2.out.alloc _).grown hg4 (fun e => own_blk_ne hr2 HS2.out (by decide) e.symm), HB2.out.grown (gGrown (World.grownBy_alloc _ _ _) hg4 (row := v5.ownBlock) (fun _ e => .inl e)) (by omega) (fun j e => (hr2.lt j e).1)⟩
            · go_wp2_with fail
              refine (HA.out _ _ _ _ _).mono ?_
              rintro e w2 ⟨⟨b2, rfl⟩, hb2⟩
              clear p0 p1 p2 q0 q1 q2
              have HP2 := Lib.hid (HP.out.below hb2 lp)
              have HQ2 := Lib.hid (HQ.out.below hb2 lq)
              obtain ⟨lp2, p0, -, p1, -, p2, -⟩ := HP2.out.three
              obtain ⟨lq2, q0, -, q1, -, q2, -⟩ := HQ2.out.three
              have Hr2 := Lib.hid (own_below9 Hrc.out hb2)
              have HS2 := Lib.hid (HSc.out.below hb2 HSc.out.lt)
              have HB2 := Lib.hid (HBc.out.trans (hb2.mono hszc))
              have hsz2 := HB2.out.size
              clear hb2
              cases b2
              · go_wp2
                go_roundw
                case measure => simp [intOf]; omega
                case rel => exact ⟨j + 1, m, _, _, rfl, by omega, by go_num, Hr2.out, by omega, HS2.out, HB2.out⟩
              · go_wp2_with fail
                refine (HA.out _ _ _ _ _).mono ?_
                rintro e w3 ⟨⟨b3, rfl⟩, hb3⟩
                clear p0 p1 p2 q0 q1 q2
                have HP3 := Lib.hid (HP2.out.below hb3 lp2)
                have HQ3 := Lib.hid (HQ2.out.below hb3 lq2)
                obtain ⟨lp3, p0, -, p1, -, p2, -⟩ := HP3.out.three
                obtain ⟨lq3, q0, -, q1, -, q2, -⟩ := HQ3.out.three
                have Hr3 := Lib.hid (own_below9 Hr2.out hb3)
                have HS3 := Lib.hid (HS2.out.below hb3 HS2.out.lt)
                have HB3 := Lib.hid (HB2.out.trans (hb3.mono hsz2))
                have hsz3 := HB3.out.size
                clear hb3
                cases b3
                · go_wp2
                  go_roundw
                  case measure => simp [intOf]; omega
                  case rel => exact ⟨j + 1, m, _, _, rfl, by omega, by go_num, Hr3.out, by omega, HS3.out, HB3.out⟩
                · go_wp2_with fail
                  refine (HA.out _ _ _ _ _).mono ?_
                  rintro e w4 ⟨⟨b4, rfl⟩, hb4⟩
                  clear p0 p1 p2 q0 q1 q2
                  have hr4' := own_below9 Hr3.out hb4
                  have HS4 := Lib.hid (HS3.out.below hb4 HS3.out.lt)
                  have HB4 := Lib.hid (HB3.out.trans (hb4.mono hsz3))
                  have hsz4 := HB4.out.size
                  clear hb4
                  cases b4
                  · have Hr4 := Lib.hid hr4'
                    clear hr4'
                    go_wp2
                    go_roundw
                    case measure => simp [intOf]; omega
                    case rel => exact ⟨j + 1, m, _, _, rfl, by omega, by go_num, Hr4.out, by omega, HS4.out, HB4.out⟩
                  · go_wp2_with (at_builtin; refine wpList_append_lies _ rfl (.tmp 61) (.tmp 66) 136 rfl w.heap.size 155 i1 _ 3 24 Tryz.underlying136 hi' hy0 hy1 hy2 rfl (by decide) _ _ _ rfl (hr4'.alloc _) ⟨w4.heap.size, 0, none⟩ 1 1 [.int .i64 4, .int .i64 j, .int .i64 k] rfl rfl (World.news_of_block (heap_alloc_new _ _)) (by simp [Value.oneCell']) (by decide) c3 c4 (by rw [size_alloc']; omega) (w4.heap.size + 1) (by simp) ?_; intro g4 cap4 W4 hr4 hg4 _ _)
                    go_roundw
                    case measure => simp [intOf]; omega
                    case rel => exact ⟨j + 1, m + 1, _, _, rfl, by omega, by go_num, hr4, by omega, (HS4.out.alloc _).grown hg4 (fun e => own_blk_ne hr4' HS4.out (by decide) e.symm), HB4.out.grown (gGrown (World.grownBy_alloc _ _ _) hg4 (row := v5.ownBlock) (fun _ e => .inl e)) (by omega) (fun j e => (hr4'.lt j e).1)⟩
        · obtain rfl : j = k := by omega
          clear htr
          go_wp2
          go_roundw
          case measure => simp [intOf]; omega
          case rel => exact ⟨j + 1, m, _, _, rfl, by omega, by go_num, Hro.out, by omega, HS.out, HB.out⟩
    · obtain rfl : k = n := by omega
      go_wp2
      go_ret
      exact ⟨_, _, _, rfl, Hro.out, by omega, HB.out⟩
end Go.Proofs.YtghlnknncahkgaaGreat
/-
  gypsumref09.Pinched comes to an end.
-/
namespace Go.Proofs.YtghlnknncahkgaaGreat
open Go.RowKit

theorem infoTri9 : (Tryz.prog.info? 72).map (fun i => (i.zero, i.size, i.bytes)) = some (some (.agg #[.int .i64 0, .int .i64 0, .int .i64 0]), 3, 24) := by kernel_rfl
theorem ws3_snoc9 (L : List Tr) (x y z : Int) : ws3 (L ++ [(x, y, z)]) = ws3 L ++ [.int .i64 x, .int .i64 y, .int .i64 z] := ws3_snoc L x y z
theorem ws3_get9 : ∀ (L : List Tr) (k : Nat) (x y z : Int), L[k]? = some (x, y, z) → (ws3 L)[k * 3]? = some (.int .i64 x) ∧ (ws3 L)[k * 3 + 1]? = some (.int .i64 y) ∧ (ws3 L)[k * 3 + 2]? = some (.int .i64 z)
  | [], k, x, y, z, h => by simp at h
  | (a, b, c) :: L, 0, x, y, z, h => by
    simp at h
    obtain ⟨rfl, rfl, rfl⟩ := h
    simp [ws3, flatT]
  | (a, b, c) :: L, k + 1, x, y, z, h => by
    have ih := ws3_get9 L k x y z (by simpa using h)
    have e : ws3 ((a, b, c) :: L) = .int .i64 a :: .int .i64 b :: .int .i64 c :: ws3 L := by simp [ws3, flatT]
    rw [e]
    have e1 : (k + 1) * 3 = k * 3 + 1 + 1 + 1 := by omega
    rw [e1]
    simpa using ih
theorem ws3_len9 (L : List Tr) : (ws3 L).length = L.length * 3 := by
  induction L with
  | nil => rfl
  | cons a L ih =>
    obtain ⟨x, y, z⟩ := a
    have e : ws3 ((x, y, z) :: L) = .int .i64 x :: .int .i64 y :: .int .i64 z :: ws3 L := by simp [ws3, flatT]
    rw [e]
    simp only [List.length_cons, ih]
    omega
/-- The state between the rounds: the vertex's triangles, and which are come to. -/
structure PS9 (w : World) (m : Nat) (L : List Tr) (gL cL gB : Nat) (W : World) : Prop where
  bs : ∃ bs : List Bool, bs.length = m ∧ W.ownsRow w.heap.size 4 1 (.slice (some ⟨gB, 0, none⟩) m m) m (bools bs)
  tri : W.ownsRow w.heap.size 72 3 (.slice (some ⟨gL, 0, none⟩) m cL) m (ws3 L)
  ll : L.length = m
  below : Below w.heap.size w W
section
variable {w W W' : World} {m gL cL gB : Nat} {L : List Tr}
theorem PS9.le (h : PS9 w m L gL cL gB W) (hb : Below W.heap.size W W') : PS9 w m L gL cL gB W' := by
  obtain ⟨⟨bs, h1, h2⟩, h3, h5, h4⟩ := h
  exact ⟨⟨bs, h1, own_below9 h2 hb⟩, own_below9 h3 hb, h5, h4.trans (hb.mono h4.size)⟩
theorem PS9.bit (h : PS9 w m L gL cL gB W) {i : Nat} (hi : i < m) : ∃ b : Bool, W.cell? ⟨gB, i, none⟩ = some (.bool b) ∧ W.frozen? ⟨gB, i, none⟩ = false := by
  obtain ⟨⟨bs, h1, h2⟩, -, -, -⟩ := h
  obtain ⟨b, hb⟩ : ∃ b, bs[i]? = some b := ⟨bs[i]'(by omega), List.getElem?_eq_getElem _⟩
  exact ⟨b, by rw [h2.cellAt i (by omega), bools, List.getElem?_map, hb]; rfl, h2.frozenAt i⟩
theorem PS9.set_ (h : PS9 w m L gL cL gB W) (i : Nat) : PS9 w m L gL cL gB (W.setCell ⟨gB, i, none⟩ (.bool true)) := by
  obtain ⟨⟨bs, h1, h2⟩, h3, h5, h4⟩ := h
  have hs := h2.stored i (.bool true)
  refine ⟨⟨bs.set i true, by simpa using h1, by rw [← bools_set]; exact hs.1⟩, h3.kept hs.2 (own_own_ne h3 h2 (by decide)), h5, h4.grown hs.2 h4.size (fun j e => (h2.lt j e).1)⟩
theorem PS9.three (h : PS9 w m L gL cL gB W) {i : Nat} (hi : i < m) : ∃ x y z, W.cell? ⟨gL, i * 3, none⟩ = some (.int .i64 x) ∧ W.cell? ⟨gL, i * 3 + 1, none⟩ = some (.int .i64 y) ∧ W.cell? ⟨gL, i * 3 + 2, none⟩ = some (.int .i64 z) := by
  obtain ⟨-, h3, h5, -⟩ := h
  obtain ⟨⟨x, y, z⟩, ht⟩ : ∃ q, L[i]? = some q := ⟨L[i]'(by omega), List.getElem?_eq_getElem _⟩
  obtain ⟨d0, d1, d2⟩ := ws3_get9 L i x y z ht
  refine ⟨x, y, z, ?_, ?_, ?_⟩
  · rw [h3.cellAt _ (by omega)]; exact d0
  · rw [h3.cellAt _ (by omega)]; exact d1
  · rw [h3.cellAt _ (by omega)]; exact d2
theorem PS9.at_ (h : PS9 w m L gL cL gB W) {i j : Nat} (hi : i < m) (hj : j < 3) : ∃ x, W.cell? ⟨gL, i * 3 + j, none⟩ = some (.int .i64 x) := by
  obtain ⟨x, y, z, h0, h1, h2⟩ := h.three hi
  have : j = 0 ∨ j = 1 ∨ j = 2 := by omega
  rcases this with rfl | rfl | rfl
  · exact ⟨_, h0⟩
  · exact ⟨_, h1⟩
  · exact ⟨_, h2⟩
end
set_option maxRecDepth 100000 in
set_option maxHeartbeats 4000000 in
theorem pinched9_any (N u : Int) (v : Value) (T : List Tr) (w : World) (h : TrisRd w v T) (hl : T.length ≤ 40) : Calls Tryz.prog 106 #[.agg #[.int .i64 N, v], .int .i64 u] w (RetB w) := by
  obtain ⟨i1, hi', hy0, hy1, hy2⟩ := info_parts infoTri9
  obtain ⟨i2, hj', hz0, hz1, hz2⟩ := info_parts infoBool
  obtain ⟨a, c, rfl, hc1, hc2, hr⟩ := h
  have b1 := Blk.new w 24 #[.int .i64 N, .slice a T.length c]
  obtain ⟨l0, x0, -, x1, -⟩ := b1.two
  have hB0 : Below w.heap.size w (w.alloc (.cells #[.int .i64 N, .slice a T.length c] 24)) := (Below.refl _ _).alloc (Nat.le_refl _) _
  obtain ⟨n, hn⟩ : ∃ n, T.length = n := ⟨_, rfl⟩
  rw [hn] at hl hc1 x0 x1 hB0 b1 l0 ⊢
  have HR := Lib.hid hr
  have HN := Lib.hid hn
  have HB0 := Lib.hid hB0
  have Hb1 := Lib.hid b1
  have HA := Lib.hid has9_any
  clear hr hn b1 hB0
  go_enter Tryz.func106, Tryz.ntmps106
  go_wp2
  go_loopw [5, 6] (fun v5 i wr => ∃ (k : Nat) (L : List Tr) (v' : Value), v' = v5 ∧ k ≤ n ∧ i = .int .i64 k ∧ wr.ownsRow w.heap.size 72 3 v' L.length (ws3 L) ∧ L.length ≤ k ∧ Blk wr w.heap.size 24 #[.int .i64 N, .slice a n c] ∧ Below w.heap.size w wr) (fun _ i _ => n - (intOf i).toNat)
  case atStart => exact ⟨0, [], _, rfl, Nat.zero_le _, rfl, World.ownsRow_nil _ _ _ _, by simp, Hb1.out, HB0.out⟩
  case round =>
    obtain ⟨k, L, v3, rfl, hk, rfl, hrow, hm, hS, hB⟩ := hrel
    rename World => wr
    clear x0 x1 l0
    obtain ⟨ly, y0, -, y1, -⟩ := hS.two
    have HS := Lib.hid hS
    have HB := Lib.hid hB
    have Hro := Lib.hid hrow
    have hsz := hB.size
    by_cases hlt : k < n
    · have hk3 : (k : Int) < (n : Int) := by omega
      have hk0 : (0 : Int) ≤ (k : Int) := by omega
      obtain ⟨⟨x, y, z⟩, ht⟩ : ∃ t, T[k]? = some t := ⟨T[k]'(by have := HN.out; omega), List.getElem?_eq_getElem _⟩
      obtain ⟨b, o, rfl, hbl, s0, s1, s2⟩ := HR.out k x y z ht
      have s0' := (hB.cell (p := ⟨b, _, none⟩) hbl).trans s0
      have s1' := (hB.cell (p := ⟨b, _, none⟩) hbl).trans s1
      have s2' := (hB.cell (p := ⟨b, _, none⟩) hbl).trans s2
      have c3 : L.length + 1 ≤ maxLen := by unfold maxLen; omega
      have c4 : (L.length + 1) * 24 ≤ 140737488355328 := by omega
      clear ht hS hB hrow
      go_wp2_with fail
      refine (HA.out _ _ _ _ _).mono ?_
      rintro e w2 ⟨⟨b2, rfl⟩, hb2⟩
      have hr2 := own_below9 Hro.out hb2
      have HS2 := Lib.hid (HS.out.below hb2 ly)
      have HB2 := Lib.hid (HB.out.trans (hb2.mono hsz))
      have hsz2 := HB2.out.size
      clear y0 y1 s0' s1' s2' hb2
      obtain ⟨ly2, y0, -, y1, -⟩ := HS2.out.two
      have s0' := (HB2.out.cell (p := ⟨b, _, none⟩) hbl).trans s0
      have s1' := (HB2.out.cell (p := ⟨b, _, none⟩) hbl).trans s1
      have s2' := (HB2.out.cell (p := ⟨b, _, none⟩) hbl).trans s2
      clear s0 s1 s2
      cases b2
      · have Hr2 := Lib.hid hr2
        clear hr2
        go_wp2
        go_roundw
        case measure => simp [intOf]; omega
        case rel => exact ⟨k + 1, L, _, rfl, by omega, by go_num, Hr2.out, by omega, HS2.out, HB2.out⟩
      · go_wp2_with (at_builtin; refine wpList_append_lies _ rfl (.tmp 27) (.tmp 33) 22 rfl w.heap.size 72 i1 _ 3 24 Tryz.underlying22 hi' hy0 hy1 hy2 rfl (by decide) _ _ _ rfl (hr2.alloc _) ⟨w2.heap.size, 0, none⟩ 1 1 [.int .i64 x, .int .i64 y, .int .i64 z] rfl rfl (World.news_of_block (heap_alloc_new _ _)) (by simp [Value.oneCell']) (by decide) c3 c4 (by rw [size_alloc']; omega) (w2.heap.size + 1) (by simp) ?_; intro g4 cap4 W4 hr4 hg4 _ _)
        go_roundw
        case measure => simp [intOf]; omega
        case rel => exact ⟨k + 1, L ++ [(x, y, z)], _, rfl, by omega, by go_num, by rw [ws3_snoc9]; simpa using hr4, by simp; omega, (HS2.out.alloc _).grown hg4 (fun e => own_blk_ne hr2 HS2.out (by decide) e.symm), HB2.out.grown (gGrown (World.grownBy_alloc _ _ _) hg4 (row := v3.ownBlock) (fun _ e => .inl e)) (by omega) (fun j e => (hr2.lt j e).1)⟩
    · obtain rfl : k = n := by omega
      clear HS hS
      obtain ⟨m, hmL⟩ : ∃ m, L.length = m := ⟨_, rfl⟩
      rw [hmL] at hrow hm
      clear Hro
      rcases Nat.eq_zero_or_pos m with hm0 | hm0
      · subst hm0
        have e : ∃ a cc, v3 = .slice a 0 cc := by
          rcases hrow.2 with ⟨rfl, h0⟩ | ⟨g, cap, cur, rfl, _⟩
          · exact ⟨_, _, rfl⟩
          · exact ⟨_, _, rfl⟩
        obtain ⟨a', cc, rfl⟩ := e
        clear hrow hB hmL
        go_wp2
        go_ret
        exact ⟨⟨_, rfl⟩, HB.out⟩
      · obtain ⟨gL, cL, rfl, -, -⟩ := hrow.form hm0
        have HL := Lib.hid hmL
        have Hr := Lib.hid hrow
        have nz : ((m : Int) == 0) = false := by simp; omega
        have hm4 : (0 : Int) < (m : Int) := by omega
        clear hmL hrow hB
        go_wp2_with (at_make; refine wpList_make_full _ rfl (.tmp 39) (.tmp 39) 122 rfl w.heap.size 4 i2 _ 1 Tryz.underlying122 hj' hz0 hz1 .i64 .i64 _ _ m rfl rfl rfl rfl (by rw [hz2]; omega) (by unfold maxLen; omega) (by omega) ?_; intro w1 hr1 hg1; have hbm := below_of_grown hg1 (Nat.le_refl _) (fun j e => by cases e); rw [made_bools] at hr1; have f0 := hr1.frozenAt 0; have c0 : w1.cell? ⟨wr.heap.size, 0, none⟩ = some (.bool false) := by rw [hr1.cellAt 0 (by omega)]; simp [bools, hm0])
        have hps : PS9 w m L gL cL wr.heap.size w1 := ⟨⟨_, by simp, hr1⟩, own_below9 Hr.out hbm, HL.out, HB.out.trans (hbm.mono hsz)⟩
        have HPS := Lib.hid (hps.set_ 0)
        clear hps hr1 hg1 hbm f0 c0 y0 y1 ly
        generalize w1.setCell ⟨wr.heap.size, 0, none⟩ (.bool true) = W1 at *
        go_loopw [45] (fun i W => ∃ q : Nat, q ≤ m ∧ i = .int .i64 q ∧ PS9 w m L gL cL wr.heap.size W) (fun i _ => m - (intOf i).toNat)
        case atStart => exact ⟨0, by omega, rfl, HPS.out⟩
        case round =>
          obtain ⟨q, hq, rfl, hP⟩ := hrel
          rename World => wA
          have HPA := Lib.hid hP
          clear hP
          by_cases hqm : q < m
          · have hq3 : (q : Int) < (m : Int) := by omega
            go_wp2
            go_loopw [8] (fun i W => ∃ i1 : Nat, i1 ≤ m ∧ i = .int .i64 i1 ∧ PS9 w m L gL cL wr.heap.size W) (fun i _ => m - (intOf i).toNat)
            case atStart => exact ⟨0, by omega, rfl, HPA.out⟩
            case round =>
              obtain ⟨i1, hi1, rfl, hP⟩ := hrel
              rename World => wB
              have HPB := Lib.hid hP
              clear hP
              by_cases him : i1 < m
              · have hi3 : (i1 : Int) < (m : Int) := by omega
                have hi0 : (0 : Int) ≤ (i1 : Int) := by omega
                go_wp2
                go_loopw [9] (fun i W => ∃ k1 : Nat, k1 ≤ m ∧ i = .int .i64 k1 ∧ PS9 w m L gL cL wr.heap.size W) (fun i _ => m - (intOf i).toNat)
                case atStart => exact ⟨0, by omega, rfl, HPB.out⟩
                case round =>
                  obtain ⟨k1, hk1, rfl, hP⟩ := hrel
                  rename World => wC
                  have HPC := Lib.hid hP
                  clear hP
                  by_cases hkm : k1 < m
                  · have hk3 : (k1 : Int) < (m : Int) := by omega
                    have hk0 : (0 : Int) ≤ (k1 : Int) := by omega
                    obtain ⟨bi, ci, -⟩ := HPC.out.bit him
                    obtain ⟨bk, ck, fk⟩ := HPC.out.bit hkm
                    cases bi
                    · go_wp2
                      go_roundw
                      case measure => simp [intOf]; omega
                      case rel => exact ⟨k1 + 1, by omega, by go_num, HPC.out⟩
                    · cases bk
                      · go_wp2
                        clear ci ck fk
                        go_loopw [10] (fun i W => ∃ j1 : Nat, j1 ≤ 3 ∧ i = .int .i64 j1 ∧ PS9 w m L gL cL wr.heap.size W) (fun i _ => 3 - (intOf i).toNat)
                        case atStart => exact ⟨0, by omega, rfl, HPC.out⟩
                        case round =>
                          obtain ⟨j1, hj1, rfl, hP⟩ := hrel
                          rename World => wD
                          have HPD := Lib.hid hP
                          clear hP
                          by_cases hj3 : j1 < 3
                          · have hj4 : (j1 : Int) < 3 := by omega
                            have hj0 : (0 : Int) ≤ (j1 : Int) := by omega
                            obtain ⟨x, hx⟩ := HPD.out.at_ him hj3
                            obtain ⟨a1, a2, a3, h1, h2, h3⟩ := HPD.out.three hkm
                            by_cases hxu : x = u
                            · have hxu' : (x != u) = false := by simpa using hxu
                              clear hxu
                              go_wp2
                              go_roundw
                              case measure => simp [intOf]; omega
                              case rel => exact ⟨j1 + 1, by omega, by go_num, HPD.out⟩
                            · have hxu' : (x != u) = true := by simpa using hxu
                              clear hxu
                              go_wp2_with fail
                              refine (HA.out _ _ _ _ _).mono ?_
                              rintro e w2 ⟨⟨b2, rfl⟩, hb2⟩
                              have HP2 := Lib.hid (HPD.out.le hb2)
                              obtain ⟨bk, ck, fk⟩ := HP2.out.bit hkm
                              clear hx h1 h2 h3 hb2
                              cases b2
                              · go_wp2
                                go_roundw
                                case measure => simp [intOf]; omega
                                case rel => exact ⟨j1 + 1, by omega, by go_num, HP2.out⟩
                              · go_wp2
                                go_roundw
                                case measure => simp [intOf]; omega
                                case rel => exact ⟨j1 + 1, by omega, by go_num, HP2.out.set_ _⟩
                          · obtain rfl : j1 = 3 := by omega
                            go_wp2
                            go_roundw
                            case measure => simp [intOf]; omega
                            case rel => exact ⟨k1 + 1, by omega, by go_num, HPD.out⟩
                      · go_wp2
                        go_roundw
                        case measure => simp [intOf]; omega
                        case rel => exact ⟨k1 + 1, by omega, by go_num, HPC.out⟩
                  · obtain rfl : k1 = m := by omega
                    go_wp2
                    go_roundw
                    case measure => simp [intOf]; omega
                    case rel => exact ⟨i1 + 1, by omega, by go_num, HPC.out⟩
              · obtain rfl : i1 = m := by omega
                go_wp2
                go_roundw
                case measure => simp [intOf]; omega
                case rel => exact ⟨q + 1, by omega, by go_num, HPB.out⟩
          · obtain rfl : q = m := by omega
            go_wp2
            go_loopw [12] (fun i W => ∃ i1 : Nat, i1 ≤ q ∧ i = .int .i64 i1 ∧ PS9 w q L gL cL wr.heap.size W) (fun i _ => q - (intOf i).toNat)
            case atStart => exact ⟨0, by omega, rfl, HPA.out⟩
            case round =>
              obtain ⟨i1, hi1, rfl, hP⟩ := hrel
              rename World => wB
              have HPB := Lib.hid hP
              clear hP
              by_cases him : i1 < q
              · have hi3 : (i1 : Int) < (q : Int) := by omega
                have hi0 : (0 : Int) ≤ (i1 : Int) := by omega
                obtain ⟨bi, ci, -⟩ := HPB.out.bit him
                cases bi
                · go_wp2
                  go_ret
                  exact ⟨⟨_, rfl⟩, HPB.out.below⟩
                · go_wp2
                  go_roundw
                  case measure => simp [intOf]; omega
                  case rel => exact ⟨i1 + 1, by omega, by go_num, HPB.out⟩
              · obtain rfl : i1 = q := by omega
                go_wp2
                go_ret
                exact ⟨⟨_, rfl⟩, HPB.out.below⟩
end Go.Proofs.YtghlnknncahkgaaGreat
/-
  gypsumref09.All and Surface come to an end.
-/
namespace Go.Proofs.YtghlnknncahkgaaGreat
open Go.RowKit

theorem own_base9 {w : World} {base base' n s : Nat} {e : TypeId} {v : Value} {xs : List Value} (h : w.ownsRow base e s v n xs) (hb : base' ≤ base) : w.ownsRow base' e s v n xs := by
  obtain ⟨h1, h2 | ⟨g, cap, cur, rfl, a1, a2⟩⟩ := h
  · exact ⟨h1, .inl h2⟩
  · exact ⟨h1, .inr ⟨g, cap, cur, rfl, Nat.le_trans hb a1, a2⟩⟩
/-- A row of witnesses of the call's own, and its argument. -/
structure AS9 (w : World) (N : Int) (vT : Value) (v : Value) (m : Nat) (W : World) : Prop where
  row : ∃ xs, W.ownsRow w.heap.size 155 3 v m xs
  soup : Blk W w.heap.size 24 #[.int .i64 N, vT]
  below : Below w.heap.size w W
theorem AS9.le {w W W' : World} {N : Int} {vT v : Value} {m : Nat} (h : AS9 w N vT v m W) (hb : Below W.heap.size W W') : AS9 w N vT v m W' := by
  obtain ⟨⟨xs, h1⟩, h2, h3⟩ := h
  exact ⟨⟨xs, own_below9 h1 hb⟩, h2.below hb h2.lt, h3.trans (hb.mono h3.size)⟩
theorem AS9.form {w W : World} {N : Int} {vT v : Value} {m : Nat} (h : AS9 w N vT v m W) : ∃ a c, v = .slice a m c := by
  obtain ⟨⟨xs, h1⟩, -, -⟩ := h
  rcases h1.2 with ⟨rfl, h0⟩ | ⟨g, cap, cur, rfl, _⟩
  · rw [h0]; exact ⟨_, _, rfl⟩
  · exact ⟨_, _, rfl⟩
theorem AS9.ret {w W W' : World} {N : Int} {vT v v' : Value} {m : Nat} (h : AS9 w N vT v m W) {n : Nat} {xs : List Value} (h1 : W'.ownsRow W.heap.size 155 3 v' n xs) (hb : Below W.heap.size W W') : AS9 w N vT v' n W' :=
  ⟨⟨xs, own_base9 h1 h.below.size⟩, h.soup.below hb h.soup.lt, h.below.trans (hb.mono h.below.size)⟩
theorem AS9.app {w W W' : World} {N : Int} {vT v v' : Value} {m n : Nat} {xs : List Value} {o : Obj} (h : AS9 w N vT v m W) (h1 : W'.ownsRow w.heap.size 155 3 v' n xs) (hg : (W.alloc o).grownBy W' v.ownBlock) : AS9 w N vT v' n W' := by
  obtain ⟨⟨ys, h2⟩, h3, h4⟩ := h
  refine ⟨⟨xs, h1⟩, (h3.alloc _).grown hg (fun e => own_blk_ne h2 h3 (by decide) e.symm), ?_⟩
  exact h4.grown (gGrown (World.grownBy_alloc _ _ _) hg (row := v.ownBlock) (fun _ e => .inl e)) h4.size (fun j e => (h2.lt j e).1)
set_option maxRecDepth 100000 in
set_option maxHeartbeats 4000000 in
theorem all9_any (N : Int) (v : Value) (T : List Tr) (w : World) (h : TrisRd w v T) (hl : T.length ≤ 40) (hN : N ≤ 120) : Calls Tryz.prog 80 #[.agg #[.int .i64 N, v]] w (RetW w 10000) := by
  obtain ⟨i1, hi', hy0, hy1, hy2⟩ := info_parts infoWit9
  obtain ⟨a, c, rfl, hc1, hc2, hr⟩ := id h
  have b1 := Blk.new w 24 #[.int .i64 N, .slice a T.length c]
  obtain ⟨l0, x0, -, x1, -⟩ := b1.two
  have hB0 : Below w.heap.size w (w.alloc (.cells #[.int .i64 N, .slice a T.length c] 24)) := (Below.refl _ _).alloc (Nat.le_refl _) _
  have HI := Lib.hid (fun (W : World) (hW : Below w.heap.size w W) => index9_any N _ T W (h.below hW) hl)
  have HP3 := Lib.hid (fun (W : World) (hW : Below w.heap.size w W) => pairs9_any 3 (.inl rfl) N _ T W (h.below hW) hl)
  have HP4 := Lib.hid (fun (W : World) (hW : Below w.heap.size w W) => pairs9_any 4 (.inr rfl) N _ T W (h.below hW) hl)
  have HPi := Lib.hid (fun (W : World) (u : Int) (hW : Below w.heap.size w W) => pinched9_any N u _ T W (h.below hW) hl)
  have HA := Lib.hid has9_any
  obtain ⟨n, hn⟩ : ∃ n, T.length = n := ⟨_, rfl⟩
  rw [hn] at hl hc1 x0 x1 hB0 b1 l0 HI HP3 HP4 HPi ⊢
  have HR := Lib.hid hr
  have HN := Lib.hid hn
  have HB0 := Lib.hid hB0
  have Hb1 := Lib.hid b1
  clear hr hn b1 hB0 h
  go_enter Tryz.func80, Tryz.ntmps80
  go_wp2_with fail
  refine (HI.out _ HB0.out).mono ?_
  rintro e w1 ⟨v1, m1, xs1, rfl, hr1, hm1, hb1⟩
  have S1 : AS9 w N (.slice a n c) v1 m1 w1 := ⟨⟨_, own_base9 hr1 (by simp)⟩, Hb1.out.below hb1 l0, HB0.out.trans (hb1.mono HB0.out.size)⟩
  obtain ⟨a1, c1, rfl⟩ := S1.form
  have HS1 := Lib.hid S1
  clear S1 hr1 hb1 x0 x1
  obtain ⟨ly, y0, -, y1, -⟩ := HS1.out.soup.two
  rcases Nat.eq_zero_or_pos m1 with hm0 | hm0
  rotate_left
  · have nz : (0 : Int) < (m1 : Int) := by omega
    go_wp2
    go_ret
    obtain ⟨⟨xs, k1⟩, -, k3⟩ := HS1.out
    exact ⟨_, _, _, rfl, k1, by omega, k3⟩
  subst hm0
  go_wp2
  go_loopw [3, 4] (fun v3 i wr => ∃ (k m : Nat) (v' : Value), v' = v3 ∧ k ≤ n ∧ i = .int .i64 k ∧ AS9 w N (.slice a n c) v' m wr ∧ m ≤ k) (fun _ i _ => n - (intOf i).toNat)
  case atStart => exact ⟨0, 0, _, rfl, by omega, rfl, HS1.out, by omega⟩
  case round =>
    obtain ⟨k, m, v3, rfl, hk, rfl, hS, hm⟩ := hrel
    rename World => wr
    clear y0 y1 ly
    have HS := Lib.hid hS
    obtain ⟨ly, y0, -, y1, -⟩ := hS.soup.two
    obtain ⟨⟨xs, hrow⟩, -, hB⟩ := hS
    have hsz := hB.size
    by_cases hlt : k < n
    · have hk3 : (k : Int) < (n : Int) := by omega
      have hk0 : (0 : Int) ≤ (k : Int) := by omega
      obtain ⟨⟨x, y, z⟩, ht⟩ : ∃ t, T[k]? = some t := ⟨T[k]'(by have := HN.out; omega), List.getElem?_eq_getElem _⟩
      obtain ⟨b, o, rfl, hbl, s0, s1, s2⟩ := HR.out k x y z ht
      have s0' := (hB.cell (p := ⟨b, _, none⟩) hbl).trans s0
      have s1' := (hB.cell (p := ⟨b, _, none⟩) hbl).trans s1
      have s2' := (hB.cell (p := ⟨b, _, none⟩) hbl).trans s2
      have c3 : m + 1 ≤ maxLen := by unfold maxLen; omega
      have c4 : (m + 1) * 24 ≤ 140737488355328 := by omega
      clear ht s0 s1 s2
      have Q : ((x == y) = false ∧ (y == z) = false ∧ (z == x) = false) ∨ ((x == y) = true ∨ ((x == y) = false ∧ (y == z) = true) ∨ ((x == y) = false ∧ (y == z) = false ∧ (z == x) = true)) := by
        cases (x == y) <;> cases (y == z) <;> cases (z == x) <;> simp
      rcases Q with ⟨q1, q2, q3⟩ | q
      · clear hrow hB
        go_wp2
        go_roundw
        case measure => simp [intOf]; omega
        case rel => exact ⟨k + 1, m, _, rfl, by omega, by go_num, HS.out.le ((Below.refl _ _).alloc (Nat.le_refl _) _), by omega⟩
      · have HS' := Lib.hid (HS.out.le ((Below.refl _ _).alloc (Nat.le_refl _) (.cells #[.int .i64 x, .int .i64 y, .int .i64 z] 72)))
        rcases q with q1 | ⟨q1, q2⟩ | ⟨q1, q2, q3⟩
        all_goals go_wp2_with (at_builtin; refine wpList_append_lies _ rfl (.tmp 47) (.tmp 50) 136 rfl w.heap.size 155 i1 _ 3 24 Tryz.underlying136 hi' hy0 hy1 hy2 rfl (by decide) _ _ _ rfl ((hrow.alloc _).alloc _) ⟨wr.heap.size + 1, 0, none⟩ 1 1 [.int .i64 2, .int .i64 k, .int .i64 0] rfl rfl (World.news_of_block (heap_alloc_new2 _ _ _)) (by simp [Value.oneCell']) (by decide) c3 c4 (by rw [size_alloc', size_alloc']; omega) (wr.heap.size + 2) (by simp) ?_; intro g4 cap4 W4 hr4 hg4 _ _)
        all_goals go_roundw
        case measure | measure | measure => simp [intOf]; omega
        case rel | rel | rel => exact ⟨k + 1, m + 1, _, rfl, by omega, by go_num, HS'.out.app hr4 hg4, by omega⟩
    · obtain rfl : k = n := by omega
      clear hrow hB
      obtain ⟨a3, c3, rfl⟩ := HS.out.form
      rcases Nat.eq_zero_or_pos m with hm0 | hm0
      rotate_left
      · have nz : (0 : Int) < (m : Int) := by omega
        go_wp2
        go_ret
        obtain ⟨⟨xs, k1⟩, -, k3⟩ := HS.out
        exact ⟨_, _, _, rfl, k1, by omega, k3⟩
      subst hm0
      go_wp2_with fail
      refine (HP3.out _ HS.out.below).mono ?_
      rintro e w2 ⟨v2, m2, xs2, rfl, hr2, hm2, hb2⟩
      have HS2 := Lib.hid (HS.out.ret hr2 hb2)
      obtain ⟨a2, c2, rfl⟩ := HS2.out.form
      clear y0 y1 ly hr2 hb2
      obtain ⟨ly, y0, -, y1, -⟩ := HS2.out.soup.two
      rcases Nat.eq_zero_or_pos m2 with hm0 | hm0
      rotate_left
      · have nz : (0 : Int) < (m2 : Int) := by omega
        go_wp2
        go_ret
        obtain ⟨⟨xs, k1⟩, -, k3⟩ := HS2.out
        exact ⟨_, _, _, rfl, k1, by omega, k3⟩
      subst hm0
      go_wp2_with fail
      refine (HP4.out _ HS2.out.below).mono ?_
      rintro e w3 ⟨v3, m3, xs3, rfl, hr3, hm3, hb3⟩
      have HS3 := Lib.hid (HS2.out.ret hr3 hb3)
      obtain ⟨a3, c3, rfl⟩ := HS3.out.form
      clear y0 y1 ly hr3 hb3
      obtain ⟨ly, y0, -, y1, -⟩ := HS3.out.soup.two
      rcases Nat.eq_zero_or_pos m3 with hm0 | hm0
      rotate_left
      · have nz : (0 : Int) < (m3 : Int) := by omega
        go_wp2
        go_ret
        obtain ⟨⟨xs, k1⟩, -, k3⟩ := HS3.out
        exact ⟨_, _, _, rfl, k1, by omega, k3⟩
      subst hm0
      go_wp2
      go_loopw [3, 6] (fun v3 i wr => ∃ (j m : Nat) (v' : Value), v' = v3 ∧ (j = 0 ∨ (j : Int) ≤ N) ∧ i = .int .i64 j ∧ AS9 w N (.slice a k c) v' m wr ∧ m ≤ j) (fun _ i _ => N.toNat - (intOf i).toNat)
      case atStart => exact ⟨0, 0, _, rfl, .inl rfl, rfl, HS3.out, by omega⟩
      case round =>
        obtain ⟨j, m, v4, rfl, hj, rfl, hS, hm⟩ := hrel
        rename World => wA
        clear y0 y1 ly HS HS2 HS3 HS1
        have HS := Lib.hid hS
        obtain ⟨ly, y0, -, y1, -⟩ := hS.soup.two
        clear hS
        by_cases hlt : (j : Int) < N
        · go_wp2
          go_loopw [7, 8] (fun v7 i W => ∃ (i1 : Nat) (b : Bool), i1 ≤ k ∧ i = .int .i64 i1 ∧ v7 = .bool b ∧ AS9 w N (.slice a k c) v4 m W) (fun _ i _ => k - (intOf i).toNat)
          case atStart => exact ⟨0, false, by omega, rfl, rfl, HS.out⟩
          case round =>
            obtain ⟨i1x, b, hi1, rfl, rfl, hS⟩ := hrel
            rename World => wB
            have HSB := Lib.hid hS
            obtain ⟨lz, z0, -, z1, -⟩ := hS.soup.two
            by_cases hik : i1x < k
            · have hi3 : (i1x : Int) < (k : Int) := by omega
              have hi0 : (0 : Int) ≤ (i1x : Int) := by omega
              cases b
              · obtain ⟨⟨x, y, z⟩, ht⟩ : ∃ t, T[i1x]? = some t := ⟨T[i1x]'(by have := HN.out; omega), List.getElem?_eq_getElem _⟩
                obtain ⟨b, o, rfl, hbl, s0, s1, s2⟩ := HR.out i1x x y z ht
                have s0' := (hS.below.cell (p := ⟨b, _, none⟩) hbl).trans s0
                have s1' := (hS.below.cell (p := ⟨b, _, none⟩) hbl).trans s1
                have s2' := (hS.below.cell (p := ⟨b, _, none⟩) hbl).trans s2
                clear ht s0 s1 s2 hS
                go_wp2_with fail
                refine (HA.out _ _ _ _ _).mono ?_
                rintro e w5 ⟨⟨b5, rfl⟩, hb5⟩
                have HS5 := Lib.hid (HSB.out.le hb5)
                clear hb5 z0 z1 s0' s1' s2'
                go_wp2
                go_roundw
                case measure => simp [intOf]; omega
                case rel => exact ⟨i1x + 1, b5, by omega, by go_num, rfl, HS5.out⟩
              · clear hS
                go_wp2
                go_roundw
                case measure => simp [intOf]; omega
                case rel => exact ⟨i1x + 1, true, by omega, by go_num, rfl, HSB.out⟩
            · obtain rfl : i1x = k := by omega
              clear hS
              obtain ⟨⟨xs, hrow⟩, -, hB⟩ := HSB.out
              have hsz := hB.size
              have c3 : m + 1 ≤ maxLen := by unfold maxLen; omega
              have c4 : (m + 1) * 24 ≤ 140737488355328 := by omega
              cases b
              · clear hB
                go_wp2_with (at_builtin; refine wpList_append_lies _ rfl (.tmp 93) (.tmp 96) 136 rfl w.heap.size 155 i1 _ 3 24 Tryz.underlying136 hi' hy0 hy1 hy2 rfl (by decide) _ _ _ rfl (hrow.alloc _) ⟨wB.heap.size, 0, none⟩ 1 1 [.int .i64 5, .int .i64 j, .int .i64 0] rfl rfl (World.news_of_block (heap_alloc_new _ _)) (by simp [Value.oneCell']) (by decide) c3 c4 (by rw [size_alloc']; omega) (wB.heap.size + 1) (by simp) ?_; intro g4 cap4 W4 hr4 hg4 _ _)
                go_roundw
                case measure => simp [intOf]; omega
                case rel => exact ⟨j + 1, m + 1, _, rfl, by omega, by go_num, HSB.out.app hr4 hg4, by omega⟩
              · clear hB hrow
                go_wp2
                go_roundw
                case measure => simp [intOf]; omega
                case rel => exact ⟨j + 1, m, _, rfl, by omega, by go_num, HSB.out, by omega⟩
        · obtain ⟨a4, c4, rfl⟩ := HS.out.form
          rcases Nat.eq_zero_or_pos m with hm0 | hm0
          rotate_left
          · have nz : (0 : Int) < (m : Int) := by omega
            go_wp2
            go_ret
            obtain ⟨⟨xs, k1⟩, -, k3⟩ := HS.out
            exact ⟨_, _, _, rfl, k1, by omega, k3⟩
          subst hm0
          go_wp2
          clear hj hlt hm
          go_loopw [3, 9] (fun v3 i wr => ∃ (j m : Nat) (v' : Value), v' = v3 ∧ (j = 0 ∨ (j : Int) ≤ N) ∧ i = .int .i64 j ∧ AS9 w N (.slice a k c) v' m wr ∧ m ≤ j) (fun _ i _ => N.toNat - (intOf i).toNat)
          case atStart => exact ⟨0, 0, _, rfl, .inl rfl, rfl, HS.out, by omega⟩
          case round =>
            obtain ⟨j2, m, v5, rfl, hj, rfl, hS, hm⟩ := hrel
            rename World => wB
            clear y0 y1 ly HS
            have HS := Lib.hid hS
            obtain ⟨ly, y0, -, y1, -⟩ := hS.soup.two
            clear hS
            by_cases hlt : (j2 : Int) < N
            · go_wp2_with fail
              refine (HPi.out _ _ HS.out.below).mono ?_
              rintro e w5 ⟨⟨b5, rfl⟩, hb5⟩
              have HS5 := Lib.hid (HS.out.le hb5)
              clear hb5 y0 y1 ly
              obtain ⟨⟨xs, hrow⟩, -, hB⟩ := HS5.out
              have hsz := hB.size
              have c3 : m + 1 ≤ maxLen := by unfold maxLen; omega
              have c4 : (m + 1) * 24 ≤ 140737488355328 := by omega
              obtain ⟨ly, y0, -, y1, -⟩ := HS5.out.soup.two
              cases b5
              · clear hB hrow
                go_wp2
                go_roundw
                case measure => simp [intOf]; omega
                case rel => exact ⟨j2 + 1, m, _, rfl, by omega, by go_num, HS5.out, by omega⟩
              · clear hB
                go_wp2_with (at_builtin; refine wpList_append_lies _ rfl (.tmp 111) (.tmp 114) 136 rfl w.heap.size 155 i1 _ 3 24 Tryz.underlying136 hi' hy0 hy1 hy2 rfl (by decide) _ _ _ rfl (hrow.alloc _) ⟨w5.heap.size, 0, none⟩ 1 1 [.int .i64 6, .int .i64 j2, .int .i64 0] rfl rfl (World.news_of_block (heap_alloc_new _ _)) (by simp [Value.oneCell']) (by decide) c3 c4 (by rw [size_alloc']; omega) (w5.heap.size + 1) (by simp) ?_; intro g4 cap4 W4 hr4 hg4 _ _)
                go_roundw
                case measure => simp [intOf]; omega
                case rel => exact ⟨j2 + 1, m + 1, _, rfl, by omega, by go_num, HS5.out.app hr4 hg4, by omega⟩
            · go_wp2
              go_ret
              obtain ⟨⟨xs, k1⟩, -, k3⟩ := HS.out
              exact ⟨_, _, _, rfl, k1, by omega, k3⟩
set_option maxHeartbeats 1000000 in
/-- The document's decision comes to an end. -/
theorem surface9_any (N : Int) (v : Value) (T : List Tr) (w : World) (h : TrisRd w v T) (hl : T.length ≤ 40) (hN : N ≤ 120) : Calls Tryz.prog 50 #[.agg #[.int .i64 N, v]] w (RetB w) := by
  have hB0 : Below w.heap.size w (w.alloc (.cells #[.int .i64 N, v] 24)) := (Below.refl _ _).alloc (Nat.le_refl _) _
  have HI := Lib.hid (all9_any N v T _ (h.below hB0) hl hN)
  have b1 := Blk.new w 24 #[.int .i64 N, v]
  obtain ⟨l0, x0, -, x1, -⟩ := b1.two
  have HB0 := Lib.hid hB0
  clear hB0 b1 h
  go_enter Tryz.func50, Tryz.ntmps50
  go_wp2_with fail
  refine HI.out.mono ?_
  rintro e w1 ⟨v1, m1, xs1, rfl, hr1, hm1, hb1⟩
  have hf : ∃ a c, v1 = .slice a m1 c := by
    rcases hr1.2 with ⟨rfl, h0⟩ | ⟨g, cap, cur, rfl, _⟩
    · rw [h0]; exact ⟨_, _, rfl⟩
    · exact ⟨_, _, rfl⟩
  obtain ⟨a1, c1, rfl⟩ := hf
  have HB := Lib.hid (HB0.out.trans (hb1.mono HB0.out.size))
  clear hr1 hb1 x0 x1
  go_wp2
  go_ret
  exact ⟨⟨_, rfl⟩, HB.out⟩
end Go.Proofs.YtghlnknncahkgaaGreat
/-
  gypsumref13.Neighbours, Facing, by walking their texts.
-/
namespace Go.Proofs.YtghlnknncahkgaaGreat
open Go.RowKit Go.Maps

theorem tv0 (x y z : Int) : tv (x, y, z) 0 = x := rfl
theorem tv1 (x y z : Int) : tv (x, y, z) 1 = y := rfl
theorem tv2 (x y z : Int) : tv (x, y, z) 2 = z := rfl
set_option maxRecDepth 100000 in
set_option maxHeartbeats 4000000 in
theorem neigh13_any (x y z x' y' z' : Int) (w : World) : Calls Tryz.prog 83 #[.agg #[.int .i64 x, .int .i64 y, .int .i64 z], .agg #[.int .i64 x', .int .i64 y', .int .i64 z']] w fun e w' => ∃ b : Bool, e = .returned (.bool b) ∧ (b = true ↔ Nb (x, y, z) (x', y', z')) ∧ Below w.heap.size w w' := by
  have bt := (Blk.new w 72 #[.int .i64 x, .int .i64 y, .int .i64 z]).alloc (.cells #[.int .i64 x', .int .i64 y', .int .i64 z'] 72)
  have bu : Blk ((w.alloc (.cells #[.int .i64 x, .int .i64 y, .int .i64 z] 72)).alloc (.cells #[.int .i64 x', .int .i64 y', .int .i64 z'] 72)) (w.heap.size + 1) 72 #[.int .i64 x', .int .i64 y', .int .i64 z'] := blk_new9 (by simp)
  have hB : Below w.heap.size w ((w.alloc (.cells #[.int .i64 x, .int .i64 y, .int .i64 z] 72)).alloc (.cells #[.int .i64 x', .int .i64 y', .int .i64 z'] 72)) := ((Below.refl _ _).alloc (Nat.le_refl _) _).alloc (by simp) _
  go_enter Tryz.func83, Tryz.ntmps83
  go_wp2
  generalize (w.alloc (.cells #[.int .i64 x, .int .i64 y, .int .i64 z] 72)).alloc (.cells #[.int .i64 x', .int .i64 y', .int .i64 z'] 72) = W0 at *
  have HX := Lib.hid (fun (W : World) (hW : Below W0.heap.size W0 W) => And.intro (bt.below hW bt.lt) (bu.below hW bu.lt))
  have HB := Lib.hid hB
  clear bt bu hB
  go_loopw [5] (fun i W => ∃ a : Nat, a ≤ 3 ∧ i = .int .i64 a ∧ Below W0.heap.size W0 W ∧ (∀ a', a' < a → ∀ k, k < 3 → ¬ (tv (x, y, z) a' = tv (x', y', z') ((k + 1) % 3) ∧ tv (x, y, z) ((a' + 1) % 3) = tv (x', y', z') k))) (fun i _ => 3 - (intOf i).toNat)
  case atStart => exact ⟨0, by omega, rfl, Below.refl _ _, fun _ h => absurd h (by omega)⟩
  case round =>
    obtain ⟨a, ha, rfl, hW, hno⟩ := hrel
    rename World => wr
    have HW := Lib.hid hW
    have HNo := Lib.hid hno
    clear hW hno
    by_cases ha3 : a < 3
    · have ha4 : (a : Int) < 3 := by omega
      go_wp2
      go_loopw [6] (fun i W => ∃ k : Nat, k ≤ 3 ∧ i = .int .i64 k ∧ Below W0.heap.size W0 W ∧ (∀ k', k' < k → ¬ (tv (x, y, z) a = tv (x', y', z') ((k' + 1) % 3) ∧ tv (x, y, z) ((a + 1) % 3) = tv (x', y', z') k'))) (fun i _ => 3 - (intOf i).toNat)
      case atStart => exact ⟨0, by omega, rfl, HW.out, fun _ h => absurd h (by omega)⟩
      case round =>
        obtain ⟨k, hk, rfl, hW, hno⟩ := hrel
        rename World => wq
        obtain ⟨bt, bu⟩ := HX.out _ hW
        obtain ⟨lt, p0, -, p1, -, p2, -⟩ := bt.three
        obtain ⟨lu, r0, -, r1, -, r2, -⟩ := bu.three
        have HWq := Lib.hid hW
        have HNq := Lib.hid hno
        clear hW hno bt bu
        by_cases hk3 : k < 3
        · have hk4 : (k : Int) < 3 := by omega
          by_cases h1 : tv (x, y, z) a = tv (x', y', z') ((k + 1) % 3)
          · have q1 : (tv (x, y, z) a == tv (x', y', z') ((k + 1) % 3)) = true := by simpa using h1
            by_cases h2 : tv (x, y, z) ((a + 1) % 3) = tv (x', y', z') k
            · have q2 : (tv (x, y, z) ((a + 1) % 3) == tv (x', y', z') k) = true := by simpa using h2
              have HY : Hid (Nb (x, y, z) (x', y', z')) := Lib.hid ⟨a, k, ha3, hk3, h1, h2⟩
              clear h1 h2 HNq HNo ha hk
              rcases (by omega : a = 0 ∨ a = 1 ∨ a = 2) with rfl | rfl | rfl <;> rcases (by omega : k = 0 ∨ k = 1 ∨ k = 2) with rfl | rfl | rfl <;> simp only [tv0, tv1, tv2, Nat.reduceAdd, Nat.reduceMod] at q1 q2
              all_goals
                go_wp2
                go_quiet (fail)
                go_wp2
                go_ret
                exact ⟨true, rfl, ⟨fun _ => HY.out, fun _ => rfl⟩, below_dn (HB.out.trans (HWq.out.mono HB.out.size)) _⟩
            · have q2 : (tv (x, y, z) ((a + 1) % 3) == tv (x', y', z') k) = false := by simpa using h2
              have HN2 := Lib.hid (show ∀ k', k' < k + 1 → ¬ (tv (x, y, z) a = tv (x', y', z') ((k' + 1) % 3) ∧ tv (x, y, z) ((a + 1) % 3) = tv (x', y', z') k') from fun k' hk' hh => by
                rcases Nat.lt_or_ge k' k with e | e
                · exact HNq.out k' e hh
                · obtain rfl : k' = k := by omega
                  exact h2 hh.2)
              clear h1 h2 HNq ha hk
              rcases (by omega : a = 0 ∨ a = 1 ∨ a = 2) with rfl | rfl | rfl <;> rcases (by omega : k = 0 ∨ k = 1 ∨ k = 2) with rfl | rfl | rfl <;> simp only [tv0, tv1, tv2, Nat.reduceAdd, Nat.reduceMod] at q1 q2
              all_goals
                go_wp2
                go_quiet (fail)
                go_wp2
                go_roundw
              all_goals first
                | (show _ < _; simp [intOf]; done)
                | exact ⟨_, by omega, by go_num, below_dn HWq.out _, HN2.out⟩
          · have q1 : (tv (x, y, z) a == tv (x', y', z') ((k + 1) % 3)) = false := by simpa using h1
            have HN2 := Lib.hid (show ∀ k', k' < k + 1 → ¬ (tv (x, y, z) a = tv (x', y', z') ((k' + 1) % 3) ∧ tv (x, y, z) ((a + 1) % 3) = tv (x', y', z') k') from fun k' hk' hh => by
              rcases Nat.lt_or_ge k' k with e | e
              · exact HNq.out k' e hh
              · obtain rfl : k' = k := by omega
                exact h1 hh.1)
            clear h1 HNq ha hk
            rcases (by omega : a = 0 ∨ a = 1 ∨ a = 2) with rfl | rfl | rfl <;> rcases (by omega : k = 0 ∨ k = 1 ∨ k = 2) with rfl | rfl | rfl <;> simp only [tv0, tv1, tv2, Nat.reduceAdd, Nat.reduceMod] at q1
            all_goals
              go_wp2
              go_quiet (fail)
              go_wp2
              go_roundw
            all_goals first
              | (show _ < _; simp [intOf]; done)
              | exact ⟨_, by omega, by go_num, below_dn HWq.out _, HN2.out⟩
        · obtain rfl : k = 3 := by omega
          go_wp2
          go_roundw
          case measure => simp [intOf]; omega
          case rel =>
            refine ⟨a + 1, by omega, by go_num, HWq.out, fun a' ha' k hk => ?_⟩
            rcases Nat.lt_or_ge a' a with e | e
            · exact HNo.out a' e k hk
            · obtain rfl : a' = a := by omega
              exact HNq.out k hk
    · obtain rfl : a = 3 := by omega
      go_wp2
      go_ret
      exact ⟨false, rfl, ⟨fun h => (by cases h), fun ⟨i, k, hi, hk, h⟩ => absurd h (HNo.out i hi k hk)⟩, HB.out.trans (HW.out.mono HB.out.size)⟩
end Go.Proofs.YtghlnknncahkgaaGreat
/-
  gypsumref13.Facing, gypsumref21.Facing, by walking their texts.
-/
namespace Go.Proofs.YtghlnknncahkgaaGreat
open Go.RowKit Go.Maps

theorem edgeN_at {T : List Tr} {i : Nat} {x y z : Int} (h : T[i]? = some (x, y, z)) : edgeN T (3 * i) = (y, z) ∧ edgeN T (3 * i + 1) = (z, x) ∧ edgeN T (3 * i + 2) = (x, y) := by
  have hv : ∀ k, k < 3 → vertN T (3 * i + k) = tv (x, y, z) k := fun k hk => by
    rw [← tv_vert hk]
    unfold trs
    rw [List.getD_eq_getElem?_getD, h]
    rfl
  have v0 := hv 0 (by omega)
  have v1 := hv 1 (by omega)
  have v2 := hv 2 (by omega)
  rw [tv0] at v0
  rw [tv1] at v1
  rw [tv2] at v2
  have a0 : Jor.nx (3 * i) = 3 * i + 1 := by unfold Jor.nx; omega
  have b0 : Jor.pv (3 * i) = 3 * i + 2 := by unfold Jor.pv; omega
  have a1 : Jor.nx (3 * i + 1) = 3 * i + 2 := by unfold Jor.nx; omega
  have b1 : Jor.pv (3 * i + 1) = 3 * i + 0 := by unfold Jor.pv; omega
  have a2 : Jor.nx (3 * i + 2) = 3 * i + 0 := by unfold Jor.nx; omega
  have b2 : Jor.pv (3 * i + 2) = 3 * i + 1 := by unfold Jor.pv; omega
  unfold edgeN
  rw [a0, b0, a1, b1, a2, b2, v0, v1, v2]
  exact ⟨rfl, rfl, rfl⟩
theorem facI_at {T : List Tr} {k : Nat} {e : Int × Int} (hk : k < 3 * T.length) (h : facFrom T 0 e = facFrom T k e) (he : edgeN T k = e) : facI T e = (k : Int) := by
  unfold facI
  rw [h, facFrom_step hk, if_pos he]
theorem facI_no {T : List Tr} {e : Int × Int} (h : facFrom T 0 e = facFrom T (3 * T.length) e) : facI T e = -1 := by
  unfold facI
  rw [h]
  simp [facFrom]
theorem facFrom_on {T : List Tr} {k : Nat} {e : Int × Int} (hk : k < 3 * T.length) (h : facFrom T 0 e = facFrom T k e) (he : edgeN T k ≠ e) : facFrom T 0 e = facFrom T (k + 1) e := by
  rw [h, facFrom_step hk, if_neg he]
set_option maxRecDepth 100000 in
set_option maxHeartbeats 4000000 in
theorem facing13_any (N a b : Int) (v : Value) (T : List Tr) (w : World) (h : TrisRd w v T) (hl : T.length ≤ 100000) : Calls Tryz.prog 84 #[.agg #[.int .i64 N, v], .int .i64 a, .int .i64 b] w fun e w' => e = .returned (.int .i64 (facI T (a, b))) ∧ Below w.heap.size w w' := by
  have b1 := Blk.new w 24 #[.int .i64 N, v]
  have hB0 : Below w.heap.size w (w.alloc (.cells #[.int .i64 N, v] 24)) := (Below.refl _ _).alloc (Nat.le_refl _) _
  obtain ⟨l0, x0, -, x1, -⟩ := b1.two
  have ht := h.below hB0
  obtain ⟨ad, c, rfl, hc1, hc2, hr⟩ := ht
  obtain ⟨n, hn⟩ : ∃ n, T.length = n := ⟨_, rfl⟩
  obtain ⟨A, hA⟩ : ∃ A, facI T (a, b) = A := ⟨_, rfl⟩
  rw [hn] at hl hc1 x0 x1 hB0 b1 l0 hr ⊢
  rw [hA]
  have HN := Lib.hid hn
  have HA := Lib.hid hA
  have HB := Lib.hid hB0
  have HR := Lib.hid hr
  clear hn hA hB0 hr h b1
  go_enter Tryz.func84, Tryz.ntmps84
  go_wp2
  generalize w.alloc (.cells #[.int .i64 N, .slice ad n c] 24) = W0 at *
  go_loopw [7] (fun i W => ∃ k : Nat, k ≤ n ∧ i = .int .i64 k ∧ W = W0 ∧ facFrom T 0 (a, b) = facFrom T (3 * k) (a, b)) (fun i _ => n - (intOf i).toNat)
  case atStart => exact ⟨0, Nat.zero_le _, rfl, rfl, rfl⟩
  case round =>
    obtain ⟨k, hk, rfl, rfl, hf⟩ := hrel
    have HF := Lib.hid hf
    clear hf
    by_cases hlt : k < n
    · have hk3 : (k : Int) < (n : Int) := by omega
      have hk0 : (0 : Int) ≤ (k : Int) := by omega
      obtain ⟨⟨x, y, z⟩, ht⟩ : ∃ t, T[k]? = some t := ⟨T[k]'(by have := HN.out; omega), List.getElem?_eq_getElem _⟩
      obtain ⟨bb, o, rfl, hbl, s0, s1, s2⟩ := HR.out k x y z ht
      have HE := Lib.hid (edgeN_at ht)
      have HL := Lib.hid (show 3 * k + 2 < 3 * T.length by have := HN.out; omega)
      clear ht
      rename World => W0
      go_wp2
      go_loopw [8] (fun i W => ∃ j : Nat, j ≤ 3 ∧ i = .int .i64 j ∧ W = W0 ∧ facFrom T 0 (a, b) = facFrom T (3 * k + j) (a, b)) (fun i _ => 3 - (intOf i).toNat)
      case atStart => exact ⟨0, by omega, rfl, rfl, HF.out⟩
      case round =>
        obtain ⟨j, hj, rfl, rfl, hf⟩ := hrel
        have HF2 := Lib.hid hf
        clear hf
        rcases (by omega : j = 0 ∨ j = 1 ∨ j = 2 ∨ j = 3) with rfl | rfl | rfl | rfl
        · by_cases h1 : y = a
          · have q1 : (y == a) = true := by simpa using h1
            by_cases h2 : z = b
            · have q2 : (z == b) = true := by simpa using h2
              have HY := Lib.hid (facI_at (by have := HL.out; omega) HF2.out (by rw [Nat.add_zero, HE.out.1, h1, h2]))
              clear h1 h2
              go_wp2
              go_ret
              refine ⟨?_, HB.out⟩
              rw [← HA.out, HY.out]
              first | rfl | (push_cast; rfl) | (push_cast; simp)
            · have q2 : (z == b) = false := by simpa using h2
              have HY := Lib.hid (facFrom_on (by have := HL.out; omega) HF2.out (by rw [Nat.add_zero, HE.out.1]; intro e; cases e; exact h2 rfl))
              clear h1 h2
              go_wp2
              go_roundw
              case measure => simp [intOf]
              case rel => exact ⟨1, by omega, by go_num, by first | rfl | trivial, HY.out⟩
          · have q1 : (y == a) = false := by simpa using h1
            have HY := Lib.hid (facFrom_on (by have := HL.out; omega) HF2.out (by rw [Nat.add_zero, HE.out.1]; intro e; cases e; exact h1 rfl))
            clear h1
            go_wp2
            go_roundw
            case measure => simp [intOf]
            case rel => exact ⟨1, by omega, by go_num, by first | rfl | trivial, HY.out⟩
        · by_cases h1 : z = a
          · have q1 : (z == a) = true := by simpa using h1
            by_cases h2 : x = b
            · have q2 : (x == b) = true := by simpa using h2
              have HY := Lib.hid (facI_at (by have := HL.out; omega) HF2.out (by rw [HE.out.2.1, h1, h2]))
              clear h1 h2
              go_wp2
              go_ret
              refine ⟨?_, HB.out⟩
              rw [← HA.out, HY.out]
              first | rfl | (push_cast; rfl) | (push_cast; simp)
            · have q2 : (x == b) = false := by simpa using h2
              have HY := Lib.hid (facFrom_on (by have := HL.out; omega) HF2.out (by rw [HE.out.2.1]; intro e; cases e; exact h2 rfl))
              clear h1 h2
              go_wp2
              go_roundw
              case measure => simp [intOf]
              case rel => exact ⟨2, by omega, by go_num, by first | rfl | trivial, HY.out⟩
          · have q1 : (z == a) = false := by simpa using h1
            have HY := Lib.hid (facFrom_on (by have := HL.out; omega) HF2.out (by rw [HE.out.2.1]; intro e; cases e; exact h1 rfl))
            clear h1
            go_wp2
            go_roundw
            case measure => simp [intOf]
            case rel => exact ⟨2, by omega, by go_num, by first | rfl | trivial, HY.out⟩
        · by_cases h1 : x = a
          · have q1 : (x == a) = true := by simpa using h1
            by_cases h2 : y = b
            · have q2 : (y == b) = true := by simpa using h2
              have HY := Lib.hid (facI_at (by have := HL.out; omega) HF2.out (by rw [HE.out.2.2, h1, h2]))
              clear h1 h2
              go_wp2
              go_ret
              refine ⟨?_, HB.out⟩
              rw [← HA.out, HY.out]
              first | rfl | (push_cast; rfl) | (push_cast; simp)
            · have q2 : (y == b) = false := by simpa using h2
              have HY := Lib.hid (facFrom_on (by have := HL.out; omega) HF2.out (by rw [HE.out.2.2]; intro e; cases e; exact h2 rfl))
              clear h1 h2
              go_wp2
              go_roundw
              case measure => simp [intOf]
              case rel => exact ⟨3, by omega, by go_num, by first | rfl | trivial, HY.out⟩
          · have q1 : (x == a) = false := by simpa using h1
            have HY := Lib.hid (facFrom_on (by have := HL.out; omega) HF2.out (by rw [HE.out.2.2]; intro e; cases e; exact h1 rfl))
            clear h1
            go_wp2
            go_roundw
            case measure => simp [intOf]
            case rel => exact ⟨3, by omega, by go_num, by first | rfl | trivial, HY.out⟩
        · go_wp2
          go_roundw
          case measure => simp [intOf]; omega
          case rel => exact ⟨k + 1, by omega, by go_num, by first | rfl | trivial, by rw [show 3 * (k + 1) = 3 * k + 3 from by omega]; exact HF2.out⟩
    · obtain rfl : k = n := by omega
      have HY := Lib.hid (facI_no (T := T) (e := (a, b)) (by rw [HN.out]; exact HF.out))
      go_wp2
      go_ret
      exact ⟨by rw [← HA.out, HY.out]; rfl, HB.out⟩
set_option maxHeartbeats 1000000 in
theorem facing21_any (N a b : Int) (v : Value) (T : List Tr) (w : World) (h : TrisRd w v T) (hl : T.length ≤ 100000) : Calls Tryz.prog 55 #[.agg #[.int .i64 N, v], .int .i64 a, .int .i64 b] w fun e w' => e = .returned (.int .i64 (facI T (a, b))) ∧ Below w.heap.size w w' := by
  have b1 := Blk.new w 24 #[.int .i64 N, v]
  have hB0 : Below w.heap.size w (w.alloc (.cells #[.int .i64 N, v] 24)) := (Below.refl _ _).alloc (Nat.le_refl _) _
  obtain ⟨l0, x0, -, x1, -⟩ := b1.two
  have HF := Lib.hid (facing13_any N a b v T _ (h.below hB0) hl)
  have HB := Lib.hid hB0
  clear h hB0 b1
  go_enter Tryz.func55, Tryz.ntmps55
  go_wp2_with fail
  refine HF.out.mono ?_
  rintro e w1 ⟨rfl, hb⟩
  have HB1 := Lib.hid (HB.out.trans (hb.mono HB.out.size))
  clear hb x0 x1
  go_wp2
  go_ret
  exact ⟨rfl, HB1.out⟩
end Go.Proofs.YtghlnknncahkgaaGreat
/-
  gypsumref13.Of, by walking its text: all numbers are 0 just if the triangles hang together.
-/
namespace Go.Proofs.YtghlnknncahkgaaGreat
open Go.RowKit Go.Maps

def gt (l : List Int) (j : Nat) : Int := l.getD j 0
theorem gt_set {l : List Int} {i : Nat} (x : Int) (h : i < l.length) : gt (l.set i x) = updN (gt l) i x := by
  funext j
  unfold gt updN
  rw [List.getD_eq_getElem?_getD, List.getElem?_set]
  by_cases e : i = j
  · subst e
    rw [if_pos rfl, if_pos h, if_pos rfl]
    rfl
  · rw [if_neg e, if_neg (fun h => e h.symm)]
    exact (List.getD_eq_getElem?_getD).symm
/-- The labels while they sink. -/
structure OF (w : World) (F : Nat) (N : Int) (vT : Value) (g : Nat) (out : List Int) (W : World) : Prop where
  row : W.ownsRow w.heap.size 3 1 (.slice (some ⟨g, 0, none⟩) F F) F (intsV out)
  len : out.length = F
  soup : Blk W w.heap.size 24 #[.int .i64 N, vT]
  below : Below w.heap.size w W
section
variable {w W W' : World} {F : Nat} {N : Int} {vT : Value} {g : Nat} {out : List Int}
theorem OF.le (h : OF w F N vT g out W) (hb : Below W.heap.size W W') : OF w F N vT g out W' := ⟨own_below9 h.row hb, h.len, h.soup.below hb h.soup.lt, h.below.trans (hb.mono h.below.size)⟩
theorem cell_gt {base : Nat} {xs : List Int} {n : Nat} (h : W.ownsRow base 3 1 (.slice (some ⟨g, 0, none⟩) n n) n (intsV xs)) (hl : xs.length = n) {i : Nat} (hi : i < n) : W.cell? ⟨g, i, none⟩ = some (.int .i64 (gt xs i)) := by
  rw [h.cellAt i (by omega), intsV, List.getElem?_map]
  have : i < xs.length := by omega
  rw [List.getElem?_eq_getElem this]
  unfold gt
  rw [List.getD_eq_getElem?_getD, List.getElem?_eq_getElem this]
  rfl
theorem OF.lt (h : OF w F N vT g out W) : g < W.heap.size := (h.row.lt g rfl).2
theorem OF.cell (h : OF w F N vT g out W) {i : Nat} (hi : i < F) : W.cell? ⟨g, i, none⟩ = some (.int .i64 (gt out i)) ∧ W.frozen? ⟨g, i, none⟩ = false :=
  ⟨cell_gt h.row h.len hi, h.row.frozenAt i⟩
theorem OF.put (h : OF w F N vT g out W) (i : Nat) (x : Int) : OF w F N vT g (out.set i x) (W.setCell ⟨g, i, none⟩ (.int .i64 x)) := by
  obtain ⟨k1, k2⟩ := h.row.stored i (.int .i64 x)
  rw [intsV_set] at k1
  refine ⟨k1, by rw [List.length_set]; exact h.len, ?_, h.below.grown k2 h.below.size (fun k e => (h.row.lt k e).1)⟩
  refine h.soup.grown k2 (fun e => own_blk_ne h.row h.soup (by decide) e.symm)
end
theorem lab_start {F : Nat} {R : Nat → Nat → Prop} {out : List Int} (h : ∀ j, j < F → gt out j = j) : Lab F R (gt out) :=
  ⟨fun i hi => by rw [h i hi]; omega, fun S _ i hi hs => by rw [h i hi] at hs; simpa using hs⟩
theorem zs_more {F : Nat} {R : Nat → Nat → Prop} {p o : Nat → Int} (h : Rnd F R p o F 0) (hp : Lab F R p) (hF : 0 < F) (hH : Hang F R) {q : Nat} (hz : min (q + 1) F ≤ zs F p) : min (q + 2) F ≤ zs F o := by
  rcases Nat.lt_or_ge (q + 1) F with e | e
  · have := h.more hp hF hH (r := q + 1) (by omega) e
    omega
  · have := h.more hp hF hH (r := F - 1) (by omega) (by omega)
    omega
set_option maxRecDepth 100000 in
set_option maxHeartbeats 8000000 in
theorem of13_any (N : Int) (v : Value) (T : List Tr) (w : World) (h : TrisRd w v T) (hl : T.length ≤ 40) : Calls Tryz.prog 54 #[.agg #[.int .i64 N, v]] w fun e w' =>
    ∃ v' nums, e = .returned v' ∧ w'.ownsRow w.heap.size 3 1 v' T.length (intsV nums) ∧ nums.length = T.length ∧ (0 < T.length → ((∀ j, j < T.length → gt nums j = 0) ↔ Hang T.length (NbT T))) ∧ Below w.heap.size w w' := by
  obtain ⟨i1, hi', hy0, hy1, hy2⟩ := info_parts infoInt
  have b1 := Blk.new w 24 #[.int .i64 N, v]
  have hB0 : Below w.heap.size w (w.alloc (.cells #[.int .i64 N, v] 24)) := (Below.refl _ _).alloc (Nat.le_refl _) _
  obtain ⟨l0, x0, -, x1, -⟩ := b1.two
  obtain ⟨ad, c, rfl, hc1, hc2, hr⟩ := h
  have HRr : Hid (∀ i, i < T.length → ∃ x y z b o, trs T i = (x, y, z) ∧ ad = some ⟨b, o, none⟩ ∧ b < w.heap.size ∧ w.cell? ⟨b, o + i * 3, none⟩ = some (.int .i64 x) ∧ w.cell? ⟨b, o + i * 3 + 1, none⟩ = some (.int .i64 y) ∧ w.cell? ⟨b, o + i * 3 + 2, none⟩ = some (.int .i64 z)) := Lib.hid (fun i hi => by
    obtain ⟨⟨x, y, z⟩, ht⟩ : ∃ t, T[i]? = some t := ⟨T[i], List.getElem?_eq_getElem _⟩
    obtain ⟨b, o, e, hb, s0, s1, s2⟩ := hr i x y z ht
    exact ⟨x, y, z, b, o, by unfold trs; rw [List.getD_eq_getElem?_getD, ht]; rfl, e, hb, s0, s1, s2⟩)
  obtain ⟨R, hR⟩ : ∃ R, NbT T = R := ⟨_, rfl⟩
  have HNb : Hid (∀ i k, R i k ↔ Nb (trs T i) (trs T k)) := Lib.hid (fun i k => by rw [← hR]; exact Iff.rfl)
  rw [hR]
  obtain ⟨n, hn⟩ : ∃ n, T.length = n := ⟨_, rfl⟩
  rw [hn] at hl hc1 x0 x1 hB0 b1 l0 HRr ⊢
  have HC := Lib.hid neigh13_any
  clear hr hn hR
  go_enter Tryz.func54, Tryz.ntmps54
  go_wp2_with (at_make; refine wpList_make_full _ rfl (.tmp 12) (.tmp 12) 28 rfl w.heap.size 3 i1 _ 1 Tryz.underlying28 hi' hy0 hy1 .i64 .i64 _ _ n rfl rfl rfl rfl (by rw [hy2]; omega) (by unfold maxLen; omega) (by rw [size_alloc']; omega) ?_; intro w1 hr1 hg1; have k1 := b1.grown hg1 (by simp); obtain ⟨l1, y0, -, y1, -⟩ := k1.two)
  have hz : (madeCells (Value.int IntKind.i64 0).cells (n * 1)).toList = intsV (List.replicate n 0) := by
    rw [Nat.mul_one]
    show (madeCells #[Value.int IntKind.i64 0] n).toList = _
    rw [toList_madeCells_one]
    simp [intsV]
  rw [hz, size_alloc'] at hr1
  have hO : OF w n N (.slice ad n c) (w.heap.size + 1) (List.replicate n 0) w1 := ⟨hr1, by simp, k1, hB0.grown hg1 (by rw [size_alloc']; omega) (fun j e => by cases e)⟩
  have HO := Lib.hid hO
  clear hr1 hg1 k1 b1 x0 x1 l0 hB0 hO hz y0 y1 l1
  generalize hg : w.heap.size + 1 = g at *
  clear hg
  go_loopw [4] (fun i wr => ∃ (k : Nat) (out : List Int), k ≤ n ∧ i = .int .i64 k ∧ OF w n N (.slice ad n c) g out wr ∧ ∀ j, j < k → gt out j = j) (fun i _ => n - (intOf i).toNat)
  case atStart => exact ⟨0, _, Nat.zero_le _, rfl, HO.out, fun _ h => absurd h (by omega)⟩
  case round =>
    obtain ⟨k, out, hk, rfl, hO, hid⟩ := hrel
    rename World => wr
    clear HO
    have HO := Lib.hid hO
    have HId := Lib.hid hid
    clear hid
    by_cases hlt : k < n
    · have hk3 : (k : Int) < (n : Int) := by omega
      have hk0 : (0 : Int) ≤ (k : Int) := by omega
      obtain ⟨c0, f0⟩ := hO.cell hlt
      clear hO
      go_wp2
      go_roundw
      case measure => simp [intOf]; omega
      case rel =>
        refine ⟨k + 1, _, by omega, by go_num, HO.out.put k _, fun j hj => ?_⟩
        rw [gt_set _ (by rw [HO.out.len]; exact hlt)]
        unfold updN
        by_cases e : j = k
        · rw [if_pos e, e]
        · rw [if_neg e]; exact HId.out j (by omega)
    · obtain rfl : k = n := by omega
      clear hO hk hlt
      go_wp2
      rename World => wS
      go_loopw [26] (fun i wr => ∃ (q : Nat) (out : List Int), q ≤ k ∧ i = .int .i64 q ∧ OF w k N (.slice ad k c) g out wr ∧ Lab k R (gt out) ∧ (0 < k → Hang k R → min (q + 1) k ≤ zs k (gt out))) (fun i _ => k - (intOf i).toNat)
      case atStart => exact ⟨0, out, Nat.zero_le _, rfl, HO.out, lab_start HId.out, fun hk _ => by have := (lab_start (R := R) HId.out).one hk; omega⟩
      case round =>
        clear HO HId
        obtain ⟨q, out, hq, rfl, hO, hLab, hZ⟩ := hrel
        rename World => wA
        have HO := Lib.hid hO
        have HLab := Lib.hid hLab
        have HZ := Lib.hid hZ
        clear hO hLab hZ
        by_cases hqn : q < k
        · have hq3 : (q : Int) < (k : Int) := by omega
          obtain ⟨p, hp⟩ : ∃ p, gt out = p := ⟨_, rfl⟩
          have HP := Lib.hid hp
          clear hp
          go_wp2
          go_loopw [5] (fun i wr => ∃ (i1 : Nat) (out : List Int), i1 ≤ k ∧ i = .int .i64 i1 ∧ OF w k N (.slice ad k c) g out wr ∧ Rnd k R p (gt out) i1 0) (fun i _ => k - (intOf i).toNat)
          case atStart => exact ⟨0, out, Nat.zero_le _, rfl, HO.out, by rw [HP.out]; exact Rnd.begin_ (by rw [← HP.out]; exact HLab.out)⟩
          case round =>
            clear HO
            obtain ⟨i1, out1, hi1, rfl, hO, hRn⟩ := hrel
            rename World => wB
            have HO := Lib.hid hO
            have HRn := Lib.hid hRn
            clear hO hRn
            by_cases hin : i1 < k
            · have hi3 : (i1 : Int) < (k : Int) := by omega
              have hi0 : (0 : Int) ≤ (i1 : Int) := by omega
              go_wp2
              go_loopw [6] (fun i wr => ∃ (k1 : Nat) (out : List Int), k1 ≤ k ∧ i = .int .i64 k1 ∧ OF w k N (.slice ad k c) g out wr ∧ Rnd k R p (gt out) i1 k1) (fun i _ => k - (intOf i).toNat)
              case atStart => exact ⟨0, out1, Nat.zero_le _, rfl, HO.out, HRn.out⟩
              case round =>
                clear HO HRn
                obtain ⟨k1, out2, hk1, rfl, hO, hRn⟩ := hrel
                rename World => wC
                have HO := Lib.hid hO
                have HRn := Lib.hid hRn
                clear hO hRn
                by_cases hkn : k1 < k
                · have hk3 : (k1 : Int) < (k : Int) := by omega
                  have hk0 : (0 : Int) ≤ (k1 : Int) := by omega
                  obtain ⟨ci, fi⟩ := HO.out.cell hin
                  obtain ⟨ck, -⟩ := HO.out.cell hkn
                  obtain ⟨li, hli⟩ : ∃ z, gt out2 i1 = z := ⟨_, rfl⟩
                  obtain ⟨lk, hlk⟩ : ∃ z, gt out2 k1 = z := ⟨_, rfl⟩
                  rw [hli] at ci
                  rw [hlk] at ck
                  have Hli := Lib.hid hli
                  have Hlk := Lib.hid hlk
                  clear hli hlk
                  obtain ⟨ls, s0, -, s1, -⟩ := HO.out.soup.two
                  by_cases hlt : lk < li
                  · obtain ⟨x, y, z, b, o, ht, rfl, hbl, r0, r1, r2⟩ := HRr.out i1 hin
                    obtain ⟨x', y', z', b', o', hu, e2, hbl', t0, t1, t2⟩ := HRr.out k1 hkn
                    cases e2
                    have r0' := (HO.out.below.cell (p := ⟨b, _, none⟩) hbl).trans r0
                    have r1' := (HO.out.below.cell (p := ⟨b, _, none⟩) hbl).trans r1
                    have r2' := (HO.out.below.cell (p := ⟨b, _, none⟩) hbl).trans r2
                    have t0' := (HO.out.below.cell (p := ⟨b, _, none⟩) hbl).trans t0
                    have t1' := (HO.out.below.cell (p := ⟨b, _, none⟩) hbl).trans t1
                    have t2' := (HO.out.below.cell (p := ⟨b, _, none⟩) hbl).trans t2
                    have HNm := Lib.hid (show R i1 k1 ↔ Nb (x, y, z) (x', y', z') by rw [HNb.out, ht, hu])
                    clear r0 r1 r2 t0 t1 t2 ht hu
                    have hlt' : decide (lk < li) = true := by simpa using hlt
                    have hszC := HO.out.below.size
                    have hgC := HO.out.lt
                    have hbl2 : b < wC.heap.size := by omega
                    clear fi
                    go_upto_region 14 with fail
                    go_cut [61] (fun v61 W => ∃ b1 : Bool, v61 = .bool b1 ∧ (b1 = true ↔ Nb (x, y, z) (x', y', z')) ∧ Below wC.heap.size wC W)
                    case first =>
                      go_region_held3 (fun w' => w'.cell? ⟨g, k1, none⟩ = some (.int .i64 lk) ∧ w'.cell? ⟨g, i1, none⟩ = some (.int .i64 li) ∧ w'.cell? ⟨w.heap.size, 1, none⟩ = some (.slice (some ⟨b, o, none⟩) k c) ∧ w'.cell? ⟨b, o + i1 * 3, none⟩ = some (.int .i64 x) ∧ w'.cell? ⟨b, o + i1 * 3 + 1, none⟩ = some (.int .i64 y) ∧ w'.cell? ⟨b, o + i1 * 3 + 2, none⟩ = some (.int .i64 z) ∧ w'.cell? ⟨b, o + k1 * 3, none⟩ = some (.int .i64 x') ∧ w'.cell? ⟨b, o + k1 * 3 + 1, none⟩ = some (.int .i64 y') ∧ w'.cell? ⟨b, o + k1 * 3 + 2, none⟩ = some (.int .i64 z')) (go_keep)
                        (first
                          | (go_at_call 83; refine (HC.out _ _ _ _ _ _ _).mono ?_; rintro e w3 ⟨b1, rfl, hiff, hb3⟩; have HI3 := Lib.hid hiff; clear hiff; have q0 := (hb3.cell (p := ⟨g, k1, none⟩) hgC).trans ck; have q1 := (hb3.cell (p := ⟨g, i1, none⟩) hgC).trans ci; have q2 := (hb3.cell (p := ⟨w.heap.size, 1, none⟩) ls).trans s1; have q3 := (hb3.cell (p := ⟨b, o + i1 * 3, none⟩) hbl2).trans r0'; have q4 := (hb3.cell (p := ⟨b, o + i1 * 3 + 1, none⟩) hbl2).trans r1'; have q5 := (hb3.cell (p := ⟨b, o + i1 * 3 + 2, none⟩) hbl2).trans r2'; have q6 := (hb3.cell (p := ⟨b, o + k1 * 3, none⟩) hbl2).trans t0'; have q7 := (hb3.cell (p := ⟨b, o + k1 * 3 + 1, none⟩) hbl2).trans t1'; have q8 := (hb3.cell (p := ⟨b, o + k1 * 3 + 2, none⟩) hbl2).trans t2'))
                      all_goals
                        go_wp2_with fail
                        go_meet
                        exact ⟨_, rfl, HI3.out, ⟨hb3.os, hb3.tape, hb3.output, hb3.size, hb3.block⟩⟩
                    case rest =>
                      obtain ⟨b1, rfl, hiff, hbC⟩ := hcut
                      have HOc := Lib.hid (HO.out.le hbC)
                      have HI := Lib.hid (hiff.symm.trans Iff.rfl)
                      clear hiff hbC ci ck r0' r1' r2' t0' t1' t2' s0 s1
                      obtain ⟨ci, fi⟩ := HOc.out.cell hin
                      obtain ⟨ck, -⟩ := HOc.out.cell hkn
                      rw [Hli.out] at ci
                      rw [Hlk.out] at ck
                      cases b1
                      · have HR2 := Lib.hid (HRn.out.skip hkn (fun hh => by have := HI.out.1 (HNm.out.1 hh.2); cases this))
                        clear fi ci ck
                        go_wp2
                        go_roundw
                        case measure => simp [intOf]; omega
                        case rel => exact ⟨k1 + 1, out2, by omega, by go_num, HOc.out, HR2.out⟩
                      · have HR2 := Lib.hid (HRn.out.take hin hkn (by rw [Hli.out, Hlk.out]; exact hlt) (HNm.out.2 (HI.out.2 rfl)))
                        go_wp2
                        go_roundw
                        case measure => simp [intOf]; omega
                        case rel =>
                          refine ⟨k1 + 1, _, by omega, by go_num, HOc.out.put i1 lk, ?_⟩
                          rw [gt_set _ (by rw [HO.out.len]; exact hin), ← Hlk.out]
                          exact HR2.out
                  · have hlt' : decide (lk < li) = false := by simpa using hlt
                    have HR2 := Lib.hid (HRn.out.skip hkn (fun hh => hlt (by rw [← Hlk.out, ← Hli.out]; exact hh.1)))
                    clear hlt fi
                    go_wp2
                    go_quiet (fail)
                    go_wp2
                    go_roundw
                    case measure => simp [intOf]; omega
                    case rel => exact ⟨k1 + 1, out2, by omega, by go_num, HO.out.le (below_dn (Below.refl _ _) _), HR2.out⟩
                · obtain rfl : k1 = k := by omega
                  go_wp2
                  go_roundw
                  case measure => simp [intOf]; omega
                  case rel => exact ⟨i1 + 1, out2, by omega, by go_num, HO.out, HRn.out.row⟩
            · obtain rfl : i1 = k := by omega
              go_wp2
              go_roundw
              case measure => simp [intOf]; omega
              case rel => exact ⟨q + 1, out1, by omega, by go_num, HO.out, HRn.out.lab, fun h0 hH => zs_more HRn.out (by rw [← HP.out]; exact HLab.out) h0 hH (by rw [← HP.out]; exact HZ.out h0 hH)⟩
        · obtain rfl : q = k := by omega
          have HZ2 := Lib.hid (show 0 < q → (Hang q R → q ≤ zs q (gt out)) from fun h0 hH => by have := HZ.out h0 hH; omega)
          have hgl := HO.out.lt
          have hszA := HO.out.below.size
          obtain ⟨ls, s0, -, s1, -⟩ := HO.out.soup.two
          have hlA : w.heap.size < wA.heap.size := ls
          clear HZ
          go_wp2_with (at_make; refine wpList_make_full _ rfl (.tmp 71) (.tmp 71) 28 rfl wA.heap.size 3 i1 _ 1 Tryz.underlying28 hi' hy0 hy1 .i64 .i64 _ _ q rfl rfl rfl rfl (by rw [hy2]; omega) (by unfold maxLen; omega) (Nat.le_refl _) ?_; intro w2 hr2 hg2; have hbm := below_of_grown hg2 (Nat.le_refl _) (fun j e => by cases e))
          have hz : (madeCells (Value.int IntKind.i64 0).cells (q * 1)).toList = intsV (List.replicate q 0) := by
            rw [Nat.mul_one]
            show (madeCells #[Value.int IntKind.i64 0] q).toList = _
            rw [toList_madeCells_one]
            simp [intsV]
          rw [hz] at hr2
          have HO2 := Lib.hid (HO.out.le hbm)
          have Hr2 := Lib.hid hr2
          have hz2 := hbm.size
          clear hr2 hg2 hbm HO s0 s1 ls hz
          go_loopw [8, 9] (fun v8 i wr => ∃ (k1 : Nat) (many : Int) (nums : List Int), k1 ≤ q ∧ i = .int .i64 k1 ∧ v8 = .int .i64 many ∧ OF w q N (.slice ad q c) g out wr ∧ wr.ownsRow wA.heap.size 3 1 (.slice (some ⟨wA.heap.size, 0, none⟩) q q) q (intsV nums) ∧ nums.length = q ∧ Num q (gt out) k1 many (gt nums) ∧ 0 ≤ many ∧ many ≤ k1) (fun _ i _ => q - (intOf i).toNat)
          case atStart => exact ⟨0, 0, _, Nat.zero_le _, rfl, rfl, HO2.out, Hr2.out, by simp, Num.begin_ _ _, by omega, by omega⟩
          case round =>
            clear HO2 Hr2
            obtain ⟨k1, many, nums, hk1, rfl, rfl, hO, hrow, hnl, hNum, hm0, hm1⟩ := hrel
            rename World => wB
            have HO := Lib.hid hO
            have HNum := Lib.hid hNum
            have Hrow := Lib.hid hrow
            clear hO hNum hrow
            by_cases hkn : k1 < q
            · have hk3 : (k1 : Int) < (q : Int) := by omega
              have hk0 : (0 : Int) ≤ (k1 : Int) := by omega
              obtain ⟨ci, fi⟩ := HO.out.cell hkn
              have fn := Hrow.out.frozenAt k1
              have cn0 := cell_gt Hrow.out hnl hkn
              have hlo := HLab.out.lo k1 hkn
              obtain ⟨li, hli⟩ : ∃ z, gt out k1 = z := ⟨_, rfl⟩
              rw [hli] at ci hlo
              obtain ⟨l, rfl⟩ : ∃ l : Nat, li = l := ⟨li.toNat, by omega⟩
              have cn := cell_gt Hrow.out hnl (i := l) (by omega)
              have Hli := Lib.hid hli
              clear hli
              have keep : ∀ x : Int, OF w q N (.slice ad q c) g out (wB.setCell ⟨wA.heap.size, k1, none⟩ (.int .i64 x)) ∧ (wB.setCell ⟨wA.heap.size, k1, none⟩ (.int .i64 x)).ownsRow wA.heap.size 3 1 (.slice (some ⟨wA.heap.size, 0, none⟩) q q) q (intsV (nums.set k1 x)) := fun x => by
                obtain ⟨z1, z2⟩ := Hrow.out.stored k1 (.int .i64 x)
                rw [intsV_set] at z1
                refine ⟨⟨HO.out.row.kept z2 (.inr (by simp only [Value.ownBlock, ne_eq, Option.some.injEq]; omega)), HO.out.len, HO.out.soup.grown z2 (by simp only [ne_eq, Option.some.injEq]; omega), HO.out.below.grown z2 HO.out.below.size (fun j e => by simp only [Option.some.injEq] at e; omega)⟩, z1⟩
              have Keep := Lib.hid keep
              clear keep fi
              by_cases he : (l : Int) = k1
              · have he2 : (gt out k1 : Int) = k1 := by rw [Hli.out]; exact he
                have HN2 := Lib.hid (HNum.out.new HLab.out.lo hkn he2)
                have hq' : ((l : Int) == (k1 : Int)) = true := by simpa using he
                clear he he2 cn
                go_wp2
                go_roundw
                case measure => simp [intOf]; omega
                case rel =>
                  refine ⟨k1 + 1, many + 1, nums.set k1 many, by omega, by go_num, by go_num, (Keep.out _).1, (Keep.out _).2, by rw [List.length_set]; exact hnl, ?_, by omega, by push_cast; omega⟩
                  rw [gt_set _ (by omega)]
                  exact HN2.out
              · have he2 : (gt out k1 : Int) ≠ k1 := by rw [Hli.out]; exact he
                have HN2 := Lib.hid (HNum.out.old HLab.out.lo hkn he2)
                have hq' : ((l : Int) == (k1 : Int)) = false := by simpa using he
                have hl3 : (l : Int) < (q : Int) := by omega
                have hl0 : (0 : Int) ≤ (l : Int) := by omega
                clear he he2
                go_wp2
                go_roundw
                case measure => simp [intOf]; omega
                case rel =>
                  refine ⟨k1 + 1, many, nums.set k1 (gt nums l), by omega, by go_num, rfl, (Keep.out _).1, (Keep.out _).2, by rw [List.length_set]; exact hnl, ?_, by omega, by push_cast; omega⟩
                  rw [gt_set _ (by omega)]
                  have := HN2.out
                  rw [Hli.out, Int.toNat_natCast] at this
                  exact this
            · obtain rfl : k1 = q := by omega
              go_wp2
              go_ret
              exact ⟨_, nums, rfl, own_base9 Hrow.out (by omega), hnl, fun h0 => HNum.out.hang h0 HLab.out (HZ2.out h0), HO.out.below⟩
end Go.Proofs.YtghlnknncahkgaaGreat
