/-
  Texts joined by program, what the law uses alone: I15C AcW ArgS.
-/
import Derived.ProofKit
import Derived.WideShapes
import Derived.OpenShut
import Derived.Deep.Slices
import Derived.Lib.SmallJoins
import Derived.Test.YtpnkhgjjlionnaaGreatW8
import Derived.Test.YtpnkhgjjlionnaaGreatW7
import Derived.Test.YtpnkhgjjlionnaaGreatW1
namespace Go.Proofs.YtpnkhgjjlionnaaGreat
open Go.RowKit

set_option maxRecDepth 100000 in
set_option maxHeartbeats 16000000 in
theorem is15_any (N : Int) (v : Value) (T : List Tr) (w : World) (h : TrisRd w v T) (hl : T.length ≤ 40) : Calls Tryz.prog 15 #[.agg #[.int .i64 N, v]] w (RetB w) := by
  have HFn := Lib.hid (fun (u : Int) (W : World) (hW : Below w.heap.size w W) => fan15_any N u v T W (h.below hW) hl)
  have HTr := Lib.hid (fun (W : World) (hW : Below w.heap.size w W) => h.below hW)
  obtain ⟨a, c, rfl, hc1, hc2, hr⟩ := h
  have b1 := Blk.new w 24 #[.int .i64 N, .slice a T.length c]
  obtain ⟨l0, x0, -, x1, -⟩ := b1.two
  have hB0 : Below w.heap.size w (w.alloc (.cells #[.int .i64 N, .slice a T.length c] 24)) := (Below.refl _ _).alloc (Nat.le_refl _) _
  obtain ⟨n, hn⟩ : ∃ n, T.length = n := ⟨_, rfl⟩
  rw [hn] at hl hc1 x0 x1 hB0 b1 l0 HFn HTr ⊢
  have HR := Lib.hid hr
  have HN := Lib.hid hn
  have HB0 := Lib.hid hB0
  have Hb1 := Lib.hid b1
  have HA := Lib.hid has15_any
  clear hr hn b1 hB0
  have hTat : ∀ i, i < n → ∃ x y z, T[i]? = some (x, y, z) := fun i hi => ⟨(T[i]'(by have := HN.out; omega)).1, (T[i]'(by have := HN.out; omega)).2.1, (T[i]'(by have := HN.out; omega)).2.2, List.getElem?_eq_getElem _⟩
  have HT := Lib.hid hTat
  clear hTat
  by_cases hn0 : N < 0
  · go_enter Tryz.func15, Tryz.ntmps15
    go_wp2
    go_ret
    exact ⟨⟨_, rfl⟩, HB0.out⟩
  by_cases hn1 : 4096 < N
  · go_enter Tryz.func15, Tryz.ntmps15
    go_wp2
    go_ret
    exact ⟨⟨_, rfl⟩, HB0.out⟩
  obtain ⟨Nn, rfl⟩ : ∃ Nn : Nat, N = Nn := ⟨N.toNat, by omega⟩
  have g3 : ¬ 8192 < (n : Int) := by omega
  have hNn : Nn ≤ 4096 := by omega
  go_enter Tryz.func15, Tryz.ntmps15
  go_wp2
  clear x0 x1 l0
  go_loopw [3] (fun v3 W => ∃ i : Nat, i ≤ n ∧ v3 = .int .i64 i ∧ Blk W w.heap.size 24 #[.int .i64 (Nn : Int), .slice a n c] ∧ Below w.heap.size w W) (fun v3 _ => n - (intOf v3).toNat)
  case atStart => exact ⟨0, Nat.zero_le _, rfl, Hb1.out, HB0.out⟩
  case round =>
    rename World => wr
    obtain ⟨i, hi, rfl, hS, hB⟩ := hrel
    obtain ⟨ly, y0, -, y1, -⟩ := hS.two
    by_cases hlt : i < n
    · have hi3 : (i : Int) < (n : Int) := by omega
      obtain ⟨x, y, z, ht⟩ := HT.out i hlt
      obtain ⟨b, o, rfl, hbl, s0, s1, s2⟩ := HR.out i x y z ht
      replace s0 := (hB.cell (p := ⟨b, _, none⟩) hbl).trans s0
      replace s1 := (hB.cell (p := ⟨b, _, none⟩) hbl).trans s1
      replace s2 := (hB.cell (p := ⟨b, _, none⟩) hbl).trans s2
      have hA := (Below.refl wr.heap.size wr).alloc (Nat.le_refl _) (.cells #[.int .i64 x, .int .i64 y, .int .i64 z] 60)
      have HS1 := Lib.hid (hS.below hA hS.lt)
      have HB1 := Lib.hid (hB.trans (hA.mono hB.size))
      have HT1 := Lib.hid (Blk.new wr 60 #[.int .i64 x, .int .i64 y, .int .i64 z])
      clear hS hB hA ht
      go_upto_region 7 with fail
      generalize wr.alloc (.cells #[.int .i64 x, .int .i64 y, .int .i64 z] 60) = w1 at *
      clear s0 s1 s2 y0 y1 ly
      go_wp2
      go_loopw [5] (fun v5 W => ∃ k : Nat, k ≤ 3 ∧ v5 = .int .i64 k ∧ Below w1.heap.size w1 W) (fun v5 _ => 3 - (intOf v5).toNat)
      case atStart => exact ⟨0, by omega, rfl, Below.refl _ _⟩
      case round =>
        rename World => w2
        obtain ⟨k, hk, rfl, hb⟩ := hrel
        have hS2 := HS1.out.below hb HS1.out.lt
        have hT2 := HT1.out.below hb HT1.out.lt
        obtain ⟨lz, z0, -, z1, -⟩ := hS2.two
        have HB2 := Lib.hid hb
        by_cases hk3 : k < 3
        · obtain ⟨e, q, k', hek, hk', hc1', hc2'⟩ : ∃ (e q : Int) (k' : Nat), ((k : Int) + 1) % 3 = (k' : Int) ∧ k' < 3 ∧ w2.cell? ⟨wr.heap.size, k, none⟩ = some (.int .i64 e) ∧ w2.cell? ⟨wr.heap.size, k', none⟩ = some (.int .i64 q) := by
            have : k = 0 ∨ k = 1 ∨ k = 2 := by omega
            rcases this with rfl | rfl | rfl
            · exact ⟨_, _, 1, by decide, by omega, hT2.cell 0, hT2.cell 1⟩
            · exact ⟨_, _, 2, by decide, by omega, hT2.cell 1, hT2.cell 2⟩
            · exact ⟨_, _, 0, by decide, by omega, hT2.cell 2, hT2.cell 0⟩
          have hk4 : (k : Int) < 3 := by omega
          have hk5 : (k' : Int) < 3 := by omega
          clear hb hS2 hT2
          go_upto_region 10 with fail
          have HBd := Lib.hid (below_d (HB1.out.trans (HB2.out.mono HB1.out.size)))
          by_cases he0 : e < 0
          · go_region
            go_wp2
            go_ret
            exact ⟨⟨_, rfl⟩, HBd.out⟩
          · by_cases he1 : (Nn : Int) ≤ e
            · go_region
              go_wp2
              go_ret
              exact ⟨⟨_, rfl⟩, HBd.out⟩
            · by_cases he2 : e = q
              · subst he2
                go_region
                go_wp2
                go_ret
                exact ⟨⟨_, rfl⟩, HBd.out⟩
              · have he3 : (e == q) = false := by simpa using he2
                go_region
                go_wp2
                go_roundw
                case measure => simp [intOf]; omega
                case rel => exact ⟨k + 1, by omega, by go_num, below_d HB2.out⟩
        · obtain rfl : k = 3 := by omega
          clear hb hT2
          go_wp2
          go_roundw
          case measure => simp [intOf]; omega
          case rel => exact ⟨i + 1, by omega, by go_num, hS2, HB1.out.trans (HB2.out.mono HB1.out.size)⟩
    · obtain rfl : n = i := by omega
      have HS := Lib.hid hS
      have HB := Lib.hid hB
      clear hS hB
      go_wp2
      go_loopw [6] (fun v6 W => ∃ i : Nat, i ≤ n ∧ v6 = .int .i64 i ∧ Blk W w.heap.size 24 #[.int .i64 (Nn : Int), .slice a n c] ∧ Below w.heap.size w W) (fun v6 _ => n - (intOf v6).toNat)
      case atStart => exact ⟨0, Nat.zero_le _, rfl, HS.out, HB.out⟩
      case round =>
        rename World => w2
        clear HS HB y0 y1 ly
        obtain ⟨i, hi, rfl, hS, hB⟩ := hrel
        obtain ⟨ly, y0, -, y1, -⟩ := hS.two
        have HS := Lib.hid hS
        have HB := Lib.hid hB
        clear hS hB
        by_cases hlt : i < n
        · have hi3 : (i : Int) < (n : Int) := by omega
          go_wp2
          clear y0 y1 ly
          go_loopw [7] (fun v7 W => ∃ k : Nat, k ≤ i ∧ v7 = .int .i64 k ∧ Blk W w.heap.size 24 #[.int .i64 (Nn : Int), .slice a n c] ∧ Below w.heap.size w W) (fun v7 _ => i - (intOf v7).toNat)
          case atStart => exact ⟨0, Nat.zero_le _, rfl, HS.out, HB.out⟩
          case round =>
            rename World => w3
            clear HS HB
            obtain ⟨k, hk, rfl, hS, hB⟩ := hrel
            have HS := Lib.hid hS
            have HB := Lib.hid hB
            clear hS hB
            by_cases hki : k < i
            · have hk3 : (k : Int) < (i : Int) := by omega
              have hk4 : (k : Int) < (n : Int) := by omega
              go_wp2
              go_loopw [8, 9] (fun v8 v9 W => ∃ s x : Nat, s ≤ x ∧ x ≤ 3 ∧ v8 = .int .i64 s ∧ v9 = .int .i64 x ∧ Blk W w.heap.size 24 #[.int .i64 (Nn : Int), .slice a n c] ∧ Below w.heap.size w W) (fun _ v9 _ => 3 - (intOf v9).toNat)
              case atStart => exact ⟨0, 0, Nat.le_refl _, by omega, rfl, rfl, HS.out, HB.out⟩
              case round =>
                rename World => w4
                clear HS HB
                obtain ⟨s, x, hs, hx, rfl, rfl, hS, hB⟩ := hrel
                obtain ⟨ly, y0, -, y1, -⟩ := hS.two
                have HS := Lib.hid hS
                have HB := Lib.hid hB
                have hTr := HTr.out w4 hB
                clear hS hB
                by_cases hx3 : x < 3
                · have hx4 : (x : Int) < 3 := by omega
                  obtain ⟨b, o, e1, rfl, hbl, c1⟩ := hTr.at9 (t := i) (k := x) (by have := HN.out; omega) hx3
                  obtain ⟨b', o', t0, q0, -, d0⟩ := hTr.at9 (t := k) (k := 0) (by have := HN.out; omega) (by omega)
                  cases q0
                  obtain ⟨b', o', t1, q0, -, d1⟩ := hTr.at9 (t := k) (k := 1) (by have := HN.out; omega) (by omega)
                  cases q0
                  obtain ⟨b', o', t2, q0, -, d2⟩ := hTr.at9 (t := k) (k := 2) (by have := HN.out; omega) (by omega)
                  cases q0
                  rw [Nat.add_zero] at d0
                  clear hTr
                  go_upto_region 22 with fail
                  refine wp_region_U 12 (fun w' => w'.cell? ⟨w.heap.size, 1, none⟩ = some (.slice (some ⟨b, o, none⟩) n c) ∧ w'.cell? ⟨b, o + i * 3 + x, none⟩ = some (.int .i64 e1) ∧ w'.cell? ⟨b, o + k * 3, none⟩ = some (.int .i64 t0) ∧ w'.cell? ⟨b, o + k * 3 + 1, none⟩ = some (.int .i64 t1) ∧ w'.cell? ⟨b, o + k * 3 + 2, none⟩ = some (.int .i64 t2)) (by kernel_rfl) ⟨y1, c1, d0, d1, d2⟩ ?_
                  change AtU _ _ _ _ _ _ 13 (Array.replicate 13 false) _ _
                  refine AtU.take (i := 0) (v := ?_) rfl (by kernel_rfl) (by kernel_rfl) (fun _ _ _ h => h) (by rfl) ?_ ?_
                  rotate_left 1
                  · intro w9 hSw; (try dsimp only at hSw); go_simp; try with_reducible rfl
                  try simp only [Act.put, List.setIfInBounds_toArray, List.set_cons_zero, List.set_cons_succ]
                  refine AtU.take (i := 1) (v := ?_) rfl (by kernel_rfl) (by kernel_rfl) (fun _ _ _ h => h) (by rfl) ?_ ?_
                  rotate_left 1
                  · intro w9 hSw; (try dsimp only at hSw); go_simp; try with_reducible rfl
                  try simp only [Act.put, List.setIfInBounds_toArray, List.set_cons_zero, List.set_cons_succ]
                  refine AtU.take (i := 2) (v := ?_) rfl (by kernel_rfl) (by kernel_rfl) (fun _ _ _ h => h) (by rfl) ?_ ?_
                  rotate_left 1
                  · intro w9 hSw; (try dsimp only at hSw); go_simp; try with_reducible rfl
                  try simp only [Act.put, List.setIfInBounds_toArray, List.set_cons_zero, List.set_cons_succ]
                  refine AtU.take (i := 3) (v := ?_) rfl (by kernel_rfl) (by kernel_rfl) (fun _ _ _ h => h) (by rfl) ?_ ?_
                  rotate_left 1
                  · intro w9 hSw; (try dsimp only at hSw); go_simp; try with_reducible rfl
                  try simp only [Act.put, List.setIfInBounds_toArray, List.set_cons_zero, List.set_cons_succ]
                  refine AtU.take (i := 4) (v := ?_) rfl (by kernel_rfl) (by kernel_rfl) (fun _ _ _ h => h) (by rfl) ?_ ?_
                  rotate_left 1
                  · intro w9 hSw; (try dsimp only at hSw); go_simp; try with_reducible rfl
                  try simp only [Act.put, List.setIfInBounds_toArray, List.set_cons_zero, List.set_cons_succ]
                  refine AtU.take (i := 5) (v := ?_) rfl (by kernel_rfl) (by kernel_rfl) (fun _ _ _ h => h) (by rfl) ?_ ?_
                  rotate_left 1
                  · intro w9 hSw; (try dsimp only at hSw); go_simp; try with_reducible rfl
                  try simp only [Act.put, List.setIfInBounds_toArray, List.set_cons_zero, List.set_cons_succ]
                  refine AtU.take (i := 6) (v := ?_) rfl (by kernel_rfl) (by kernel_rfl) (fun _ _ _ h => h) (by rfl) ?_ ?_
                  rotate_left 1
                  · intro w9 hSw; (try dsimp only at hSw); go_simp; try with_reducible rfl
                  try simp only [Act.put, List.setIfInBounds_toArray, List.set_cons_zero, List.set_cons_succ]
                  refine AtU.take (i := 7) (v := ?_) rfl (by kernel_rfl) (by kernel_rfl) (fun _ _ _ h => h) (by rfl) ?_ ?_
                  rotate_left 1
                  · intro w9 hSw; (try dsimp only at hSw); go_simp; try with_reducible rfl
                  try simp only [Act.put, List.setIfInBounds_toArray, List.set_cons_zero, List.set_cons_succ]
                  refine AtU.take (i := 8) (v := ?_) rfl (by kernel_rfl) (by kernel_rfl) (fun _ _ _ h => h) (by rfl) ?_ ?_
                  rotate_left 1
                  · intro w9 hSw; (try dsimp only at hSw); go_simp; try with_reducible rfl
                  try simp only [Act.put, List.setIfInBounds_toArray, List.set_cons_zero, List.set_cons_succ]
                  refine AtU.take (i := 9) (v := ?_) rfl (by kernel_rfl) (by kernel_rfl) (fun _ _ _ h => h) (by rfl) ?_ ?_
                  rotate_left 1
                  · intro w9 hSw; (try dsimp only at hSw); go_simp; try with_reducible rfl
                  try simp only [Act.put, List.setIfInBounds_toArray, List.set_cons_zero, List.set_cons_succ]
                  refine AtU.take (i := 10) (v := ?_) rfl (by kernel_rfl) (by kernel_rfl) (fun _ _ _ h => h) (by rfl) ?_ ?_
                  rotate_left 1
                  · intro w9 hSw; (try dsimp only at hSw); go_simp; try with_reducible rfl
                  try simp only [Act.put, List.setIfInBounds_toArray, List.set_cons_zero, List.set_cons_succ]
                  refine AtU.take (i := 11) (v := ?_) rfl (by kernel_rfl) (by kernel_rfl) (fun _ _ _ h => h) (by rfl) ?_ ?_
                  rotate_left 1
                  · intro w9 hSw; (try dsimp only at hSw); go_simp; try with_reducible rfl
                  try simp only [Act.put, List.setIfInBounds_toArray, List.set_cons_zero, List.set_cons_succ]
                  refine AtU.last (i := 12) rfl (by kernel_rfl) (fun K hK => ?_)
                  go_wp2_with (go_at_call 36; refine (HA.out _ _ _ _ _).mono ?_; intro e9 w5 hx5; obtain ⟨⟨b5, rfl⟩, hb5⟩ := retB hx5)
                  refine hK.out _ _ ?_
                  clear hK K hx5 y0 y1 ly c1 d0 d1 d2
                  have HS5 := Lib.hid (HS.out.drew.below hb5 HS.out.drew.lt)
                  have HB5 := Lib.hid ((below_d HB.out).trans (hb5.mono (below_d HB.out).size))
                  clear hb5 HS HB
                  cases b5
                  · go_wp2
                    go_loopw [10] (fun v10 W => ∃ y : Nat, y ≤ 3 ∧ v10 = .int .i64 y ∧ Blk W w.heap.size 24 #[.int .i64 (Nn : Int), .slice (some ⟨b, o, none⟩) n c] ∧ Below w.heap.size w W) (fun v10 _ => 3 - (intOf v10).toNat)
                    case atStart => exact ⟨0, by omega, rfl, HS5.out, HB5.out⟩
                    case round =>
                      rename World => w6
                      clear HS5 HB5
                      obtain ⟨y, hy, rfl, hS, hB⟩ := hrel
                      obtain ⟨ly, y0, -, y1, -⟩ := hS.two
                      have HS6 := Lib.hid hS
                      have HB6 := Lib.hid hB
                      have hTr := HTr.out w6 hB
                      clear hS hB
                      by_cases hy3 : y < 3
                      · have hy4 : (y : Int) < 3 := by omega
                        obtain ⟨b', o', e1, q0, -, c1⟩ := hTr.at9 (t := i) (k := x) (by have := HN.out; omega) hx3
                        cases q0
                        obtain ⟨b', o', e2, q0, -, c2⟩ := hTr.at9 (t := k) (k := y) (by have := HN.out; omega) hy3
                        cases q0
                        obtain ⟨b', o', e3, q0, -, c3⟩ := hTr.at9 (t := i) (k := (x + 1) % 3) (by have := HN.out; omega) (by omega)
                        cases q0
                        obtain ⟨b', o', e4, q0, -, c4⟩ := hTr.at9 (t := k) (k := (y + 1) % 3) (by have := HN.out; omega) (by omega)
                        cases q0
                        have hxm : ((x : Int) + 1) % 3 = (((x + 1) % 3 : Nat) : Int) := by omega
                        have hym : ((y : Int) + 1) % 3 = (((y + 1) % 3 : Nat) : Int) := by omega
                        have hx9 : (x + 1) % 3 < 3 := by omega
                        have hy9 : (y + 1) % 3 < 3 := by omega
                        generalize (x + 1) % 3 = xp at *
                        generalize (y + 1) % 3 = yp at *
                        have hx5 : (xp : Int) < 3 := by omega
                        have hy5 : (yp : Int) < 3 := by omega
                        clear hTr
                        go_upto_region 27 with fail
                        by_cases h12 : e1 = e2
                        · have h12' : (e1 == e2) = true := by simpa using h12
                          by_cases h34 : e3 = e4
                          · have h34' : (e3 == e4) = true := by simpa using h34
                            clear h12 h34
                            go_region
                            go_wp2
                            go_ret
                            exact ⟨⟨_, rfl⟩, below_d HB6.out⟩
                          · have h34' : (e3 == e4) = false := by simpa using h34
                            clear h12 h34
                            go_region
                            go_wp2
                            go_roundw
                            case measure => simp [intOf]; omega
                            case rel => exact ⟨y + 1, by omega, by go_num, HS6.out.drew, below_d HB6.out⟩
                        · have h12' : (e1 == e2) = false := by simpa using h12
                          clear h12
                          go_region
                          go_wp2
                          go_roundw
                          case measure => simp [intOf]; omega
                          case rel => exact ⟨y + 1, by omega, by go_num, HS6.out.drew, below_d HB6.out⟩
                      · obtain rfl : y = 3 := by omega
                        clear hTr y0 y1 ly
                        go_wp2
                        go_roundw
                        case measure => simp [intOf]; omega
                        case rel => exact ⟨s, x + 1, by omega, by omega, by go_num, by go_num, HS6.out, HB6.out⟩
                  · go_wp2
                    go_loopw [10] (fun v10 W => ∃ y : Nat, y ≤ 3 ∧ v10 = .int .i64 y ∧ Blk W w.heap.size 24 #[.int .i64 (Nn : Int), .slice (some ⟨b, o, none⟩) n c] ∧ Below w.heap.size w W) (fun v10 _ => 3 - (intOf v10).toNat)
                    case atStart => exact ⟨0, by omega, rfl, HS5.out, HB5.out⟩
                    case round =>
                      rename World => w6
                      clear HS5 HB5
                      obtain ⟨y, hy, rfl, hS, hB⟩ := hrel
                      obtain ⟨ly, y0, -, y1, -⟩ := hS.two
                      have HS6 := Lib.hid hS
                      have HB6 := Lib.hid hB
                      have hTr := HTr.out w6 hB
                      clear hS hB
                      by_cases hy3 : y < 3
                      · have hy4 : (y : Int) < 3 := by omega
                        obtain ⟨b', o', e1, q0, -, c1⟩ := hTr.at9 (t := i) (k := x) (by have := HN.out; omega) hx3
                        cases q0
                        obtain ⟨b', o', e2, q0, -, c2⟩ := hTr.at9 (t := k) (k := y) (by have := HN.out; omega) hy3
                        cases q0
                        obtain ⟨b', o', e3, q0, -, c3⟩ := hTr.at9 (t := i) (k := (x + 1) % 3) (by have := HN.out; omega) (by omega)
                        cases q0
                        obtain ⟨b', o', e4, q0, -, c4⟩ := hTr.at9 (t := k) (k := (y + 1) % 3) (by have := HN.out; omega) (by omega)
                        cases q0
                        have hxm : ((x : Int) + 1) % 3 = (((x + 1) % 3 : Nat) : Int) := by omega
                        have hym : ((y : Int) + 1) % 3 = (((y + 1) % 3 : Nat) : Int) := by omega
                        have hx9 : (x + 1) % 3 < 3 := by omega
                        have hy9 : (y + 1) % 3 < 3 := by omega
                        generalize (x + 1) % 3 = xp at *
                        generalize (y + 1) % 3 = yp at *
                        have hx5 : (xp : Int) < 3 := by omega
                        have hy5 : (yp : Int) < 3 := by omega
                        clear hTr
                        go_upto_region 27 with fail
                        by_cases h12 : e1 = e2
                        · have h12' : (e1 == e2) = true := by simpa using h12
                          by_cases h34 : e3 = e4
                          · have h34' : (e3 == e4) = true := by simpa using h34
                            clear h12 h34
                            go_region
                            go_wp2
                            go_ret
                            exact ⟨⟨_, rfl⟩, below_d HB6.out⟩
                          · have h34' : (e3 == e4) = false := by simpa using h34
                            clear h12 h34
                            go_region
                            go_wp2
                            go_roundw
                            case measure => simp [intOf]; omega
                            case rel => exact ⟨y + 1, by omega, by go_num, HS6.out.drew, below_d HB6.out⟩
                        · have h12' : (e1 == e2) = false := by simpa using h12
                          clear h12
                          go_region
                          go_wp2
                          go_roundw
                          case measure => simp [intOf]; omega
                          case rel => exact ⟨y + 1, by omega, by go_num, HS6.out.drew, below_d HB6.out⟩
                      · obtain rfl : y = 3 := by omega
                        clear hTr y0 y1 ly
                        go_wp2
                        go_roundw
                        case measure => simp [intOf]; omega
                        case rel => exact ⟨s + 1, x + 1, by omega, by omega, by go_num, by go_num, HS6.out, HB6.out⟩
                · obtain rfl : x = 3 := by omega
                  clear y0 y1 ly hTr
                  by_cases hs3 : s = 3
                  · subst hs3
                    go_wp2
                    go_ret
                    exact ⟨⟨_, rfl⟩, HB.out⟩
                  · have hs4 : ((s : Int) == 3) = false := by simp; omega
                    go_wp2
                    go_roundw
                    case measure => simp [intOf]; omega
                    case rel => exact ⟨k + 1, by omega, by go_num, HS.out, HB.out⟩
            · obtain rfl : i = k := by omega
              go_wp2
              go_roundw
              case measure => simp [intOf]; omega
              case rel => exact ⟨i + 1, by omega, by go_num, HS.out, HB.out⟩
        · obtain rfl : n = i := by omega
          go_wp2
          clear y0 y1 ly
          go_loopw [11] (fun v11 W => ∃ v : Nat, v ≤ Nn ∧ v11 = .int .i64 v ∧ Blk W w.heap.size 24 #[.int .i64 (Nn : Int), .slice a n c] ∧ Below w.heap.size w W) (fun v11 _ => Nn - (intOf v11).toNat)
          case atStart => exact ⟨0, Nat.zero_le _, rfl, HS.out, HB.out⟩
          case round =>
            rename World => w3
            clear HS HB
            obtain ⟨u, hu, rfl, hS, hB⟩ := hrel
            obtain ⟨ly, y0, -, y1, -⟩ := hS.two
            have HS := Lib.hid hS
            have HB := Lib.hid hB
            clear hS hB
            by_cases hun : u < Nn
            · have hu3 : (u : Int) < (Nn : Int) := by omega
              have HF := Lib.hid (HFn.out (u : Int) w3 HB.out)
              go_wp2_with fail
              refine HF.out.mono ?_
              rintro e w4 ⟨⟨p, q, rfl⟩, hb4⟩
              have HS4 := Lib.hid (HS.out.below hb4 HS.out.lt)
              have HB4 := Lib.hid (HB.out.trans (hb4.mono HB.out.size))
              clear y0 y1 ly HS HB hb4 HF
              by_cases hp : (p : Int) = 0
              · have hp0 : ((p : Int) == 0) = true := by simpa using hp
                go_wp2
                go_ret
                exact ⟨⟨_, rfl⟩, HB4.out⟩
              · have hp0 : ((p : Int) == 0) = false := by simpa using hp
                by_cases hpq : (p : Int) = q
                · subst hpq
                  go_wp2
                  go_roundw
                  case measure => simp [intOf]; omega
                  case rel => exact ⟨u + 1, by omega, by go_num, HS4.out, HB4.out⟩
                · have hp1 : ((p : Int) != q) = true := by simpa using hpq
                  have hp2 : ((p : Int) == q) = false := by simpa using hpq
                  go_wp2
                  go_ret
                  exact ⟨⟨_, rfl⟩, HB4.out⟩
            · obtain rfl : Nn = u := by omega
              go_wp2
              go_ret
              exact ⟨⟨_, rfl⟩, HB.out⟩
end Go.Proofs.YtpnkhgjjlionnaaGreat
namespace Go.Proofs.YtpnkhgjjlionnaaGreat.Zp
open Go.RowKit Go.Maps

theorem index5 (a b c d e : Value) (w : World) : (Instr.index 51 (.agg #[a, b, c, d, e]) (.int .i64 0)).run Tryz.prog w = .ok a w := by
  simp [Instr.index, run_underlying Tryz.underlying51, part, go_sem]
theorem acW_plain {N : Nat} {T : List Tr} {c : Nat} (h : Simp (N : Int) T) (hc : c < 3 * T.length) :
    rightM (lettersOf (wordS (stepsM T c))) = true ∧ (wordS (stepsM T c)).size + 1 = T.length ∧ bitsM (lettersOf (wordS (stepsM T c))) = 2 * (T.length : Int) - 1 ∧ cnt (lettersOf (wordS (stepsM T c))) 67 = (N : Int) - 3 := by
  have e := letters_word h hc
  have hr := walk_right h hc
  have hl := walk_len h hc
  have hs : (wordS (stepsM T c)).size = (stepsM T c).length := by rw [← lettersOf_length, e, letters_len]
  have R := right_counts hr
  have h1 := R.ends
  have h2 := R.cees
  have h3 := R.all
  have h4 := R.bits
  rw [letters_len] at h3 h4
  have := h.euler
  rw [e, right_eq]
  refine ⟨hr, by omega, by rw [h4]; omega, by omega⟩
set_option maxRecDepth 100000 in
set_option maxHeartbeats 8000000 in
theorem accountWalk_walk (N : Int) (v : Value) (T : List Tr) (r : Int) (w : World) (h : TrisRd w v T) :
    Calls Tryz.prog 4 #[.agg #[.int .i64 N, v], .int .i64 r] w fun e w' => e = .returned (.bool true) ∧ Below w.heap.size w w' := by
  have b1 := Blk.new w 24 #[.int .i64 N, v]
  have hB0 : Below w.heap.size w (w.alloc (.cells #[.int .i64 N, v] 24)) := (Below.refl _ _).alloc (Nat.le_refl _) _
  have HRd := Lib.hid (fun (W : World) (hW : Below w.heap.size w W) => h.below hW)
  obtain ⟨aT, cT, rfl, -⟩ := h
  have HB0 := Lib.hid hB0
  have Hb1 := Lib.hid b1
  obtain ⟨F, hF⟩ : ∃ F, T.length = F := ⟨_, rfl⟩
  have HFl := Lib.hid hF
  rw [hF] at HB0 Hb1 b1 HRd ⊢
  clear hB0 hF
  obtain ⟨l0, x0, -, x1, -⟩ := b1.two
  clear b1
  go_enter Tryz.func4, Tryz.ntmps4
  go_wp2_with fail
  refine (awake24_any _).mono ?_
  rintro en w1 ⟨rfl, hb1⟩
  have HS1 := Lib.hid (Hb1.out.below hb1 l0)
  have HB1 := Lib.hid (HB0.out.trans (hb1.mono HB0.out.size))
  clear hb1 x0 x1 l0 Hb1 HB0
  obtain ⟨l0, x0, -, x1, -⟩ := HS1.out.two
  by_cases hl : 40 < F
  · have hl3 : (40 : Int) < (F : Int) := by omega
    go_wp2
    go_ret
    exact ⟨rfl, HB1.out⟩
  · have hl3 : ¬ (40 : Int) < (F : Int) := by omega
    have HIs := Lib.hid (is15_any N _ T w1 (HRd.out w1 HB1.out) (by rw [HFl.out]; omega))
    go_wp2_with fail
    refine HIs.out.mono ?_
    rintro en w2 ⟨⟨b, rfl⟩, hb2⟩
    have HS2 := Lib.hid (HS1.out.below hb2 HS1.out.lt)
    have HB2 := Lib.hid (HB1.out.trans (hb2.mono HB1.out.size))
    clear hb2 x0 x1 l0 HIs HS1 HB1
    obtain ⟨l0, x0, -, x1, -⟩ := HS2.out.two
    cases b
    · go_wp2
      go_ret
      exact ⟨rfl, HB2.out⟩
    · have HNw := Lib.hid (new_or N _ T w2 (HRd.out w2 HB2.out) (by rw [HFl.out]; omega))
      go_wp2_with fail
      refine HNw.out.mono ?_
      rintro en w3 ⟨a, x, y, z, rfl, hTb, hb3⟩
      have hA3 := (Below.refl w3.heap.size w3).alloc (Nat.le_refl _) (.cells #[.int .i64 x, .int .i64 y, .int .i64 z] 35)
      have HS4 := Lib.hid ((HS2.out.below hb3 HS2.out.lt).below hA3 (HS2.out.below hb3 HS2.out.lt).lt)
      have HB4 := Lib.hid (below_on (below_on HB2.out HB2.out.size hb3) (below_on HB2.out HB2.out.size hb3).size hA3)
      have HT4 := Lib.hid (hTb.below hA3)
      clear hb3 hA3 hTb x0 x1 l0 HS2 HB2 HNw
      go_upto_region 6 with fail
      generalize w3.alloc (.cells #[.int .i64 x, .int .i64 y, .int .i64 z] 35) = w4 at *
      have HW := Lib.hid (walk_tot r HT4.out (by rw [HFl.out]; omega))
      go_wp2_with fail
      refine HW.out.mono ?_
      rintro en w5 hx
      rcases hx with ⟨k, rfl, hk, hSi, vV, vC, rfl, hV, hC, hb5⟩ | ⟨-, z2, hz2, rfl, hb5⟩
      · obtain ⟨g, n, rfl, rfl, hTb, hSu⟩ | ⟨-, hno⟩ := HT4.out
        · obtain ⟨hr, hsz, hbits, hcnt⟩ := acW_plain hSi hk
          rw [HFl.out] at hsz hbits hk
          obtain ⟨s, hs⟩ : ∃ s, wordS (stepsM T k) = s := ⟨_, rfl⟩
          rw [hs] at hr hsz hbits hcnt ⊢
          obtain ⟨aV, cV, rfl⟩ := ownsRow_slice hV
          obtain ⟨aC, cC, rfl⟩ := ownsRow_slice hC
          generalize ((beginS T k).come ++ newV T (stepsM T k)).length = nV at *
          generalize (stepsM T k).length.succ = nC at *
          have hA5 := (Below.refl w5.heap.size w5).alloc (Nat.le_refl _) (.cells #[.string s, .slice aV nV cV, .slice aC nC cC] 39)
          have HS6 := Lib.hid ((HS4.out.below hb5 HS4.out.lt).below hA5 (HS4.out.below hb5 HS4.out.lt).lt)
          have HB6 := Lib.hid (below_on (below_on HB4.out HB4.out.size hb5) (below_on HB4.out HB4.out.size hb5).size hA5)
          have HT6 := Lib.hid ((hTb.below hb5).below hA5)
          have HX6 := Lib.hid (Blk.new w5 39 #[.string s, .slice aV nV cV, .slice aC nC cC])
          have HSu := Lib.hid hSu
          have HSi := Lib.hid hSi
          have HOf := Lib.hid (of_right s (by omega) hr)
          obtain ⟨c1, c2, c3, c4, hcn⟩ : ∃ c1 c2 c3 c4 : Int, ∀ W : World, Calls Tryz.prog 19 #[.string s] W (fun e w' => e = .returned (.agg #[.int .i64 ((n : Int) - 3), .int .i64 c1, .int .i64 c2, .int .i64 c3, .int .i64 c4]) ∧ Below W.heap.size W w') := ⟨_, _, _, _, fun W => by
            have h9 := count_any s (by omega) W
            unfold fiveOf at h9
            rw [hcnt] at h9
            exact h9⟩
          have HCn := Lib.hid hcn
          clear hcn
          have HPl := Lib.hid (And.intro hbits (And.intro hcnt hsz))
          clear hr hbits hcnt hs hV hC hb5 hA5 HW HT4 hTb hSu hSi HS4 HB4
          go_upto_region 9 with fail
          generalize hW6 : w5.alloc (.cells #[.string s, .slice aV nV cV, .slice aC nC cC] 39) = w6 at *
          obtain ⟨ly, y0, -⟩ := HX6.out.three
          go_wp2_with fail
          refine (HOf.out w6).mono ?_
          rintro en w7 ⟨rfl, hb7⟩
          rw [HPl.out.1, show ((s.size : Int) + 1) = (F : Int) from by omega]
          obtain ⟨sz, hsz2⟩ : ∃ sz : Int, (s.size : Int) = sz := ⟨_, rfl⟩
          rw [hsz2]
          clear hsz2 hsz
          have hA7 := (Below.refl w7.heap.size w7).alloc (Nat.le_refl _) (.cells #[.int .i64 (F : Int), .int .i64 sz, .int .i64 (2 * (F : Int) - 1), .int .i64 0, .int .i64 0, .int .i64 0] 45)
          have HS8 := Lib.hid ((HS6.out.below hb7 HS6.out.lt).below hA7 (HS6.out.below hb7 HS6.out.lt).lt)
          have HX8 := Lib.hid ((HX6.out.below hb7 HX6.out.lt).below hA7 (HX6.out.below hb7 HX6.out.lt).lt)
          have HB8 := Lib.hid (below_on (below_on HB6.out HB6.out.size hb7) (below_on HB6.out HB6.out.size hb7).size hA7)
          have HT8 := Lib.hid ((HT6.out.below hb7).below hA7)
          have HY8 := Lib.hid (Blk.new w7 45 #[.int .i64 (F : Int), .int .i64 sz, .int .i64 (2 * (F : Int) - 1), .int .i64 0, .int .i64 0, .int .i64 0])
          clear hb7 hA7 HS6 HB6 HT6 HX6 y0 ly hW6 HOf
          go_upto_region 10 with fail
          generalize w7.alloc (.cells #[.int .i64 (F : Int), .int .i64 sz, .int .i64 (2 * (F : Int) - 1), .int .i64 0, .int .i64 0, .int .i64 0] 45) = w8 at *
          have HG := Lib.hid (genus_any g n T w8 HT8.out HSu.out (fun W hW => loopsPost_closed (HT8.out.below hW) HSi.out.closed (by have := HSu.out.n1; omega)))
          go_wp2_with fail
          refine HG.out.mono ?_
          rintro e w9 ⟨vg, out, m, cs, rfl, hSh, hm, hr9, h6, hb9⟩
          obtain ⟨rfl, -, e5⟩ := (genus_simp HSu.out hSh hm h6).1 HSi.out
          obtain ⟨gO, cap, rfl, hg1, hg2⟩ := hr9.form (by omega)
          have g5 : w9.cell? ⟨gO, 5, none⟩ = some (.int .i64 0) := by rw [hr9.cellAt 5 (by omega), ← e5]; exact intsV_at (by have := hr9.1; simp [intsV] at this; omega)
          have HS9 := Lib.hid (HS8.out.below hb9 HS8.out.lt)
          have HX9 := Lib.hid (HX8.out.below hb9 HX8.out.lt)
          have HY9 := Lib.hid (HY8.out.below hb9 HY8.out.lt)
          have HB9 := Lib.hid (below_on HB8.out HB8.out.size hb9)
          clear hSh hm hr9 h6 hb9 HS8 HX8 HY8 HB8 HT8 HG e5
          obtain ⟨l0, x0, -, x1, -⟩ := HS9.out.two
          obtain ⟨ly, y0, -⟩ := HX9.out.three
          have lp := HY9.out.lt
          have p0 : w9.cell? ⟨w7.heap.size, 0, none⟩ = some (.int .i64 (F : Int)) := HY9.out.cell 0
          have p1 : w9.cell? ⟨w7.heap.size, 1, none⟩ = some (.int .i64 sz) := HY9.out.cell 1
          have p2 : w9.cell? ⟨w7.heap.size, 2, none⟩ = some (.int .i64 (2 * (F : Int) - 1)) := HY9.out.cell 2
          have p3 : w9.cell? ⟨w7.heap.size, 3, none⟩ = some (.int .i64 0) := HY9.out.cell 3
          have p4 : w9.cell? ⟨w7.heap.size, 4, none⟩ = some (.int .i64 0) := HY9.out.cell 4
          have p5 : w9.cell? ⟨w7.heap.size, 5, none⟩ = some (.int .i64 0) := HY9.out.cell 5
          have hnb : n ≤ 22 := by have h1 := HSi.out.euler; have h2 := HFl.out; omega
          have hw1 := IntWalk.i64_in (2 * (F : Int)) (by omega)
          have hw2 := IntWalk.i64_in (2 * (F : Int) - 1) (by omega)
          have hw3 := IntWalk.i64_in ((n : Int) - 3) (by omega)
          have HTo := Lib.hid (fun (W : World) => show Calls Tryz.prog 18 #[.agg #[.int .i64 (F : Int), .int .i64 sz, .int .i64 (2 * (F : Int) - 1), .int .i64 0, .int .i64 0, .int .i64 0]] W (fun e W' => e = .returned (.int .i64 (2 * (F : Int) - 1)) ∧ Below W.heap.size W W') from by have := total_small (F : Int) sz (2 * (F : Int) - 1) 0 0 0 W (by omega) (by omega) (by omega) (by omega); simpa only [Int.add_zero] using this)
          have hix := @index5
          go_upto_region 11 with fail
          as_aux_lemma =>
            refine wp_region_U 42 (fun w' => w'.cell? ⟨w.heap.size, 0, none⟩ = some (.int .i64 (n : Int)) ∧ w'.cell? ⟨w.heap.size, 1, none⟩ = some (.slice aT F cT) ∧ w'.cell? ⟨w5.heap.size, 0, none⟩ = some (.string s) ∧ w'.cell? ⟨w7.heap.size, 0, none⟩ = some (.int .i64 (F : Int)) ∧ w'.cell? ⟨w7.heap.size, 1, none⟩ = some (.int .i64 sz) ∧ w'.cell? ⟨w7.heap.size, 2, none⟩ = some (.int .i64 (2 * (F : Int) - 1)) ∧ w'.cell? ⟨w7.heap.size, 3, none⟩ = some (.int .i64 0) ∧ w'.cell? ⟨w7.heap.size, 4, none⟩ = some (.int .i64 0) ∧ w'.cell? ⟨w7.heap.size, 5, none⟩ = some (.int .i64 0) ∧ w'.cell? ⟨gO, 5, none⟩ = some (.int .i64 0)) (by kernel_rfl) ⟨x0, x1, y0, p0, p1, p2, p3, p4, p5, g5⟩ ?_
            change AtU _ _ _ _ _ _ 43 (Array.replicate 43 false) _ _
            refine AtU.take (i := 0) (v := ?_) rfl (by kernel_rfl) (by kernel_rfl) (fun _ _ _ h => h) (by rfl) ?_ ?_
            rotate_left 1
            · intro w9 hSw; (try dsimp only at hSw); go_simp; try with_reducible rfl
            try simp only [Act.put, List.setIfInBounds_toArray, List.set_cons_zero, List.set_cons_succ]
            refine AtU.take (i := 1) (v := ?_) rfl (by kernel_rfl) (by kernel_rfl) (fun _ _ _ h => h) (by rfl) ?_ ?_
            rotate_left 1
            · intro w9 hSw; (try dsimp only at hSw); go_simp; try with_reducible rfl
            try simp only [Act.put, List.setIfInBounds_toArray, List.set_cons_zero, List.set_cons_succ]
            refine AtU.take (i := 2) (v := ?_) rfl (by kernel_rfl) (by kernel_rfl) (fun _ _ _ h => h) (by rfl) ?_ ?_
            rotate_left 1
            · intro w9 hSw; (try dsimp only at hSw); go_simp; try with_reducible rfl
            try simp only [Act.put, List.setIfInBounds_toArray, List.set_cons_zero, List.set_cons_succ]
            refine AtU.take (i := 3) (v := ?_) rfl (by kernel_rfl) (by kernel_rfl) (fun _ _ _ h => h) (by rfl) ?_ ?_
            rotate_left 1
            · intro w9 hSw; (try dsimp only at hSw); go_simp; try with_reducible rfl
            try simp only [Act.put, List.setIfInBounds_toArray, List.set_cons_zero, List.set_cons_succ]
            refine AtU.take (i := 4) (v := ?_) rfl (by kernel_rfl) (by kernel_rfl) (fun _ _ _ h => h) (by rfl) ?_ ?_
            rotate_left 1
            · intro w9 hSw; (try dsimp only at hSw); go_simp; try with_reducible rfl
            try simp only [Act.put, List.setIfInBounds_toArray, List.set_cons_zero, List.set_cons_succ]
            refine AtU.take (i := 5) (v := ?_) rfl (by kernel_rfl) (by kernel_rfl) (fun _ _ _ h => h) (by rfl) ?_ ?_
            rotate_left 1
            · intro w9 hSw; (try dsimp only at hSw); go_simp; try with_reducible rfl
            try simp only [Act.put, List.setIfInBounds_toArray, List.set_cons_zero, List.set_cons_succ]
            refine AtU.take (i := 6) (v := ?_) rfl (by kernel_rfl) (by kernel_rfl) (fun _ _ _ h => h) (by rfl) ?_ ?_
            rotate_left 1
            · intro w9 hSw; (try dsimp only at hSw); go_simp; try with_reducible rfl
            try simp only [Act.put, List.setIfInBounds_toArray, List.set_cons_zero, List.set_cons_succ]
            refine AtU.take (i := 7) (v := ?_) rfl (by kernel_rfl) (by kernel_rfl) (fun _ _ _ h => h) (by rfl) ?_ ?_
            rotate_left 1
            · intro w9 hSw; (try dsimp only at hSw); go_simp; try with_reducible rfl
            try simp only [Act.put, List.setIfInBounds_toArray, List.set_cons_zero, List.set_cons_succ]
            refine AtU.take (i := 8) (v := ?_) rfl (by kernel_rfl) (by kernel_rfl) (fun _ _ _ h => h) (by rfl) ?_ ?_
            rotate_left 1
            · intro w9 hSw; (try dsimp only at hSw); go_simp; try with_reducible rfl
            try simp only [Act.put, List.setIfInBounds_toArray, List.set_cons_zero, List.set_cons_succ]
            refine AtU.take (i := 9) (v := ?_) rfl (by kernel_rfl) (by kernel_rfl) (fun _ _ _ h => h) (by rfl) ?_ ?_
            rotate_left 1
            · intro w9 hSw; (try dsimp only at hSw); go_simp; try with_reducible rfl
            try simp only [Act.put, List.setIfInBounds_toArray, List.set_cons_zero, List.set_cons_succ]
            refine AtU.take (i := 10) (v := ?_) rfl (by kernel_rfl) (by kernel_rfl) (fun _ _ _ h => h) (by rfl) ?_ ?_
            rotate_left 1
            · intro w9 hSw; (try dsimp only at hSw); go_simp; try with_reducible rfl
            try simp only [Act.put, List.setIfInBounds_toArray, List.set_cons_zero, List.set_cons_succ]
            refine AtU.take (i := 11) (v := ?_) rfl (by kernel_rfl) (by kernel_rfl) (fun _ _ _ h => h) (by rfl) ?_ ?_
            rotate_left 1
            · intro w9 hSw; (try dsimp only at hSw); go_simp; try with_reducible rfl
            try simp only [Act.put, List.setIfInBounds_toArray, List.set_cons_zero, List.set_cons_succ]
            refine AtU.take (i := 13) (v := ?_) rfl (by kernel_rfl) (by kernel_rfl) (fun _ _ _ h => h) (by rfl) ?_ ?_
            rotate_left 1
            · intro w9 hSw; (try dsimp only at hSw); go_simp; try with_reducible rfl
            try simp only [Act.put, List.setIfInBounds_toArray, List.set_cons_zero, List.set_cons_succ]
            refine AtU.take (i := 14) (v := ?_) rfl (by kernel_rfl) (by kernel_rfl) (fun _ _ _ h => h) (by rfl) ?_ ?_
            rotate_left 1
            · intro w9 hSw; (try dsimp only at hSw); go_simp; try with_reducible rfl
            try simp only [Act.put, List.setIfInBounds_toArray, List.set_cons_zero, List.set_cons_succ]
            refine AtU.take (i := 15) (v := ?_) rfl (by kernel_rfl) (by kernel_rfl) (fun _ _ _ h => h) (by rfl) ?_ ?_
            rotate_left 1
            · intro w9 hSw; (try dsimp only at hSw); go_simp; try with_reducible rfl
            try simp only [Act.put, List.setIfInBounds_toArray, List.set_cons_zero, List.set_cons_succ]
            refine AtU.take (i := 16) (v := ?_) rfl (by kernel_rfl) (by kernel_rfl) (fun _ _ _ h => h) (by rfl) ?_ ?_
            rotate_left 1
            · intro w9 hSw; (try dsimp only at hSw); go_simp; try with_reducible rfl
            try simp only [Act.put, List.setIfInBounds_toArray, List.set_cons_zero, List.set_cons_succ]
            refine AtU.take (i := 17) (v := ?_) rfl (by kernel_rfl) (by kernel_rfl) (fun _ _ _ h => h) (by rfl) ?_ ?_
            rotate_left 1
            · intro w9 hSw; (try dsimp only at hSw); go_simp; try with_reducible rfl
            try simp only [Act.put, List.setIfInBounds_toArray, List.set_cons_zero, List.set_cons_succ]
            refine AtU.step (i := 12) rfl (by kernel_rfl) (fun K hK => ?_)
            go_wp2_with (go_at_call 18; refine (HTo.out _).mono ?_; rintro e9 w10 ⟨rfl, hb10⟩)
            have x0_ := (hb10.cell (p := ⟨w.heap.size, 0, none⟩) l0).trans x0
            have x1_ := (hb10.cell (p := ⟨w.heap.size, 1, none⟩) l0).trans x1
            have y0_ := (hb10.cell (p := ⟨w5.heap.size, 0, none⟩) ly).trans y0
            have p0_ := (hb10.cell (p := ⟨w7.heap.size, 0, none⟩) lp).trans p0
            have p1_ := (hb10.cell (p := ⟨w7.heap.size, 1, none⟩) lp).trans p1
            have p2_ := (hb10.cell (p := ⟨w7.heap.size, 2, none⟩) lp).trans p2
            have p3_ := (hb10.cell (p := ⟨w7.heap.size, 3, none⟩) lp).trans p3
            have p4_ := (hb10.cell (p := ⟨w7.heap.size, 4, none⟩) lp).trans p4
            have p5_ := (hb10.cell (p := ⟨w7.heap.size, 5, none⟩) lp).trans p5
            have g5_ := (hb10.cell (p := ⟨gO, 5, none⟩) hg2).trans g5
            refine hK.out _ _ ⟨x0_, x1_, y0_, p0_, p1_, p2_, p3_, p4_, p5_, g5_⟩ ?_
            clear hK K
            try simp only [Act.put, List.setIfInBounds_toArray, List.set_cons_zero, List.set_cons_succ]
            refine AtU.take (i := 18) (v := ?_) rfl (by kernel_rfl) (by kernel_rfl) (fun _ _ _ h => h) (by rfl) ?_ ?_
            rotate_left 1
            · intro w9 hSw; (try dsimp only at hSw); go_simp; try with_reducible rfl
            try simp only [Act.put, List.setIfInBounds_toArray, List.set_cons_zero, List.set_cons_succ]
            refine AtU.take (i := 19) (v := ?_) rfl (by kernel_rfl) (by kernel_rfl) (fun _ _ _ h => h) (by rfl) ?_ ?_
            rotate_left 1
            · intro w9 hSw; (try dsimp only at hSw); go_simp; try with_reducible rfl
            try simp only [Act.put, List.setIfInBounds_toArray, List.set_cons_zero, List.set_cons_succ]
            refine AtU.take (i := 20) (v := ?_) rfl (by kernel_rfl) (by kernel_rfl) (fun _ _ _ h => h) (by rfl) ?_ ?_
            rotate_left 1
            · intro w9 hSw; (try dsimp only at hSw); go_simp; try with_reducible rfl
            try simp only [Act.put, List.setIfInBounds_toArray, List.set_cons_zero, List.set_cons_succ]
            refine AtU.take (i := 21) (v := ?_) rfl (by kernel_rfl) (by kernel_rfl) (fun _ _ _ h => h) (by rfl) ?_ ?_
            rotate_left 1
            · intro w9 hSw; (try dsimp only at hSw); go_simp; try with_reducible rfl
            try simp only [Act.put, List.setIfInBounds_toArray, List.set_cons_zero, List.set_cons_succ]
            refine AtU.take (i := 22) (v := ?_) rfl (by kernel_rfl) (by kernel_rfl) (fun _ _ _ h => h) (by rfl) ?_ ?_
            rotate_left 1
            · intro w9 hSw; (try dsimp only at hSw); go_simp; try with_reducible rfl
            try simp only [Act.put, List.setIfInBounds_toArray, List.set_cons_zero, List.set_cons_succ]
            refine AtU.take (i := 25) (v := ?_) rfl (by kernel_rfl) (by kernel_rfl) (fun _ _ _ h => h) (by rfl) ?_ ?_
            rotate_left 1
            · intro w9 hSw; (try dsimp only at hSw); go_simp; try with_reducible rfl
            try simp only [Act.put, List.setIfInBounds_toArray, List.set_cons_zero, List.set_cons_succ]
            refine AtU.take (i := 26) (v := ?_) rfl (by kernel_rfl) (by kernel_rfl) (fun _ _ _ h => h) (by rfl) ?_ ?_
            rotate_left 1
            · intro w9 hSw; (try dsimp only at hSw); go_simp; try with_reducible rfl
            try simp only [Act.put, List.setIfInBounds_toArray, List.set_cons_zero, List.set_cons_succ]
            refine AtU.take (i := 27) (v := ?_) rfl (by kernel_rfl) (by kernel_rfl) (fun _ _ _ h => h) (by rfl) ?_ ?_
            rotate_left 1
            · intro w9 hSw; (try dsimp only at hSw); go_simp; try with_reducible rfl
            try simp only [Act.put, List.setIfInBounds_toArray, List.set_cons_zero, List.set_cons_succ]
            as_aux_lemma =>
              refine AtU.step (i := 23) rfl (by kernel_rfl) (fun K hK => ?_)
              rw [if_pos (by rfl)]
              go_wp2_with (go_at_call 19; refine (HCn.out _).mono ?_; rintro e9 w11 ⟨rfl, hb11⟩)
              have x0_2 := (hb11.cell (p := ⟨w.heap.size, 0, none⟩) (Nat.lt_of_lt_of_le l0 hb10.size)).trans x0_
              have x1_2 := (hb11.cell (p := ⟨w.heap.size, 1, none⟩) (Nat.lt_of_lt_of_le l0 hb10.size)).trans x1_
              have y0_2 := (hb11.cell (p := ⟨w5.heap.size, 0, none⟩) (Nat.lt_of_lt_of_le ly hb10.size)).trans y0_
              have p0_2 := (hb11.cell (p := ⟨w7.heap.size, 0, none⟩) (Nat.lt_of_lt_of_le lp hb10.size)).trans p0_
              have p1_2 := (hb11.cell (p := ⟨w7.heap.size, 1, none⟩) (Nat.lt_of_lt_of_le lp hb10.size)).trans p1_
              have p2_2 := (hb11.cell (p := ⟨w7.heap.size, 2, none⟩) (Nat.lt_of_lt_of_le lp hb10.size)).trans p2_
              have p3_2 := (hb11.cell (p := ⟨w7.heap.size, 3, none⟩) (Nat.lt_of_lt_of_le lp hb10.size)).trans p3_
              have p4_2 := (hb11.cell (p := ⟨w7.heap.size, 4, none⟩) (Nat.lt_of_lt_of_le lp hb10.size)).trans p4_
              have p5_2 := (hb11.cell (p := ⟨w7.heap.size, 5, none⟩) (Nat.lt_of_lt_of_le lp hb10.size)).trans p5_
              have g5_2 := (hb11.cell (p := ⟨gO, 5, none⟩) (Nat.lt_of_lt_of_le hg2 hb10.size)).trans g5_
              refine hK.out _ _ ⟨x0_2, x1_2, y0_2, p0_2, p1_2, p2_2, p3_2, p4_2, p5_2, g5_2⟩ ?_
              clear hK K
              try simp only [Act.put, List.setIfInBounds_toArray, List.set_cons_zero, List.set_cons_succ]
              as_aux_lemma =>
                refine AtU.take (i := 24) (v := ?_) rfl (by kernel_rfl) (by kernel_rfl) (fun _ _ _ h => h) (by rfl) ?_ ?_
                rotate_left 1
                · intro w9 hSw; (try dsimp only at hSw); go_simp; try with_reducible rfl
                try simp only [Act.put, List.setIfInBounds_toArray, List.set_cons_zero, List.set_cons_succ]
                as_aux_lemma =>
                  refine AtU.take (i := 28) (v := ?_) rfl (by kernel_rfl) (by kernel_rfl) (fun _ _ _ h => h) (by rfl) ?_ ?_
                  rotate_left 1
                  · intro w9 hSw; (try dsimp only at hSw); go_simp; try with_reducible rfl
                  try simp only [Act.put, List.setIfInBounds_toArray, List.set_cons_zero, List.set_cons_succ]
                  refine AtU.take (i := 29) (v := ?_) rfl (by kernel_rfl) (by kernel_rfl) (fun _ _ _ h => h) (by rfl) ?_ ?_
                  rotate_left 1
                  · intro w9 hSw; (try dsimp only at hSw); go_simp; try with_reducible rfl
                  try simp only [Act.put, List.setIfInBounds_toArray, List.set_cons_zero, List.set_cons_succ]
                  as_aux_lemma =>
                    refine AtU.take (i := 30) (v := ?_) rfl (by kernel_rfl) (by kernel_rfl) (fun _ _ _ h => h) (by rfl) ?_ ?_
                    rotate_left 1
                    · intro w9 hSw; (try dsimp only at hSw); go_simp; try with_reducible rfl
                    try simp only [Act.put, List.setIfInBounds_toArray, List.set_cons_zero, List.set_cons_succ]
                    refine AtU.take (i := 31) (v := ?_) rfl (by kernel_rfl) (by kernel_rfl) (fun _ _ _ h => h) (by rfl) ?_ ?_
                    rotate_left 1
                    · intro w9 hSw; (try dsimp only at hSw); go_simp; try with_reducible rfl
                    try simp only [Act.put, List.setIfInBounds_toArray, List.set_cons_zero, List.set_cons_succ]
                    as_aux_lemma =>
                      refine AtU.take (i := 32) (v := ?_) rfl (by kernel_rfl) (by kernel_rfl) (fun _ _ _ h => h) (by rfl) ?_ ?_
                      rotate_left 1
                      · intro w9 hSw; (try dsimp only at hSw); go_simp; try with_reducible rfl
                      try simp only [Act.put, List.setIfInBounds_toArray, List.set_cons_zero, List.set_cons_succ]
                      refine AtU.take (i := 33) (v := ?_) rfl (by kernel_rfl) (by kernel_rfl) (fun _ _ _ h => h) (by rfl) ?_ ?_
                      rotate_left 1
                      · intro w9 hSw; (try dsimp only at hSw); go_simp; try with_reducible rfl
                      try simp only [Act.put, List.setIfInBounds_toArray, List.set_cons_zero, List.set_cons_succ]
                      as_aux_lemma =>
                        refine AtU.take (i := 34) (v := ?_) rfl (by kernel_rfl) (by kernel_rfl) (fun _ _ _ h => h) (by rfl) ?_ ?_
                        rotate_left 1
                        · intro w9 hSw; (try dsimp only at hSw); go_simp; try with_reducible rfl
                        try simp only [Act.put, List.setIfInBounds_toArray, List.set_cons_zero, List.set_cons_succ]
                        refine AtU.take (i := 35) (v := ?_) rfl (by kernel_rfl) (by kernel_rfl) (fun _ _ _ h => h) (by rfl) ?_ ?_
                        rotate_left 1
                        · intro w9 hSw; (try dsimp only at hSw); go_simp; try with_reducible rfl
                        try simp only [Act.put, List.setIfInBounds_toArray, List.set_cons_zero, List.set_cons_succ]
                        as_aux_lemma =>
                          refine AtU.take (i := 36) (v := ?_) rfl (by kernel_rfl) (by kernel_rfl) (fun _ _ _ h => h) (by rfl) ?_ ?_
                          rotate_left 1
                          · intro w9 hSw; (try dsimp only at hSw); go_simp; try with_reducible rfl
                          try simp only [Act.put, List.setIfInBounds_toArray, List.set_cons_zero, List.set_cons_succ]
                          refine AtU.take (i := 37) (v := ?_) rfl (by kernel_rfl) (by kernel_rfl) (fun _ _ _ h => h) (by rfl) ?_ ?_
                          rotate_left 1
                          · intro w9 hSw; (try dsimp only at hSw); go_simp; try with_reducible rfl
                          try simp only [Act.put, List.setIfInBounds_toArray, List.set_cons_zero, List.set_cons_succ]
                          as_aux_lemma =>
                            refine AtU.take (i := 38) (v := ?_) rfl (by kernel_rfl) (by kernel_rfl) (fun _ _ _ h => h) (by rfl) ?_ ?_
                            rotate_left 1
                            · intro w9 hSw; (try dsimp only at hSw); go_simp; try with_reducible rfl
                            try simp only [Act.put, List.setIfInBounds_toArray, List.set_cons_zero, List.set_cons_succ]
                            refine AtU.take (i := 39) (v := ?_) rfl (by kernel_rfl) (by kernel_rfl) (fun _ _ _ h => h) (by rfl) ?_ ?_
                            rotate_left 1
                            · intro w9 hSw; (try dsimp only at hSw); go_simp; try with_reducible rfl
                            try simp only [Act.put, List.setIfInBounds_toArray, List.set_cons_zero, List.set_cons_succ]
                            as_aux_lemma =>
                              refine AtU.take (i := 40) (v := ?_) rfl (by kernel_rfl) (by kernel_rfl) (fun _ _ _ h => h) (by rfl) ?_ ?_
                              rotate_left 1
                              · intro w9 hSw; (try dsimp only at hSw); go_simp; try with_reducible rfl
                              try simp only [Act.put, List.setIfInBounds_toArray, List.set_cons_zero, List.set_cons_succ]
                              refine AtU.take (i := 41) (v := ?_) rfl (by kernel_rfl) (by kernel_rfl) (fun _ _ _ h => h) (by rfl) ?_ ?_
                              rotate_left 1
                              · intro w9 hSw; (try dsimp only at hSw); go_simp; try with_reducible rfl
                              try simp only [Act.put, List.setIfInBounds_toArray, List.set_cons_zero, List.set_cons_succ]
                              as_aux_lemma =>
                                refine AtU.last (i := 42) rfl (by kernel_rfl) (fun K hK => ?_)
                                go_simp
                                refine hK.out _ _ ?_
                                clear hK K
                                have HBz := Lib.hid (below_on (below_on (below_d HB9.out) HB9.out.size hb10) (below_on (below_d HB9.out) HB9.out.size hb10).size hb11)
                                clear x0_ x1_ y0_ p0_ p1_ p2_ p3_ p4_ p5_ g5_ x0_2 x1_2 y0_2 p0_2 p1_2 p2_2 p3_2 p4_2 p5_2 g5_2 x0 x1 y0 p0 p1 p2 p3 p4 p5 g5 hb10 hb11
                                go_wp2
                                go_ret
                                exact ⟨rfl, HBz.out⟩
        · exact absurd hSi.surf hno
      · have hzn : (z2 != 0) = true := by rw [bne, hz2]; rfl
        have HB5 := Lib.hid (below_on HB4.out HB4.out.size hb5)
        clear hb5 HW
        go_wp2
        go_ret
        exact ⟨rfl, HB5.out.alloc HB5.out.size _⟩
end Go.Proofs.YtpnkhgjjlionnaaGreat.Zp
namespace Go.Proofs.YtpnkhgjjlionnaaGreat
open Go.RowKit

theorem three_cells {P : Program} {H : Type} {enc : TypeId × Value → H} {w : World} {base : Nat} {spare : Nat → Bool} {held : Bool} {t u : TypeId} {m : Nat} {cs : List Value} {x : DataW H × List MemPlace}
    (ht : P.underlying t = some (.array 3 u)) (hu : P.underlying u = some (.int .i64)) (hc : P.cellsOf u = 1) (hl : cs.length = 3) (h : DataW.trod enc P w base spare held m t cs = some x) :
    ∃ a b c : Int, cs = [.int .i64 a, .int .i64 b, .int .i64 c] := by
  obtain ⟨xs, n, -, -, -, hx, hel⟩ := DataW.trod_array ht h
  rw [hc] at hel
  match cs, hl with
  | [v0, v1, v2], _ =>
    have key : ∀ i v, i < 3 → ([v0, v1, v2].drop (i * 1)).take 1 = [v] → ∃ z : Int, v = .int .i64 z := by
      intro i v hi hv
      have e := hel i hi
      rw [hv] at e
      obtain ⟨y, hy⟩ : ∃ y, xs[i]? = some y := ⟨xs[i]'(by omega), List.getElem?_eq_getElem _⟩
      rw [hy] at e
      obtain ⟨z, hz, -, -⟩ := DataW.trod_int hu e
      exact ⟨z, by simpa using hz⟩
    obtain ⟨a, rfl⟩ := key 0 v0 (by omega) rfl
    obtain ⟨b, rfl⟩ := key 1 v1 (by omega) rfl
    obtain ⟨c, rfl⟩ := key 2 v2 (by omega) rfl
    exact ⟨a, b, c, rfl⟩
theorem tris_open {H : Type} {enc : TypeId × Value → H} {w : World} {base : Nat} {spare : Nat → Bool} {held : Bool} {m : Nat} {v : Value} {x : DataW H × List MemPlace}
    (h : DataW.trod enc Tryz.prog w base spare held m 22 [v] = some x) : ∃ T, TrisRd w v T := by
  rcases Go.Deep.open_slice Tryz.underlying22 h with ⟨e1, -⟩ | ⟨a, len, cap, q, n, D, Pl, e1, hb, hl, hm, hq, -, hall⟩
  · have e : v = .slice none 0 0 := by simpa using e1
    subst e
    exact ⟨[], none, 0, rfl, by simp, by decide, fun k x y z hk => by simp at hk⟩
  · have e : v = .slice (some a) len cap := by simpa using e1
    subst e
    have h3 : Tryz.prog.cellsOf 60 = 3 := by kernel_rfl
    have hlq : len ≤ q := by rw [hq]; split <;> omega
    have key : ∀ i, ∃ t : Tr, i < len → w.cell? (a.add (i * 3)) = some (.int .i64 t.1) ∧ w.cell? ((a.add (i * 3)).add 1) = some (.int .i64 t.2.1) ∧ w.cell? ((a.add (i * 3)).add 2) = some (.int .i64 t.2.2) := by
      intro i
      by_cases hi : i < len
      · obtain ⟨cs, hcs, htr⟩ := hall i (by omega)
        rw [h3] at hcs
        obtain ⟨-, hcl, hce⟩ := World.cells?_some hcs
        obtain ⟨x, y, z, rfl⟩ := three_cells Tryz.underlying60 Tryz.underlying3 (by kernel_rfl) hcl htr
        refine ⟨(x, y, z), fun _ => ⟨?_, hce 1 (by omega), hce 2 (by omega)⟩⟩
        have := hce 0 (by omega)
        have e0 : (a.add (i * 3)).add 0 = a.add (i * 3) := by simp [Addr.add]
        rw [e0] at this
        exact this
      · exact ⟨(0, 0, 0), fun h => absurd h hi⟩
    obtain ⟨f, hf⟩ := Classical.axiomOfChoice key
    refine ⟨(List.range len).map f, some a, cap, by simp, by simpa using hl, by unfold maxLen at hm; omega, fun k x y z hk => ?_⟩
    have hk' : k < len := by
      have := (List.getElem?_eq_some_iff.1 hk).1
      simpa using this
    rw [List.getElem?_map, List.getElem?_range hk'] at hk
    have hfk : f k = (x, y, z) := by simpa using hk
    obtain ⟨c0, c1, c2⟩ := hf k hk'
    rw [hfk] at c0 c1 c2
    obtain ⟨b, off, spot⟩ := a
    have hspot : spot = none := by simpa [Addr.add] using World.cell?_spot (hf 0 (by omega)).1
    subst hspot
    rw [Addr.add_lit] at c0
    rw [Addr.add_lit, Addr.add_lit] at c1 c2
    refine ⟨b, off, rfl, ?_, c0, c1, c2⟩
    rcases Nat.lt_or_ge b w.heap.size with hlt | hge
    · exact hlt
    · exfalso
      unfold World.cell? at c0
      simp [Array.getElem?_eq_none hge] at c0
set_option maxRecDepth 100000 in
theorem soup_open {H : Type} {enc : TypeId × Value → H} {w : World} {base : Nat} {spare : Nat → Bool} {held : Bool} {r : Go.Reach} {b0 : Nat} {v : Value} {d : DataW H} {p : List MemPlace}
    (hv : Value.okWide Tryz.prog w r b0 24 v) (h : DataW.Trod enc Tryz.prog w base spare held 24 v d p) :
    ∃ (N : Int) (vT : Value) (T : List Tr), v = .agg #[.int .i64 N, vT] ∧ TrisRd w vT T ∧ (Lit.int .i64 N).wf = true := by
  obtain ⟨v0, v1, y0, y1, n, rfl, -, -, h0, h1⟩ := Go.Joins.open_agg2 Tryz.underlying24 (by kernel_rfl) (by kernel_rfl) hv h
  obtain ⟨N, e0, -, hw⟩ := DataW.trod_int Tryz.underlying3 h0
  obtain ⟨T, hT⟩ := tris_open h1
  exact ⟨N, v1, T, by simpa using e0, hT, hw⟩
end Go.Proofs.YtpnkhgjjlionnaaGreat
