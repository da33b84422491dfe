/-
  (*zipper).step, by walking its text.
-/
import Derived.Test.YtgjcigokjfhfkaaAdd
import Derived.Lib.SmallJoins
import Derived.Test.YtgjcigokjfhfkaaConcat
import Derived.Deep.AppendLies
import Derived.Deep.RegionLaw
namespace Go.Proofs.Ytgjcigokjfhfkaa
open Go.RowKit Go.Maps

/-- What a letter does to the loop and to the loops that wait; which vertex it tells. -/
def stepM (c : Int) (i : Nat) (m : ZM) : Int × ZM :=
  if c = 67 then (m.n, { m with n := m.n + 1, loop := m.loop.take 1 ++ [(m.n : Int)] ++ m.loop.drop 1 })
  else if c = 76 then (m.loop.getD (m.loop.length - 1) 0, { m with loop := m.loop.drop (m.loop.length - 1) ++ (m.loop.take (m.loop.length - 1)).drop 1 })
  else if c = 82 then (m.loop.getD 2 0, { m with loop := m.loop.take 1 ++ m.loop.drop 2 })
  else if c = 83 then (m.loop.getD i 0, { m with loop := m.loop.take 1 ++ m.loop.drop i, waits := ((m.loop.drop i).take 1 ++ (m.loop.take i).drop 1) :: m.waits })
  else match m.waits with
    | [] => (m.loop.getD 2 0, m)
    | l :: r => (m.loop.getD 2 0, { m with loop := l, waits := r })

theorem add_block (ad : Addr) (j : Nat) : (ad.add j).block = ad.block := by
  unfold Addr.add
  split <;> rfl
theorem size_setCell' (w : World) (p : Addr) (u : Value) : (w.setCell p u).heap.size = w.heap.size := by simp [World.setCell]
section
variable {w w' : World}
/-- A part of a loop, as it is read. -/
theorem ints_part {g n cap : Nat} {xs ys : List Int} (h : w.ownsRow 0 3 1 (.slice (some ⟨g, 0, none⟩) n cap) n (xs.map (Value.int .i64))) (a k c : Nat) (hy : ys = (xs.drop a).take k) (hk : a + k ≤ xs.length) (hn : xs.length = n) :
    IntsAt w (.slice (some ⟨g, a, none⟩) k c) ys := by
  subst hy
  have hl : ((xs.drop a).take k).length = k := by simp; omega
  refine ⟨⟨g, a, none⟩, c, by rw [hl], (h.lt g rfl).2, fun j u hj => ?_⟩
  have hj' : j < k := by
    have := (List.getElem?_eq_some_iff.1 hj).1
    simp at this
    omega
  have h1 := h.cellAt (a + j) (by omega)
  rw [Addr.add_lit]
  show w.cell? ⟨g, a + j, none⟩ = some u
  rw [h1, ← hj]
  simp [hj', List.getElem?_drop]
theorem loop_form {base n : Nat} {v : Value} {xs : List Value} (h : w.ownsRow base 3 1 v n xs) (hn : 0 < n) : ∃ g cap, v = .slice (some ⟨g, 0, none⟩) n cap ∧ n ≤ cap ∧ cap ≤ 9223372036854775807 := by
  rcases h.2 with ⟨_, h0⟩ | ⟨g, cap, cur, rfl, _, _, h1, h2, _⟩
  · omega
  · exact ⟨g, cap, rfl, h1, by unfold maxLen at h2; omega⟩
theorem ints_new (w : World) (x : Int) (c : Nat) : IntsAt (w.alloc (.cells #[.int .i64 x] 3)) (.slice (some ⟨w.heap.size, 0, none⟩) 1 c) [x] :=
  ⟨_, c, rfl, by simp, fun j u hj => by
    rw [Addr.add_lit]
    have := (Blk.new w 3 #[.int .i64 x]).cell j
    simpa using this.trans (by simpa using hj)⟩
theorem IntsAt.alloc {v : Value} {xs : List Int} (h : IntsAt w v xs) (o : Obj) : IntsAt (w.alloc o) v xs := by
  obtain ⟨ad, cap, rfl, hl, hc⟩ := h
  exact ⟨ad, cap, rfl, by simp; omega, fun j u hj => (World.cell?_alloc_lt w _ (ad.add j) (by rw [add_block]; exact hl)).trans (hc j u hj)⟩
theorem IntsAt.drew {v : Value} {xs : List Int} (h : IntsAt w v xs) : IntsAt w.drew v xs := h
/-- slices.Concat of two slices, of three. -/
theorem concat_two {h N : Nat} {v1 v2 : Value} {x1 x2 : List Int} (hb : Blk w h 52 #[v1, v2]) (i1 : IntsAt w v1 x1) (i2 : IntsAt w v2 x2) (hN : (x1 ++ x2).length = N) (hl : N ≤ 1000000) (h0 : 0 < N) :
    Calls Try.prog 48 #[.slice (some ⟨h, 0, none⟩) 2 2] w fun e w' => ∃ g cap, e = .returned (.slice (some ⟨g, 0, none⟩) N cap) ∧ w'.ownsRow 0 3 1 (.slice (some ⟨g, 0, none⟩) N cap) N ((x1 ++ x2).map (Value.int .i64)) ∧ Below w.heap.size w w' := by
  have hf : flatOf [(v1, x1), (v2, x2)] = x1 ++ x2 := by simp [flatOf]
  refine (concat_any [(v1, x1), (v2, x2)] h _ ?_ hb.lt ?_ (by rw [hf, hN]; exact hl) (by simp) (by simp)).mono ?_
  · intro j hj
    have hj2 : j = 0 ∨ j = 1 := by simp at hj; omega
    rcases hj2 with rfl | rfl
    · exact hb.cell 0
    · exact hb.cell 1
  · intro p hp
    simp at hp
    rcases hp with rfl | rfl
    · exact i1
    · exact i2
  · rintro e w' ⟨v, rfl, h1, h2⟩
    rw [hf, hN] at h1
    obtain ⟨g, cap, rfl, -, -⟩ := loop_form h1 h0
    exact ⟨g, cap, rfl, Go.Joins.ownsRow_le h1 (Nat.zero_le _), h2⟩
theorem concat_three {h N : Nat} {v1 v2 v3 : Value} {x1 x2 x3 : List Int} (hb : Blk w h 52 #[v1, v2, v3]) (i1 : IntsAt w v1 x1) (i2 : IntsAt w v2 x2) (i3 : IntsAt w v3 x3) (hN : (x1 ++ x2 ++ x3).length = N) (hl : N ≤ 1000000) (h0 : 0 < N) :
    Calls Try.prog 48 #[.slice (some ⟨h, 0, none⟩) 3 3] w fun e w' => ∃ g cap, e = .returned (.slice (some ⟨g, 0, none⟩) N cap) ∧ w'.ownsRow 0 3 1 (.slice (some ⟨g, 0, none⟩) N cap) N ((x1 ++ x2 ++ x3).map (Value.int .i64)) ∧ Below w.heap.size w w' := by
  have hf : flatOf [(v1, x1), (v2, x2), (v3, x3)] = x1 ++ x2 ++ x3 := by simp [flatOf]
  refine (concat_any [(v1, x1), (v2, x2), (v3, x3)] h _ ?_ hb.lt ?_ (by rw [hf, hN]; exact hl) (by simp) (by simp)).mono ?_
  · intro j hj
    have hj2 : j = 0 ∨ j = 1 ∨ j = 2 := by simp at hj; omega
    rcases hj2 with rfl | rfl | rfl
    · exact hb.cell 0
    · exact hb.cell 1
    · exact hb.cell 2
  · intro p hp
    simp at hp
    rcases hp with rfl | rfl | rfl
    · exact i1
    · exact i2
    · exact i3
  · rintro e w' ⟨v, rfl, h1, h2⟩
    rw [hf, hN] at h1
    obtain ⟨g, cap, rfl, -, -⟩ := loop_form h1 h0
    exact ⟨g, cap, rfl, Go.Joins.ownsRow_le h1 (Nat.zero_le _), h2⟩
end

/-- What stands when the new loop has been made and put. -/
theorem step_done {w W w1 : World} {base z be bt : Nat} {vT vL vW : Value} {vs : List Value} {m : ZM} {nE nS g1 cap1 N : Nat} {ys ys' : List Int} (hA : ZSX W base z be bt vT vL vW vs m nE (edgesOf m.T) nS (m.T.map sortedT)) (hnE : nE ≤ 3 * m.T.length) (hnS : nS ≤ m.T.length)
    (hBl : Below base w W) (hb1 : Below W.heap.size W w1) (hr1 : w1.ownsRow 0 3 1 (.slice (some ⟨g1, 0, none⟩) N cap1) N (ys.map (Value.int .i64))) (hN : ys.length = N) (hy : ys = ys') :
    (∃ vL', ZS (w1.setCell ⟨z, 2, none⟩ (.slice (some ⟨g1, 0, none⟩) N cap1)) base z be bt vT vL' vW vs { m with loop := ys' }) ∧ Below base w (w1.setCell ⟨z, 2, none⟩ (.slice (some ⟨g1, 0, none⟩) N cap1)) := by
  subst hy
  subst hN
  have h1 := hA.below hb1
  refine ⟨⟨_, nE, nS, hnE, hnS, h1.put (m' := { m with loop := ys }) 2 _ rfl rfl hr1 h1.W h1.R⟩, ?_⟩
  have hsz : base ≤ W.heap.size := Nat.le_trans hA.hz (Nat.le_of_lt hA.blk.lt)
  have : Below base w w1 := ⟨hb1.os.trans hBl.os, hb1.tape.trans hBl.tape, hb1.output.trans hBl.output, Nat.le_trans hBl.size hb1.size, fun b hb => (hb1.block b (Nat.lt_of_lt_of_le hb hsz)).trans (hBl.block b hb)⟩
  exact this.setCell (p := ⟨z, 2, none⟩) hA.hz _

set_option maxRecDepth 100000 in
set_option maxHeartbeats 2000000 in
theorem stepC_any {w : World} {base z be bt : Nat} {vT vL vW : Value} {vs : List Value} {m : ZM} (h : ZS w base z be bt vT vL vW vs m) (i : Int) (hn : 3 ≤ m.loop.length) (hn' : m.loop.length ≤ 900000) (hN : m.n ≤ 900000) :
    Calls Try.prog 35 #[.pointer (some ⟨z, 0, none⟩), .int .u8 67, .int .i64 i] w fun en w' => en = .returned (.int .i64 (m.n : Int)) ∧ (∃ vL', ZS w' base z be bt vT vL' vW vs { m with n := m.n + 1, loop := m.loop.take 1 ++ [(m.n : Int)] ++ m.loop.drop 1 }) ∧ Below base w w' := by
  obtain ⟨nE, nS, hnE, hnS, h⟩ := h
  have hbase : base ≤ w.heap.size := Nat.le_trans h.hz (Nat.le_of_lt h.blk.lt)
  have H := Lib.hid h
  have hzl := h.blk.lt
  obtain ⟨-, c0, c1, c2, c3, c4, c5, fz⟩ := h.blk.six'
  have hL := h.L
  obtain ⟨g, cap, rfl, hcap, hcap'⟩ := loop_form hL (by omega)
  clear h
  obtain ⟨n, en⟩ : ∃ n, n = m.loop.length := ⟨_, rfl⟩
  rw [← en] at hn hn' hcap H hL c2
  have hA := (((H.out.put (vL' := .slice (some ⟨g, 0, none⟩) n cap) (vW' := vW) (vs' := vs) (m' := { m with n := m.n + 1 }) 0 (.int .i64 ((m.n + 1 : Nat) : Int)) rfl rfl (by rw [← en]; exact hL) H.out.W H.out.R).alloc (.cells #[.int .i64 (m.n : Int)] 3)).alloc (.cells #[.slice (some ⟨g, 0, none⟩) 1 cap, .slice (some ⟨w.heap.size, 0, none⟩) 1 1, .slice (some ⟨g, 1, none⟩) (n - 1) (cap - 1)] 52)).drew.drew
  rw [show ((m.n + 1 : Nat) : Int) = (m.n : Int) + 1 from by omega] at hA
  have hB : Blk ((((w.setCell ⟨z, 0, none⟩ (.int .i64 ((m.n : Int) + 1))).alloc (.cells #[.int .i64 (m.n : Int)] 3)).alloc (.cells #[.slice (some ⟨g, 0, none⟩) 1 cap, .slice (some ⟨w.heap.size, 0, none⟩) 1 1, .slice (some ⟨g, 1, none⟩) (n - 1) (cap - 1)] 52)).drew.drew) (w.heap.size + 1) 52 #[.slice (some ⟨g, 0, none⟩) 1 cap, .slice (some ⟨w.heap.size, 0, none⟩) 1 1, .slice (some ⟨g, 1, none⟩) (n - 1) (cap - 1)] := by
    have := Blk.new ((w.setCell ⟨z, 0, none⟩ (.int .i64 ((m.n : Int) + 1))).alloc (.cells #[.int .i64 (m.n : Int)] 3)) 52 #[.slice (some ⟨g, 0, none⟩) 1 cap, .slice (some ⟨w.heap.size, 0, none⟩) 1 1, .slice (some ⟨g, 1, none⟩) (n - 1) (cap - 1)]
    rw [size_alloc', size_setCell'] at this
    exact this
  have hI := ((ints_new (w.setCell ⟨z, 0, none⟩ (.int .i64 ((m.n : Int) + 1))) (m.n : Int) 1).alloc (.cells #[.slice (some ⟨g, 0, none⟩) 1 cap, .slice (some ⟨w.heap.size, 0, none⟩) 1 1, .slice (some ⟨g, 1, none⟩) (n - 1) (cap - 1)] 52)).drew.drew
  rw [size_setCell'] at hI
  have hBl : Below base w ((((w.setCell ⟨z, 0, none⟩ (.int .i64 ((m.n : Int) + 1))).alloc (.cells #[.int .i64 (m.n : Int)] 3)).alloc (.cells #[.slice (some ⟨g, 0, none⟩) 1 cap, .slice (some ⟨w.heap.size, 0, none⟩) 1 1, .slice (some ⟨g, 1, none⟩) (n - 1) (cap - 1)] 52)).drew.drew) :=
    (((((Below.refl base w).setCell (p := ⟨z, 0, none⟩) H.out.hz _).alloc (by rw [size_setCell']; exact hbase) _).alloc (by rw [size_alloc', size_setCell']; omega) _).drew).drew
  have hA5 := hA.L
  simp only at hA5
  rw [← en] at hA5
  have j1 := ints_part hA5 0 1 cap rfl (by omega) en.symm
  have j3 := ints_part hA5 1 (n - 1) (cap - 1) rfl (by omega) en.symm
  have HA := Lib.hid hA
  have HB := Lib.hid hB
  have HI := Lib.hid hI
  have HBl := Lib.hid hBl
  have J1 := Lib.hid j1
  have J3 := Lib.hid j3
  clear hA hB hI hBl hA5 j1 j3 hL
  have eN : ((m.loop.drop 0).take 1 ++ [(m.n : Int)] ++ (m.loop.drop 1).take (n - 1)).length = n + 1 := by simp; omega
  have EN := Lib.hid eN
  have e2 : (m.loop.drop 0).take 1 ++ [(m.n : Int)] ++ (m.loop.drop 1).take (n - 1) = m.loop.take 1 ++ [(m.n : Int)] ++ m.loop.drop 1 := by
    rw [List.drop_zero, List.take_of_length_le (l := m.loop.drop 1) (by simp; omega)]
  have E2 := Lib.hid e2
  have En := Lib.hid en
  clear eN e2 en
  go_enter Try.func35, Try.ntmps35
  go_wp2
  go_region
  go_wp2
  go_region_with (go_at_call 48; refine (concat_three HB.out J1.out HI.out J3.out EN.out (by omega) (by omega)).mono ?_; rintro e w1 ⟨g1, cap1, rfl, hr1, hb1⟩; obtain ⟨-, d0, d1, d2, d3, d4, d5, dz⟩ := (HA.out.below hb1).blk.six')
  all_goals
    go_wp2
    go_ret
    have := step_done HA.out hnE hnS HBl.out hb1 hr1 EN.out E2.out
    exact ⟨rfl, this.1, this.2⟩
end Go.Proofs.Ytgjcigokjfhfkaa
