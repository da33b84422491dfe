/-
  gypsumref23.Triangles, by walking its text.
-/
import Derived.Test.YtgjcigokjfhfkaaR22B
import Derived.Test.YtgjcigokjfhfkaaStepE
import Derived.Test.YtgjcigokjfhfkaaSame
import Derived.Test.YtgjcigokjfhfkaaOther
import Derived.Deep.AppendLies
namespace Go.Proofs.Ytgjcigokjfhfkaa
open Go.RowKit Go.Maps

/-- What the reference keeps: triangles, the loop, the loops that wait. -/
structure TSt (w : World) (base : Nat) (vT vL vW : Value) (vs : List Value) (m : ZM) : Prop where
  T : w.ownsRow base 57 3 vT m.T.length (triCells m.T)
  L : w.ownsRow 0 3 1 vL m.loop.length (m.loop.map (Value.int .i64))
  W : w.ownsRow base 52 1 vW m.waits.length vs.reverse
  R : RowsAt w vs m.waits
section
variable {w w' : World} {base : Nat} {vT vL vW : Value} {vs : List Value} {m : ZM}
theorem row_below {base : Nat} {e : TypeId} {size n : Nat} {v : Value} {xs : List Value} (h : w.ownsRow base e size v n xs) (hb : Below w.heap.size w w') : w'.ownsRow base e size v n xs :=
  h.kept (grown_of_below hb none) (by cases v.ownBlock <;> simp)
theorem TSt.below (h : TSt w base vT vL vW vs m) (hb : Below w.heap.size w w') : TSt w' base vT vL vW vs m :=
  ⟨row_below h.T hb, row_below h.L hb, row_below h.W hb, h.R.kept fun _ _ _ hv => row_below hv hb⟩
theorem TSt.drew (h : TSt w base vT vL vW vs m) : TSt w.drew base vT vL vW vs m := ⟨h.T, h.L, h.W, h.R⟩
theorem TSt.alloc (h : TSt w base vT vL vW vs m) (o : Obj) : TSt (w.alloc o) base vT vL vW vs m :=
  ⟨h.T.alloc o, h.L.alloc o, h.W.alloc o, h.R.kept fun _ _ _ hv => hv.alloc o⟩
/-- The loop is another one. -/
theorem TSt.loop {vL' : Value} {l : List Int} (h : TSt w base vT vL vW vs m) (hb : Below w.heap.size w w') (hL : w'.ownsRow 0 3 1 vL' l.length (l.map (Value.int .i64))) : TSt w' base vT vL' vW vs { m with loop := l } :=
  ⟨row_below h.T hb, hL, row_below h.W hb, h.R.kept fun _ _ _ hv => row_below hv hb⟩
theorem TSt.tri {tmp : Obj} {vT' : Value} {a b c : Int} (h : TSt w base vT vL vW vs m) (hg : (w.alloc tmp).grownBy w' vT.ownBlock) (hr : w'.ownsRow base 57 3 vT' (m.T.length + 1) (triCells m.T ++ [.int .i64 a, .int .i64 b, .int .i64 c])) : TSt w' base vT' vL vW vs { m with T := m.T ++ [(a, b, c)] } := by
  have hg' := gGrown (World.grownBy_alloc w tmp _) hg (fun j e => .inl e)
  refine ⟨?_, h.L.kept hg' (own_own_ne h.L h.T (by decide)), h.W.kept hg' (own_own_ne h.W h.T (by decide)), h.R.kept fun _ _ _ hv => hv.kept hg' (own_own_ne hv h.T (by decide))⟩
  simp only [List.length_append, List.length_cons, List.length_nil, triCells_snoc]
  exact hr
theorem TSt.wait {tmp : Obj} {vW' v : Value} {l : List Int} (h : TSt w base vT vL vW vs m) (hv : w.ownsRow 0 3 1 v l.length (l.map (Value.int .i64))) (hg : (w.alloc tmp).grownBy w' vW.ownBlock) (hr : w'.ownsRow base 52 1 vW' (m.waits.length + 1) (vs.reverse ++ [v])) : TSt w' base vT vL vW' (v :: vs) { m with waits := l :: m.waits } := by
  have hg' := gGrown (World.grownBy_alloc w tmp _) hg (fun j e => .inl e)
  refine ⟨h.T.kept hg' (own_own_ne h.T h.W (by decide)), h.L.kept hg' (own_own_ne h.L h.W (by decide)), ?_, (h.R.kept fun _ _ _ hv => hv.kept hg' (own_own_ne hv h.W (by decide))).cons (hv.kept hg' (own_own_ne hv h.W (by decide)))⟩
  simp only [List.length_cons, List.reverse_cons]
  exact hr
theorem news_part {g n cap : Nat} {xs ys : List Int} (h : w.ownsRow 0 3 1 (.slice (some ⟨g, 0, none⟩) n cap) n (xs.map (Value.int .i64))) (a k : Nat) (hy : ys = (xs.drop a).take k) (hk : a + k ≤ xs.length) (hn : xs.length = n) :
    ∀ j u, (ys.map (Value.int .i64))[j]? = some u → w.cell? ((⟨g, a, none⟩ : Addr).add j) = some u := by
  subst hy
  intro j u hj
  have hj' : j < k := by
    have := (List.getElem?_eq_some_iff.1 hj).1
    simp at this
    omega
  have h1 := h.cellAt (a + j) (by omega)
  rw [Addr.add_lit]
  show w.cell? ⟨g, a + j, none⟩ = some u
  rw [h1, ← hj]
  simp [hj', List.getElem?_drop]
/-- A new slice, onto which a part of an old one was appended: what was there is there. -/
theorem below_app {W : World} {o : Obj} {v : Value} (hg : (w.alloc o).grownBy W v.ownBlock) (hv : v.ownBlock = some w.heap.size) : Below w.heap.size w W := by
  rw [hv] at hg
  exact below_of_grown (gGrown (World.grownBy_alloc w o none) hg (fun j e => by cases e; exact .inr (Nat.le_refl _))) (Nat.le_refl _) (fun j e => by cases e)
end
theorem headAt_st {zs : List Int} {p : Nat} {x : Int} {r : List Int} (h : stAt zs p = some (x :: r)) : headAt zs p = x := by
  unfold headAt
  rw [ex_of_st h]
  rfl
theorem ints_one (xs : List Int) : ∀ u ∈ xs.map (Value.int .i64), u.oneCell' = true := by
  intro u hu
  simp at hu
  obtain ⟨x, _, rfl⟩ := hu
  simp [Value.oneCell']

theorem TSt.setn {w : World} {base : Nat} {vT vL vW : Value} {vs : List Value} {m : ZM} (h : TSt w base vT vL vW vs m) (j : Nat) : TSt w base vT vL vW vs { m with n := j } := ⟨h.T, h.L, h.W, h.R⟩
theorem take_one {l : List Int} {a : Int} (h : 0 < l.length) (ha : l.getD 0 0 = a) : l.take 1 = [a] := by
  match l, h, ha with
  | x :: r, _, ha => simp at ha; simp [ha]
/-- The loop that an append has made. -/
theorem TSt.app {w W : World} {o : Obj} {base g4 cap4 N : Nat} {vT vL vW : Value} {vs cells : List Value} {m : ZM} {l : List Int} (h : TSt w base vT vL vW vs m) (hg : (w.alloc o).grownBy W (some w.heap.size)) (hr : W.ownsRow w.heap.size 3 1 (.slice (some ⟨g4, 0, none⟩) N cap4) N cells)
    (hl : cells = l.map (Value.int .i64)) (hN : l.length = N) : TSt W base vT (.slice (some ⟨g4, 0, none⟩) N cap4) vW vs { m with loop := l } ∧ Below w.heap.size w W := by
  have hb : Below w.heap.size w W := below_of_grown (gGrown (World.grownBy_alloc w o none) hg (fun j e => by cases e; exact .inr (Nat.le_refl _))) (Nat.le_refl _) (fun j e => by cases e)
  subst hl
  subst hN
  exact ⟨h.loop hb (Go.Joins.ownsRow_le hr (Nat.zero_le _)), hb⟩
theorem below_tri {base : Nat} {w W4 W5 : World} {o : Obj} {v : Value} (hb : Below base w W4) (hsz : base ≤ W4.heap.size) (hg : (W4.alloc o).grownBy W5 v.ownBlock) (hv : ∀ j, v.ownBlock = some j → base ≤ j) : Below base w W5 :=
  hb.grown (gGrown (World.grownBy_alloc W4 o _) hg (row := v.ownBlock) (fun _ e => .inl e)) hsz hv

set_option maxRecDepth 100000 in
set_option maxHeartbeats 8000000 in
theorem triangles_any (s : ByteArray) (hs : s.size ≤ 1000) (h : ref24M (lettersOf s) = true) (w : World) :
    Calls Try.prog 38 #[.string s] w fun e w' => ∃ v, e = .returned (.tuple #[v, .int .i64 ((zmAt (lettersOf s) s.size).n : Int)]) ∧ TrisAt w' v (zmAt (lettersOf s) s.size).T ∧ Below w.heap.size w w' := by
  have hm := miss_right h
  have HL := Lib.hid (lettersOf_length s)
  have HZI := Lib.hid (zinv_at h)
  have H := Lib.hid h
  have HX := Lib.hid (run_of_right h)
  obtain ⟨i1, hi', hy0, hy1, hy2⟩ := info_parts info_int
  obtain ⟨i2, hj', hz0, hz1, hz2⟩ := info_parts info_tri
  obtain ⟨i3, hk', hx0, hx1, hx2⟩ := info_parts info_sl
  go_enter Try.func38, Try.ntmps38
  go_wp2_with fail
  refine (lengths22_some s (by omega) hm _).mono ?_
  rintro e w1 ⟨vl, rfl, hrl, hb1⟩
  have hpos : 0 < s.size := by rw [← HL.out]; exact right_pos h
  obtain ⟨gl, cl, rfl, hcl, hcl'⟩ := loop_form hrl hpos
  have hgl : gl < w1.heap.size := (hrl.lt gl rfl).2
  have hB1 := Lib.hid hb1
  have HRL := Lib.hid hrl
  have t0 : (w1.alloc (.cells #[.int .i64 0, .int .i64 1, .int .i64 2] 57)).ownsRow w1.heap.size 57 3 (.slice (some ⟨w1.heap.size, 0, none⟩) 1 1) 1 (triCells [(0, 1, 2)]) := World.ownsRow_lit w1 #[.int .i64 0, .int .i64 1, .int .i64 2] 1 (Nat.le_refl _) (by decide) rfl
  have l0 : ((w1.alloc (.cells #[.int .i64 0, .int .i64 1, .int .i64 2] 57)).alloc (.cells #[.int .i64 1, .int .i64 0, .int .i64 2] 3)).ownsRow 0 3 1 (.slice (some ⟨w1.heap.size + 1, 0, none⟩) 3 3) 3 (([1, 0, 2] : List Int).map (Value.int .i64)) := by
    have := World.ownsRow_lit (w1.alloc (.cells #[.int .i64 0, .int .i64 1, .int .i64 2] 57)) (base := 0) (e := 3) (size := 1) #[.int .i64 1, .int .i64 0, .int .i64 2] 3 (Nat.zero_le _) (by decide) rfl
    rw [size_alloc'] at this
    exact this
  have hT0 : TSt ((w1.alloc (.cells #[.int .i64 0, .int .i64 1, .int .i64 2] 57)).alloc (.cells #[.int .i64 1, .int .i64 0, .int .i64 2] 3)) w1.heap.size (.slice (some ⟨w1.heap.size, 0, none⟩) 1 1) (.slice (some ⟨w1.heap.size + 1, 0, none⟩) 3 3) (.slice none 0 0) [] (zmAt (lettersOf s) 0) :=
    ⟨t0.alloc _, l0, World.ownsRow_nil _ _ _ _, ⟨rfl, fun j v l h1 => by simp at h1⟩⟩
  have hB0 : Below w1.heap.size w1 ((w1.alloc (.cells #[.int .i64 0, .int .i64 1, .int .i64 2] 57)).alloc (.cells #[.int .i64 1, .int .i64 0, .int .i64 2] 3)) := ((Below.refl _ _).alloc (Nat.le_refl _) _).alloc (by simp) _
  clear h hm hb1 hrl t0 l0
  go_wp2
  go_loopw [6, 7, 8, 9, 10] (fun v6 v7 v8 v9 i wr => ∃ (k : Nat) (m : ZM) (vT vL vW : Value) (vs : List Value), vT = v6 ∧ vL = v8 ∧ vW = v9 ∧ v7 = .int .i64 (m.n : Int) ∧ k ≤ s.size ∧ i = .int .i64 k ∧ m.T = (zmAt (lettersOf s) k).T ∧ m.n = (zmAt (lettersOf s) k).n ∧ (k < s.size → m = zmAt (lettersOf s) k) ∧ TSt wr w1.heap.size vT vL vW vs m ∧ Below w1.heap.size w1 wr) (fun _ _ _ _ i _ => s.size - (intOf i).toNat)
  case atStart => exact ⟨0, zmAt (lettersOf s) 0, _, _, _, [], rfl, rfl, rfl, rfl, Nat.zero_le _, rfl, rfl, rfl, fun _ => rfl, hT0, hB0⟩
  case round =>
    obtain ⟨k, m, vT, vL, vW, vs, rfl, rfl, rfl, rfl, hk, rfl, hmT, hmn, hmz, hT, hB⟩ := hrel
    by_cases hlt : k < s.size
    · have hmz' := hmz hlt
      have hkl : k < (lettersOf s).length := by rw [HL.out]; exact hlt
      have hinv := HZI.out k (by omega)
      rw [← hmz'] at hinv
      obtain ⟨n1, n2, n3, n4, n5⟩ := hinv.len hkl
      obtain ⟨t1, t2, t3, t4, t5, t6⟩ := hinv.tri hkl
      have hnext : zmAt (lettersOf s) (k + 1) = nextM (lettersOf s) k m := by rw [hmz']; rfl
      have hat := letter_at s k hlt
      rw [← getD_getElem hkl] at hat
      have hnn : (m.n : Int) ≤ 3 + 1000 := by
        have h1 := hinv.n
        have h2 := (cnt_le ((lettersOf s).take k) 67).2
        rw [List.length_take, HL.out] at h2
        omega
      have hTl := hinv.T
      have hst := hinv.st hkl
      rw [HL.out] at n2 n3
      obtain ⟨g, cap, rfl, hcap, hcap'⟩ := loop_form hT.L (by omega)
      obtain ⟨n, hn⟩ : ∃ n, m.loop.length = n := ⟨_, rfl⟩
      have hTL := hT.L
      rw [hn] at hTL n1 n2 hcap hT hst ⊢
      have r0 := loop_cell (k := 0) hTL (by omega) hn
      have r1 := loop_cell (k := 1) hTL (by omega) hn
      obtain ⟨a, ha⟩ : ∃ a, m.loop.getD 0 0 = a := ⟨_, rfl⟩
      obtain ⟨b, hb⟩ : ∃ b, m.loop.getD 1 0 = b := ⟨_, rfl⟩
      rw [ha] at r0
      rw [hb] at r1
      have hsz := hB.size
      have HK := Lib.hid (hinv.kind hkl)
      have HT := Lib.hid hT
      have HB := Lib.hid hB
      have Hat := Lib.hid hat
      have HN := Lib.hid hn
      have Hnext := Lib.hid hnext
      have Hst := Lib.hid hst
      have H5 := Lib.hid n5
      have HTL := Lib.hid hTL
      have Ha := Lib.hid ha
      have Hb := Lib.hid hb
      have HTl := Lib.hid hTl
      have hglt : g < wr.heap.size := (hTL.lt g rfl).2
      have hkT : m.T.length ≤ 1001 := by rw [hTl]; omega
      have c6 : m.T.length + 1 ≤ maxLen := by unfold maxLen; omega
      have c7 : (m.T.length + 1) * 24 ≤ 140737488355328 := by omega
      have n2' : n ≤ 4000 := by omega
      clear hT hB hat hn hnext hst n5 hTL ha hb hTl t1 t2 t3 t4 t5 t6 hinv hmz hmz' hmT hmn n2
      rcases n4 with hc | hc | hc | hc | hc
      · have hcs : ((s[k]'hlt).toNat : Int) = 67 := by rw [← Hat.out]; exact hc
        have b1 : (((s[k]'hlt).toNat : Int) == 67) = true := by rw [hcs]; rfl
        have hmx : nextM (lettersOf s) k m = { n := m.n + 1, T := m.T ++ [((m.n : Int), m.loop.getD 0 0, m.loop.getD 1 0)], loop := m.loop.take 1 ++ [(m.n : Int)] ++ m.loop.drop 1, waits := m.waits } := by
          simp only [nextM, stepM, hc, if_true]
        rw [Ha.out, Hb.out] at hmx
        have HMX := Lib.hid hmx
        have hown := (World.ownsRow_lit wr (base := wr.heap.size) (e := 3) (size := 1) #[.int .i64 a, .int .i64 (m.n : Int)] 2 (Nat.le_refl _) (by decide) rfl).drew
        have hnews := news_part ((HTL.out.alloc (.cells #[.int .i64 a, .int .i64 (m.n : Int)] 3)).drew) 1 (n - 1) rfl (by have := HN.out; omega) HN.out
        have hel : #[Value.int .i64 a, .int .i64 (m.n : Int)].toList ++ ((m.loop.drop 1).take (n - 1)).map (Value.int .i64) = (m.loop.take 1 ++ [(m.n : Int)] ++ m.loop.drop 1).map (Value.int .i64) := by
          have h1 := HN.out
          rw [take_one (by omega) Ha.out, List.take_of_length_le (l := m.loop.drop 1) (by simp; omega)]
          simp
        have hNl : (m.loop.take 1 ++ [(m.n : Int)] ++ m.loop.drop 1).length = 2 + (n - 1) := by have := HN.out; simp; omega
        have Hel := Lib.hid hel
        have HNl := Lib.hid hNl
        have Hown := Lib.hid hown
        have Hnews := Lib.hid hnews
        have hyl : (((m.loop.drop 1).take (n - 1)).map (Value.int .i64)).length = (n - 1) * 1 := by have := HN.out; simp; omega
        have Hyl := Lib.hid hyl
        have c3 : 2 + (n - 1) ≤ maxLen := by unfold maxLen; omega
        have c4 : (2 + (n - 1)) * 8 ≤ 140737488355328 := by omega
        clear hc hcs hmx hown hnews hyl hel hNl
        go_wp2
        go_region
        go_wp2_with (first
          | (at_builtin; refine wpList_append_lies _ rfl (.tmp 48) (.tmp 50) 52 rfl wr.heap.size 3 i1 _ 1 8 Try.underlying52 hi' hy0 hy1 hy2 rfl (by decide) _ _ _ rfl Hown.out ⟨g, 1, none⟩ (n - 1) (cap - 1) _ rfl Hyl.out Hnews.out (ints_one _) (by omega) c3 c4 (by simp) (wr.heap.size + 1) (by simp) ?_; intro g4 cap4 W4 hr4 hg4 _ hlt4; have HA4 := Lib.hid (TSt.app (w := wr.drew) HT.out.drew hg4 hr4 Hel.out HNl.out); have hsz4 : wr.heap.size ≤ W4.heap.size := HA4.out.2.size)
          | (at_builtin; refine wpList_append_lies _ rfl (.tmp 127) (.tmp 132) 40 rfl w1.heap.size 57 i2 _ 3 24 Try.underlying40 hj' hz0 hz1 hz2 rfl (by decide) _ _ _ rfl (HA4.out.1.T.alloc _) ⟨W4.heap.size, 0, none⟩ 1 1 [.int .i64 (m.n : Int), .int .i64 a, .int .i64 b] rfl rfl (World.news_of_block (heap_alloc_new _ _)) (by simp [Value.oneCell']) (by decide) c6 c7 (by simp; omega) (W4.heap.size + 1) (by simp) ?_; intro g5 cap5 W5 hr5 hg5 _ _))
        go_roundw
        case measure => simp [intOf]; omega
        case rel =>
          have hTv := fun j e => (HA4.out.1.T.lt j e).1
          refine ⟨k + 1, zmAt (lettersOf s) (k + 1), _, _, _, vs, rfl, rfl, rfl, ?_, by omega, by go_num, rfl, rfl, fun _ => rfl, ?_, below_tri (below_on HB.out.drew hsz HA4.out.2) (Nat.le_trans hsz hsz4) hg5 hTv⟩
          · rw [Hnext.out, HMX.out]; simp
          · rw [Hnext.out, HMX.out]; exact (HA4.out.1.tri hg5 hr5).setn (m.n + 1)
      · have hcs : ((s[k]'hlt).toNat : Int) = 69 := by rw [← Hat.out]; exact hc
        have b1 : (((s[k]'hlt).toNat : Int) == 67) = false := by rw [hcs]; rfl
        have b2 : (((s[k]'hlt).toNat : Int) == 69) = true := by rw [hcs]; rfl
        have rx := loop_cell (k := 2) HTL.out (by omega) HN.out
        obtain ⟨x, hx⟩ : ∃ x, m.loop.getD 2 0 = x := ⟨_, rfl⟩
        rw [hx] at rx
        cases hws : m.waits with
        | nil =>
          have hmx : nextM (lettersOf s) k m = { n := m.n, T := m.T ++ [(m.loop.getD 2 0, m.loop.getD 0 0, m.loop.getD 1 0)], loop := m.loop, waits := m.waits } := by
            simp only [nextM, stepM, hc, hws, if_false, Int.reduceEq]
          rw [hx, Ha.out, Hb.out] at hmx
          have hlast : ¬ k + 1 < s.size := by
            intro hk1
            have hk1' : k + 1 < (lettersOf s).length := by rw [HL.out]; exact hk1
            have h1 := (HZI.out (k + 1) (by omega)).st hk1'
            have h2 := stAt_step _ k hkl
            rw [Hst.out, h1, ← getD_getElem hkl, hc, hws] at h2
            simp [ref24Step] at h2
          have HMX := Lib.hid hmx
          have HLast := Lib.hid hlast
          obtain ⟨aw, cw, rfl, -, -⟩ := row_form HT.out.W
          have HA4 : TSt wr.drew w1.heap.size vT (.slice none 0 0) (.slice aw m.waits.length cw) vs { m with loop := [] } := ⟨HT.out.T, World.ownsRow_nil _ _ _ _, HT.out.W, HT.out.R⟩
          have hB4 := HB.out.drew
          have HA := Lib.hid HA4
          have HB4 := Lib.hid hB4
          have hwl : m.waits.length = 0 := by rw [hws]; rfl
          rw [hwl] at HA HT ⊢
          clear hc hcs hmx hlast hB4 HA4 hx hws
          go_wp2
          go_region
          go_wp2_with (at_builtin; refine wpList_append_lies _ rfl (.tmp 127) (.tmp 132) 40 rfl w1.heap.size 57 i2 _ 3 24 Try.underlying40 hj' hz0 hz1 hz2 rfl (by decide) _ _ _ rfl (HA.out.T.alloc _) ⟨wr.heap.size, 0, none⟩ 1 1 [.int .i64 x, .int .i64 a, .int .i64 b] rfl rfl (World.news_of_block (heap_alloc_new _ _)) (by simp [Value.oneCell']) (by decide) c6 c7 (by simp; omega) (wr.heap.size + 1) (by simp) ?_; intro g5 cap5 W5 hr5 hg5 _ _)
          go_roundw
          case measure => simp [intOf]; omega
          case rel =>
            have hTv := fun j e => (HA.out.T.lt j e).1
            refine ⟨k + 1, { n := m.n, T := m.T ++ [(x, a, b)], loop := [], waits := m.waits }, _, _, _, vs, rfl, rfl, rfl, rfl, by omega, by go_num, ?_, ?_, fun h => absurd h HLast.out, HA.out.tri hg5 hr5, below_tri HB4.out (by have := HB4.out.size; simp at this ⊢; omega) hg5 hTv⟩
            · rw [Hnext.out, HMX.out]
            · rw [Hnext.out, HMX.out]
        | cons l r =>
          have hmx : nextM (lettersOf s) k m = { n := m.n, T := m.T ++ [(m.loop.getD 2 0, m.loop.getD 0 0, m.loop.getD 1 0)], loop := l, waits := r } := by
            simp only [nextM, stepM, hc, hws, if_false, Int.reduceEq]
          rw [hx, Ha.out, Hb.out] at hmx
          have HMX := Lib.hid hmx
          have hR := HT.out.R
          rw [hws] at hR
          obtain ⟨v, vr, rfl⟩ : ∃ v vr, vs = v :: vr := by
            have h4 := hR.1
            cases vs with
            | nil => simp at h4
            | cons v vr => exact ⟨v, vr, rfl⟩
          obtain ⟨hR1, hR2⟩ := hR.tail
          obtain ⟨av, cv, rfl, -, -⟩ := row_form hR2
          have hW := HT.out.W
          rw [hws, List.length_cons, List.reverse_cons] at hW
          obtain ⟨gw, cw, rfl⟩ := ownsRow_succ hW
          have hwl : vr.reverse.length = r.length := by have := hR1.1; simpa using this
          have q0 : wr.cell? ⟨gw, r.length, none⟩ = some (.slice av l.length cv) := by
            rw [hW.cellAt r.length (by omega), List.getElem?_append_right (by omega), hwl]
            simp
          obtain ⟨_, _, eq, hcw, hcw'⟩ := row_form hW
          cases eq
          have hgw : gw < wr.heap.size := (hW.lt gw rfl).2
          have HA4 : TSt wr.drew w1.heap.size vT (.slice av l.length cv) (.slice (some ⟨gw, 0, none⟩) r.length cw) vr { m with loop := l, waits := r } := ⟨HT.out.T, hR2, cut_own hW (by simpa using hwl) (by omega), hR1⟩
          have hB4 := HB.out.drew
          have HA := Lib.hid HA4
          have HB4 := Lib.hid hB4
          have hrl : r.length ≤ 1000 := by rw [hws] at n3; simp at n3; omega
          have d1 : IntKind.i64.wrap ((r.length : Int) + 1 - 1) = (r.length : Int) := by rw [IntWalk.i64_in _ (by omega)]; omega
          have d2 : IntKind.i64.wrap (r.length : Int) = (r.length : Int) := IntWalk.i64_in _ (by omega)
          have d3 : (0 : Int) ≤ (r.length : Int) := by omega
          have d4 : (r.length : Int) < (r.length : Int) + 1 := by omega
          have d5 : (r.length : Int) ≤ (cw : Int) := by omega
          have d6 : (0 : Int) < (r.length : Int) + 1 := by omega
          clear hc hcs hmx hB4 HA4 hx hR hR1 hR2 hW hws HT
          go_wp2
          go_region
          go_wp2_with (at_builtin; refine wpList_append_lies _ rfl (.tmp 127) (.tmp 132) 40 rfl w1.heap.size 57 i2 _ 3 24 Try.underlying40 hj' hz0 hz1 hz2 rfl (by decide) _ _ _ rfl (HA.out.T.alloc _) ⟨wr.heap.size, 0, none⟩ 1 1 [.int .i64 x, .int .i64 a, .int .i64 b] rfl rfl (World.news_of_block (heap_alloc_new _ _)) (by simp [Value.oneCell']) (by decide) c6 c7 (by simp; omega) (wr.heap.size + 1) (by simp) ?_; intro g5 cap5 W5 hr5 hg5 _ _)
          go_roundw
          case measure => simp [intOf]; omega
          case rel =>
            have hTv := fun j e => (HA.out.T.lt j e).1
            refine ⟨k + 1, zmAt (lettersOf s) (k + 1), _, _, _, vr, rfl, rfl, rfl, ?_, by omega, by go_num, rfl, rfl, fun _ => rfl, ?_, below_tri HB4.out (by have := HB4.out.size; simp at this ⊢; omega) hg5 hTv⟩
            · rw [Hnext.out, HMX.out]
            · rw [Hnext.out, HMX.out]; exact HA.out.tri hg5 hr5
      · obtain ⟨q, rfl⟩ : ∃ q, n = q + 1 := ⟨n - 1, by omega⟩
        have hcs : ((s[k]'hlt).toNat : Int) = 76 := by rw [← Hat.out]; exact hc
        have b1 : (((s[k]'hlt).toNat : Int) == 67) = false := by rw [hcs]; rfl
        have b2 : (((s[k]'hlt).toNat : Int) == 69) = false := by rw [hcs]; rfl
        have b3 : (((s[k]'hlt).toNat : Int) == 76) = true := by rw [hcs]; rfl
        have hmx : nextM (lettersOf s) k m = { n := m.n, T := m.T ++ [(m.loop.getD (m.loop.length - 1) 0, m.loop.getD 0 0, m.loop.getD 1 0)], loop := m.loop.drop (m.loop.length - 1) ++ (m.loop.take (m.loop.length - 1)).drop 1, waits := m.waits } := by
          simp only [nextM, stepM, hc, if_true, if_false, Int.reduceEq]
        have rx := loop_cell (k := q) HTL.out (by omega) HN.out
        obtain ⟨x, hx⟩ : ∃ x, m.loop.getD q 0 = x := ⟨_, rfl⟩
        rw [hx] at rx
        rw [HN.out, Nat.add_sub_cancel, hx, Ha.out, Hb.out] at hmx
        have HMX := Lib.hid hmx
        have hown := (World.ownsRow_lit wr (base := wr.heap.size) (e := 3) (size := 1) #[.int .i64 x] 1 (Nat.le_refl _) (by decide) rfl).drew
        have hnews := news_part ((HTL.out.alloc (.cells #[.int .i64 x] 3)).drew) 1 (q - 1) rfl (by have := HN.out; omega) HN.out
        have hel : #[Value.int .i64 x].toList ++ ((m.loop.drop 1).take (q - 1)).map (Value.int .i64) = (m.loop.drop q ++ (m.loop.take q).drop 1).map (Value.int .i64) := by
          have h1 := HN.out
          have h2 : m.loop.drop q = [x] := by
            rw [List.drop_eq_getElem_cons (by omega), List.drop_of_length_le (by omega), ← hx, getD_getElem (by omega)]
          rw [h2, List.drop_take]
          simp
        have hNl : (m.loop.drop q ++ (m.loop.take q).drop 1).length = 1 + (q - 1) := by have := HN.out; simp; omega
        have Hel := Lib.hid hel
        have HNl := Lib.hid hNl
        have Hown := Lib.hid hown
        have Hnews := Lib.hid hnews
        have hyl : (((m.loop.drop 1).take (q - 1)).map (Value.int .i64)).length = (q - 1) * 1 := by have := HN.out; simp; omega
        have Hyl := Lib.hid hyl
        have c3 : 1 + (q - 1) ≤ maxLen := by unfold maxLen; omega
        have c4 : (1 + (q - 1)) * 8 ≤ 140737488355328 := by omega
        have Hx := Lib.hid hx
        have d2 : (0 : Int) ≤ (q : Int) := by omega
        have d3 : (q : Int) ≤ (cap : Int) := by omega
        have d4 : (1 : Int) ≤ (q : Int) := by omega
        have d5 : (q : Int) < (q : Int) + 1 := by omega
        clear hc hcs hmx hown hnews hyl hel hNl hx
        go_wp2
        go_region
        go_wp2_with (first
          | (at_builtin; refine wpList_append_lies _ rfl (.tmp 79) (.tmp 83) 52 rfl wr.heap.size 3 i1 _ 1 8 Try.underlying52 hi' hy0 hy1 hy2 rfl (by decide) _ _ _ rfl Hown.out ⟨g, 1, none⟩ (q - 1) (cap - 1) _ rfl Hyl.out Hnews.out (ints_one _) (by omega) c3 c4 (by simp) (wr.heap.size + 1) (by simp) ?_; intro g4 cap4 W4 hr4 hg4 _ hlt4; have HA4 := Lib.hid (TSt.app (w := wr.drew) HT.out.drew hg4 hr4 Hel.out HNl.out); have hsz4 : wr.heap.size ≤ W4.heap.size := HA4.out.2.size)
          | (at_builtin; refine wpList_append_lies _ rfl (.tmp 127) (.tmp 132) 40 rfl w1.heap.size 57 i2 _ 3 24 Try.underlying40 hj' hz0 hz1 hz2 rfl (by decide) _ _ _ rfl (HA4.out.1.T.alloc _) ⟨W4.heap.size, 0, none⟩ 1 1 [.int .i64 x, .int .i64 a, .int .i64 b] rfl rfl (World.news_of_block (heap_alloc_new _ _)) (by simp [Value.oneCell']) (by decide) c6 c7 (by simp; omega) (W4.heap.size + 1) (by simp) ?_; intro g5 cap5 W5 hr5 hg5 _ _))
        go_roundw
        case measure => simp [intOf]; omega
        case rel =>
          have hTv := fun j e => (HA4.out.1.T.lt j e).1
          refine ⟨k + 1, zmAt (lettersOf s) (k + 1), _, _, _, vs, rfl, rfl, rfl, ?_, by omega, by go_num, rfl, rfl, fun _ => rfl, ?_, below_tri (below_on HB.out.drew hsz HA4.out.2) (Nat.le_trans hsz hsz4) hg5 hTv⟩
          · rw [Hnext.out, HMX.out]
          · rw [Hnext.out, HMX.out]; exact HA4.out.1.tri hg5 hr5
      · have hcs : ((s[k]'hlt).toNat : Int) = 82 := by rw [← Hat.out]; exact hc
        have b1 : (((s[k]'hlt).toNat : Int) == 67) = false := by rw [hcs]; rfl
        have b2 : (((s[k]'hlt).toNat : Int) == 69) = false := by rw [hcs]; rfl
        have b3 : (((s[k]'hlt).toNat : Int) == 76) = false := by rw [hcs]; rfl
        have b4 : (((s[k]'hlt).toNat : Int) == 82) = true := by rw [hcs]; rfl
        have hmx : nextM (lettersOf s) k m = { n := m.n, T := m.T ++ [(m.loop.getD 2 0, m.loop.getD 0 0, m.loop.getD 1 0)], loop := m.loop.take 1 ++ m.loop.drop 2, waits := m.waits } := by
          simp only [nextM, stepM, hc, if_true, if_false, Int.reduceEq]
        have rx := loop_cell (k := 2) HTL.out (by omega) HN.out
        obtain ⟨x, hx⟩ : ∃ x, m.loop.getD 2 0 = x := ⟨_, rfl⟩
        rw [hx] at rx
        rw [hx, Ha.out, Hb.out] at hmx
        have HMX := Lib.hid hmx
        have hown := (World.ownsRow_lit wr (base := wr.heap.size) (e := 3) (size := 1) #[.int .i64 a] 1 (Nat.le_refl _) (by decide) rfl).drew
        have hnews := news_part ((HTL.out.alloc (.cells #[.int .i64 a] 3)).drew) 2 (n - 2) rfl (by have := HN.out; omega) HN.out
        have hel : #[Value.int .i64 a].toList ++ ((m.loop.drop 2).take (n - 2)).map (Value.int .i64) = (m.loop.take 1 ++ m.loop.drop 2).map (Value.int .i64) := by
          have h1 := HN.out
          rw [take_one (by omega) Ha.out, List.take_of_length_le (l := m.loop.drop 2) (by simp; omega)]
          simp
        have hNl : (m.loop.take 1 ++ m.loop.drop 2).length = 1 + (n - 2) := by have := HN.out; simp; omega
        have Hel := Lib.hid hel
        have HNl := Lib.hid hNl
        have Hown := Lib.hid hown
        have Hnews := Lib.hid hnews
        have hyl : (((m.loop.drop 2).take (n - 2)).map (Value.int .i64)).length = (n - 2) * 1 := by have := HN.out; simp; omega
        have Hyl := Lib.hid hyl
        have c3 : 1 + (n - 2) ≤ maxLen := by unfold maxLen; omega
        have c4 : (1 + (n - 2)) * 8 ≤ 140737488355328 := by omega
        have Hx := Lib.hid hx
        clear hc hcs hmx hown hnews hyl hel hNl hx
        go_wp2
        go_region
        go_wp2_with (first
          | (at_builtin; refine wpList_append_lies _ rfl (.tmp 91) (.tmp 93) 52 rfl wr.heap.size 3 i1 _ 1 8 Try.underlying52 hi' hy0 hy1 hy2 rfl (by decide) _ _ _ rfl Hown.out ⟨g, 2, none⟩ (n - 2) (cap - 2) _ rfl Hyl.out Hnews.out (ints_one _) (by omega) c3 c4 (by simp) (wr.heap.size + 1) (by simp) ?_; intro g4 cap4 W4 hr4 hg4 _ hlt4; have HA4 := Lib.hid (TSt.app (w := wr.drew) HT.out.drew hg4 hr4 Hel.out HNl.out); have hsz4 : wr.heap.size ≤ W4.heap.size := HA4.out.2.size)
          | (at_builtin; refine wpList_append_lies _ rfl (.tmp 127) (.tmp 132) 40 rfl w1.heap.size 57 i2 _ 3 24 Try.underlying40 hj' hz0 hz1 hz2 rfl (by decide) _ _ _ rfl (HA4.out.1.T.alloc _) ⟨W4.heap.size, 0, none⟩ 1 1 [.int .i64 x, .int .i64 a, .int .i64 b] rfl rfl (World.news_of_block (heap_alloc_new _ _)) (by simp [Value.oneCell']) (by decide) c6 c7 (by simp; omega) (W4.heap.size + 1) (by simp) ?_; intro g5 cap5 W5 hr5 hg5 _ _))
        go_roundw
        case measure => simp [intOf]; omega
        case rel =>
          have hTv := fun j e => (HA4.out.1.T.lt j e).1
          refine ⟨k + 1, zmAt (lettersOf s) (k + 1), _, _, _, vs, rfl, rfl, rfl, ?_, by omega, by go_num, rfl, rfl, fun _ => rfl, ?_, below_tri (below_on HB.out.drew hsz HA4.out.2) (Nat.le_trans hsz hsz4) hg5 hTv⟩
          · rw [Hnext.out, HMX.out]
          · rw [Hnext.out, HMX.out]; exact HA4.out.1.tri hg5 hr5
      · have hcs : ((s[k]'hlt).toNat : Int) = 83 := by rw [← Hat.out]; exact hc
        have b1 : (((s[k]'hlt).toNat : Int) == 67) = false := by rw [hcs]; rfl
        have b2 : (((s[k]'hlt).toNat : Int) == 69) = false := by rw [hcs]; rfl
        have b3 : (((s[k]'hlt).toNat : Int) == 76) = false := by rw [hcs]; rfl
        have b4 : (((s[k]'hlt).toNat : Int) == 82) = false := by rw [hcs]; rfl
        have b5 : (((s[k]'hlt).toNat : Int) == 83) = true := by rw [hcs]; rfl
        have hmx : nextM (lettersOf s) k m = { n := m.n, T := m.T ++ [(m.loop.getD (iAt (lettersOf s) k) 0, m.loop.getD 0 0, m.loop.getD 1 0)], loop := m.loop.take 1 ++ m.loop.drop (iAt (lettersOf s) k), waits := ((m.loop.drop (iAt (lettersOf s) k)).take 1 ++ (m.loop.take (iAt (lettersOf s) k)).drop 1) :: m.waits } := by
          simp only [nextM, stepM, hc, if_true, if_false, Int.reduceEq]
        have hki : 3 ≤ iAt (lettersOf s) k ∧ iAt (lettersOf s) k + 2 ≤ n := by
          rcases HK.out with h | h | h | h | h
          · rw [h.1] at hc; cases hc
          · rw [h.1] at hc; cases hc
          · rw [h.1] at hc; cases hc
          · rw [h.1] at hc; cases hc
          · rw [HN.out] at h; exact ⟨h.2.1, h.2.2.1⟩
        obtain ⟨x0, hh0, hk1, hxy⟩ : ∃ x0 : Int, headAt (lettersOf s) (k + 1) = x0 ∧ k + 1 < s.size ∧ (n : Int) + 1 - x0 = (iAt (lettersOf s) k : Nat) := by
          have h2 := stAt_step _ k hkl
          rw [Hst.out, ← getD_getElem hkl, hc] at h2
          have hi : iAt (lettersOf s) k = match stAt (lettersOf s) (k + 1) with | some (_ :: y :: _) => y.toNat | _ => 0 := by unfold iAt; rw [if_pos hc]; rfl
          cases hq : stAt (lettersOf s) (k + 1) with
          | none => rw [hq] at h2; cases h2
          | some q =>
            rw [hq] at h2 hi
            match q, h2, hi, hq with
            | x' :: y' :: r', h2, hi, hq =>
              simp [ref24Step] at h2
              simp only at hi
              refine ⟨x', headAt_st hq, ?_, by omega⟩
              have := exAt_lt (ex_of_st hq)
              rw [HL.out] at this
              exact this
            | [x'], h2, _, _ => simp [ref24Step] at h2
            | [], h2, _, _ => simp [ref24Step] at h2
        have hlc : ∀ p, p < s.size → wr.cell? ⟨gl, p, none⟩ = some (.int .i64 (headAt (lettersOf s) p)) := fun p hp => by
          rw [HB.out.cell (p := ⟨gl, p, none⟩) hgl, HRL.out.cellAt p (by omega)]
          simp [headsTo, List.getElem?_range hp]
        have e0 := hlc k hlt
        have e1 := hlc (k + 1) hk1
        rw [headAt_st Hst.out] at e0
        rw [hh0] at e1
        obtain ⟨y, hy⟩ : ∃ y, iAt (lettersOf s) k = y := ⟨_, rfl⟩
        rw [hy] at hmx hki hxy
        have rx := loop_cell (k := y) HTL.out (by omega) HN.out
        obtain ⟨x, hx⟩ : ∃ x, m.loop.getD y 0 = x := ⟨_, rfl⟩
        rw [hx] at rx
        rw [hx, Ha.out, Hb.out] at hmx
        have HMX := Lib.hid hmx
        have hown := (World.ownsRow_lit wr (base := wr.heap.size) (e := 3) (size := 1) #[.int .i64 x] 1 (Nat.le_refl _) (by decide) rfl).drew.drew
        have hnews := news_part ((HTL.out.alloc (.cells #[.int .i64 x] 3)).drew.drew) 1 (y - 1) rfl (by have := HN.out; omega) HN.out
        have hel : #[Value.int .i64 x].toList ++ ((m.loop.drop 1).take (y - 1)).map (Value.int .i64) = ((m.loop.drop y).take 1 ++ (m.loop.take y).drop 1).map (Value.int .i64) := by
          have h1 := HN.out
          have h2 : (m.loop.drop y).take 1 = [x] := by
            rw [List.drop_eq_getElem_cons (by omega), ← hx, getD_getElem (by omega)]
            rfl
          rw [h2, List.drop_take]
          simp
        have hNl : ((m.loop.drop y).take 1 ++ (m.loop.take y).drop 1).length = 1 + (y - 1) := by have := HN.out; simp; omega
        have hel2 : #[Value.int .i64 a].toList ++ ((m.loop.drop y).take (n - y)).map (Value.int .i64) = (m.loop.take 1 ++ m.loop.drop y).map (Value.int .i64) := by
          have h1 := HN.out
          rw [take_one (by omega) Ha.out, List.take_of_length_le (l := m.loop.drop y) (by simp; omega)]
          simp
        have hNl2 : (m.loop.take 1 ++ m.loop.drop y).length = 1 + (n - y) := by have := HN.out; simp; omega
        have hyl : (((m.loop.drop 1).take (y - 1)).map (Value.int .i64)).length = (y - 1) * 1 := by have := HN.out; simp; omega
        have hyl2 : (((m.loop.drop y).take (n - y)).map (Value.int .i64)).length = (n - y) * 1 := by have := HN.out; simp; omega
        have Hel := Lib.hid hel
        have HNl := Lib.hid hNl
        have Hel2 := Lib.hid hel2
        have HNl2 := Lib.hid hNl2
        have Hown := Lib.hid hown
        have Hnews := Lib.hid hnews
        have Hyl := Lib.hid hyl
        have Hyl2 := Lib.hid hyl2
        have c3 : 1 + (y - 1) ≤ maxLen := by unfold maxLen; omega
        have c4 : (1 + (y - 1)) * 8 ≤ 140737488355328 := by omega
        have c5 : m.waits.length + 1 ≤ maxLen := by unfold maxLen; omega
        have c8 : (m.waits.length + 1) * 24 ≤ 140737488355328 := by omega
        have c9 : 1 + (n - y) ≤ maxLen := by unfold maxLen; omega
        have c10 : (1 + (n - y)) * 8 ≤ 140737488355328 := by omega
        have d1 : IntKind.i64.wrap ((n : Int) + 1) = (n : Int) + 1 := IntWalk.i64_in _ (by omega)
        have d2 : IntKind.i64.wrap ((n : Int) + 1 - x0) = (y : Int) := by rw [IntWalk.i64_in _ (by omega)]; exact hxy
        have d3 : IntKind.i64.wrap ((k : Int) + 1) = (k : Int) + 1 := IntWalk.i64_in _ (by omega)
        have d4 : (0 : Int) ≤ (k : Int) + 1 := by omega
        have d5 : (k : Int) + 1 < (s.size : Int) := by omega
        have d6 : (0 : Int) ≤ (y : Int) := by omega
        have d7 : (y : Int) < (n : Int) := by omega
        have d8 : (1 : Int) ≤ (y : Int) := by omega
        have d9 : (y : Int) ≤ (cap : Int) := by omega
        have d10 : (y : Int) ≤ (n : Int) := by omega
        have d11 : (k : Int) < (s.size : Int) := by omega
        have d12 : ((k : Int) + 1).toNat = k + 1 := by omega
        have Hxy := Lib.hid hxy
        clear hc hcs hmx hown hnews hyl hel hNl hel2 hNl2 hyl2 hlc hh0 hx hy hxy
        go_wp2
        go_region
        go_wp2
        go_region
        go_wp2_with (first
          | (at_builtin; refine wpList_append_lies _ rfl (.tmp 114) (.tmp 117) 52 rfl wr.heap.size 3 i1 _ 1 8 Try.underlying52 hi' hy0 hy1 hy2 rfl (by decide) _ _ _ rfl Hown.out ⟨g, 1, none⟩ (y - 1) (cap - 1) _ rfl Hyl.out Hnews.out (ints_one _) (by omega) c3 c4 (by simp) (wr.heap.size + 1) (by simp) ?_; intro g4 cap4 W4 hr4 hg4 _ hlt4; have HA4 := Lib.hid (TSt.app (w := wr.drew.drew) HT.out.drew.drew hg4 hr4 Hel.out HNl.out); have hsz4 : wr.heap.size ≤ W4.heap.size := HA4.out.2.size; have HT4 := Lib.hid (HT.out.drew.drew.below HA4.out.2))
          | (at_builtin; refine wpList_append_lies _ rfl (.tmp 112) (.tmp 119) 65 rfl w1.heap.size 52 i3 _ 1 24 Try.underlying65 hk' hx0 hx1 hx2 rfl (by decide) _ _ _ rfl (HT4.out.W.alloc _) ⟨W4.heap.size, 0, none⟩ 1 1 [.slice (some ⟨g4, 0, none⟩) (1 + (y - 1)) cap4] rfl rfl (World.news_of_block (heap_alloc_new _ _)) (by simp [Value.oneCell']) (by decide) c5 c8 (by rw [size_alloc']; omega) (W4.heap.size + 1) (by simp) ?_; intro g5 cap5 W5 hr5 hg5 _ _; have hsz5 : W4.heap.size ≤ W5.heap.size := (by (have := hg5.size; rw [size_alloc'] at this; omega)); have HT5 := Lib.hid (HT4.out.wait (by have := HA4.out.1.L; simp only at this; exact this) hg5 hr5); have Hown6 := Lib.hid (World.ownsRow_lit W5 (base := W5.heap.size) (e := 3) (size := 1) #[.int .i64 a] 1 (Nat.le_refl _) (by decide) rfl); have Hnews6 := Lib.hid (news_part ((by (have := HT5.out.L; simp only at this; rw [HN.out] at this; exact this) : W5.ownsRow 0 3 1 (.slice (some ⟨g, 0, none⟩) n cap) n (m.loop.map (Value.int .i64))).alloc (.cells #[.int .i64 a] 3)) y (n - y) rfl (by have := HN.out; omega) HN.out))
          | (at_builtin; refine wpList_append_lies _ rfl (.tmp 122) (.tmp 125) 52 rfl W5.heap.size 3 i1 _ 1 8 Try.underlying52 hi' hy0 hy1 hy2 rfl (by decide) _ _ _ rfl Hown6.out ⟨g, y, none⟩ (n - y) (cap - y) _ rfl Hyl2.out Hnews6.out (ints_one _) (by omega) c9 c10 (by simp) (W5.heap.size + 1) (by simp) ?_; intro g6 cap6 W6 hr6 hg6 _ hlt6; have HA6 := Lib.hid (TSt.app (w := W5) HT5.out hg6 hr6 Hel2.out HNl2.out); have hsz6 : W5.heap.size ≤ W6.heap.size := HA6.out.2.size)
          | (at_builtin; refine wpList_append_lies _ rfl (.tmp 127) (.tmp 132) 40 rfl w1.heap.size 57 i2 _ 3 24 Try.underlying40 hj' hz0 hz1 hz2 rfl (by decide) _ _ _ rfl (HA6.out.1.T.alloc _) ⟨W6.heap.size, 0, none⟩ 1 1 [.int .i64 x, .int .i64 a, .int .i64 b] rfl rfl (World.news_of_block (heap_alloc_new _ _)) (by simp [Value.oneCell']) (by decide) c6 c7 (by rw [size_alloc']; omega) (W6.heap.size + 1) (by simp) ?_; intro g7 cap7 W7 hr7 hg7 _ _))
        go_roundw
        case measure => simp [intOf]; omega
        case rel =>
          have hTv := fun j e => (HA6.out.1.T.lt j e).1
          have hWv := fun j e => (HT4.out.W.lt j e).1
          have k4 : Below w1.heap.size w1 W4 := below_on HB.out.drew.drew hsz HA4.out.2
          have k5 : Below w1.heap.size w1 W5 := below_tri k4 (Nat.le_trans hsz hsz4) hg5 hWv
          have k6 : Below w1.heap.size w1 W6 := below_on k5 k5.size HA6.out.2
          refine ⟨k + 1, zmAt (lettersOf s) (k + 1), _, _, _, (.slice (some ⟨g4, 0, none⟩) (1 + (y - 1)) cap4 :: vs), rfl, rfl, rfl, ?_, by omega, by go_num, rfl, rfl, fun _ => rfl, ?_, below_tri k6 k6.size hg7 hTv⟩
          · rw [Hnext.out, HMX.out]
          · rw [Hnext.out, HMX.out]; exact HA6.out.1.tri hg7 hr7
    · obtain rfl : k = s.size := by omega
      have hmn' := Lib.hid hmn
      have HT := Lib.hid hT
      have hmT' := Lib.hid hmT
      have HB := Lib.hid hB
      clear hmn hT hmT hB hmz
      go_wp2
      go_ret2
      refine ⟨vT, by rw [← hmn'.out]; rfl, ⟨w1.heap.size, ?_⟩, below_on hB1.out hB1.out.size HB.out⟩
      rw [← hmT'.out]
      exact HT.out.T
end Go.Proofs.Ytgjcigokjfhfkaa
