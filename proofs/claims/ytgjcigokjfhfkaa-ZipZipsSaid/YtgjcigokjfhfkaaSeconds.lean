/-
  zip.seconds, by walking its text.
-/
import Derived.Test.YtgjcigokjfhfkaaSecM
import Derived.Test.YtgjcigokjfhfkaaMaps
import Derived.Test.YtgjcigokjfhfkaaWordA
import Derived.Deep.AppendLies
import Derived.Deep.RegionHeld3
import Derived.Deep.DrawnRows
namespace Go.Proofs.Ytgjcigokjfhfkaa
open Go.RowKit Go.Maps
attribute [local go_sem ↓] Go.wp_at_zero Go.wp_at_succ

/-- Places, as cells. -/
def natCells (ps : List Nat) : List Value := ps.map fun p => .int .i64 (p : Nat)
theorem natCells_length (ps : List Nat) : (natCells ps).length = ps.length := by simp [natCells]
theorem natCells_snoc (ps : List Nat) (k : Nat) : natCells (ps ++ [k]) = natCells ps ++ [.int .i64 (k : Nat)] := by simp [natCells]
/-- The map of zip.seconds. -/
def SecMap (w : World) (b : Nat) (zs : List Int) : Prop := ∃ n f, MapI Try.prog 3 3 .i64 .i64 w b n f ∧ n ≤ zs.length ∧ ∀ j (hj : j < zs.length), zs[j] = 83 → Second zs j (f j)

theorem slice_form {w : World} {base : Nat} {e : TypeId} {size n : Nat} {v : Value} {xs : List Value} (h : w.ownsRow base e size v n xs) : ∃ a c, v = .slice a n c ∧ n ≤ c ∧ c ≤ maxLen := by
  rcases h.2 with ⟨rfl, h0⟩ | ⟨g, cap, cur, rfl, _, _, hn, hm, _⟩
  · exact ⟨none, 0, by rw [h0], by omega, by unfold maxLen; omega⟩
  · exact ⟨_, _, rfl, hn, hm⟩
structure SecRel (w wr : World) (zs : List Int) (v4 v5 : Value) (k : Nat) : Prop where
  ex : ∃ ps f, SecInv zs k ps f ∧ MapI Try.prog 3 3 .i64 .i64 wr w.heap.size (zs.length - k) f ∧ wr.ownsRow (w.heap.size + 1) 3 1 v4 ps.length (natCells ps.reverse) ∧ wr.ownsRow (w.heap.size + 1) 3 1 v5 ps.length (natCells (endsOf zs.length ps).reverse) ∧ (v4.ownBlock = none ∨ v4.ownBlock ≠ v5.ownBlock) ∧ ps.length ≤ zs.length
  below : Below w.heap.size w wr
  size : w.heap.size + 1 ≤ wr.heap.size

/-- Two rows that are the call's own and lie apart, appended to one after the other. -/
theorem two_rows {base : Nat} {wr X W4 X' W5 : World} {b4 b5 : Option Nat} {e : TypeId} {g4 n4 cap4 g5 n5 cap5 : Nat} {xs4 xs5 : List Value} (hX : wr.grownBy X none) (hg4 : X.grownBy W4 b4) (hX' : W4.grownBy X' none) (hg5 : X'.grownBy W5 b5)
    (hr4 : W4.ownsRow base e 1 (.slice (some ⟨g4, 0, none⟩) n4 cap4) n4 xs4) (hr5 : W5.ownsRow base e 1 (.slice (some ⟨g5, 0, none⟩) n5 cap5) n5 xs5) (hat4 : b4 = some g4 ∨ g4 = X.heap.size) (hat5 : b5 = some g5 ∨ g5 = X'.heap.size)
    (hb4 : ∀ j, b4 = some j → base ≤ j ∧ j < wr.heap.size) (hb5 : ∀ j, b5 = some j → base ≤ j ∧ j < wr.heap.size) (hne : b5 = none ∨ b5 ≠ b4) (hlt4 : g4 < W4.heap.size) :
    W5.ownsRow base e 1 (.slice (some ⟨g4, 0, none⟩) n4 cap4) n4 xs4 ∧ some g4 ≠ some g5 ∧ (∀ b, b < wr.heap.size → b < base → W5.heap[b]? = wr.heap[b]?) ∧ wr.heap.size ≤ W5.heap.size ∧ W5.os = wr.os ∧ W5.tape = wr.tape ∧ W5.output = wr.output := by
  have s1 := hX.size
  have s2 := hg4.size
  have s3 := hX'.size
  have s4 := hg5.size
  have hne4 : b5 ≠ some g4 := by
    rintro rfl
    rcases hat4 with h | h
    · subst h; simp at hne
    · have := (hb5 g4 rfl).2; omega
  refine ⟨(hr4.kept hX' (.inr (by simp [Value.ownBlock]))).kept hg5 (.inr (by simpa [Value.ownBlock] using fun h => hne4 h.symm)), ?_, ?_, by omega, ?_, ?_, ?_⟩
  · rintro h
    cases h
    rcases hat5 with h | h
    · exact hne4 h
    · omega
  · intro b hb hbb
    rw [hg5.block b (by omega) (by intro h; have := (hb5 b h.symm).1; omega), hX'.block b (by omega) (by simp), hg4.block b (by omega) (by intro h; have := (hb4 b h.symm).1; omega), hX.block b hb (by simp)]
  · rw [hg5.os, hX'.os, hg4.os, hX.os]
  · rw [hg5.tape, hX'.tape, hg4.tape, hX.tape]
  · rw [hg5.output, hX'.output, hg4.output, hX.output]
theorem MapI.block {P : Program} {k e : TypeId} {qk q : IntKind} {w w' : World} {b n : Nat} {f : Int → Int} (h : MapI P k e qk q w b n f) (hb : w'.heap[b]? = w.heap[b]?) : MapI P k e qk q w' b n f := by
  obtain ⟨D, ⟨es, clock, hh, hr⟩, h2⟩ := h
  exact ⟨D, ⟨es, clock, hb.trans hh, hr⟩, h2⟩
theorem SecInv.le {zs l : List Int} {k : Nat} {ps : List Nat} {f : Int → Int} (h : SecInv zs k ps f) (hl : stAt zs k = some l) : ps.length ≤ zs.length := by
  have h1 := h.len l hl
  have h2 := (ref24Run_some hl).2
  simp at h2
  omega
theorem SecInv.one {zs l : List Int} {k : Nat} {ps : List Nat} {f : Int → Int} (h : SecInv zs (k + 1) ps f) (hk : k < zs.length) (hl : stAt zs k = some l) (hc : zs[k] ≠ 69) : ∃ p r, ps = p :: r := by
  have hs := stAt_step zs k hk
  rw [hl] at hs
  cases hq : stAt zs (k + 1) with
  | none => rw [hq] at hs; cases hs
  | some l1 =>
    rw [hq] at hs
    have hlen := h.len l1 hq
    cases ps with
    | cons p r => exact ⟨p, r, rfl⟩
    | nil =>
      exfalso
      have : l1 = [] := by simpa using hlen.symm
      subst this
      simp [ref24Step, hc] at hs
theorem SecInv.two {zs l : List Int} {k : Nat} {ps : List Nat} {f : Int → Int} (h : SecInv zs (k + 1) ps f) (hk : k < zs.length) (hl : stAt zs k = some l) (hc : zs[k] = 83) : ∃ p1 p2 r, ps = p1 :: p2 :: r := by
  have hs := stAt_step zs k hk
  rw [hl] at hs
  cases hq : stAt zs (k + 1) with
  | none => rw [hq] at hs; cases hs
  | some l1 =>
    rw [hq, hc] at hs
    have hlen := h.len l1 hq
    match ps, hlen with
    | p1 :: p2 :: r, _ => exact ⟨p1, p2, r, rfl⟩
    | [p], hlen =>
      exfalso
      obtain ⟨x, rfl⟩ : ∃ x, l1 = [x] := by match l1, hlen with | [x], _ => exact ⟨x, rfl⟩
      simp [ref24Step] at hs
    | [], hlen =>
      exfalso
      have : l1 = [] := by simpa using hlen.symm
      subst this
      simp [ref24Step] at hs
theorem sec_done {w Z W5 : World} {zs l : List Int} {k n g4 n4 cap4 g5 n5 cap5 : Nat} {ps : List Nat} {f : Int → Int} {xs4 xs5 : List Value} (hB : Below w.heap.size w Z) (hsz : w.heap.size + 1 ≤ Z.heap.size) (hinv : SecInv zs k ps f) (hl : stAt zs k = some l)
    (hmap : MapI Try.prog 3 3 .i64 .i64 Z w.heap.size n f) (hn : n ≤ zs.length - k)
    (h : W5.ownsRow (w.heap.size + 1) 3 1 (.slice (some ⟨g4, 0, none⟩) n4 cap4) n4 xs4 ∧ some g4 ≠ some g5 ∧ (∀ b, b < Z.heap.size → b < w.heap.size + 1 → W5.heap[b]? = Z.heap[b]?) ∧ Z.heap.size ≤ W5.heap.size ∧ W5.os = Z.os ∧ W5.tape = Z.tape ∧ W5.output = Z.output)
    (hr5 : W5.ownsRow (w.heap.size + 1) 3 1 (.slice (some ⟨g5, 0, none⟩) n5 cap5) n5 xs5) (e4 : n4 = ps.length) (e5 : n5 = ps.length) (ex4 : xs4 = natCells ps.reverse) (ex5 : xs5 = natCells (endsOf zs.length ps).reverse) :
    SecRel w W5 zs (.slice (some ⟨g4, 0, none⟩) n4 cap4) (.slice (some ⟨g5, 0, none⟩) n5 cap5) k := by
  subst e4 e5 ex4 ex5
  obtain ⟨h1, h2, h3, h4, h5, h6, h7⟩ := h
  exact ⟨⟨ps, f, hinv, (hmap.mono hn).block (h3 _ (by omega) (by omega)), h1, hr5, .inr (by simpa [Value.ownBlock] using h2), hinv.le hl⟩, hB.trans ⟨h5, h6, h7, h4, fun b hb => h3 b (by omega) (by omega)⟩, by omega⟩
theorem zero_int' (w : World) : (zeroValue 3).run Try.prog w = .ok (.int .i64 0) w := by kernel_rfl
set_option maxRecDepth 100000 in
set_option maxHeartbeats 1000000 in
theorem seconds_any (s : ByteArray) (hs : s.size ≤ 1000000) (l0 : List Int) (h0 : ref24Run (lettersOf s).reverse = some l0) (w : World) :
    Calls Try.prog 33 #[.string s] w fun e w' => e = .returned (.map (some w.heap.size)) ∧ SecMap w' w.heap.size (lettersOf s) ∧ Below w.heap.size w w' := by
  have hmm := @run_makeMap Try.prog
  have Hl := Lib.hid (lettersOf_length s)
  have Hst := Lib.hid (stAt_some h0)
  obtain ⟨i1, hi', hy0, hy1, hy2⟩ := info_parts info_int
  clear h0
  go_enter Try.func33, Try.ntmps33
  go_wp2
  clear hmm
  go_loopw [4, 5, 6] (fun v4 v5 i wr => ∃ (k : Nat) (v4' v5' : Value), v4' = v4 ∧ v5' = v5 ∧ k ≤ s.size ∧ i = .int .i64 ((k : Int) - 1) ∧ SecRel w wr (lettersOf s) v4' v5' k) (fun _ _ i _ => (intOf i + 1).toNat)
  case atStart =>
    refine ⟨s.size, _, _, rfl, rfl, Nat.le_refl _, rfl, ⟨⟨[], fun _ => 0, ?_, ?_, World.ownsRow_nil _ _ _ _, World.ownsRow_nil _ _ _ _, .inl rfl, Nat.zero_le _⟩, (Below.refl _ _).alloc (Nat.le_refl _) _, by simp⟩⟩
    · rw [← Hl.out]; exact SecInv.start _ _
    · rw [Hl.out, Nat.sub_self]; exact MapI.made _ _ _ _ _ _
  case round =>
    obtain ⟨k1, v4, v5, rfl, rfl, hk, rfl, ⟨ps, f, hinv, hmap, ho4, ho5, hne, hpl⟩, hB, hsz⟩ := hrel
    have hpl1 : ps.length ≤ 1000000 := by rw [Hl.out] at hpl; omega
    rcases k1 with _ | k
    · go_wp2
      go_ret
      refine ⟨rfl, ⟨_, f, hmap, Nat.sub_le _ _, fun j hj hz => hinv.map j hj (Nat.zero_le _) hz⟩, hB⟩
    · have hkl : k < (lettersOf s).length := by rw [Hl.out]; omega
      obtain ⟨l, hl⟩ := Hst.out k (by omega)
      obtain ⟨l1, hl1⟩ := Hst.out (k + 1) (by omega)
      have hat := letter_at s k (by omega)
      have hee := hinv.ends_
      have e1 : ((k + 1 : Nat) : Int) - 1 = (k : Int) := by omega
      rw [e1]
      have Hinv := Lib.hid hinv
      have HL := Lib.hid hl
      have HL1 := Lib.hid hl1
      have Hat := Lib.hid hat
      have Hee := Lib.hid hee
      have c3 : ps.length + 1 ≤ maxLen := by unfold maxLen; omega
      have c4 : (ps.length + 1) * 8 ≤ 140737488355328 := by omega
      clear e1 hinv hl hl1 hat hee hpl
      have hne' : v5.ownBlock = none ∨ v5.ownBlock ≠ v4.ownBlock := by
        rcases hne with h | h
        · rw [h]; cases v5.ownBlock <;> simp
        · exact .inr (Ne.symm h)
      obtain ⟨a4, p4, rfl, hn4, hm4⟩ := slice_form ho4
      obtain ⟨a5, p5, rfl, hn5, hm5⟩ := slice_form ho5
      by_cases hE : (s[k]'(by omega)).toNat = 69
      · have hE' : ((s[k]'(by omega)).toNat : Int) = 69 := by omega
        go_wp2_with (first
          | (at_builtin; refine wpList_append_lies _ rfl (.tmp 28) (.tmp 30) 52 rfl (w.heap.size + 1) 3 i1 _ 1 8 Try.underlying52 hi' hy0 hy1 hy2 rfl (by decide) _ _ _ rfl (ho4.alloc _) ⟨wr.heap.size, 0, none⟩ 1 1 [.int .i64 k] rfl rfl (World.news_of_block (heap_alloc_new _ _)) (by simp [Value.oneCell']) (by decide) c3 c4 (by simp; omega) (wr.heap.size + 1) (by simp) ?_; intro g4 cap4 W4 hr4 hg4 hat4 hlt4)
          | (at_builtin; refine wpList_append_lies _ rfl (.tmp 32) (.tmp 35) 52 rfl (w.heap.size + 1) 3 i1 _ 1 8 Try.underlying52 hi' hy0 hy1 hy2 rfl (by decide) _ _ _ rfl (((ho5.alloc _).kept hg4 hne').alloc _) ⟨W4.heap.size, 0, none⟩ 1 1 [.int .i64 (k + 1)] rfl rfl (World.news_of_block (heap_alloc_new _ _)) (by simp [Value.oneCell']) (by decide) c3 c4 (by have := hg4.size; simp at this ⊢; omega) (W4.heap.size + 1) (by simp) ?_; intro g5 cap5 W5 hr5 hg5 hat5 hlt5))
        go_roundw
        case measure => simp [intOf]
        case rel =>
          have hc := two_rows (World.grownBy_alloc wr _ none) hg4 (World.grownBy_alloc W4 _ none) hg5 hr4 hr5 (by simpa using hat4) (by simpa using hat5) (fun j e => ⟨(ho4.lt j e).1, (ho4.lt j e).2⟩) (fun j e => ⟨(ho5.lt j e).1, (ho5.lt j e).2⟩) hne' hlt4
          refine ⟨k, _, _, rfl, rfl, by omega, rfl, sec_done hB hsz (Hinv.out.stE hkl HL1.out (by rw [Hat.out]; exact hE')) HL.out hmap (by omega) hc hr5 (by simp) (by simp) ?_ ?_⟩
          · simp [natCells]
          · rw [Hee.out]; simp [natCells]
      · have hE' : ¬ ((s[k]'(by omega)).toNat : Int) = 69 := by omega
        have hEb : (((s[k]'(by omega)).toNat : Int) == 69) = false := by simpa using hE'
        obtain ⟨q0, r0, rfl⟩ := Hinv.out.one hkl HL.out (by rw [Hat.out]; exact hE')
        obtain ⟨g4, rfl, hg4b, hg4l⟩ : ∃ g, a4 = some ⟨g, 0, none⟩ ∧ w.heap.size + 1 ≤ g ∧ g < wr.heap.size := by
          obtain ⟨g, cap, e, h1, h2⟩ := ho4.form (by simp)
          cases e; exact ⟨g, rfl, h1, h2⟩
        obtain ⟨g5, rfl, hg5b, hg5l⟩ : ∃ g, a5 = some ⟨g, 0, none⟩ ∧ w.heap.size + 1 ≤ g ∧ g < wr.heap.size := by
          obtain ⟨g, cap, e, h1, h2⟩ := ho5.form (by simp)
          cases e; exact ⟨g, rfl, h1, h2⟩
        have hgg : g5 ≠ g4 := by simpa [Value.ownBlock] using hne'
        clear hE
        by_cases hS : (s[k]'(by omega)).toNat = 83
        · have hS' : ((s[k]'(by omega)).toNat : Int) = 83 := by omega
          clear hS
          obtain ⟨p1, p2, r, hpr⟩ := Hinv.out.two hkl HL.out (by rw [Hat.out]; exact hS')
          obtain ⟨rfl, rfl⟩ : q0 = p1 ∧ r0 = p2 :: r := by simpa using hpr
          clear hpr
          obtain ⟨e, t, het⟩ : ∃ e t, r ++ [(lettersOf s).length] = e :: t := by cases r <;> simp
          have htl : t.length = r.length := by have := congrArg List.length het; simp at this; omega
          have hends : endsOf (lettersOf s).length (q0 :: p2 :: r) = p2 :: e :: t := by simp [endsOf, het]
          rw [hends] at ho5
          have k0 : wr.cell? ⟨g5, r.length + 1, none⟩ = some (.int .i64 (p2 : Nat)) := by
            rw [ho5.cellAt (r.length + 1) (by simp)]; simp [natCells, ← htl]
          have k1 : wr.cell? ⟨g5, r.length, none⟩ = some (.int .i64 (e : Nat)) := by
            rw [ho5.cellAt r.length (by simp; omega)]; simp [natCells, ← htl]
          have hp2 : p2 ≤ 1000000 := by
            have := Hinv.out.at_ l1 HL1.out 1 (by simp)
            simp at this
            have := this.2.1
            rw [Hl.out] at this
            omega
          have hmn : (lettersOf s).length - (k + 1) < maxLen := by rw [Hl.out]; unfold maxLen; omega
          have hl3 : r.length ≤ 1000000 := by simp at hpl1; omega
          simp only [List.length_cons] at hpl1 hn4 hn5 ho4 ho5 ⊢
          go_wp2_with (first
            | (at_mapUpdate; refine wpList_storeI hmap rfl _ _ _ 60 rfl Try.underlying3 Try.underlying60 Try.underlying3 hmn rfl _ _ rfl rfl (WalkArith.wf_i64 (by omega)) (WalkArith.wf_i64 (by omega)) ?_; intro w1 hm1 hgm))
          have ho4m := ho4.kept hgm (.inr (by simp [Value.ownBlock]; omega))
          have ho5m := ho5.kept hgm (.inr (by simp [Value.ownBlock]; omega))
          have k1m : w1.cell? ⟨g5, r.length, none⟩ = some (.int .i64 (e : Nat)) := hgm.cell k1 (by simp; omega)
          have hcut4 : w1.ownsRow (w.heap.size + 1) 3 1 (.slice (some ⟨g4, 0, none⟩) r.length p4) r.length (natCells r.reverse) := by
            have e3 : natCells (q0 :: p2 :: r).reverse = natCells r.reverse ++ [.int .i64 (p2 : Nat), .int .i64 (q0 : Nat)] := by simp [natCells]
            rw [e3] at ho4m
            exact cut_own ho4m (by simp [natCells]) (by omega)
          have hcut5 : w1.ownsRow (w.heap.size + 1) 3 1 (.slice (some ⟨g5, 0, none⟩) r.length p5) r.length (natCells t.reverse) := by
            have e3 : natCells (p2 :: e :: t).reverse = natCells t.reverse ++ [.int .i64 (e : Nat), .int .i64 (p2 : Nat)] := by simp [natCells]
            rw [e3] at ho5m
            exact cut_own ho5m (by simp [natCells, htl]) (by omega)
          have hsz1 := hgm.size
          have hBm : Below w.heap.size w w1 := hB.grown hgm hB.size (fun j e => by cases e; exact Nat.le_refl _)
          have Het := Lib.hid het
          have Hm1 := Lib.hid hm1
          have HBm := Lib.hid hBm
          have H1 := Lib.hid hpl1
          clear ho4 ho5 ho4m ho5m hm1 hBm hB hmap k0 k1 hne hne' hpl1 c3 c4 hends het
          have d1 : IntKind.i64.wrap ((r.length : Int) + 1 + 1 - 2) = (r.length : Int) := by rw [IntWalk.i64_in _ (by omega)]; omega
          have d2 : (0 : Int) ≤ (r.length : Int) := by omega
          have d3 : (r.length : Int) ≤ (p4 : Int) := by omega
          have d4 : (r.length : Int) ≤ (p5 : Int) := by omega
          have d5 : (r.length : Int) < (r.length : Int) + 1 + 1 := by omega
          have c5 : r.length + 1 ≤ maxLen := by unfold maxLen; omega
          have c6 : (r.length + 1) * 8 ≤ 140737488355328 := by omega
          have hgg' := hgg
          have hg5l1 : g5 < w1.heap.size := by omega
          have hg4l1 : g4 < w1.heap.size := by omega
          have nA : Blk ((w1.alloc (.cells #[.int .i64 (k : Nat)] 3)).alloc (.cells #[.int .i64 (e : Nat)] 3)).drew (w1.heap.size + 1) 3 #[.int .i64 (e : Nat)] := by
            have := Blk.new (w1.alloc (.cells #[.int .i64 (k : Nat)] 3)) 3 #[.int .i64 (e : Nat)]
            rw [size_alloc'] at this
            exact this.drew
          have nB : Blk ((w1.alloc (.cells #[.int .i64 (e : Nat)] 3)).alloc (.cells #[.int .i64 (k : Nat)] 3)).drew w1.heap.size 3 #[.int .i64 (e : Nat)] := ((Blk.new _ _ _).alloc _).drew
          have nC : Blk ((w1.alloc (.cells #[.int .i64 (e : Nat)] 3)).alloc (.cells #[.int .i64 (k : Nat)] 3)).drew (w1.heap.size + 1) 3 #[.int .i64 (k : Nat)] := by
            have := Blk.new (w1.alloc (.cells #[.int .i64 (e : Nat)] 3)) 3 #[.int .i64 (k : Nat)]
            rw [size_alloc'] at this
            exact this.drew
          have NC := Lib.hid nC
          clear nC
          have NA := Lib.hid nA
          have NB := Lib.hid nB
          clear nA nB
          go_region_law
            ((first
              | (refine step_append_lies _ (by rfl) (.tmp 49) (.tmp 51) 52 (by rfl) (w.heap.size + 1) 3 i1 _ 1 8 Try.underlying52 hi' hy0 hy1 hy2 (by rfl) (by decide) (.slice (some ⟨g4, 0, none⟩) r.length p4) r.length (natCells r.reverse) (by rfl) (by first | exact hcut4.alloc _ | exact (hcut4.alloc _).alloc _) _ 1 1 [.int .i64 (k : Nat)] (by rfl) (by rfl) (by first | exact World.news_of_block (heap_alloc_new _ _) | exact World.news_of_block (Blk.alloc (Blk.new _ _ _) _) | exact World.news_of_block NC.out) (by simp [Value.oneCell']) (by decide) c5 c6 (by simp; omega) _ rfl ?_; intro g4' cap4' W4 hr4 hg4 hat4 hlt4; have kW := hg4.cell (a := ⟨g5, r.length, none⟩) (v := .int .i64 (e : Nat)) (by first | exact (World.cell?_alloc_lt _ _ _ (by simp; omega)).trans k1m | exact (World.cell?_alloc_lt _ _ _ (by simp; omega)).trans ((World.cell?_alloc_lt _ _ _ (by simp; omega)).trans k1m)) (by simpa [Value.ownBlock] using hgg'))
              | (refine step_append_lies _ (by rfl) (.tmp 56) (.tmp 62) 52 (by rfl) (w.heap.size + 1) 3 i1 _ 1 8 Try.underlying52 hi' hy0 hy1 hy2 (by rfl) (by decide) (.slice (some ⟨g5, 0, none⟩) r.length p5) r.length (natCells t.reverse) (by rfl) (by first | exact ((hcut5.alloc _).drew.kept hg4 (.inr (by simpa [Value.ownBlock] using hgg'))).alloc _ | exact ((hcut5.drew.alloc _).kept hg4 (.inr (by simpa [Value.ownBlock] using hgg'))).alloc _ | exact ((hcut5.alloc _).alloc _).drew.kept hg4 (.inr (by simpa [Value.ownBlock] using hgg')) | exact ((hcut5.drew.alloc _).alloc _).kept hg4 (.inr (by simpa [Value.ownBlock] using hgg'))) _ 1 1 [.int .i64 (e : Nat)] (by rfl) (by rfl) (by first | exact World.news_of_block (heap_alloc_new _ _) | exact World.news_of_block (NA.out.grown hg4 (by simp [Value.ownBlock]; omega)) | exact World.news_of_block (NB.out.grown hg4 (by simp [Value.ownBlock]; omega))) (by simp [Value.oneCell']) (by decide) c5 c6 (by have := hg4.size; simp at this ⊢; omega) _ rfl ?_; intro g5' cap5' W5 hr5 hg5 hat5 hlt5)))
          all_goals
            go_wp2
            go_roundw
            case measure => simp [intOf]
            case rel =>
              have hc := two_rows (base := w.heap.size + 1) (wr := w1) (by first | exact gDrew (gAlloc (World.grownBy.refl _ _) _) | exact gDrew (gAlloc (gAlloc (World.grownBy.refl _ _) _) _)) hg4 (by first | exact gAlloc (World.grownBy.refl _ _) _ | exact World.grownBy.refl _ _) hg5 hr4 hr5 hat4 hat5
                (fun j e => by simp [Value.ownBlock] at e; omega) (fun j e => by simp [Value.ownBlock] at e; omega) (.inr (by simpa [Value.ownBlock] using hgg)) hlt4
              refine ⟨k, _, _, rfl, rfl, by omega, rfl, sec_done HBm.out (by omega) (Hinv.out.stS hkl HL.out (by rw [Hat.out]; exact hS')) HL.out Hm1.out (by omega) hc hr5 (by simp) (by simp) ?_ ?_⟩
              · simp [natCells]
              · rw [show endsOf (lettersOf s).length (k :: r) = e :: t from Het.out]; simp [natCells]
        · have hS' : ¬ ((s[k]'(by omega)).toNat : Int) = 83 := by omega
          have hSb : (((s[k]'(by omega)).toNat : Int) == 83) = false := by simpa using hS'
          clear hS
          have k0 : wr.cell? ⟨g4, r0.length, none⟩ = some (.int .i64 (q0 : Nat)) := by
            rw [ho4.cellAt r0.length (by simp)]; simp [natCells]
          have f0 := ho4.frozenAt r0.length
          have hl3 : r0.length ≤ 1000000 := by simp at hpl1; omega
          simp only [List.length_cons] at hpl1 hn4 hn5 ho4 ho5 ⊢
          go_wp2
          go_roundw
          case measure => simp [intOf]
          case rel =>
            have hst := ho4.stored r0.length (.int .i64 (k : Nat))
            have e4 : (natCells (q0 :: r0).reverse).set r0.length (.int .i64 (k : Nat)) = natCells (k :: r0).reverse := by
              simp [natCells]
            rw [e4] at hst
            obtain ⟨hs4, hg4⟩ := hst
            have hinv' := Hinv.out.st1 hkl HL.out (by rw [Hat.out]; exact hE') (by rw [Hat.out]; exact hS')
            exact ⟨k, _, _, rfl, rfl, by omega, rfl, ⟨⟨k :: r0, f, hinv', (hmap.mono (by omega)).kept hg4 (by simp; omega), hs4, ho5.kept hg4 (.inr (by simpa [Value.ownBlock] using hgg)), .inr (by simpa [Value.ownBlock] using Ne.symm hgg), hinv'.le HL.out⟩, hB.grown hg4 hB.size (fun j e => by cases e; omega), by have := hg4.size; omega⟩⟩
end Go.Proofs.Ytgjcigokjfhfkaa
