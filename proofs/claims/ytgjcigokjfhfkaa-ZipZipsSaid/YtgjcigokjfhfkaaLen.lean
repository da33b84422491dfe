/-
  word.Lengths, by walking its text: a range over slices.Backward.
-/
import Derived.Test.YtgjcigokjfhfkaaWordB
import Derived.Test.YtgjcigokjfhfkaaBack
import Derived.Lib.ConvBytes
import Derived.Test.YtgjcigokjfhfkaaShelfUse
namespace Go.Proofs.Ytgjcigokjfhfkaa
open Go.RowKit Go.Shelf
attribute [local go_sem] Oper.semAt_some

/-- A text's letters, as numbers. -/
def lettersOf (s : ByteArray) : List Int := s.data.toList.map fun b => (b.toNat : Int)
theorem lettersOf_length (s : ByteArray) : (lettersOf s).length = s.size := by simp [lettersOf]

theorem bytes_facts (w : World) (e : TypeId) (s : ByteArray) : (Lib.bytesWorld w e s).heap.size = w.heap.size + 1 ∧ w.grownBy (Lib.bytesWorld w e s) none ∧
    (∀ j, j < (lettersOf s).length → (Lib.bytesWorld w e s).cell? ⟨w.heap.size, j, none⟩ = some (.int .u8 ((lettersOf s)[j]?.getD 0))) ∧ ∃ C fr, (Lib.bytesWorld w e s).heap[w.heap.size]? = some (.cells C e fr) := by
  refine ⟨Lib.bytesWorld_size w e s, ⟨rfl, rfl, rfl, by rw [Lib.bytesWorld_size]; omega, fun k hk _ => Lib.bytesWorld_at_old w e s k hk⟩, fun j hj => ?_, _, _, Lib.bytesWorld_at_new w e s⟩
  have hj' : j < s.size := by rwa [lettersOf_length] at hj
  have hj2 : j < s.data.toList.length := by simpa using hj'
  rw [Lib.bytesWorld_cell w e s j hj']
  simp [lettersOf, List.getD, List.getElem?_eq_getElem hj2]

theorem info_span : (Try.prog.info? 82).map (fun i => (i.zero, i.size, i.bytes)) = some (some (.agg #[.int .i64 0, .bool false]), 2, 16) := by kernel_rfl
theorem info_int : (Try.prog.info? 3).map (fun i => (i.zero, i.size, i.bytes)) = some (some (.int .i64 0), 1, 8) := by kernel_rfl

/-- What the loop's rounds keep. -/
structure LenInv (w : World) (pre : List (Nat × Int)) (W : World) : Prop where
  run : ∃ st out vo, lenRun (pre.map (·.2)) = some (st, out) ∧ StackIn W w.heap.size W.heap.size (w.heap.size + 1 + 1) st ∧ Blk W (w.heap.size + 1 + 1 + 1) 52 #[vo] ∧ W.ownsRow w.heap.size 3 1 vo out.length (out.map (Value.int .i64))
  res : Blk W w.heap.size 52 #[.slice none 0 0]
  err : Blk W (w.heap.size + 1) 25 #[.int .i64 0]
  byt : ∃ o, CellsT W (w.heap.size + 1 + 1 + 1 + 1) 5 o
  box : ∃ o, CellsT W (w.heap.size + 1 + 1 + 1 + 1 + 1) 48 o
  below : Below w.heap.size w W
theorem LenInv.calm {w W W' : World} {pre : List (Nat × Int)} {row : Option Nat} (h : LenInv w pre W) (hg : W.grownBy W' row) (hr : ∀ r, row = some r → w.heap.size ≤ r ∧ ∃ o : Obj, W.heap[r]? = some o ∧ o.isCells = false) : LenInv w pre W' := by
  obtain ⟨⟨st, out, vo, h1, h2, h3, h4⟩, h5, h6, ⟨o8, h8⟩, ⟨o9, h9⟩, h7⟩ := h
  have hr' := fun r e => (hr r e).2
  exact ⟨⟨st, out, vo, h1, (h2.calm hg hr').top hg.size, h3.calm hg hr', own_calm h4 hg hr'⟩, h5.calm hg hr', h6.calm hg hr', ⟨_, h8.calm hg hr'⟩, ⟨_, h9.calm hg hr'⟩, h7.grown hg h7.size (fun k e => (hr k e).1)⟩
/-- How a round leaves. -/
structure LenOut (w : World) (c : Code) (pre : List (Nat × Int)) (W : World) : Prop where
  ret : c = .ret
  run : lenRun (pre.map (·.2)) = none
  res : Blk W w.heap.size 52 #[.slice none 0 0]
  err : Blk W (w.heap.size + 1) 25 #[.int .i64 3]
  below : Below w.heap.size w W
theorem LenOut.calm {w W W' : World} {c : Code} {pre : List (Nat × Int)} {row : Option Nat} (h : LenOut w c pre W) (hg : W.grownBy W' row) (hr : ∀ r, row = some r → w.heap.size ≤ r ∧ ∃ o : Obj, W.heap[r]? = some o ∧ o.isCells = false) : LenOut w c pre W' := by
  obtain ⟨h1, h2, h5, h6, h7⟩ := h
  have hr' := fun r e => (hr r e).2
  exact ⟨h1, h2, h5.calm hg hr', h6.calm hg hr', h7.grown hg h7.size (fun k e => (hr k e).1)⟩

/-- What Lengths answers. -/
def LenPost (w : World) (zs : List Int) (e : Ending) (w' : World) : Prop :=
  (match lengthsM zs with
    | none => e = .returned (.tuple #[.slice none 0 0, .int .i64 3])
    | some l => ∃ v, e = .returned (.tuple #[v, .int .i64 0]) ∧ w'.ownsRow w.heap.size 3 1 v l.length (l.map (Value.int .i64))) ∧ Below w.heap.size w w'
theorem LenPost.none_ {w w' : World} {zs : List Int} {e : Ending} (h : lengthsM zs = none) (he : e = .returned (.tuple #[.slice none 0 0, .int .i64 3])) (hb : Below w.heap.size w w') : LenPost w zs e w' := by
  unfold LenPost; rw [h]; exact ⟨he, hb⟩
theorem LenPost.some_ {w w' : World} {zs l : List Int} {e : Ending} {v : Value} (h : lengthsM zs = some l) (he : e = .returned (.tuple #[v, .int .i64 0])) (ho : w'.ownsRow w.heap.size 3 1 v l.length (l.map (Value.int .i64))) (hb : Below w.heap.size w w') : LenPost w zs e w' := by
  unfold LenPost; rw [h]; exact ⟨⟨v, he, ho⟩, hb⟩

theorem put_calm {W : World} {D : Nat} (hK : W.heap[D]? = some (.deferred (some []))) (o : Obj) : W.grownBy (W.putObj D o) (some D) ∧ ∀ r, some D = some r → ∃ o : Obj, W.heap[r]? = some o ∧ o.isCells = false :=
  ⟨grownBy_putObj' W D o, fun r e => by cases e; exact ⟨_, hK, rfl⟩⟩

set_option maxRecDepth 100000 in
set_option maxHeartbeats 1000000 in
theorem lengths_any (s : ByteArray) (hs : s.size ≤ 1000000) (w : World) :
    Calls Try.prog 32 #[.string s] w (LenPost w (lettersOf s)) := by
  have hcv : ∀ W, (convert 9 48 (.string s)).run Try.prog W = .ok (.slice (some ⟨W.heap.size, 0, none⟩) s.size (grownCap W s.size 0 5)) (Lib.bytesWorld W 5 s) :=
    fun W => Lib.run_convert_string_bytes W _ _ _ s Try.underlying9 Try.underlying48 Try.underlying5
  obtain ⟨i0, hi, hz0, hz1, hz2⟩ := info_parts info_span
  obtain ⟨i1, hi', hy0, hy1, hy2⟩ := info_parts info_int
  refine (callsIn_wide (n := 9)).1 ?_
  refine callsIn_of_wp_marks Try.func32 rfl trivial ?_ rfl
  simp only [Try.ntmps32, List.size_toArray, List.length_cons, List.length_nil, Nat.reduceAdd, Nat.reduceSub, Array.replicate_succ, Array.replicate_zero, List.push_toArray, List.append_toArray, List.nil_append, List.cons_append]
  have hf := bytes_facts ((((w.alloc (.cells #[.slice none 0 0] 52)).alloc (.cells #[.int .i64 0] 25)).alloc (.cells #[.slice none 0 0] 77)).alloc (.cells #[.slice none 0 0] 52)) 5 s
  obtain ⟨b0, b1, b2, b3, bB⟩ : ∃ _ : Blk ((((w.alloc (.cells #[.slice none 0 0] 52)).alloc (.cells #[.int .i64 0] 25)).alloc (.cells #[.slice none 0 0] 77)).alloc (.cells #[.slice none 0 0] 52)) w.heap.size 52 #[.slice none 0 0],
      ∃ _ : Blk ((((w.alloc (.cells #[.slice none 0 0] 52)).alloc (.cells #[.int .i64 0] 25)).alloc (.cells #[.slice none 0 0] 77)).alloc (.cells #[.slice none 0 0] 52)) (w.heap.size + 1) 25 #[.int .i64 0],
      ∃ _ : Blk ((((w.alloc (.cells #[.slice none 0 0] 52)).alloc (.cells #[.int .i64 0] 25)).alloc (.cells #[.slice none 0 0] 77)).alloc (.cells #[.slice none 0 0] 52)) (w.heap.size + 1 + 1) 77 #[.slice none 0 0],
      ∃ _ : Blk ((((w.alloc (.cells #[.slice none 0 0] 52)).alloc (.cells #[.int .i64 0] 25)).alloc (.cells #[.slice none 0 0] 77)).alloc (.cells #[.slice none 0 0] 52)) (w.heap.size + 1 + 1 + 1) 52 #[.slice none 0 0],
      Below w.heap.size w ((((w.alloc (.cells #[.slice none 0 0] 52)).alloc (.cells #[.int .i64 0] 25)).alloc (.cells #[.slice none 0 0] 77)).alloc (.cells #[.slice none 0 0] 52)) := by
    refine ⟨(((Blk.new _ _ _).alloc _).alloc _).alloc _, ?_, ?_, ?_, ((((Below.refl _ _).alloc (Nat.le_refl _) _).alloc (by simp) _).alloc (by simp; omega) _).alloc (by simp; omega) _⟩
    · have := ((Blk.new (w.alloc (.cells #[.slice none 0 0] 52)) 25 #[.int .i64 0]).alloc (.cells #[.slice none 0 0] 77)).alloc (.cells #[.slice none 0 0] 52)
      rwa [size_alloc'] at this
    · have := (Blk.new ((w.alloc (.cells #[.slice none 0 0] 52)).alloc (.cells #[.int .i64 0] 25)) 77 #[.slice none 0 0]).alloc (.cells #[.slice none 0 0] 52)
      rwa [size_alloc', size_alloc'] at this
    · have := (Blk.new (((w.alloc (.cells #[.slice none 0 0] 52)).alloc (.cells #[.int .i64 0] 25)).alloc (.cells #[.slice none 0 0] 77)) 52 #[.slice none 0 0])
      rwa [size_alloc', size_alloc', size_alloc'] at this
  gi_wp2_with fail
  rw [size_alloc', size_alloc', size_alloc', size_alloc'] at hf
  generalize grownCap _ _ _ _ = cap
  generalize hW1 : Lib.bytesWorld _ _ _ = W1 at hf ⊢
  obtain ⟨hz, hg, hcell, C, fr, hbyt⟩ := hf
  clear hW1 hcv
  refine ⟨trivial, ?_⟩
  refine (back_in Fence.wide 8 trivial rfl _ _ _ _).mono ?_
  rintro e w' ⟨rfl, rfl⟩
  gi_wp2_with fail
  have hl := lettersOf_length s
  rw [← hl]
  have hBB := bB.trans (below_of_grown hg (by simp; omega) (by simp))
  have bx := Blk.new W1 48 #[.slice (some ⟨w.heap.size + 1 + 1 + 1 + 1, 0, none⟩) (lettersOf s).length cap]
  have hsz : (W1.alloc (.cells #[.slice (some ⟨w.heap.size + 1 + 1 + 1 + 1, 0, none⟩) (lettersOf s).length cap] 48)).heap.size = w.heap.size + 1 + 1 + 1 + 1 + 1 + 1 := by rw [size_alloc', hz]
  have hz' : W1.heap.size = w.heap.size + 1 + 1 + 1 + 1 + 1 := by rw [hz]
  rw [hz'] at bx
  try rw [hz']
  have h0 : LenInv w [] (W1.alloc (.cells #[.slice (some ⟨w.heap.size + 1 + 1 + 1 + 1, 0, none⟩) (lettersOf s).length cap] 48)) :=
    ⟨⟨[], [], _, rfl, StackIn.new _ ((b2.grown hg (by simp)).alloc _), (b3.grown hg (by simp)).alloc _, World.ownsRow_nil _ _ _ _⟩, (b0.grown hg (by simp)).alloc _, (b1.grown hg (by simp)).alloc _, ⟨_, CellsT.alloc ⟨hbyt, _, _, rfl⟩ _⟩, ⟨_, bx.cellsT⟩, hBB.alloc (by omega) _⟩
  have hcb : ∀ j, j < (lettersOf s).length → (W1.alloc (.cells #[.slice (some ⟨w.heap.size + 1 + 1 + 1 + 1, 0, none⟩) (lettersOf s).length cap] 48)).cell? ⟨w.heap.size + 1 + 1 + 1 + 1, j, none⟩ = some (.int .u8 ((lettersOf s)[j]?.getD 0)) := fun j hj => (World.cell?_alloc_lt _ _ _ (by show w.heap.size + 1 + 1 + 1 + 1 < W1.heap.size; omega)).trans (hcell j hj)
  generalize (W1.alloc (.cells #[.slice (some ⟨w.heap.size + 1 + 1 + 1 + 1, 0, none⟩) (lettersOf s).length cap] 48)) = W2 at bx hsz h0 hcb ⊢
  clear hcell hBB hg b0 b1 b2 b3 bB hz hz'
  have hlen : (lettersOf s).length ≤ 1000000 := by omega
  generalize hzs : lettersOf s = zs at *
  have Hl := Lib.hid hl
  have Hzs := Lib.hid hzs
  clear hl hzs
  refine wpIn_rangeFunc_ownG rfl (by omega) (gf := 51) (lb := #[.pointer (some ⟨w.heap.size + 1 + 1 + 1 + 1 + 1, 0, none⟩)]) rfl trivial (enters_of Try.func51 (by kernel_rfl) rfl)
    (back_stops Fence.wide 8 trivial rfl (by omega) (w.heap.size + 1 + 1 + 1 + 1 + 1) (w.heap.size + 1 + 1 + 1 + 1) cap zs (by omega) W2 (by omega) (by omega) (bx.cell 0) hcb) KeepTwo.trans (KeepTwo.put (by omega) (by omega)) (Below.refl _ _) (fun _ => rfl)
    (LenInv w) (LenOut w) (fun _ _ _ _ h hg hr => h.calm hg (fun r e => ⟨by have := (hr r e).1; omega, (hr r e).2⟩)) (fun _ _ _ _ _ h hg hr => h.calm hg (fun r e => ⟨by have := (hr r e).1; omega, (hr r e).2⟩))
    h0
    (fun x => { tmps := #[.string s, undef, .pointer (some ⟨w.heap.size, 0, none⟩), .pointer (some ⟨w.heap.size + 1, 0, none⟩), .pointer (some ⟨w.heap.size + 1 + 1, 0, none⟩), .pointer (some ⟨w.heap.size + 1 + 1 + 1, 0, none⟩), undef, .int .u8 x.2, undef, undef,
        .string s, .slice (some ⟨w.heap.size + 1 + 1 + 1 + 1, 0, none⟩) zs.length cap, .func (.func 51) #[] #[.pointer (some ⟨w.heap.size + 1 + 1 + 1 + 1 + 1, 0, none⟩)], .int .i64 (x.1 : Nat), .int .u8 x.2,
        undef, undef, undef, undef, undef, undef, undef, undef, undef, undef, undef, undef, undef, undef, undef, undef, undef, undef, undef, undef, undef, undef, undef, undef, undef, undef], defers := [] }) ?assign ?body ?done ?stop
  case assign =>
    intro l x W K hK
    gi_wp2
    exact hK
  case body =>
    rintro l pre x W ⟨⟨st, out, vo, hrun, hst, hbo, hro⟩, hb0, hb1, ⟨ob, hby⟩, ⟨ox, hbx⟩, hB⟩ hlt
    obtain ⟨q0, q1, q2⟩ := hb0.one
    obtain ⟨p0, p1, p2⟩ := hb1.one
    have hrs := lenRun_some hrun
    have hsn := lenRun_snoc (pre.map (·.2)) x.2
    rw [hrun] at hsn
    simp only [Option.bind_some] at hsn
    have hmap : (pre ++ [x]).map (·.2) = pre.map (·.2) ++ [x.2] := by simp
    rw [← hmap] at hsn
    have Hsn := Lib.hid hsn
    have Hrun := Lib.hid hrun
    clear hsn hmap hrun
    have hlen1 : pre.length ≤ 1000000 := by omega
    have hrs1 : out.length ≤ 1000000 := by have := hrs.1; simp at this; omega
    have hsum : sumAbs st ≤ 1000000000000 := by have := hrs.2.1; simp at this; omega
    have hstl : st.length ≤ 1000000 := by have := hrs.2.2; simp at this; omega
    have Hrs := Lib.hid hrs
    clear hrs
    gi_wp2_with fail
    refine ⟨trivial, (CallsIn.inRound l (callsIn_wide.2 (word_any _ _ _ st x.2 W hst (Nat.le_refl _) hsum))).mono ?_⟩
    rintro e W3 ⟨rfl, hst3, hg3⟩
    have hB3 := below_of_grown hg3 hB.size (fun j e => by cases e; omega)
    have hb03 := hb0.grown hg3 (by simp; omega)
    have hb13 := hb1.grown hg3 (by simp)
    have hbo3 := hbo.grown hg3 (by simp)
    obtain ⟨v0, hv0, -⟩ := hst
    have hro3 := hro.kept hg3 (.inr (own_blk_ne hro hv0 (by decide)))
    obtain ⟨v3, hv3, hr3, hH3⟩ := hst3
    clear q0 q1 q2 p0 p1 p2
    obtain ⟨q0, q1, q2⟩ := hb03.one
    obtain ⟨p0, p1, p2⟩ := hb13.one
    obtain ⟨s0, s1, s2⟩ := hv3.one
    obtain ⟨o0, o1, o2⟩ := hbo3.one
    have hsz3 := hB3.size
    have hwb : W3.heap.size = (W3.alloc (.cells #[.int .i64 (wordM st x.2).1.1, .bool (wordM st x.2).1.2] 82)).heap.size - 1 := by simp
    clear hwb
    have hk3 : KeepsOthers W W3 := KeepsOthers.of_grownBy hg3 (isCells_of_blk hv0)
    by_cases hbad : (wordM st x.2).2.1 = false ∨ (wordM st x.2).1.2 = true
    · have hnone : lenRun ((pre ++ [x]).map (·.2)) = none := by rw [Hsn.out, lenStep, if_pos hbad]
      have Hnone := Lib.hid hnone
      clear hnone
      have fin : ∀ (o : Obj), KeepsFrom W2.heap.size W (((W3.setCell ⟨w.heap.size, 0, none⟩ (.slice none 0 0)).setCell ⟨w.heap.size + 1, 0, none⟩ (.int .i64 3)).alloc o) ∧ LenOut w .ret (pre ++ [x]) (((W3.setCell ⟨w.heap.size, 0, none⟩ (.slice none 0 0)).setCell ⟨w.heap.size + 1, 0, none⟩ (.int .i64 3)).alloc o) := fun o =>
        ⟨((hk3.trans (KeepsOthers.setCell _ _ _)).trans (KeepsOthers.setCell _ _ _)).trans (KeepsOthers.alloc _ _) |>.from _,
          rfl, Hnone.out, ((hb03.set1 _).far (by simp) _).alloc _, ((hb13.far (by simp) _).set1 _).alloc _, (((hB.trans hB3).setCell (p := ⟨w.heap.size, 0, none⟩) (Nat.le_refl _) _).setCell (p := ⟨w.heap.size + 1, 0, none⟩) (by simp) _).alloc (by simp [World.setCell]; omega) _⟩
      rcases hbad with hbad | hbad
      · gi_wp2
        exact fin _
      · cases h21 : (wordM st x.2).2.1
        · gi_wp2
          exact fin _
        · gi_wp2
          exact fin _
    · have h21 : (wordM st x.2).2.1 = true := by
        cases h : (wordM st x.2).2.1
        · exact absurd (.inl h) hbad
        · rfl
      have h12 : (wordM st x.2).1.2 = false := by
        cases h : (wordM st x.2).1.2
        · rfl
        · exact absurd (.inr h) hbad
      have hsome : lenRun ((pre ++ [x]).map (·.2)) = some ((wordM st x.2).1 :: (wordM st x.2).2.2, out ++ [(wordM st x.2).1.1]) := by rw [Hsn.out, lenStep, if_neg hbad]
      have Hsome := Lib.hid hsome
      clear hsome hbad
      have hlw := len_word st x.2
      have c3 : (wordM st x.2).2.2.length + 1 ≤ maxLen := by unfold maxLen; omega
      have c4 : ((wordM st x.2).2.2.length + 1) * 16 ≤ 140737488355328 := by omega
      have d3 : out.length + 1 ≤ maxLen := by unfold maxLen; omega
      have d4 : (out.length + 1) * 8 ≤ 140737488355328 := by omega
      have hca := cells_new (W3.alloc (.cells #[.int .i64 (wordM st x.2).1.1, .bool false] 82)) [.int .i64 (wordM st x.2).1.1, .bool false] 82
      rw [size_alloc'] at hca
      have Hca := Lib.hid hca
      have bX := Blk.new W3 82 #[.int .i64 (wordM st x.2).1.1, .bool false]
      clear hca
      gi_wp2_with (first
        | (gi_at_builtin; refine wpListIn_append_own _ rfl (.tmp 26) (.tmp 28) 77 rfl w.heap.size 82 i0 _ 2 16 Try.underlying77 hi hz0 hz1 hz2 rfl (by decide) v3 _ _ rfl ((hr3.alloc _).alloc _) ⟨W3.heap.size + 1, 0, none⟩ 1 1 [.int .i64 (wordM st x.2).1.1, .bool false] rfl rfl Hca.out (by simp [Value.oneCell']) c3 c4 (by simp; omega) ?_; intro v4 W4 hr4 hg4 _; obtain ⟨g', cap', rfl⟩ := ownsRow_succ hr4; obtain ⟨m1, m2, m3, m4, m5⟩ := Boxed.appended (Blk.alloc hv3 _) (by decide) (hr3.alloc _) (by simp; omega) (by omega) hr4 hg4; obtain ⟨x0, x1, x2, x3, x4⟩ := (app_blkH1 bX hH3 hsz3 hg4).two; obtain ⟨y0, y1, y2⟩ := Blk.one m1; obtain ⟨z0, z1, z2⟩ := (app_blk1 (hbo3.alloc _) (hr3.alloc _) (by decide) hg4).one)
        | (gi_at_builtin; refine wpListIn_append_own _ rfl (.tmp 30) (.tmp 33) 52 rfl w.heap.size 3 i1 _ 1 8 Try.underlying52 hi' hy0 hy1 hy2 rfl (by decide) vo _ _ rfl ((app_own (hro3.alloc _) (hr3.alloc _) (by decide) (hv3.alloc _) (by decide) hg4).alloc _) ⟨W4.heap.size, 0, none⟩ 1 1 [.int .i64 (wordM st x.2).1.1] rfl rfl (by have := cells_new (W4.setCell ⟨w.heap.size + 1 + 1, 0, none⟩ (.slice (some ⟨g', 0, none⟩) ((wordM st x.2).2.2.length + 1) cap')) [.int .i64 (wordM st x.2).1.1] 3; simpa [World.setCell] using this) (by simp [Value.oneCell']) d3 d4 (by simp [World.setCell]; have := hg4.size; simp at this; omega) ?_; intro v6 W6 hr6 hg6 _; obtain ⟨g2, cap2, rfl⟩ := ownsRow_succ hr6; obtain ⟨n1, n2, n3, n4, n5⟩ := Boxed.appended (app_blk (hbo3.alloc _) (hr3.alloc _) (by decide) hg4 (by simp)) (by decide) (app_own (hro3.alloc _) (hr3.alloc _) (by decide) (hv3.alloc _) (by decide) hg4) (by simp [World.setCell]; have := hg4.size; simp at this; omega) (by omega) hr6 hg6; obtain ⟨r0, r1, r2⟩ := Blk.one n1))
      have hby3 := hby.grown hg3 (by simp; omega)
      have hbx3 := hbx.grown hg3 (by simp; omega)
      have hby7 := app_cellsT (u := .slice (some ⟨g2, 0, none⟩) (out.length + 1) cap2) (app_cellsT (u := .slice (some ⟨g', 0, none⟩) ((wordM st x.2).2.2.length + 1) cap') (B := w.heap.size + 1 + 1) (hby3.alloc _) (hr3.alloc _) (by decide) hg4 (by omega)) (app_own (hro3.alloc _) (hr3.alloc _) (by decide) (hv3.alloc _) (by decide) hg4) (by decide) hg6 (B := w.heap.size + 1 + 1 + 1) (by omega)
      have hbx7 := app_cellsT (u := .slice (some ⟨g2, 0, none⟩) (out.length + 1) cap2) (app_cellsT (u := .slice (some ⟨g', 0, none⟩) ((wordM st x.2).2.2.length + 1) cap') (B := w.heap.size + 1 + 1) (hbx3.alloc _) (hr3.alloc _) (by decide) hg4 (by omega)) (app_own (hro3.alloc _) (hr3.alloc _) (by decide) (hv3.alloc _) (by decide) hg4) (by decide) hg6 (B := w.heap.size + 1 + 1 + 1) (by omega)
      have hb07 := app_blk (u := .slice (some ⟨g2, 0, none⟩) (out.length + 1) cap2) (app_blk (u := .slice (some ⟨g', 0, none⟩) ((wordM st x.2).2.2.length + 1) cap') (B := w.heap.size + 1 + 1) (hb03.alloc _) (hr3.alloc _) (by decide) hg4 (by omega)) (app_own (hro3.alloc _) (hr3.alloc _) (by decide) (hv3.alloc _) (by decide) hg4) (by decide) hg6 (B := w.heap.size + 1 + 1 + 1) (by omega)
      have hb17 := app_blk (u := .slice (some ⟨g2, 0, none⟩) (out.length + 1) cap2) (app_blk (u := .slice (some ⟨g', 0, none⟩) ((wordM st x.2).2.2.length + 1) cap') (B := w.heap.size + 1 + 1) (hb13.alloc _) (hr3.alloc _) (by decide) hg4 (by omega)) (app_own (hro3.alloc _) (hr3.alloc _) (by decide) (hv3.alloc _) (by decide) hg4) (by decide) hg6 (B := w.heap.size + 1 + 1 + 1) (by omega)
      have hv7 := app_blk (u := .slice (some ⟨g2, 0, none⟩) (out.length + 1) cap2) (show Blk _ _ _ _ from m2) (app_own (hro3.alloc _) (hr3.alloc _) (by decide) (hv3.alloc _) (by decide) hg4) (by decide) hg6 (B := w.heap.size + 1 + 1 + 1) (by omega)
      have hr7 := app_own (u := .slice (some ⟨g2, 0, none⟩) (out.length + 1) cap2) m3 (app_own (hro3.alloc _) (hr3.alloc _) (by decide) (hv3.alloc _) (by decide) hg4) (by decide) (app_blk (hbo3.alloc _) (hr3.alloc _) (by decide) hg4 (by simp)) (by decide) hg6
      refine ⟨((hk3.trans (KeepsOthers.alloc _ _)).trans (m4.trans n4)).from _, ⟨hby7.1.trans hby.1.symm, hbx7.1.trans hbx.1.symm⟩, ⟨_, _, _, Hsome.out, ⟨_, hv7, ?_, ?_⟩, n2, ?_⟩, hb07, hb17, ⟨_, hby7⟩, ⟨_, hbx7⟩, ?_⟩
      · rw [List.reverse_cons, cellsS_append, List.length_cons]
        simpa [cellsS, h12] using hr7
      · intro k hk
        have := hr7.lt k hk
        omega
      · simpa using n3
      · exact (((hB.trans hB3).alloc (by omega) _).trans m5).trans n5
  case done =>
    rintro D ys W hD rfl ⟨⟨st, out, vo, hrun, hst, hbo, hro⟩, hb0, hb1, -, -, hB⟩ hK
    rw [backs_snd _ _ (Nat.le_refl _), List.take_of_length_le (by simp)] at hrun
    have hrs := lenRun_some hrun
    have hol : out.length ≤ 1000000 := by have := hrs.1; simp at this; omega
    obtain ⟨v0, hv0, hr0, -⟩ := hst
    obtain ⟨q0, q1, q2⟩ := hb0.one
    obtain ⟨p0, p1, p2⟩ := hb1.one
    obtain ⟨s0, s1, s2⟩ := hv0.one
    obtain ⟨o0, o1, o2⟩ := hbo.one
    obtain ⟨a0, cp0, rfl⟩ : ∃ a c, v0 = .slice a st.length c := by
      rcases hr0.2 with ⟨rfl, h⟩ | ⟨g, cap, cur, rfl, _⟩
      · exact ⟨none, 0, by rw [h]⟩
      · exact ⟨_, _, rfl⟩
    have hDc : ∀ t cs g, Blk W g t cs → g ≠ D := fun t cs g hb e => by subst e; rw [show W.heap[g]? = _ from hb] at hK; cases hK
    have hM : lengthsM zs = if st.length = 1 then some out.reverse else none := by unfold lengthsM; rw [hrun]
    have HM := Lib.hid hM
    clear hM hrun hrs
    by_cases h1 : st.length = 1
    · have h1' : ((st.length : Int) != 1) = false := by simp [h1]
      rw [h1] at h1'
      have Hst := Lib.hid h1
      rw [h1] at s1
      clear h1
      have hM : lengthsM zs = some out.reverse := by rw [HM.out, if_pos Hst.out]
      have HM' := Lib.hid hM
      clear hM
      gi_wp2_with fail
      refine ⟨trivial, (callsIn_wide.2 (reverse_own w.heap.size vo out W hro (by omega))).mono ?_⟩
      rintro e W3 ⟨rfl, hr3, hg3⟩
      have hB3 : Below w.heap.size w W3 := hB.grown hg3 hB.size (fun k e => (hro.lt k e).1)
      have hb03 := hb0.grown hg3 (fun e => own_blk_ne hro hb0 (by decide) e.symm)
      have hb13 := hb1.grown hg3 (fun e => own_blk_ne hro hb1 (by decide) e.symm)
      have hbo3 := hbo.grown hg3 (fun e => own_blk_ne hro hbo (by decide) e.symm)
      have hK3 : W3.heap[D]? = some (.deferred (some [])) := (hg3.block D (Array.getElem?_eq_some_iff.1 hK).1 (fun e => by
        rcases hro.2 with ⟨rfl, _⟩ | ⟨g, cap, cur, rfl, _, hh, _⟩
        · simp [Value.ownBlock] at e
        · have : D = g := by simpa [Value.ownBlock] using e
          subst this
          rw [hh] at hK; cases hK)).trans hK
      clear q0 q1 q2 p0 p1 p2 s0 s1 s2 o0 o1 o2
      obtain ⟨q0, q1, q2⟩ := hb03.one
      obtain ⟨p0, p1, p2⟩ := hb13.one
      obtain ⟨o0, o1, o2⟩ := hbo3.one
      obtain ⟨a1, cp1, rfl⟩ : ∃ a c, vo = .slice a out.length c := by
        rcases hr3.2 with ⟨rfl, h⟩ | ⟨g, cap, cur, rfl, _⟩
        · exact ⟨none, 0, by rw [h]⟩
        · exact ⟨_, _, rfl⟩
      gi_wp2
      have hr5 := own_alloc_st (u := .int .i64 0) (i := 0) (own_alloc_st (u := .slice a1 out.length cp1) (i := 0) hr3 hb03 (by decide)) (hb13.far (p := ⟨w.heap.size, 0, none⟩) (by simp) _) (by decide)
      have hb05 := (hb03.set1 (.slice a1 out.length cp1)).far (p := ⟨w.heap.size + 1, 0, none⟩) (by simp) (.int .i64 0)
      have hb15 := (hb13.far (p := ⟨w.heap.size, 0, none⟩) (by simp) (.slice a1 out.length cp1)).set1 (.int .i64 0)
      have hB5 := (hB3.setCell (p := ⟨w.heap.size, 0, none⟩) (Nat.le_refl _) (.slice a1 out.length cp1)).setCell (p := ⟨w.heap.size + 1, 0, none⟩) (by simp) (.int .i64 0)
      have hK5 := ((KeepsOthers.setCell W3 ⟨w.heap.size, 0, none⟩ (.slice a1 out.length cp1)).trans (KeepsOthers.setCell _ ⟨w.heap.size + 1, 0, none⟩ (.int .i64 0))).same D _ hK3 rfl
      generalize ((W3.setCell ⟨w.heap.size, 0, none⟩ (.slice a1 out.length cp1)).setCell ⟨w.heap.size + 1, 0, none⟩ (.int .i64 0)) = W5 at hr5 hb05 hb15 hB5 hK5 ⊢
      refine ⟨by simp, .inl ⟨_, _, rfl, run_takeDeferred hK5, ?_⟩⟩
      obtain ⟨g1, g2⟩ := put_calm hK5 (.deferred none)
      have k0 := (hb05.calm g1 g2).cell 0
      have k1 := (hb15.calm g1 g2).cell 0
      refine ⟨_, ?_, LenPost.some_ (by first | exact HM'.out | exact Hzs.out ▸ HM'.out) rfl (by rw [List.length_reverse]; exact own_calm hr5 g1 g2) (hB5.grown g1 hB5.size (fun k e => by cases e; omega))⟩
      simp [results, Try.results32, go_sem, k0, k1]
    · have h1' : ((st.length : Int) != 1) = true := by simp; omega
      have hM : lengthsM zs = none := by rw [HM.out, if_neg h1]
      have HM' := Lib.hid hM
      clear hM
      gi_wp2
      have hb05 := (hb0.set1 (.slice none 0 0)).far (p := ⟨w.heap.size + 1, 0, none⟩) (by simp) (.int .i64 3)
      have hb15 := (hb1.far (p := ⟨w.heap.size, 0, none⟩) (by simp) (.slice none 0 0)).set1 (.int .i64 3)
      have hB5 := (hB.setCell (p := ⟨w.heap.size, 0, none⟩) (Nat.le_refl _) (.slice none 0 0)).setCell (p := ⟨w.heap.size + 1, 0, none⟩) (by simp) (.int .i64 3)
      have hK5 := ((KeepsOthers.setCell W ⟨w.heap.size, 0, none⟩ (.slice none 0 0)).trans (KeepsOthers.setCell _ ⟨w.heap.size + 1, 0, none⟩ (.int .i64 3))).same D _ hK rfl
      generalize ((W.setCell ⟨w.heap.size, 0, none⟩ (.slice none 0 0)).setCell ⟨w.heap.size + 1, 0, none⟩ (.int .i64 3)) = W5 at hb05 hb15 hB5 hK5 ⊢
      refine ⟨by simp, .inl ⟨_, _, rfl, run_takeDeferred hK5, ?_⟩⟩
      obtain ⟨g1, g2⟩ := put_calm hK5 (.deferred none)
      have k0 := (hb05.calm g1 g2).cell 0
      have k1 := (hb15.calm g1 g2).cell 0
      refine ⟨_, ?_, LenPost.none_ (by first | exact HM'.out | exact Hzs.out ▸ HM'.out) rfl (hB5.grown g1 hB5.size (fun k e => by cases e; omega))⟩
      simp [results, Try.results32, go_sem, k0, k1]
  case stop =>
    rintro D c pre W hD ⟨k, hk, rfl⟩ ⟨rfl, hrun, hb0, hb1, hB⟩ hK
    rw [backs_snd _ _ hk] at hrun
    have HM' := Lib.hid (lengthsM_of_run_none ⟨k, hrun⟩)
    clear hrun
    gi_wp2
    refine ⟨by simp, .inl ⟨_, _, rfl, run_takeDeferred hK, ?_⟩⟩
    obtain ⟨g1, g2⟩ := put_calm hK (.deferred none)
    have k0 := (hb0.calm g1 g2).cell 0
    have k1 := (hb1.calm g1 g2).cell 0
    refine ⟨_, ?_, LenPost.none_ (by first | exact HM'.out | exact Hzs.out ▸ HM'.out) rfl (hB.grown g1 hB.size (fun k e => by cases e; omega))⟩
    simp [results, Try.results32, go_sem, k0, k1]
end Go.Proofs.Ytgjcigokjfhfkaa
