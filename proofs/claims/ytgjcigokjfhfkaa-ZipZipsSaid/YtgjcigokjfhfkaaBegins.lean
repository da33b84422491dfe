/-
  word.begins, by walking its text.
-/
import Derived.Test.YtgjcigokjfhfkaaLen
namespace Go.Proofs.Ytgjcigokjfhfkaa
open Go.RowKit
attribute [local go_sem] Oper.semAt_some

/-- One letter more, from behind: none where it is no letter, or the word is too short. -/
def begStep (st : List Span) (c : Int) : Option (List Span) :=
  if (wordM st c).2.1 = false ∨ (wordM st c).1.1 < 3 then none else some ((wordM st c).1 :: (wordM st c).2.2)
def begRun (cs : List Int) : Option (List Span) := cs.foldlM begStep []
def begEnd : List Span → Bool
  | [] => true
  | [x] => x.1 == 3 || (x.2 && decide (x.1 < 3))
  | _ => false
/-- What word.begins answers. -/
def beginsM (zs : List Int) : Bool :=
  match begRun zs.reverse with
  | none => false
  | some st => begEnd st
theorem begRun_snoc (cs : List Int) (c : Int) : begRun (cs ++ [c]) = (begRun cs).bind (fun p => begStep p c) := by
  simp [begRun, List.foldlM_append]
theorem begRun_some {cs : List Int} {st : List Span} (h : begRun cs = some st) : sumAbs st ≤ 8 * cs.length ∧ st.length ≤ cs.length := by
  suffices H : ∀ (cs : List Int) (p q : List Span), cs.foldlM begStep p = some q → sumAbs q ≤ sumAbs p + 8 * cs.length ∧ q.length ≤ p.length + cs.length by
    have := H cs _ _ h
    simpa [sumAbs] using this
  intro cs
  induction cs with
  | nil => intro p q h; simp at h; subst h; simp
  | cons c r ih =>
    intro p q h
    rw [List.foldlM_cons] at h
    cases hs : begStep p c with
    | none => rw [hs] at h; cases h
    | some p' =>
      rw [hs] at h
      have h' := ih p' q h
      have h1 := sumAbs_word p c
      have h2 := len_word p c
      unfold begStep at hs
      split at hs
      · cases hs
      · cases hs
        simp only [sumAbs, List.length_cons] at h' ⊢
        omega
theorem beginsM_of_run_none {zs : List Int} (h : ∃ k, begRun (zs.reverse.take k) = none) : beginsM zs = false := by
  obtain ⟨k, hk⟩ := h
  have : begRun zs.reverse = none := by
    rw [← List.take_append_drop k zs.reverse]
    unfold begRun at hk ⊢
    rw [List.foldlM_append, hk]
    rfl
  unfold beginsM
  rw [this]

/-- What the loop's rounds keep. -/
structure BegInv (w : World) (pre : List (Nat × Int)) (W : World) : Prop where
  run : ∃ st, begRun (pre.map (·.2)) = some st ∧ StackIn W w.heap.size W.heap.size (w.heap.size + 1) st
  res : Blk W w.heap.size 4 #[.bool false]
  byt : ∃ o, CellsT W (w.heap.size + 1 + 1) 5 o
  box : ∃ o, CellsT W (w.heap.size + 1 + 1 + 1) 48 o
  below : Below w.heap.size w W
theorem BegInv.calm {w W W' : World} {pre : List (Nat × Int)} {row : Option Nat} (h : BegInv w pre W) (hg : W.grownBy W' row) (hr : ∀ r, row = some r → w.heap.size ≤ r ∧ ∃ o : Obj, W.heap[r]? = some o ∧ o.isCells = false) : BegInv w pre W' := by
  obtain ⟨⟨st, h1, h2⟩, h5, ⟨o8, h8⟩, ⟨o9, h9⟩, h7⟩ := h
  have hr' := fun r e => (hr r e).2
  exact ⟨⟨st, h1, (h2.calm hg hr').top hg.size⟩, h5.calm hg hr', ⟨_, h8.calm hg hr'⟩, ⟨_, h9.calm hg hr'⟩, h7.grown hg h7.size (fun k e => (hr k e).1)⟩
/-- How a round leaves. -/
structure BegOut (w : World) (c : Code) (pre : List (Nat × Int)) (W : World) : Prop where
  ret : c = .ret
  run : begRun (pre.map (·.2)) = none
  res : Blk W w.heap.size 4 #[.bool false]
  below : Below w.heap.size w W
theorem BegOut.calm {w W W' : World} {c : Code} {pre : List (Nat × Int)} {row : Option Nat} (h : BegOut w c pre W) (hg : W.grownBy W' row) (hr : ∀ r, row = some r → w.heap.size ≤ r ∧ ∃ o : Obj, W.heap[r]? = some o ∧ o.isCells = false) : BegOut w c pre W' := by
  obtain ⟨h1, h2, h5, h7⟩ := h
  have hr' := fun r e => (hr r e).2
  exact ⟨h1, h2, h5.calm hg hr', h7.grown hg h7.size (fun k e => (hr k e).1)⟩

set_option maxRecDepth 100000 in
set_option maxHeartbeats 1000000 in
theorem begins_any (s : ByteArray) (hs : s.size ≤ 1000000) (w : World) :
    Calls Try.prog 43 #[.string s] w fun e w' => e = .returned (.bool (beginsM (lettersOf s))) ∧ Below w.heap.size w w' := by
  have hcv : ∀ W, (convert 9 48 (.string s)).run Try.prog W = .ok (.slice (some ⟨W.heap.size, 0, none⟩) s.size (grownCap W s.size 0 5)) (Lib.bytesWorld W 5 s) :=
    fun W => Lib.run_convert_string_bytes W _ _ _ s Try.underlying9 Try.underlying48 Try.underlying5
  obtain ⟨i0, hi, hz0, hz1, hz2⟩ := info_parts info_span
  refine (callsIn_wide (n := 9)).1 ?_
  refine callsIn_of_wp_marks Try.func43 rfl trivial ?_ rfl
  simp only [Try.ntmps43, List.size_toArray, List.length_cons, List.length_nil, Nat.reduceAdd, Nat.reduceSub, Array.replicate_succ, Array.replicate_zero, List.push_toArray, List.append_toArray, List.nil_append, List.cons_append]
  have hf := bytes_facts ((w.alloc (.cells #[.bool false] 4)).alloc (.cells #[.slice none 0 0] 77)) 5 s
  obtain ⟨b0, b2, bB⟩ : ∃ _ : Blk ((w.alloc (.cells #[.bool false] 4)).alloc (.cells #[.slice none 0 0] 77)) w.heap.size 4 #[.bool false],
      ∃ _ : Blk ((w.alloc (.cells #[.bool false] 4)).alloc (.cells #[.slice none 0 0] 77)) (w.heap.size + 1) 77 #[.slice none 0 0],
      Below w.heap.size w ((w.alloc (.cells #[.bool false] 4)).alloc (.cells #[.slice none 0 0] 77)) := by
    refine ⟨(Blk.new _ _ _).alloc _, ?_, ((Below.refl _ _).alloc (Nat.le_refl _) _).alloc (by simp) _⟩
    have := Blk.new (w.alloc (.cells #[.bool false] 4)) 77 #[.slice none 0 0]
    rwa [size_alloc'] at this
  gi_wp2_with fail
  rw [size_alloc', size_alloc'] at hf
  generalize grownCap _ _ _ _ = cap
  generalize hW1 : Lib.bytesWorld _ _ _ = W1 at hf ⊢
  obtain ⟨hz, hg, hcell, C, fr, hbyt⟩ := hf
  clear hW1 hcv
  refine ⟨trivial, ?_⟩
  refine (back_in Fence.wide 8 trivial rfl _ _ _ _).mono ?_
  rintro e w' ⟨rfl, rfl⟩
  gi_wp2_with fail
  have hl := lettersOf_length s
  rw [← hl]
  have hBB := bB.trans (below_of_grown hg (by simp; omega) (by simp))
  have bx := Blk.new W1 48 #[.slice (some ⟨w.heap.size + 1 + 1, 0, none⟩) (lettersOf s).length cap]
  have hsz : (W1.alloc (.cells #[.slice (some ⟨w.heap.size + 1 + 1, 0, none⟩) (lettersOf s).length cap] 48)).heap.size = w.heap.size + 1 + 1 + 1 + 1 := by rw [size_alloc', hz]
  have hz' : W1.heap.size = w.heap.size + 1 + 1 + 1 := by rw [hz]
  rw [hz'] at bx
  try rw [hz']
  have h0 : BegInv w [] (W1.alloc (.cells #[.slice (some ⟨w.heap.size + 1 + 1, 0, none⟩) (lettersOf s).length cap] 48)) :=
    ⟨⟨[], rfl, StackIn.new _ ((b2.grown hg (by simp)).alloc _)⟩, (b0.grown hg (by simp)).alloc _, ⟨_, CellsT.alloc ⟨hbyt, _, _, rfl⟩ _⟩, ⟨_, bx.cellsT⟩, hBB.alloc (by omega) _⟩
  have hcb : ∀ j, j < (lettersOf s).length → (W1.alloc (.cells #[.slice (some ⟨w.heap.size + 1 + 1, 0, none⟩) (lettersOf s).length cap] 48)).cell? ⟨w.heap.size + 1 + 1, j, none⟩ = some (.int .u8 ((lettersOf s)[j]?.getD 0)) := fun j hj => (World.cell?_alloc_lt _ _ _ (by show w.heap.size + 1 + 1 < W1.heap.size; omega)).trans (hcell j hj)
  generalize (W1.alloc (.cells #[.slice (some ⟨w.heap.size + 1 + 1, 0, none⟩) (lettersOf s).length cap] 48)) = W2 at bx hsz h0 hcb ⊢
  clear hcell hBB hg b0 b2 bB hz hz'
  have hlen : (lettersOf s).length ≤ 1000000 := by omega
  generalize hzs : lettersOf s = zs at *
  have Hl := Lib.hid hl
  have Hzs := Lib.hid hzs
  clear hl hzs
  refine wpIn_rangeFunc_ownG rfl (by omega) (gf := 51) (lb := #[.pointer (some ⟨w.heap.size + 1 + 1 + 1, 0, none⟩)]) rfl trivial (enters_of Try.func51 (by kernel_rfl) rfl)
    (back_stops Fence.wide 8 trivial rfl (by omega) (w.heap.size + 1 + 1 + 1) (w.heap.size + 1 + 1) cap zs (by omega) W2 (by omega) (by omega) (bx.cell 0) hcb) KeepTwo.trans (KeepTwo.put (by omega) (by omega)) (Below.refl _ _) (fun _ => rfl)
    (BegInv w) (BegOut w) (fun _ _ _ _ h hg hr => h.calm hg (fun r e => ⟨by have := (hr r e).1; omega, (hr r e).2⟩)) (fun _ _ _ _ _ h hg hr => h.calm hg (fun r e => ⟨by have := (hr r e).1; omega, (hr r e).2⟩))
    h0
    (fun x => { tmps := List.toArray (.string s :: undef :: .pointer (some ⟨w.heap.size, 0, none⟩) :: .pointer (some ⟨w.heap.size + 1, 0, none⟩) :: undef :: .int .u8 x.2 :: undef :: undef :: .string s :: .slice (some ⟨w.heap.size + 1 + 1, 0, none⟩) zs.length cap :: .func (.func 51) #[] #[.pointer (some ⟨w.heap.size + 1 + 1 + 1, 0, none⟩)] :: .int .i64 (x.1 : Nat) :: .int .u8 x.2 :: undef :: undef :: undef :: undef :: undef :: undef :: undef :: undef :: undef :: undef :: undef :: undef :: undef :: undef :: undef :: undef :: undef :: undef :: undef :: undef :: undef :: undef :: undef :: undef :: undef :: undef :: undef :: undef :: undef :: undef :: undef :: undef :: undef :: undef :: undef :: undef :: undef :: undef :: undef :: undef :: undef :: undef :: []), defers := [] }) ?assign ?body ?done ?stop
  case assign =>
    intro l x W K hK
    gi_wp2
    exact hK
  case body =>
    rintro l pre x W ⟨⟨st, hrun, hst⟩, hb0, ⟨ob, hby⟩, ⟨ox, hbx⟩, hB⟩ hlt
    have hrs := begRun_some hrun
    have hsn := begRun_snoc (pre.map (·.2)) x.2
    rw [hrun] at hsn
    simp only [Option.bind_some] at hsn
    have hmap : (pre ++ [x]).map (·.2) = pre.map (·.2) ++ [x.2] := by simp
    rw [← hmap] at hsn
    have Hsn := Lib.hid hsn
    have Hrun := Lib.hid hrun
    clear hsn hmap hrun
    have hlen1 : pre.length ≤ 1000000 := by omega
    have hsum : sumAbs st ≤ 1000000000000 := by have := hrs.1; simp at this; omega
    have hstl : st.length ≤ 1000000 := by have := hrs.2; simp at this; omega
    clear hrs
    gi_wp2_with fail
    refine ⟨trivial, (CallsIn.inRound l (callsIn_wide.2 (word_any _ _ _ st x.2 W hst (Nat.le_refl _) hsum))).mono ?_⟩
    rintro e W3 ⟨rfl, hst3, hg3⟩
    have hB3 := below_of_grown hg3 hB.size (fun j e => by cases e; omega)
    have hb03 := hb0.grown hg3 (by simp)
    obtain ⟨v0, hv0, -⟩ := hst
    obtain ⟨v3, hv3, hr3, hH3⟩ := hst3
    obtain ⟨q0, q1, q2⟩ := hb03.one
    obtain ⟨s0, s1, s2⟩ := hv3.one
    have hsz3 := hB3.size
    have hk3 : KeepsOthers W W3 := KeepsOthers.of_grownBy hg3 (isCells_of_blk hv0)
    by_cases hbad : (wordM st x.2).2.1 = false ∨ (wordM st x.2).1.1 < 3
    · have hnone : begRun ((pre ++ [x]).map (·.2)) = none := by rw [Hsn.out, begStep, if_pos hbad]
      have Hnone := Lib.hid hnone
      clear hnone
      have fin : ∀ (o : Obj), KeepsFrom W2.heap.size W ((W3.setCell ⟨w.heap.size, 0, none⟩ (.bool false)).alloc o) ∧ BegOut w .ret (pre ++ [x]) ((W3.setCell ⟨w.heap.size, 0, none⟩ (.bool false)).alloc o) := fun o =>
        ⟨((hk3.trans (KeepsOthers.setCell _ _ _)).trans (KeepsOthers.alloc _ _)) |>.from _,
          rfl, Hnone.out, (hb03.set1 _).alloc _, ((hB.trans hB3).setCell (p := ⟨w.heap.size, 0, none⟩) (Nat.le_refl _) _).alloc (by simp [World.setCell]; omega) _⟩
      cases h21 : (wordM st x.2).2.1
      · gi_wp2
        exact fin _
      · have hbad' : (wordM st x.2).1.1 < 3 := by rw [h21] at hbad; simpa using hbad
        gi_wp2
        exact fin _
    · have h21 : (wordM st x.2).2.1 = true := by
        cases h : (wordM st x.2).2.1
        · exact absurd (.inl h) hbad
        · rfl
      have h12 : ¬ (wordM st x.2).1.1 < 3 := fun h => hbad (.inr h)
      have hsome : begRun ((pre ++ [x]).map (·.2)) = some ((wordM st x.2).1 :: (wordM st x.2).2.2) := by rw [Hsn.out, begStep, if_neg hbad]
      have Hsome := Lib.hid hsome
      clear hsome hbad
      have hlw := len_word st x.2
      have c3 : (wordM st x.2).2.2.length + 1 ≤ maxLen := by unfold maxLen; omega
      have c4 : ((wordM st x.2).2.2.length + 1) * 16 ≤ 140737488355328 := by omega
      have hca := cells_new (W3.alloc (.cells #[.int .i64 (wordM st x.2).1.1, .bool (wordM st x.2).1.2] 82)) [.int .i64 (wordM st x.2).1.1, .bool (wordM st x.2).1.2] 82
      rw [size_alloc'] at hca
      have Hca := Lib.hid hca
      have bX := Blk.new W3 82 #[.int .i64 (wordM st x.2).1.1, .bool (wordM st x.2).1.2]
      clear hca
      gi_wp2_with (first
        | (gi_at_builtin; refine wpListIn_append_own _ rfl (.tmp 25) (.tmp 27) 77 rfl w.heap.size 82 i0 _ 2 16 Try.underlying77 hi hz0 hz1 hz2 rfl (by decide) v3 _ _ rfl ((hr3.alloc _).alloc _) ⟨W3.heap.size + 1, 0, none⟩ 1 1 [.int .i64 (wordM st x.2).1.1, .bool (wordM st x.2).1.2] rfl rfl Hca.out (by simp [Value.oneCell']) c3 c4 (by simp; omega) ?_; intro v4 W4 hr4 hg4 _; obtain ⟨g', cap', rfl⟩ := ownsRow_succ hr4; obtain ⟨m1, m2, m3, m4, m5⟩ := Boxed.appended (Blk.alloc hv3 _) (by decide) (hr3.alloc _) (by simp; omega) (by omega) hr4 hg4; obtain ⟨y0, y1, y2⟩ := Blk.one m1))
      have hby3 := hby.grown hg3 (by simp)
      have hbx3 := hbx.grown hg3 (by simp; omega)
      have hby7 := app_cellsT (u := .slice (some ⟨g', 0, none⟩) ((wordM st x.2).2.2.length + 1) cap') (B := w.heap.size + 1) (hby3.alloc _) (hr3.alloc _) (by decide) hg4 (by omega)
      have hbx7 := app_cellsT (u := .slice (some ⟨g', 0, none⟩) ((wordM st x.2).2.2.length + 1) cap') (B := w.heap.size + 1) (hbx3.alloc _) (hr3.alloc _) (by decide) hg4 (by omega)
      have hb07 := app_blk (u := .slice (some ⟨g', 0, none⟩) ((wordM st x.2).2.2.length + 1) cap') (B := w.heap.size + 1) (hb03.alloc _) (hr3.alloc _) (by decide) hg4 (by omega)
      refine ⟨((hk3.trans (KeepsOthers.alloc _ _)).trans m4).from _, ⟨hby7.1.trans hby.1.symm, hbx7.1.trans hbx.1.symm⟩, ⟨_, Hsome.out, ⟨_, m2, ?_, ?_⟩⟩, hb07, ⟨_, hby7⟩, ⟨_, hbx7⟩, ?_⟩
      · rw [List.reverse_cons, cellsS_append, List.length_cons]
        simpa [cellsS] using m3
      · intro k hk
        have := m3.lt k hk
        omega
      · exact ((hB.trans hB3).alloc (by omega) _).trans m5
  case done =>
    rintro D ys W hD rfl ⟨⟨st, hrun, hst⟩, hb0, -, -, hB⟩ hK
    rw [backs_snd _ _ (Nat.le_refl _), List.take_of_length_le (by simp)] at hrun
    have hrs := begRun_some hrun
    have hsl : st.length ≤ 1000000 := by have := hrs.2; simp at this; omega
    obtain ⟨v0, hv0, hr0, -⟩ := hst
    obtain ⟨q0, q1, q2⟩ := hb0.one
    obtain ⟨s0, s1, s2⟩ := hv0.one
    obtain ⟨a0, cp0, rfl⟩ : ∃ a c, v0 = .slice a st.length c := by
      rcases hr0.2 with ⟨rfl, h⟩ | ⟨g, cap, cur, rfl, _⟩
      · exact ⟨none, 0, by rw [h]⟩
      · exact ⟨_, _, rfl⟩
    have hM : beginsM zs = begEnd st := by unfold beginsM; rw [hrun]
    have HM := Lib.hid hM
    clear hM hrun hrs
    rcases st with _ | ⟨y, _ | ⟨y', r⟩⟩
    · have HM' := Lib.hid (show beginsM zs = true from by rw [HM.out]; rfl)
      gi_wp2
      have hb05 := hb0.set1 (.bool true)
      have hB5 := hB.setCell (p := ⟨w.heap.size, 0, none⟩) (Nat.le_refl _) (.bool true)
      have hK5 := (KeepsOthers.setCell W ⟨w.heap.size, 0, none⟩ (.bool true)).same D _ hK rfl
      generalize (W.setCell ⟨w.heap.size, 0, none⟩ (.bool true)) = W5 at hb05 hB5 hK5 ⊢
      refine ⟨by simp, .inl ⟨_, _, rfl, run_takeDeferred hK5, ?_⟩⟩
      obtain ⟨g1, g2⟩ := put_calm hK5 (.deferred none)
      have k0 := (hb05.calm g1 g2).cell 0
      refine ⟨_, ?_, by rw [Hzs.out, HM'.out], (hB5.grown g1 hB5.size (fun k e => by cases e; omega))⟩
      simp [results, Try.results43, go_sem, k0]
    · obtain ⟨g, rfl, hg⟩ : ∃ g, a0 = some ⟨g, 0, none⟩ ∧ g < W.heap.size := by
        rcases hr0.2 with ⟨_, h0⟩ | ⟨g, cap, cur, e, _, hh, _⟩
        · simp at h0
        · cases e; exact ⟨g, rfl, (Array.getElem?_eq_some_iff.1 hh).1⟩
      have hcp : 1 ≤ cp0 := by
        rcases hr0.2 with ⟨_, h0⟩ | ⟨g, cap, cur, e, _, hh, hn, _⟩
        · simp at h0
        · cases e; simpa using hn
      have hcells := hr0.cells (g := g) rfl
      have c0 : W.cell? ⟨g, 0, none⟩ = some (.int .i64 y.1) := by simpa [Addr.add_lit] using hcells 0 (.int .i64 y.1) (by simp [cellsS])
      have c1 : W.cell? ⟨g, 1, none⟩ = some (.bool y.2) := by simpa [Addr.add_lit] using hcells 1 (.bool y.2) (by simp [cellsS])
      have c1' : W.cell? ⟨g, 0 + 1, none⟩ = some (.bool y.2) := c1
      clear hcells
      have HE : beginsM zs = (y.1 == 3 || (y.2 && decide (y.1 < 3))) := HM.out
      simp only [List.length_cons, List.length_nil, Nat.zero_add] at s1
      by_cases h3 : y.1 = 3
      · have HM' := Lib.hid (show beginsM zs = true from by rw [HE, h3]; simp)
        have e3 : (y.1 == 3) = true := by simp [h3]
        clear HE
        gi_wp2
        have hb05 := hb0.set1 (.bool true)
        have hB5 := hB.setCell (p := ⟨w.heap.size, 0, none⟩) (Nat.le_refl _) (.bool true)
        have hK5 := (KeepsOthers.setCell W ⟨w.heap.size, 0, none⟩ (.bool true)).same D _ hK rfl
        generalize (W.setCell ⟨w.heap.size, 0, none⟩ (.bool true)) = W5 at hb05 hB5 hK5 ⊢
        refine ⟨by simp, .inl ⟨_, _, rfl, run_takeDeferred hK5, ?_⟩⟩
        obtain ⟨g1, g2⟩ := put_calm hK5 (.deferred none)
        have k0 := (hb05.calm g1 g2).cell 0
        refine ⟨_, ?_, by rw [Hzs.out, HM'.out], (hB5.grown g1 hB5.size (fun k e => by cases e; omega))⟩
        simp [results, Try.results43, go_sem, k0]
      · have e3 : (y.1 == 3) = false := by simp [h3]
        cases h2 : y.2
        · have HM' := Lib.hid (show beginsM zs = false from by rw [HE, e3, h2]; simp)
          rw [h2] at c1 c1'
          clear HE
          gi_wp2
          have hb05 := hb0.set1 (.bool false)
          have hB5 := hB.setCell (p := ⟨w.heap.size, 0, none⟩) (Nat.le_refl _) (.bool false)
          have hK5 := (KeepsOthers.setCell W ⟨w.heap.size, 0, none⟩ (.bool false)).same D _ hK rfl
          generalize (W.setCell ⟨w.heap.size, 0, none⟩ (.bool false)) = W5 at hb05 hB5 hK5 ⊢
          refine ⟨by simp, .inl ⟨_, _, rfl, run_takeDeferred hK5, ?_⟩⟩
          obtain ⟨g1, g2⟩ := put_calm hK5 (.deferred none)
          have k0 := (hb05.calm g1 g2).cell 0
          refine ⟨_, ?_, by rw [Hzs.out, HM'.out], (hB5.grown g1 hB5.size (fun k e => by cases e; omega))⟩
          simp [results, Try.results43, go_sem, k0]
        · rw [h2] at c1 c1'
          by_cases h4 : y.1 < 3
          · have HM' := Lib.hid (show beginsM zs = true from by rw [HE, e3, h2]; simp [h4])
            clear HE
            gi_wp2
            have hb05 := hb0.set1 (.bool true)
            have hB5 := hB.setCell (p := ⟨w.heap.size, 0, none⟩) (Nat.le_refl _) (.bool true)
            have hK5 := (KeepsOthers.setCell W ⟨w.heap.size, 0, none⟩ (.bool true)).same D _ hK rfl
            generalize (W.setCell ⟨w.heap.size, 0, none⟩ (.bool true)) = W5 at hb05 hB5 hK5 ⊢
            refine ⟨by simp, .inl ⟨_, _, rfl, run_takeDeferred hK5, ?_⟩⟩
            obtain ⟨g1, g2⟩ := put_calm hK5 (.deferred none)
            have k0 := (hb05.calm g1 g2).cell 0
            refine ⟨_, ?_, by rw [Hzs.out, HM'.out], (hB5.grown g1 hB5.size (fun k e => by cases e; omega))⟩
            simp [results, Try.results43, go_sem, k0]
          · have HM' := Lib.hid (show beginsM zs = false from by rw [HE, e3, h2]; simp; omega)
            clear HE
            gi_wp2
            have hb05 := hb0.set1 (.bool false)
            have hB5 := hB.setCell (p := ⟨w.heap.size, 0, none⟩) (Nat.le_refl _) (.bool false)
            have hK5 := (KeepsOthers.setCell W ⟨w.heap.size, 0, none⟩ (.bool false)).same D _ hK rfl
            generalize (W.setCell ⟨w.heap.size, 0, none⟩ (.bool false)) = W5 at hb05 hB5 hK5 ⊢
            refine ⟨by simp, .inl ⟨_, _, rfl, run_takeDeferred hK5, ?_⟩⟩
            obtain ⟨g1, g2⟩ := put_calm hK5 (.deferred none)
            have k0 := (hb05.calm g1 g2).cell 0
            refine ⟨_, ?_, by rw [Hzs.out, HM'.out], (hB5.grown g1 hB5.size (fun k e => by cases e; omega))⟩
            simp [results, Try.results43, go_sem, k0]
    · have HM' := Lib.hid (show beginsM zs = false from by rw [HM.out]; rfl)
      have e1 : (((y :: y' :: r).length : Int) == 0) = false := by simp; omega
      have e2 : (((y :: y' :: r).length : Int) == 1) = false := by simp; omega
      gi_wp2
      have hb05 := hb0.set1 (.bool false)
      have hB5 := hB.setCell (p := ⟨w.heap.size, 0, none⟩) (Nat.le_refl _) (.bool false)
      have hK5 := (KeepsOthers.setCell W ⟨w.heap.size, 0, none⟩ (.bool false)).same D _ hK rfl
      generalize (W.setCell ⟨w.heap.size, 0, none⟩ (.bool false)) = W5 at hb05 hB5 hK5 ⊢
      refine ⟨by simp, .inl ⟨_, _, rfl, run_takeDeferred hK5, ?_⟩⟩
      obtain ⟨g1, g2⟩ := put_calm hK5 (.deferred none)
      have k0 := (hb05.calm g1 g2).cell 0
      refine ⟨_, ?_, by rw [Hzs.out, HM'.out], (hB5.grown g1 hB5.size (fun k e => by cases e; omega))⟩
      simp [results, Try.results43, go_sem, k0]
  case stop =>
    rintro D c pre W hD ⟨k, hk, rfl⟩ ⟨rfl, hrun, hb0, hB⟩ hK
    rw [backs_snd _ _ hk] at hrun
    have HM' := Lib.hid (beginsM_of_run_none ⟨k, hrun⟩)
    clear hrun
    gi_wp2
    refine ⟨by simp, .inl ⟨_, _, rfl, run_takeDeferred hK, ?_⟩⟩
    obtain ⟨g1, g2⟩ := put_calm hK (.deferred none)
    have k0 := (hb0.calm g1 g2).cell 0
    refine ⟨_, ?_, by rw [Hzs.out, HM'.out], (hB.grown g1 hB.size (fun k e => by cases e; omega))⟩
    simp [results, Try.results43, go_sem, k0]
end Go.Proofs.Ytgjcigokjfhfkaa
