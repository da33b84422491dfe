/-
  Texts joined by program: Solid SurA SurB SurC SurD.
-/
import Derived.Test.YtghlnknncahkgaaK14
import Derived.Test.YtghlnknncahkgaaK2
import Derived.RegionTactic
import Derived.BigRegion
import Derived.BigQuiet
import Derived.Deep.QuietTactic
import Derived.Deep.RegionHeld3
import Derived.Deep.DeepCutAuto
/-
  The document's example for layer 9: a tetrahedron; it is a simple surface, and its walk.
-/
namespace Go.Proofs.Ytghlnknncahkgaa
open Go.RowKit Go.Maps

def T0 : List Tr := [(0, 1, 2), (0, 3, 1), (1, 3, 2), (2, 3, 0)]
theorem keys0 : T0.flatMap key3 = [(0, 1, 2), (0, 1, 3), (1, 2, 3), (0, 2, 3)] := by
  simp [T0, key3, sort3, sortL, List.mergeSort, List.MergeSort.Internal.splitInTwo, List.merge]
theorem surf0 : Surf 4 T0 where
  n0 := by decide
  n1 := by decide
  len := by decide
  inr := by unfold in3 inR; decide
  simple := by unfold simple3; decide
  twice := by decide
  mirrored := by rw [keys0]; decide
  lonely := by
    intro u hu
    have h : u = 0 ∨ u = 1 ∨ u = 2 ∨ u = 3 := by unfold inR at hu; omega
    rcases h with rfl | rfl | rfl | rfl <;> decide
  pinch := by
    intro u hu
    have h : u = 0 ∨ u = 1 ∨ u = 2 ∨ u = 3 := by unfold inR at hu; omega
    rcases h with rfl | rfl | rfl | rfl <;> intro S h0 hs k hk
    · have e : atV T0 0 = [0, 1, 3] := by decide
      rw [e] at h0 hs hk
      have a0 := h0 0 rfl
      have a1 := hs 0 (by simp) 1 (by simp) a0 ⟨_, _, 1, rfl, rfl, by decide, by unfold hasV; decide, by unfold hasV; decide⟩
      have a3 := hs 0 (by simp) 3 (by simp) a0 ⟨_, _, 2, rfl, rfl, by decide, by unfold hasV; decide, by unfold hasV; decide⟩
      simp only [List.mem_cons, List.not_mem_nil, or_false] at hk
      rcases hk with rfl | rfl | rfl <;> assumption
    · have e : atV T0 1 = [0, 1, 2] := by decide
      rw [e] at h0 hs hk
      have a0 := h0 0 rfl
      have a1 := hs 0 (by simp) 1 (by simp) a0 ⟨_, _, 0, rfl, rfl, by decide, by unfold hasV; decide, by unfold hasV; decide⟩
      have a3 := hs 0 (by simp) 2 (by simp) a0 ⟨_, _, 2, rfl, rfl, by decide, by unfold hasV; decide, by unfold hasV; decide⟩
      simp only [List.mem_cons, List.not_mem_nil, or_false] at hk
      rcases hk with rfl | rfl | rfl <;> assumption
    · have e : atV T0 2 = [0, 2, 3] := by decide
      rw [e] at h0 hs hk
      have a0 := h0 0 rfl
      have a1 := hs 0 (by simp) 2 (by simp) a0 ⟨_, _, 1, rfl, rfl, by decide, by unfold hasV; decide, by unfold hasV; decide⟩
      have a3 := hs 0 (by simp) 3 (by simp) a0 ⟨_, _, 0, rfl, rfl, by decide, by unfold hasV; decide, by unfold hasV; decide⟩
      simp only [List.mem_cons, List.not_mem_nil, or_false] at hk
      rcases hk with rfl | rfl | rfl <;> assumption
    · have e : atV T0 3 = [1, 2, 3] := by decide
      rw [e] at h0 hs hk
      have a0 := h0 1 rfl
      have a1 := hs 1 (by simp) 2 (by simp) a0 ⟨_, _, 1, rfl, rfl, by decide, by unfold hasV; decide, by unfold hasV; decide⟩
      have a3 := hs 1 (by simp) 3 (by simp) a0 ⟨_, _, 0, rfl, rfl, by decide, by unfold hasV; decide, by unfold hasV; decide⟩
      simp only [List.mem_cons, List.not_mem_nil, or_false] at hk
      rcases hk with rfl | rfl | rfl <;> assumption
theorem simp0 : Simp ((4 : Nat) : Int) T0 where
  surf := surf0
  closed := by
    intro c hc
    have h : c < 12 := hc
    have : ∀ c : Fin 12, 0 ≤ oppI T0 (c.val : Int) := by decide
    exact this ⟨c, h⟩
  conn := by
    intro S s0 hs t ht
    have h1 : S 1 := by have := hs 2 (by decide) s0; have e : oppN T0 2 / 3 = 1 := by decide
                        rwa [e] at this
    have h2 : S 2 := by have := hs 0 (by decide) s0; have e : oppN T0 0 / 3 = 2 := by decide
                        rwa [e] at this
    have h3 : S 3 := by have := hs 1 (by decide) s0; have e : oppN T0 1 / 3 = 3 := by decide
                        rwa [e] at this
    have ht' : t < 4 := ht
    have : t = 0 ∨ t = 1 ∨ t = 2 ∨ t = 3 := by omega
    rcases this with rfl | rfl | rfl | rfl <;> assumption
  pos := by decide
  euler := by decide
theorem steps0 : stepsM T0 0 = [⟨67, 4, 0, 3⟩, ⟨76, 8, 0, 4⟩, ⟨69, 11, 0, 3⟩] := by kernel_rfl
set_option maxHeartbeats 1000000 in
theorem solid_any (w : World) : Calls Try.prog 27 #[] w fun e w' => ∃ v, e = .returned (.agg #[.int .i64 4, v]) ∧ TrisRd w' v T0 ∧ Below w.heap.size w w' := by
  go_enter Try.func27, Try.ntmps27
  go_wp2
  have b0 : Blk ((w.alloc (.cells #[.int .i64 4, .slice (some ⟨w.heap.size + 1, 0, none⟩) 4 4] 24)).alloc (.cells #[.int .i64 0, .int .i64 1, .int .i64 2, .int .i64 0, .int .i64 3, .int .i64 1, .int .i64 1, .int .i64 3, .int .i64 2, .int .i64 2, .int .i64 3, .int .i64 0] 51)) w.heap.size 24 #[.int .i64 4, .slice (some ⟨w.heap.size + 1, 0, none⟩) 4 4] := (Blk.new _ _ _).alloc _
  have b1 : Blk ((w.alloc (.cells #[.int .i64 4, .slice (some ⟨w.heap.size + 1, 0, none⟩) 4 4] 24)).alloc (.cells #[.int .i64 0, .int .i64 1, .int .i64 2, .int .i64 0, .int .i64 3, .int .i64 1, .int .i64 1, .int .i64 3, .int .i64 2, .int .i64 2, .int .i64 3, .int .i64 0] 51)) (w.heap.size + 1) 51 #[.int .i64 0, .int .i64 1, .int .i64 2, .int .i64 0, .int .i64 3, .int .i64 1, .int .i64 1, .int .i64 3, .int .i64 2, .int .i64 2, .int .i64 3, .int .i64 0] := blk_new_at (by simp)
  have hr : ((w.alloc (.cells #[.int .i64 4, .slice (some ⟨w.heap.size + 1, 0, none⟩) 4 4] 24)).alloc (.cells #[.int .i64 0, .int .i64 1, .int .i64 2, .int .i64 0, .int .i64 3, .int .i64 1, .int .i64 1, .int .i64 3, .int .i64 2, .int .i64 2, .int .i64 3, .int .i64 0] 51)).ownsRow w.heap.size 51 3 (.slice (some ⟨w.heap.size + 1, 0, none⟩) 4 4) T0.length (ws3 T0) :=
    ⟨rfl, .inr ⟨_, 4, _, rfl, by omega, b1, Nat.le_refl _, by decide, rfl, rfl⟩⟩
  obtain ⟨-, p0, -, p1, -⟩ := b0.two
  exact bodyPost_ret (v := .agg #[.int .i64 4, .slice (some ⟨w.heap.size + 1, 0, none⟩) 4 4]) (by simp [results, Try.results27, go_sem, p0, p1]) rfl ⟨_, rfl, TrisRd.of_row hr, ((Below.refl _ _).alloc (Nat.le_refl _) _).alloc (by simp) _⟩
/-- The walk of the example. -/
theorem walk0 {w : World} {g : Nat} (hT : Tab w g ((4 : Nat) : Int) T0) : Calls Try.prog 13 #[.pointer (some ⟨g, 0, none⟩), .int .i64 0] w fun e w' => ∃ gV gC cV cC, e = .returned (.tuple #[.agg #[.string ⟨#[67, 76, 69]⟩, .slice (some ⟨gV, 0, none⟩) 4 cV, .slice (some ⟨gC, 0, none⟩) 4 cC], .int .i64 0]) ∧
    w'.ownsRow w.heap.size 3 1 (.slice (some ⟨gV, 0, none⟩) 4 cV) 4 [.int .i64 0, .int .i64 1, .int .i64 2, .int .i64 3] ∧ w'.ownsRow w.heap.size 3 1 (.slice (some ⟨gC, 0, none⟩) 4 cC) 4 [.int .i64 0, .int .i64 4, .int .i64 8, .int .i64 11] ∧ Below w.heap.size w w' := by
  refine (walk_any (c := 0) simp0 hT (by decide)).mono ?_
  rintro e w' ⟨vV, vC, rfl, h1, h2, h3⟩
  have e1 : (beginS T0 0).come ++ newV T0 (stepsM T0 0) = [0, 1, 2, 3] := by rw [steps0]; decide
  have e2 : ((0 : Nat) : Int) :: (stepsM T0 0).map (·.corner) = [0, 4, 8, 11] := by rw [steps0]; rfl
  have e3 : (stepsM T0 0).length.succ = 4 := by rw [steps0]; rfl
  have e4 : wordS (stepsM T0 0) = ⟨#[67, 76, 69]⟩ := by rw [steps0]; rfl
  rw [e1] at h1
  rw [e2, e3] at h2
  rw [e4]
  obtain ⟨gV, cV, rfl, -, -⟩ := h1.form (by decide)
  obtain ⟨gC, cC, rfl, -, -⟩ := h2.form (by decide)
  exact ⟨gV, gC, cV, cC, rfl, h1, h2, h3⟩
set_option maxRecDepth 100000 in
set_option maxHeartbeats 2000000 in
theorem awake21_any (w : World) : Calls Try.prog 11 #[] w fun e w' => e = .returned (.bool true) ∧ Below w.heap.size w w' := by
  have HSo := Lib.hid (solid_any w)
  go_enter Try.func11, Try.ntmps11
  go_wp2_with fail
  refine HSo.out.mono ?_
  rintro e w1 ⟨v, rfl, hrd, hb1⟩
  have HN := Lib.hid (new_any 4 v T0 w1 hrd (by decide))
  have HB1 := Lib.hid hb1
  clear hrd hb1 HSo
  go_wp2_with fail
  refine HN.out.mono ?_
  rintro e w2 ⟨⟨-, g, rfl, hT, hg⟩ | ⟨hno, -⟩, hb2⟩
  rotate_left
  · exact absurd surf0 hno
  have hB2 := HB1.out.trans (hb2.mono HB1.out.size)
  have bw := Blk.new w2 53 #[.int .i64 0, .int .i64 0, .int .i64 0]
  have HW := Lib.hid (walk0 (hT.alloc (.cells #[.int .i64 0, .int .i64 0, .int .i64 0] 53)))
  have HB2 := Lib.hid (hB2.alloc (hB2.size) (.cells #[.int .i64 0, .int .i64 0, .int .i64 0] 53))
  have hz2 := hB2.size
  have hzw : w2.heap.size < (w2.alloc (.cells #[.int .i64 0, .int .i64 0, .int .i64 0] 53)).heap.size := by simp
  unfold witV
  clear hT hb2 hB2 HB1 HN
  go_wp2_with fail
  refine HW.out.mono ?_
  rintro e w3 ⟨gV, gC, cV, cC, rfl, hV, hC, hb3⟩
  have hB3 := HB2.out.trans (hb3.mono HB2.out.size)
  have bw3 := bw.below hb3 bw.lt
  have hz3 := hb3.size
  obtain ⟨l0, x0, f0, x1, f1, x2, f2⟩ := (bw3.alloc (.cells #[.string ⟨#[67, 76, 69]⟩, .slice (some ⟨gV, 0, none⟩) 4 cV, .slice (some ⟨gC, 0, none⟩) 4 cC] 35)).three
  have bT := Blk.new w3 35 #[.string ⟨#[67, 76, 69]⟩, .slice (some ⟨gV, 0, none⟩) 4 cV, .slice (some ⟨gC, 0, none⟩) 4 cC]
  obtain ⟨lT, y0, -, y1, -, y2, -⟩ := bT.three
  have hV' := hV.alloc (.cells #[.string ⟨#[67, 76, 69]⟩, .slice (some ⟨gV, 0, none⟩) 4 cV, .slice (some ⟨gC, 0, none⟩) 4 cC] 35)
  have hC' := hC.alloc (.cells #[.string ⟨#[67, 76, 69]⟩, .slice (some ⟨gV, 0, none⟩) 4 cV, .slice (some ⟨gC, 0, none⟩) 4 cC] 35)
  have v0 := hV'.cellAt 0 (by decide)
  have v1 := hV'.cellAt 1 (by decide)
  have v2 := hV'.cellAt 2 (by decide)
  have v3 := hV'.cellAt 3 (by decide)
  have c0 := hC'.cellAt 0 (by decide)
  have c1 := hC'.cellAt 1 (by decide)
  have c2 := hC'.cellAt 2 (by decide)
  have c3 := hC'.cellAt 3 (by decide)
  simp only [List.getElem?_cons_zero, List.getElem?_cons_succ] at v0 v1 v2 v3 c0 c1 c2 c3
  have HBF := Lib.hid (hB3.alloc hB3.size (.cells #[.string ⟨#[67, 76, 69]⟩, .slice (some ⟨gV, 0, none⟩) 4 cV, .slice (some ⟨gC, 0, none⟩) 4 cC] 35))
  clear hV hC hb3 bw bw3 hB3 HW HB2
  go_wp2
  go_ret
  exact ⟨rfl, HBF.out⟩
end Go.Proofs.Ytghlnknncahkgaa
/-
  gypsumref09: whatever the triangles, its functions come to an end (what they answer is not said).
-/
namespace Go.Proofs.Ytghlnknncahkgaa
open Go.RowKit

theorem TrisRd.at9 {w : World} {a : Option Addr} {m c : Nat} {T : List Tr} (h : TrisRd w (.slice a m c) T) {t k : Nat} (ht : t < T.length) (hk : k < 3) :
    ∃ b o x, a = some ⟨b, o, none⟩ ∧ b < w.heap.size ∧ w.cell? ⟨b, o + t * 3 + k, none⟩ = some (.int .i64 x) := by
  obtain ⟨a', c', e, -, -, hr⟩ := h
  cases e
  obtain ⟨⟨x, y, z⟩, hx⟩ : ∃ q, T[t]? = some q := ⟨T[t], List.getElem?_eq_getElem _⟩
  obtain ⟨b, o, rfl, hb, s0, s1, s2⟩ := hr t x y z hx
  have : k = 0 ∨ k = 1 ∨ k = 2 := by omega
  rcases this with rfl | rfl | rfl
  · exact ⟨b, o, x, rfl, hb, s0⟩
  · exact ⟨b, o, y, rfl, hb, s1⟩
  · exact ⟨b, o, z, rfl, hb, s2⟩
theorem below_dn {B : Nat} {w a : World} (h : Below B w a) (n : Nat) : Below B w (a.drewN n) := ⟨h.os, h.tape, h.output, h.size, h.block⟩
theorem below_d {B : Nat} {w a : World} (h : Below B w a) : Below B w a.drew := ⟨h.os, h.tape, h.output, h.size, h.block⟩
theorem own_below9 {w w' : World} {base n s : Nat} {e : TypeId} {v : Value} {xs : List Value} (h : w.ownsRow base e s v n xs) (hb : Below w.heap.size w w') : w'.ownsRow base e s v n xs :=
  h.kept (grown_of_below hb none) (by cases e : v.ownBlock; exact .inl rfl; exact .inr (by simp))
theorem blk_new9 {w : World} {g : Nat} {t : TypeId} {cs : Array Value} (h : g = w.heap.size) : Blk (w.alloc (.cells cs t)) g t cs := by
  rw [h]
  exact Blk.new w t cs
/-- A call that hands back some bool. -/
def RetB (w : World) (e : Ending) (w' : World) : Prop := (∃ b : Bool, e = .returned (.bool b)) ∧ Below w.heap.size w w'
set_option maxHeartbeats 1000000 in
theorem edge9_any (x y z a b : Int) (w : World) : Calls Try.prog 105 #[.agg #[.int .i64 x, .int .i64 y, .int .i64 z], .int .i64 a, .int .i64 b] w (RetB w) := by
  have b1 := Blk.new w 51 #[.int .i64 x, .int .i64 y, .int .i64 z]
  obtain ⟨l0, p0, -, p1, -, p2, -⟩ := b1.three
  clear b1
  go_enter Try.func105, Try.ntmps105
  go_wp2
  all_goals
    go_ret
    exact ⟨⟨_, rfl⟩, (Below.refl _ _).alloc (Nat.le_refl _) _⟩
set_option maxHeartbeats 1000000 in
theorem has9_any (x y z a : Int) (w : World) : Calls Try.prog 75 #[.agg #[.int .i64 x, .int .i64 y, .int .i64 z], .int .i64 a] w (RetB w) := by
  have b1 := Blk.new w 51 #[.int .i64 x, .int .i64 y, .int .i64 z]
  obtain ⟨l0, p0, -, p1, -, p2, -⟩ := b1.three
  clear b1
  go_enter Try.func75, Try.ntmps75
  go_wp2
  all_goals
    go_ret
    exact ⟨⟨_, rfl⟩, (Below.refl _ _).alloc (Nat.le_refl _) _⟩
theorem infoWit9 : (Try.prog.info? 127).map (fun i => (i.zero, i.size, i.bytes)) = some (some (.agg #[.int .i64 0, .int .i64 0, .int .i64 0]), 3, 24) := by kernel_rfl
/-- A call that hands back a row of witnesses. -/
def RetW (w : World) (m : Nat) (e : Ending) (w' : World) : Prop := ∃ v n xs, e = .returned v ∧ w'.ownsRow w.heap.size 127 3 v n xs ∧ n ≤ m ∧ Below w.heap.size w w'
set_option maxHeartbeats 1000000 in
theorem twice9_any (x y z x' y' z' : Int) (w : World) : Calls Try.prog 93 #[.agg #[.int .i64 x, .int .i64 y, .int .i64 z], .agg #[.int .i64 x', .int .i64 y', .int .i64 z']] w (RetB w) := by
  have HE := Lib.hid edge9_any
  have bt := (Blk.new w 51 #[.int .i64 x, .int .i64 y, .int .i64 z]).alloc (.cells #[.int .i64 x', .int .i64 y', .int .i64 z'] 51)
  have bu : Blk ((w.alloc (.cells #[.int .i64 x, .int .i64 y, .int .i64 z] 51)).alloc (.cells #[.int .i64 x', .int .i64 y', .int .i64 z'] 51)) (w.heap.size + 1) 51 #[.int .i64 x', .int .i64 y', .int .i64 z'] := blk_new9 (by simp)
  have hB : Below w.heap.size w ((w.alloc (.cells #[.int .i64 x, .int .i64 y, .int .i64 z] 51)).alloc (.cells #[.int .i64 x', .int .i64 y', .int .i64 z'] 51)) := ((Below.refl _ _).alloc (Nat.le_refl _) _).alloc (by simp) _
  obtain ⟨l0, p0, -, p1, -, p2, -⟩ := bt.three
  obtain ⟨l1, q0, -, q1, -, q2, -⟩ := bu.three
  go_enter Try.func93, Try.ntmps93
  go_wp2_with fail
  generalize (w.alloc (.cells #[.int .i64 x, .int .i64 y, .int .i64 z] 51)).alloc (.cells #[.int .i64 x', .int .i64 y', .int .i64 z'] 51) = W0 at *
  have HX := Lib.hid (fun (W : World) (hW : Below W0.heap.size W0 W) => And.intro (bt.below hW l0) (bu.below hW l1))
  have HB := Lib.hid hB
  clear bt bu p0 p1 p2 q0 q1 q2 hB
  refine (HE.out _ _ _ _ _ _).mono ?_
  rintro e w1 ⟨⟨b1, rfl⟩, hb1⟩
  obtain ⟨bt, bu⟩ := HX.out _ hb1
  obtain ⟨m0, p0, -, p1, -, p2, -⟩ := bt.three
  obtain ⟨m1, q0, -, q1, -, q2, -⟩ := bu.three
  have HB1 := Lib.hid (HB.out.trans (hb1.mono HB.out.size))
  have Hb1 := Lib.hid hb1
  clear hb1 bt bu
  cases b1
  · go_wp2_with fail
    refine (HE.out _ _ _ _ _ _).mono ?_
    rintro e w2 ⟨⟨b2, rfl⟩, hb2⟩
    have hb2' := Hb1.out.trans (hb2.mono Hb1.out.size)
    clear p0 p1 p2 q0 q1 q2 m0 m1
    obtain ⟨bt, bu⟩ := HX.out _ hb2'
    obtain ⟨m0, p0, -, p1, -, p2, -⟩ := bt.three
    obtain ⟨m1, q0, -, q1, -, q2, -⟩ := bu.three
    have HB2 := Lib.hid (HB.out.trans (hb2'.mono HB.out.size))
    clear hb2 hb2' bt bu
    cases b2
    · go_wp2_with fail
      refine (HE.out _ _ _ _ _ _).mono ?_
      rintro e w3 ⟨⟨b3, rfl⟩, hb3⟩
      have HB3 := Lib.hid (HB2.out.trans (hb3.mono HB2.out.size))
      clear hb3
      go_wp2
      go_ret
      exact ⟨⟨_, rfl⟩, HB3.out⟩
    · go_wp2
      go_ret
      exact ⟨⟨_, rfl⟩, HB2.out⟩
  · go_wp2
    go_ret
    exact ⟨⟨_, rfl⟩, HB1.out⟩
set_option maxRecDepth 100000 in
set_option maxHeartbeats 2000000 in
theorem index9_any (N : Int) (v : Value) (T : List Tr) (w : World) (h : TrisRd w v T) (hl : T.length ≤ 40) : Calls Try.prog 73 #[.agg #[.int .i64 N, v]] w (RetW w 40) := by
  obtain ⟨i1, hi', hy0, hy1, hy2⟩ := info_parts infoWit9
  obtain ⟨a, c, rfl, hc1, hc2, hr⟩ := id h
  have b1 := Blk.new w 24 #[.int .i64 N, .slice a T.length c]
  obtain ⟨l0, x0, -, x1, -⟩ := b1.two
  have hB0 : Below w.heap.size w (w.alloc (.cells #[.int .i64 N, .slice a T.length c] 24)) := (Below.refl _ _).alloc (Nat.le_refl _) _
  have HH := Lib.hid h
  obtain ⟨n, hn⟩ : ∃ n, T.length = n := ⟨_, rfl⟩
  rw [hn] at hl hc1 x0 x1 hB0 b1 l0 ⊢
  have HN := Lib.hid hn
  have g3 : ¬ 8192 < (n : Int) := by omega
  have hrow := World.ownsRow_lit (w.alloc (.cells #[.int .i64 N, .slice a n c] 24)) (base := w.heap.size) (e := 127) (size := 3) #[.int .i64 1, .int .i64 (-1), .int .i64 0] 1 (by simp) (by decide) rfl
  rw [size_alloc'] at hrow
  have Hrow := Lib.hid hrow
  have HBr := Lib.hid (hB0.alloc hB0.size (.cells #[.int .i64 1, .int .i64 (-1), .int .i64 0] 127))
  have HB0 := Lib.hid hB0
  have Hb1 := Lib.hid b1
  clear hr hn h hrow b1 hB0
  by_cases h1 : N < 0
  · go_enter Try.func73, Try.ntmps73
    go_wp2
    go_ret
    exact ⟨_, _, _, rfl, Hrow.out, by omega, HBr.out⟩
  · by_cases h2 : 4096 < N
    · go_enter Try.func73, Try.ntmps73
      go_wp2
      go_ret
      exact ⟨_, _, _, rfl, Hrow.out, by omega, HBr.out⟩
    · clear Hrow HBr
      go_enter Try.func73, Try.ntmps73
      go_wp2
      go_loopw [3, 4] (fun v3 i wr => ∃ (k : Nat) (m : Nat) (xs : List Value) (v' : Value), v' = v3 ∧ k ≤ n ∧ i = .int .i64 k ∧ wr.ownsRow w.heap.size 127 3 v' m xs ∧ m ≤ k ∧ Blk wr w.heap.size 24 #[.int .i64 N, .slice a n c] ∧ Below w.heap.size w wr) (fun _ i _ => n - (intOf i).toNat)
      case atStart => exact ⟨0, 0, _, _, rfl, Nat.zero_le _, rfl, World.ownsRow_nil _ _ _ _, Nat.le_refl _, Hb1.out, HB0.out⟩
      case round =>
        obtain ⟨k, m, xs, v3, rfl, hk, rfl, hrow, hm, hS, hB⟩ := hrel
        rename World => wr
        clear x0 x1 l0
        obtain ⟨ly, y0, -, y1, -⟩ := hS.two
        have htr := (HH.out.below hB)
        have HS := Lib.hid hS
        have HB := Lib.hid hB
        have Hro := Lib.hid hrow
        have hsz := hB.size
        clear hS hB hrow
        by_cases hlt : k < n
        · have hk3 : (k : Int) < (n : Int) := by omega
          have hk0 : (0 : Int) ≤ (k : Int) := by omega
          have c3 : m + 1 ≤ maxLen := by unfold maxLen; omega
          have c4 : (m + 1) * 24 ≤ 140737488355328 := by omega
          have HAt := Lib.hid (fun (j : Nat) (hj : j < 3) => htr.at9 (t := k) (k := j) (by have := HN.out; omega) hj)
          clear htr
          go_wp2
          go_loopw [5, 6] (fun v5 i wq => ∃ (j : Nat) (b : Bool), j ≤ 3 ∧ i = .int .i64 j ∧ v5 = .bool b ∧ (Below wr.heap.size wr wq)) (fun _ i _ => 3 - (intOf i).toNat)
          case atStart => exact ⟨0, false, by omega, rfl, rfl, Below.refl _ _⟩
          case round =>
            obtain ⟨j, b, hj, rfl, rfl, hq⟩ := hrel
            rename World => wq
            obtain ⟨lz, z0, -, z1, -⟩ := (HS.out.below hq ly).two
            have HBq := Lib.hid hq
            have hszq := hq.size
            by_cases hj3 : j < 3
            · obtain ⟨bb, o, x, rfl, hbl, hcell⟩ := HAt.out j hj3
              have hcell' := (hq.cell (p := ⟨bb, _, none⟩) hbl).trans hcell
              have hj4 : (j : Int) < 3 := by omega
              have hj0 : (0 : Int) ≤ (j : Int) := by omega
              clear hcell hq
              cases b
              · by_cases u1 : x < 0
                · go_wp2
                  go_quiet (fail)
                  go_wp2
                  go_roundw
                  case measure => simp [intOf]; omega
                  case rel => exact ⟨j + 1, _, by omega, by go_num, rfl, below_dn HBq.out _⟩
                · by_cases u2 : N ≤ x
                  · go_wp2
                    go_quiet (fail)
                    go_wp2
                    go_roundw
                    case measure => simp [intOf]; omega
                    case rel => exact ⟨j + 1, _, by omega, by go_num, rfl, below_dn HBq.out _⟩
                  · go_wp2
                    go_quiet (fail)
                    go_wp2
                    go_roundw
                    case measure => simp [intOf]; omega
                    case rel => exact ⟨j + 1, _, by omega, by go_num, rfl, below_dn HBq.out _⟩
              · go_wp2
                go_quiet (fail)
                go_wp2
                go_roundw
                case measure => simp [intOf]; omega
                case rel => exact ⟨j + 1, _, by omega, by go_num, rfl, below_dn HBq.out _⟩
            · obtain rfl : j = 3 := by omega
              clear HAt hq
              cases b
              · go_wp2
                go_roundw
                case measure => simp [intOf]; omega
                case rel => exact ⟨k + 1, m, xs, _, rfl, by omega, by go_num, own_below9 Hro.out HBq.out, by omega, HS.out.below HBq.out ly, HB.out.trans (HBq.out.mono hsz)⟩
              · have hrq := own_below9 Hro.out HBq.out
                have HSq := Lib.hid (HS.out.below HBq.out ly)
                go_wp2_with (at_builtin; refine wpList_append_lies _ rfl (.tmp 58) (.tmp 61) 101 rfl w.heap.size 127 i1 _ 3 24 Try.underlying101 hi' hy0 hy1 hy2 rfl (by decide) _ _ _ rfl (hrq.alloc _) ⟨wq.heap.size, 0, none⟩ 1 1 [.int .i64 1, .int .i64 k, .int .i64 0] rfl rfl (World.news_of_block (heap_alloc_new _ _)) (by simp [Value.oneCell']) (by decide) c3 c4 (by rw [size_alloc']; omega) (wq.heap.size + 1) (by simp) ?_; intro g4 cap4 W4 hr4 hg4 _ _)
                go_roundw
                case measure => simp [intOf]; omega
                case rel => exact ⟨k + 1, m + 1, _, _, rfl, by omega, by go_num, hr4, by omega, (HSq.out.alloc _).grown hg4 (fun e => own_blk_ne hrq HSq.out (by decide) e.symm), (HB.out.trans (HBq.out.mono hsz)).grown (gGrown (World.grownBy_alloc _ _ _) hg4 (row := v3.ownBlock) (fun _ e => .inl e)) (by omega) (fun j e => (hrq.lt j e).1)⟩
        · obtain rfl : k = n := by omega
          clear htr
          go_wp2
          go_ret
          exact ⟨_, _, _, rfl, Hro.out, by omega, HB.out⟩
end Go.Proofs.Ytghlnknncahkgaa
/-
  gypsumref09.pairs comes to an end.
-/
namespace Go.Proofs.Ytghlnknncahkgaa
open Go.RowKit

set_option maxRecDepth 100000 in
set_option maxHeartbeats 4000000 in
theorem pairs9_any (kind : Int) (hkd : kind = 3 ∨ kind = 4) (N : Int) (v : Value) (T : List Tr) (w : World) (h : TrisRd w v T) (hl : T.length ≤ 40) : Calls Try.prog 74 #[.agg #[.int .i64 N, v], .int .i64 kind] w (RetW w 10000) := by
  obtain ⟨i1, hi', hy0, hy1, hy2⟩ := info_parts infoWit9
  obtain ⟨a, c, rfl, hc1, hc2, hr⟩ := id h
  have b1 := Blk.new w 24 #[.int .i64 N, .slice a T.length c]
  obtain ⟨l0, x0, -, x1, -⟩ := b1.two
  have hB0 : Below w.heap.size w (w.alloc (.cells #[.int .i64 N, .slice a T.length c] 24)) := (Below.refl _ _).alloc (Nat.le_refl _) _
  have HH := Lib.hid h
  obtain ⟨n, hn⟩ : ∃ n, T.length = n := ⟨_, rfl⟩
  rw [hn] at hl hc1 x0 x1 hB0 b1 l0 ⊢
  have HN := Lib.hid hn
  have HB0 := Lib.hid hB0
  have Hb1 := Lib.hid b1
  have HE := Lib.hid twice9_any
  have HA := Lib.hid has9_any
  have HK := Lib.hid hkd
  clear hr hn h b1 hB0 hkd
  go_enter Try.func74, Try.ntmps74
  go_wp2
  go_loopw [5, 6] (fun v3 i wr => ∃ (k : Nat) (m : Nat) (xs : List Value) (v' : Value), v' = v3 ∧ k ≤ n ∧ i = .int .i64 k ∧ wr.ownsRow w.heap.size 127 3 v' m xs ∧ m ≤ k * 40 ∧ Blk wr w.heap.size 24 #[.int .i64 N, .slice a n c] ∧ Below w.heap.size w wr) (fun _ i _ => n - (intOf i).toNat)
  case atStart => exact ⟨0, 0, _, _, rfl, Nat.zero_le _, rfl, World.ownsRow_nil _ _ _ _, by omega, Hb1.out, HB0.out⟩
  case round =>
    obtain ⟨k, m, xs, v3, rfl, hk, rfl, hrow, hm, hS, hB⟩ := hrel
    rename World => wr
    clear x0 x1 l0
    obtain ⟨ly, y0, -, y1, -⟩ := hS.two
    have HS := Lib.hid hS
    have HB := Lib.hid hB
    have Hro := Lib.hid hrow
    have hsz := hB.size
    clear hS hB hrow
    by_cases hlt : k < n
    · have hk3 : (k : Int) < (n : Int) := by omega
      have hk0 : (0 : Int) ≤ (k : Int) := by omega
      go_wp2
      go_loopw [5, 7] (fun v5 i wq => ∃ (j : Nat) (m : Nat) (xs : List Value) (v' : Value), v' = v5 ∧ j ≤ k ∧ i = .int .i64 j ∧ wq.ownsRow w.heap.size 127 3 v' m xs ∧ m ≤ k * 40 + j ∧ Blk wq w.heap.size 24 #[.int .i64 N, .slice a n c] ∧ Below w.heap.size w wq) (fun _ i _ => k - (intOf i).toNat)
      case atStart => exact ⟨0, m, xs, _, rfl, by omega, rfl, Hro.out, by omega, HS.out, HB.out⟩
      case round =>
        clear y0 y1 ly hsz
        obtain ⟨j, m, xs, v5, rfl, hj, rfl, hrow, hm, hS, hB⟩ := hrel
        rename World => wq
        obtain ⟨ly, y0, -, y1, -⟩ := hS.two
        have htr := (HH.out.below hB)
        have HS := Lib.hid hS
        have HB := Lib.hid hB
        have Hro := Lib.hid hrow
        have hsz := hB.size
        clear hS hB hrow
        by_cases hjk : j < k
        · have hj3 : (j : Int) < (k : Int) := by omega
          have hj5 : (j : Int) < (n : Int) := by omega
          have hj0 : (0 : Int) ≤ (j : Int) := by omega
          have c3 : m + 1 ≤ maxLen := by unfold maxLen; omega
          have c4 : (m + 1) * 24 ≤ 140737488355328 := by omega
          obtain ⟨⟨x, y, z⟩, ht⟩ : ∃ t, T[j]? = some t := ⟨T[j]'(by have := HN.out; omega), List.getElem?_eq_getElem _⟩
          obtain ⟨⟨x', y', z'⟩, hu⟩ : ∃ t, T[k]? = some t := ⟨T[k]'(by have := HN.out; omega), List.getElem?_eq_getElem _⟩
          obtain ⟨_, _, e1, _, _, hrd⟩ := htr
          cases e1
          obtain ⟨b, o, rfl, hbl, s0, s1, s2⟩ := hrd j x y z ht
          obtain ⟨b', o', e2, hbl', r0, r1, r2⟩ := hrd k x' y' z' hu
          cases e2
          clear hrd ht hu
          go_upto_region 8 with fail
          go_cut [8, 9] (fun v8 v9 W => ∃ p q, v8 = .pointer (some ⟨p, 0, none⟩) ∧ v9 = .pointer (some ⟨q, 0, none⟩) ∧ Blk W p 51 #[.int .i64 x, .int .i64 y, .int .i64 z] ∧ Blk W q 51 #[.int .i64 x', .int .i64 y', .int .i64 z'] ∧ Below wq.heap.size wq W)
          case first =>
            go_region_held3 (fun w' => w'.cell? ⟨w.heap.size, 1, none⟩ = some (.slice (some ⟨b, o, none⟩) n c) ∧ w'.cell? ⟨b, o + j * 3, none⟩ = some (.int .i64 x) ∧ w'.cell? ⟨b, o + j * 3 + 1, none⟩ = some (.int .i64 y) ∧ w'.cell? ⟨b, o + j * 3 + 2, none⟩ = some (.int .i64 z) ∧ w'.cell? ⟨b, o + k * 3, none⟩ = some (.int .i64 x') ∧ w'.cell? ⟨b, o + k * 3 + 1, none⟩ = some (.int .i64 y') ∧ w'.cell? ⟨b, o + k * 3 + 2, none⟩ = some (.int .i64 z')) (go_keep) (fail)
            all_goals
              go_wp2_with fail
              go_meet
              refine ⟨_, _, rfl, rfl, ?_, ?_, ?_⟩
              · repeat (first | with_reducible exact blk_new9 (by simp [World.drew]) | with_reducible refine Blk.drew ?_ | with_reducible refine Blk.alloc ?_ _)
              · repeat (first | with_reducible exact blk_new9 (by simp [World.drew]) | with_reducible refine Blk.drew ?_ | with_reducible refine Blk.alloc ?_ _)
              · exact below_d (((Below.refl _ _).alloc (Nat.le_refl _) _).alloc (by simp) _)
          case rest =>
            obtain ⟨p, q, rfl, rfl, bp, bq, hb8⟩ := hcut
            clear s0 s1 s2 r0 r1 r2 y0 y1
            have HP := Lib.hid bp
            have HQ := Lib.hid bq
            have hrc := own_below9 Hro.out hb8
            have hSc := HS.out.below hb8 ly
            have hBc := HB.out.trans (hb8.mono hsz)
            obtain ⟨lp, p0, -, p1, -, p2, -⟩ := bp.three
            obtain ⟨lq, q0, -, q1, -, q2, -⟩ := bq.three
            have Hrc := Lib.hid hrc
            have HSc := Lib.hid hSc
            have HBc := Lib.hid hBc
            have hszc := hBc.size
            clear bp bq hrc hSc hBc hb8
            rcases HK.out with rfl | rfl
            · go_wp2_with fail
              refine (HE.out _ _ _ _ _ _ _).mono ?_
              rintro e w2 ⟨⟨b2, rfl⟩, hb2⟩
              have hr2 := own_below9 Hrc.out hb2
              have HS2 := Lib.hid (HSc.out.below hb2 HSc.out.lt)
              have HB2 := Lib.hid (HBc.out.trans (hb2.mono hszc))
              have hsz2 := HB2.out.size
              clear hb2 p0 p1 p2 q0 q1 q2
              cases b2
              · have Hr2 := Lib.hid hr2
                clear hr2
                go_wp2
                go_roundw
                case measure => simp [intOf]; omega
                case rel => exact ⟨j + 1, m, _, _, rfl, by omega, by go_num, Hr2.out, by omega, HS2.out, HB2.out⟩
              · go_wp2_with (at_builtin; refine wpList_append_lies _ rfl (.tmp 61) (.tmp 66) 101 rfl w.heap.size 127 i1 _ 3 24 Try.underlying101 hi' hy0 hy1 hy2 rfl (by decide) _ _ _ rfl (hr2.alloc _) ⟨w2.heap.size, 0, none⟩ 1 1 [.int .i64 3, .int .i64 j, .int .i64 k] rfl rfl (World.news_of_block (heap_alloc_new _ _)) (by simp [Value.oneCell']) (by decide) c3 c4 (by rw [size_alloc']; omega) (w2.heap.size + 1) (by simp) ?_; intro g4 cap4 W4 hr4 hg4 _ _)
                go_roundw
                case measure => simp [intOf]; omega
                case rel => exact ⟨j + 1, m + 1, _, _, rfl, by omega, by go_num, hr4, by omega, (HS2.out.alloc _).grown hg4 (fun e => own_blk_ne hr2 HS2.out (by decide) e.symm), HB2.out.grown (gGrown (World.grownBy_alloc _ _ _) hg4 (row := v5.ownBlock) (fun _ e => .inl e)) (by omega) (fun j e => (hr2.lt j e).1)⟩
            · go_wp2_with fail
              refine (HA.out _ _ _ _ _).mono ?_
              rintro e w2 ⟨⟨b2, rfl⟩, hb2⟩
              clear p0 p1 p2 q0 q1 q2
              have HP2 := Lib.hid (HP.out.below hb2 lp)
              have HQ2 := Lib.hid (HQ.out.below hb2 lq)
              obtain ⟨lp2, p0, -, p1, -, p2, -⟩ := HP2.out.three
              obtain ⟨lq2, q0, -, q1, -, q2, -⟩ := HQ2.out.three
              have Hr2 := Lib.hid (own_below9 Hrc.out hb2)
              have HS2 := Lib.hid (HSc.out.below hb2 HSc.out.lt)
              have HB2 := Lib.hid (HBc.out.trans (hb2.mono hszc))
              have hsz2 := HB2.out.size
              clear hb2
              cases b2
              · go_wp2
                go_roundw
                case measure => simp [intOf]; omega
                case rel => exact ⟨j + 1, m, _, _, rfl, by omega, by go_num, Hr2.out, by omega, HS2.out, HB2.out⟩
              · go_wp2_with fail
                refine (HA.out _ _ _ _ _).mono ?_
                rintro e w3 ⟨⟨b3, rfl⟩, hb3⟩
                clear p0 p1 p2 q0 q1 q2
                have HP3 := Lib.hid (HP2.out.below hb3 lp2)
                have HQ3 := Lib.hid (HQ2.out.below hb3 lq2)
                obtain ⟨lp3, p0, -, p1, -, p2, -⟩ := HP3.out.three
                obtain ⟨lq3, q0, -, q1, -, q2, -⟩ := HQ3.out.three
                have Hr3 := Lib.hid (own_below9 Hr2.out hb3)
                have HS3 := Lib.hid (HS2.out.below hb3 HS2.out.lt)
                have HB3 := Lib.hid (HB2.out.trans (hb3.mono hsz2))
                have hsz3 := HB3.out.size
                clear hb3
                cases b3
                · go_wp2
                  go_roundw
                  case measure => simp [intOf]; omega
                  case rel => exact ⟨j + 1, m, _, _, rfl, by omega, by go_num, Hr3.out, by omega, HS3.out, HB3.out⟩
                · go_wp2_with fail
                  refine (HA.out _ _ _ _ _).mono ?_
                  rintro e w4 ⟨⟨b4, rfl⟩, hb4⟩
                  clear p0 p1 p2 q0 q1 q2
                  have hr4' := own_below9 Hr3.out hb4
                  have HS4 := Lib.hid (HS3.out.below hb4 HS3.out.lt)
                  have HB4 := Lib.hid (HB3.out.trans (hb4.mono hsz3))
                  have hsz4 := HB4.out.size
                  clear hb4
                  cases b4
                  · have Hr4 := Lib.hid hr4'
                    clear hr4'
                    go_wp2
                    go_roundw
                    case measure => simp [intOf]; omega
                    case rel => exact ⟨j + 1, m, _, _, rfl, by omega, by go_num, Hr4.out, by omega, HS4.out, HB4.out⟩
                  · go_wp2_with (at_builtin; refine wpList_append_lies _ rfl (.tmp 61) (.tmp 66) 101 rfl w.heap.size 127 i1 _ 3 24 Try.underlying101 hi' hy0 hy1 hy2 rfl (by decide) _ _ _ rfl (hr4'.alloc _) ⟨w4.heap.size, 0, none⟩ 1 1 [.int .i64 4, .int .i64 j, .int .i64 k] rfl rfl (World.news_of_block (heap_alloc_new _ _)) (by simp [Value.oneCell']) (by decide) c3 c4 (by rw [size_alloc']; omega) (w4.heap.size + 1) (by simp) ?_; intro g4 cap4 W4 hr4 hg4 _ _)
                    go_roundw
                    case measure => simp [intOf]; omega
                    case rel => exact ⟨j + 1, m + 1, _, _, rfl, by omega, by go_num, hr4, by omega, (HS4.out.alloc _).grown hg4 (fun e => own_blk_ne hr4' HS4.out (by decide) e.symm), HB4.out.grown (gGrown (World.grownBy_alloc _ _ _) hg4 (row := v5.ownBlock) (fun _ e => .inl e)) (by omega) (fun j e => (hr4'.lt j e).1)⟩
        · obtain rfl : j = k := by omega
          clear htr
          go_wp2
          go_roundw
          case measure => simp [intOf]; omega
          case rel => exact ⟨j + 1, m, _, _, rfl, by omega, by go_num, Hro.out, by omega, HS.out, HB.out⟩
    · obtain rfl : k = n := by omega
      go_wp2
      go_ret
      exact ⟨_, _, _, rfl, Hro.out, by omega, HB.out⟩
end Go.Proofs.Ytghlnknncahkgaa
/-
  gypsumref09.Pinched comes to an end.
-/
namespace Go.Proofs.Ytghlnknncahkgaa
open Go.RowKit

theorem infoTri9 : (Try.prog.info? 51).map (fun i => (i.zero, i.size, i.bytes)) = some (some (.agg #[.int .i64 0, .int .i64 0, .int .i64 0]), 3, 24) := by kernel_rfl
theorem ws3_snoc9 (L : List Tr) (x y z : Int) : ws3 (L ++ [(x, y, z)]) = ws3 L ++ [.int .i64 x, .int .i64 y, .int .i64 z] := ws3_snoc L x y z
theorem ws3_get9 : ∀ (L : List Tr) (k : Nat) (x y z : Int), L[k]? = some (x, y, z) → (ws3 L)[k * 3]? = some (.int .i64 x) ∧ (ws3 L)[k * 3 + 1]? = some (.int .i64 y) ∧ (ws3 L)[k * 3 + 2]? = some (.int .i64 z)
  | [], k, x, y, z, h => by simp at h
  | (a, b, c) :: L, 0, x, y, z, h => by
    simp at h
    obtain ⟨rfl, rfl, rfl⟩ := h
    simp [ws3, flatT]
  | (a, b, c) :: L, k + 1, x, y, z, h => by
    have ih := ws3_get9 L k x y z (by simpa using h)
    have e : ws3 ((a, b, c) :: L) = .int .i64 a :: .int .i64 b :: .int .i64 c :: ws3 L := by simp [ws3, flatT]
    rw [e]
    have e1 : (k + 1) * 3 = k * 3 + 1 + 1 + 1 := by omega
    rw [e1]
    simpa using ih
theorem ws3_len9 (L : List Tr) : (ws3 L).length = L.length * 3 := by
  induction L with
  | nil => rfl
  | cons a L ih =>
    obtain ⟨x, y, z⟩ := a
    have e : ws3 ((x, y, z) :: L) = .int .i64 x :: .int .i64 y :: .int .i64 z :: ws3 L := by simp [ws3, flatT]
    rw [e]
    simp only [List.length_cons, ih]
    omega
/-- The state between the rounds: the vertex's triangles, and which are come to. -/
structure PS9 (w : World) (m : Nat) (L : List Tr) (gL cL gB : Nat) (W : World) : Prop where
  bs : ∃ bs : List Bool, bs.length = m ∧ W.ownsRow w.heap.size 4 1 (.slice (some ⟨gB, 0, none⟩) m m) m (bools bs)
  tri : W.ownsRow w.heap.size 51 3 (.slice (some ⟨gL, 0, none⟩) m cL) m (ws3 L)
  ll : L.length = m
  below : Below w.heap.size w W
section
variable {w W W' : World} {m gL cL gB : Nat} {L : List Tr}
theorem PS9.le (h : PS9 w m L gL cL gB W) (hb : Below W.heap.size W W') : PS9 w m L gL cL gB W' := by
  obtain ⟨⟨bs, h1, h2⟩, h3, h5, h4⟩ := h
  exact ⟨⟨bs, h1, own_below9 h2 hb⟩, own_below9 h3 hb, h5, h4.trans (hb.mono h4.size)⟩
theorem PS9.bit (h : PS9 w m L gL cL gB W) {i : Nat} (hi : i < m) : ∃ b : Bool, W.cell? ⟨gB, i, none⟩ = some (.bool b) ∧ W.frozen? ⟨gB, i, none⟩ = false := by
  obtain ⟨⟨bs, h1, h2⟩, -, -, -⟩ := h
  obtain ⟨b, hb⟩ : ∃ b, bs[i]? = some b := ⟨bs[i]'(by omega), List.getElem?_eq_getElem _⟩
  exact ⟨b, by rw [h2.cellAt i (by omega), bools, List.getElem?_map, hb]; rfl, h2.frozenAt i⟩
theorem PS9.set_ (h : PS9 w m L gL cL gB W) (i : Nat) : PS9 w m L gL cL gB (W.setCell ⟨gB, i, none⟩ (.bool true)) := by
  obtain ⟨⟨bs, h1, h2⟩, h3, h5, h4⟩ := h
  have hs := h2.stored i (.bool true)
  refine ⟨⟨bs.set i true, by simpa using h1, by rw [← bools_set]; exact hs.1⟩, h3.kept hs.2 (own_own_ne h3 h2 (by decide)), h5, h4.grown hs.2 h4.size (fun j e => (h2.lt j e).1)⟩
theorem PS9.three (h : PS9 w m L gL cL gB W) {i : Nat} (hi : i < m) : ∃ x y z, W.cell? ⟨gL, i * 3, none⟩ = some (.int .i64 x) ∧ W.cell? ⟨gL, i * 3 + 1, none⟩ = some (.int .i64 y) ∧ W.cell? ⟨gL, i * 3 + 2, none⟩ = some (.int .i64 z) := by
  obtain ⟨-, h3, h5, -⟩ := h
  obtain ⟨⟨x, y, z⟩, ht⟩ : ∃ q, L[i]? = some q := ⟨L[i]'(by omega), List.getElem?_eq_getElem _⟩
  obtain ⟨d0, d1, d2⟩ := ws3_get9 L i x y z ht
  refine ⟨x, y, z, ?_, ?_, ?_⟩
  · rw [h3.cellAt _ (by omega)]; exact d0
  · rw [h3.cellAt _ (by omega)]; exact d1
  · rw [h3.cellAt _ (by omega)]; exact d2
theorem PS9.at_ (h : PS9 w m L gL cL gB W) {i j : Nat} (hi : i < m) (hj : j < 3) : ∃ x, W.cell? ⟨gL, i * 3 + j, none⟩ = some (.int .i64 x) := by
  obtain ⟨x, y, z, h0, h1, h2⟩ := h.three hi
  have : j = 0 ∨ j = 1 ∨ j = 2 := by omega
  rcases this with rfl | rfl | rfl
  · exact ⟨_, h0⟩
  · exact ⟨_, h1⟩
  · exact ⟨_, h2⟩
end
set_option maxRecDepth 100000 in
set_option maxHeartbeats 4000000 in
theorem pinched9_any (N u : Int) (v : Value) (T : List Tr) (w : World) (h : TrisRd w v T) (hl : T.length ≤ 40) : Calls Try.prog 76 #[.agg #[.int .i64 N, v], .int .i64 u] w (RetB w) := by
  obtain ⟨i1, hi', hy0, hy1, hy2⟩ := info_parts infoTri9
  obtain ⟨i2, hj', hz0, hz1, hz2⟩ := info_parts infoBool
  obtain ⟨a, c, rfl, hc1, hc2, hr⟩ := h
  have b1 := Blk.new w 24 #[.int .i64 N, .slice a T.length c]
  obtain ⟨l0, x0, -, x1, -⟩ := b1.two
  have hB0 : Below w.heap.size w (w.alloc (.cells #[.int .i64 N, .slice a T.length c] 24)) := (Below.refl _ _).alloc (Nat.le_refl _) _
  obtain ⟨n, hn⟩ : ∃ n, T.length = n := ⟨_, rfl⟩
  rw [hn] at hl hc1 x0 x1 hB0 b1 l0 ⊢
  have HR := Lib.hid hr
  have HN := Lib.hid hn
  have HB0 := Lib.hid hB0
  have Hb1 := Lib.hid b1
  have HA := Lib.hid has9_any
  clear hr hn b1 hB0
  go_enter Try.func76, Try.ntmps76
  go_wp2
  go_loopw [5, 6] (fun v5 i wr => ∃ (k : Nat) (L : List Tr) (v' : Value), v' = v5 ∧ k ≤ n ∧ i = .int .i64 k ∧ wr.ownsRow w.heap.size 51 3 v' L.length (ws3 L) ∧ L.length ≤ k ∧ Blk wr w.heap.size 24 #[.int .i64 N, .slice a n c] ∧ Below w.heap.size w wr) (fun _ i _ => n - (intOf i).toNat)
  case atStart => exact ⟨0, [], _, rfl, Nat.zero_le _, rfl, World.ownsRow_nil _ _ _ _, by simp, Hb1.out, HB0.out⟩
  case round =>
    obtain ⟨k, L, v3, rfl, hk, rfl, hrow, hm, hS, hB⟩ := hrel
    rename World => wr
    clear x0 x1 l0
    obtain ⟨ly, y0, -, y1, -⟩ := hS.two
    have HS := Lib.hid hS
    have HB := Lib.hid hB
    have Hro := Lib.hid hrow
    have hsz := hB.size
    by_cases hlt : k < n
    · have hk3 : (k : Int) < (n : Int) := by omega
      have hk0 : (0 : Int) ≤ (k : Int) := by omega
      obtain ⟨⟨x, y, z⟩, ht⟩ : ∃ t, T[k]? = some t := ⟨T[k]'(by have := HN.out; omega), List.getElem?_eq_getElem _⟩
      obtain ⟨b, o, rfl, hbl, s0, s1, s2⟩ := HR.out k x y z ht
      have s0' := (hB.cell (p := ⟨b, _, none⟩) hbl).trans s0
      have s1' := (hB.cell (p := ⟨b, _, none⟩) hbl).trans s1
      have s2' := (hB.cell (p := ⟨b, _, none⟩) hbl).trans s2
      have c3 : L.length + 1 ≤ maxLen := by unfold maxLen; omega
      have c4 : (L.length + 1) * 24 ≤ 140737488355328 := by omega
      clear ht hS hB hrow
      go_wp2_with fail
      refine (HA.out _ _ _ _ _).mono ?_
      rintro e w2 ⟨⟨b2, rfl⟩, hb2⟩
      have hr2 := own_below9 Hro.out hb2
      have HS2 := Lib.hid (HS.out.below hb2 ly)
      have HB2 := Lib.hid (HB.out.trans (hb2.mono hsz))
      have hsz2 := HB2.out.size
      clear y0 y1 s0' s1' s2' hb2
      obtain ⟨ly2, y0, -, y1, -⟩ := HS2.out.two
      have s0' := (HB2.out.cell (p := ⟨b, _, none⟩) hbl).trans s0
      have s1' := (HB2.out.cell (p := ⟨b, _, none⟩) hbl).trans s1
      have s2' := (HB2.out.cell (p := ⟨b, _, none⟩) hbl).trans s2
      clear s0 s1 s2
      cases b2
      · have Hr2 := Lib.hid hr2
        clear hr2
        go_wp2
        go_roundw
        case measure => simp [intOf]; omega
        case rel => exact ⟨k + 1, L, _, rfl, by omega, by go_num, Hr2.out, by omega, HS2.out, HB2.out⟩
      · go_wp2_with (at_builtin; refine wpList_append_lies _ rfl (.tmp 27) (.tmp 33) 22 rfl w.heap.size 51 i1 _ 3 24 Try.underlying22 hi' hy0 hy1 hy2 rfl (by decide) _ _ _ rfl (hr2.alloc _) ⟨w2.heap.size, 0, none⟩ 1 1 [.int .i64 x, .int .i64 y, .int .i64 z] rfl rfl (World.news_of_block (heap_alloc_new _ _)) (by simp [Value.oneCell']) (by decide) c3 c4 (by rw [size_alloc']; omega) (w2.heap.size + 1) (by simp) ?_; intro g4 cap4 W4 hr4 hg4 _ _)
        go_roundw
        case measure => simp [intOf]; omega
        case rel => exact ⟨k + 1, L ++ [(x, y, z)], _, rfl, by omega, by go_num, by rw [ws3_snoc9]; simpa using hr4, by simp; omega, (HS2.out.alloc _).grown hg4 (fun e => own_blk_ne hr2 HS2.out (by decide) e.symm), HB2.out.grown (gGrown (World.grownBy_alloc _ _ _) hg4 (row := v3.ownBlock) (fun _ e => .inl e)) (by omega) (fun j e => (hr2.lt j e).1)⟩
    · obtain rfl : k = n := by omega
      clear HS hS
      obtain ⟨m, hmL⟩ : ∃ m, L.length = m := ⟨_, rfl⟩
      rw [hmL] at hrow hm
      clear Hro
      rcases Nat.eq_zero_or_pos m with hm0 | hm0
      · subst hm0
        have e : ∃ a cc, v3 = .slice a 0 cc := by
          rcases hrow.2 with ⟨rfl, h0⟩ | ⟨g, cap, cur, rfl, _⟩
          · exact ⟨_, _, rfl⟩
          · exact ⟨_, _, rfl⟩
        obtain ⟨a', cc, rfl⟩ := e
        clear hrow hB hmL
        go_wp2
        go_ret
        exact ⟨⟨_, rfl⟩, HB.out⟩
      · obtain ⟨gL, cL, rfl, -, -⟩ := hrow.form hm0
        have HL := Lib.hid hmL
        have Hr := Lib.hid hrow
        have nz : ((m : Int) == 0) = false := by simp; omega
        have hm4 : (0 : Int) < (m : Int) := by omega
        clear hmL hrow hB
        go_wp2_with (at_make; refine wpList_make_full _ rfl (.tmp 39) (.tmp 39) 110 rfl w.heap.size 4 i2 _ 1 Try.underlying110 hj' hz0 hz1 .i64 .i64 _ _ m rfl rfl rfl rfl (by rw [hz2]; omega) (by unfold maxLen; omega) (by omega) ?_; intro w1 hr1 hg1; have hbm := below_of_grown hg1 (Nat.le_refl _) (fun j e => by cases e); rw [made_bools] at hr1; have f0 := hr1.frozenAt 0; have c0 : w1.cell? ⟨wr.heap.size, 0, none⟩ = some (.bool false) := by rw [hr1.cellAt 0 (by omega)]; simp [bools, hm0])
        have hps : PS9 w m L gL cL wr.heap.size w1 := ⟨⟨_, by simp, hr1⟩, own_below9 Hr.out hbm, HL.out, HB.out.trans (hbm.mono hsz)⟩
        have HPS := Lib.hid (hps.set_ 0)
        clear hps hr1 hg1 hbm f0 c0 y0 y1 ly
        generalize w1.setCell ⟨wr.heap.size, 0, none⟩ (.bool true) = W1 at *
        go_loopw [45] (fun i W => ∃ q : Nat, q ≤ m ∧ i = .int .i64 q ∧ PS9 w m L gL cL wr.heap.size W) (fun i _ => m - (intOf i).toNat)
        case atStart => exact ⟨0, by omega, rfl, HPS.out⟩
        case round =>
          obtain ⟨q, hq, rfl, hP⟩ := hrel
          rename World => wA
          have HPA := Lib.hid hP
          clear hP
          by_cases hqm : q < m
          · have hq3 : (q : Int) < (m : Int) := by omega
            go_wp2
            go_loopw [8] (fun i W => ∃ i1 : Nat, i1 ≤ m ∧ i = .int .i64 i1 ∧ PS9 w m L gL cL wr.heap.size W) (fun i _ => m - (intOf i).toNat)
            case atStart => exact ⟨0, by omega, rfl, HPA.out⟩
            case round =>
              obtain ⟨i1, hi1, rfl, hP⟩ := hrel
              rename World => wB
              have HPB := Lib.hid hP
              clear hP
              by_cases him : i1 < m
              · have hi3 : (i1 : Int) < (m : Int) := by omega
                have hi0 : (0 : Int) ≤ (i1 : Int) := by omega
                go_wp2
                go_loopw [9] (fun i W => ∃ k1 : Nat, k1 ≤ m ∧ i = .int .i64 k1 ∧ PS9 w m L gL cL wr.heap.size W) (fun i _ => m - (intOf i).toNat)
                case atStart => exact ⟨0, by omega, rfl, HPB.out⟩
                case round =>
                  obtain ⟨k1, hk1, rfl, hP⟩ := hrel
                  rename World => wC
                  have HPC := Lib.hid hP
                  clear hP
                  by_cases hkm : k1 < m
                  · have hk3 : (k1 : Int) < (m : Int) := by omega
                    have hk0 : (0 : Int) ≤ (k1 : Int) := by omega
                    obtain ⟨bi, ci, -⟩ := HPC.out.bit him
                    obtain ⟨bk, ck, fk⟩ := HPC.out.bit hkm
                    cases bi
                    · go_wp2
                      go_roundw
                      case measure => simp [intOf]; omega
                      case rel => exact ⟨k1 + 1, by omega, by go_num, HPC.out⟩
                    · cases bk
                      · go_wp2
                        clear ci ck fk
                        go_loopw [10] (fun i W => ∃ j1 : Nat, j1 ≤ 3 ∧ i = .int .i64 j1 ∧ PS9 w m L gL cL wr.heap.size W) (fun i _ => 3 - (intOf i).toNat)
                        case atStart => exact ⟨0, by omega, rfl, HPC.out⟩
                        case round =>
                          obtain ⟨j1, hj1, rfl, hP⟩ := hrel
                          rename World => wD
                          have HPD := Lib.hid hP
                          clear hP
                          by_cases hj3 : j1 < 3
                          · have hj4 : (j1 : Int) < 3 := by omega
                            have hj0 : (0 : Int) ≤ (j1 : Int) := by omega
                            obtain ⟨x, hx⟩ := HPD.out.at_ him hj3
                            obtain ⟨a1, a2, a3, h1, h2, h3⟩ := HPD.out.three hkm
                            by_cases hxu : x = u
                            · have hxu' : (x != u) = false := by simpa using hxu
                              clear hxu
                              go_wp2
                              go_roundw
                              case measure => simp [intOf]; omega
                              case rel => exact ⟨j1 + 1, by omega, by go_num, HPD.out⟩
                            · have hxu' : (x != u) = true := by simpa using hxu
                              clear hxu
                              go_wp2_with fail
                              refine (HA.out _ _ _ _ _).mono ?_
                              rintro e w2 ⟨⟨b2, rfl⟩, hb2⟩
                              have HP2 := Lib.hid (HPD.out.le hb2)
                              obtain ⟨bk, ck, fk⟩ := HP2.out.bit hkm
                              clear hx h1 h2 h3 hb2
                              cases b2
                              · go_wp2
                                go_roundw
                                case measure => simp [intOf]; omega
                                case rel => exact ⟨j1 + 1, by omega, by go_num, HP2.out⟩
                              · go_wp2
                                go_roundw
                                case measure => simp [intOf]; omega
                                case rel => exact ⟨j1 + 1, by omega, by go_num, HP2.out.set_ _⟩
                          · obtain rfl : j1 = 3 := by omega
                            go_wp2
                            go_roundw
                            case measure => simp [intOf]; omega
                            case rel => exact ⟨k1 + 1, by omega, by go_num, HPD.out⟩
                      · go_wp2
                        go_roundw
                        case measure => simp [intOf]; omega
                        case rel => exact ⟨k1 + 1, by omega, by go_num, HPC.out⟩
                  · obtain rfl : k1 = m := by omega
                    go_wp2
                    go_roundw
                    case measure => simp [intOf]; omega
                    case rel => exact ⟨i1 + 1, by omega, by go_num, HPC.out⟩
              · obtain rfl : i1 = m := by omega
                go_wp2
                go_roundw
                case measure => simp [intOf]; omega
                case rel => exact ⟨q + 1, by omega, by go_num, HPB.out⟩
          · obtain rfl : q = m := by omega
            go_wp2
            go_loopw [12] (fun i W => ∃ i1 : Nat, i1 ≤ q ∧ i = .int .i64 i1 ∧ PS9 w q L gL cL wr.heap.size W) (fun i _ => q - (intOf i).toNat)
            case atStart => exact ⟨0, by omega, rfl, HPA.out⟩
            case round =>
              obtain ⟨i1, hi1, rfl, hP⟩ := hrel
              rename World => wB
              have HPB := Lib.hid hP
              clear hP
              by_cases him : i1 < q
              · have hi3 : (i1 : Int) < (q : Int) := by omega
                have hi0 : (0 : Int) ≤ (i1 : Int) := by omega
                obtain ⟨bi, ci, -⟩ := HPB.out.bit him
                cases bi
                · go_wp2
                  go_ret
                  exact ⟨⟨_, rfl⟩, HPB.out.below⟩
                · go_wp2
                  go_roundw
                  case measure => simp [intOf]; omega
                  case rel => exact ⟨i1 + 1, by omega, by go_num, HPB.out⟩
              · obtain rfl : i1 = q := by omega
                go_wp2
                go_ret
                exact ⟨⟨_, rfl⟩, HPB.out.below⟩
end Go.Proofs.Ytghlnknncahkgaa
/-
  gypsumref09.All and Surface come to an end.
-/
namespace Go.Proofs.Ytghlnknncahkgaa
open Go.RowKit

theorem own_base9 {w : World} {base base' n s : Nat} {e : TypeId} {v : Value} {xs : List Value} (h : w.ownsRow base e s v n xs) (hb : base' ≤ base) : w.ownsRow base' e s v n xs := by
  obtain ⟨h1, h2 | ⟨g, cap, cur, rfl, a1, a2⟩⟩ := h
  · exact ⟨h1, .inl h2⟩
  · exact ⟨h1, .inr ⟨g, cap, cur, rfl, Nat.le_trans hb a1, a2⟩⟩
/-- A row of witnesses of the call's own, and its argument. -/
structure AS9 (w : World) (N : Int) (vT : Value) (v : Value) (m : Nat) (W : World) : Prop where
  row : ∃ xs, W.ownsRow w.heap.size 127 3 v m xs
  soup : Blk W w.heap.size 24 #[.int .i64 N, vT]
  below : Below w.heap.size w W
theorem AS9.le {w W W' : World} {N : Int} {vT v : Value} {m : Nat} (h : AS9 w N vT v m W) (hb : Below W.heap.size W W') : AS9 w N vT v m W' := by
  obtain ⟨⟨xs, h1⟩, h2, h3⟩ := h
  exact ⟨⟨xs, own_below9 h1 hb⟩, h2.below hb h2.lt, h3.trans (hb.mono h3.size)⟩
theorem AS9.form {w W : World} {N : Int} {vT v : Value} {m : Nat} (h : AS9 w N vT v m W) : ∃ a c, v = .slice a m c := by
  obtain ⟨⟨xs, h1⟩, -, -⟩ := h
  rcases h1.2 with ⟨rfl, h0⟩ | ⟨g, cap, cur, rfl, _⟩
  · rw [h0]; exact ⟨_, _, rfl⟩
  · exact ⟨_, _, rfl⟩
theorem AS9.ret {w W W' : World} {N : Int} {vT v v' : Value} {m m' : Nat} (h : AS9 w N vT v m W) {n : Nat} {xs : List Value} (h1 : W'.ownsRow W.heap.size 127 3 v' n xs) (hb : Below W.heap.size W W') : AS9 w N vT v' n W' :=
  ⟨⟨xs, own_base9 h1 h.below.size⟩, h.soup.below hb h.soup.lt, h.below.trans (hb.mono h.below.size)⟩
theorem AS9.app {w W W' : World} {N : Int} {vT v v' : Value} {m n : Nat} {xs : List Value} {o : Obj} (h : AS9 w N vT v m W) (h1 : W'.ownsRow w.heap.size 127 3 v' n xs) (hg : (W.alloc o).grownBy W' v.ownBlock) : AS9 w N vT v' n W' := by
  obtain ⟨⟨ys, h2⟩, h3, h4⟩ := h
  refine ⟨⟨xs, h1⟩, (h3.alloc _).grown hg (fun e => own_blk_ne h2 h3 (by decide) e.symm), ?_⟩
  exact h4.grown (gGrown (World.grownBy_alloc _ _ _) hg (row := v.ownBlock) (fun _ e => .inl e)) h4.size (fun j e => (h2.lt j e).1)
set_option maxRecDepth 100000 in
set_option maxHeartbeats 4000000 in
theorem all9_any (N : Int) (v : Value) (T : List Tr) (w : World) (h : TrisRd w v T) (hl : T.length ≤ 40) (hN : N ≤ 120) : Calls Try.prog 55 #[.agg #[.int .i64 N, v]] w (RetW w 10000) := by
  obtain ⟨i1, hi', hy0, hy1, hy2⟩ := info_parts infoWit9
  obtain ⟨a, c, rfl, hc1, hc2, hr⟩ := id h
  have b1 := Blk.new w 24 #[.int .i64 N, .slice a T.length c]
  obtain ⟨l0, x0, -, x1, -⟩ := b1.two
  have hB0 : Below w.heap.size w (w.alloc (.cells #[.int .i64 N, .slice a T.length c] 24)) := (Below.refl _ _).alloc (Nat.le_refl _) _
  have HI := Lib.hid (fun (W : World) (hW : Below w.heap.size w W) => index9_any N _ T W (h.below hW) hl)
  have HP3 := Lib.hid (fun (W : World) (hW : Below w.heap.size w W) => pairs9_any 3 (.inl rfl) N _ T W (h.below hW) hl)
  have HP4 := Lib.hid (fun (W : World) (hW : Below w.heap.size w W) => pairs9_any 4 (.inr rfl) N _ T W (h.below hW) hl)
  have HPi := Lib.hid (fun (W : World) (u : Int) (hW : Below w.heap.size w W) => pinched9_any N u _ T W (h.below hW) hl)
  have HA := Lib.hid has9_any
  obtain ⟨n, hn⟩ : ∃ n, T.length = n := ⟨_, rfl⟩
  rw [hn] at hl hc1 x0 x1 hB0 b1 l0 HI HP3 HP4 HPi ⊢
  have HR := Lib.hid hr
  have HN := Lib.hid hn
  have HB0 := Lib.hid hB0
  have Hb1 := Lib.hid b1
  clear hr hn b1 hB0 h
  go_enter Try.func55, Try.ntmps55
  go_wp2_with fail
  refine (HI.out _ HB0.out).mono ?_
  rintro e w1 ⟨v1, m1, xs1, rfl, hr1, hm1, hb1⟩
  have S1 : AS9 w N (.slice a n c) v1 m1 w1 := ⟨⟨_, own_base9 hr1 (by simp)⟩, Hb1.out.below hb1 l0, HB0.out.trans (hb1.mono HB0.out.size)⟩
  obtain ⟨a1, c1, rfl⟩ := S1.form
  have HS1 := Lib.hid S1
  clear S1 hr1 hb1 x0 x1
  obtain ⟨ly, y0, -, y1, -⟩ := HS1.out.soup.two
  rcases Nat.eq_zero_or_pos m1 with hm0 | hm0
  rotate_left
  · have nz : (0 : Int) < (m1 : Int) := by omega
    go_wp2
    go_ret
    obtain ⟨⟨xs, k1⟩, -, k3⟩ := HS1.out
    exact ⟨_, _, _, rfl, k1, by omega, k3⟩
  subst hm0
  go_wp2
  go_loopw [3, 4] (fun v3 i wr => ∃ (k m : Nat) (v' : Value), v' = v3 ∧ k ≤ n ∧ i = .int .i64 k ∧ AS9 w N (.slice a n c) v' m wr ∧ m ≤ k) (fun _ i _ => n - (intOf i).toNat)
  case atStart => exact ⟨0, 0, _, rfl, by omega, rfl, HS1.out, by omega⟩
  case round =>
    obtain ⟨k, m, v3, rfl, hk, rfl, hS, hm⟩ := hrel
    rename World => wr
    clear y0 y1 ly
    have HS := Lib.hid hS
    obtain ⟨ly, y0, -, y1, -⟩ := hS.soup.two
    obtain ⟨⟨xs, hrow⟩, -, hB⟩ := hS
    have hsz := hB.size
    by_cases hlt : k < n
    · have hk3 : (k : Int) < (n : Int) := by omega
      have hk0 : (0 : Int) ≤ (k : Int) := by omega
      obtain ⟨⟨x, y, z⟩, ht⟩ : ∃ t, T[k]? = some t := ⟨T[k]'(by have := HN.out; omega), List.getElem?_eq_getElem _⟩
      obtain ⟨b, o, rfl, hbl, s0, s1, s2⟩ := HR.out k x y z ht
      have s0' := (hB.cell (p := ⟨b, _, none⟩) hbl).trans s0
      have s1' := (hB.cell (p := ⟨b, _, none⟩) hbl).trans s1
      have s2' := (hB.cell (p := ⟨b, _, none⟩) hbl).trans s2
      have c3 : m + 1 ≤ maxLen := by unfold maxLen; omega
      have c4 : (m + 1) * 24 ≤ 140737488355328 := by omega
      clear ht s0 s1 s2
      have Q : ((x == y) = false ∧ (y == z) = false ∧ (z == x) = false) ∨ ((x == y) = true ∨ ((x == y) = false ∧ (y == z) = true) ∨ ((x == y) = false ∧ (y == z) = false ∧ (z == x) = true)) := by
        cases (x == y) <;> cases (y == z) <;> cases (z == x) <;> simp
      rcases Q with ⟨q1, q2, q3⟩ | q
      · clear hrow hB
        go_wp2
        go_roundw
        case measure => simp [intOf]; omega
        case rel => exact ⟨k + 1, m, _, rfl, by omega, by go_num, HS.out.le ((Below.refl _ _).alloc (Nat.le_refl _) _), by omega⟩
      · have HS' := Lib.hid (HS.out.le ((Below.refl _ _).alloc (Nat.le_refl _) (.cells #[.int .i64 x, .int .i64 y, .int .i64 z] 51)))
        rcases q with q1 | ⟨q1, q2⟩ | ⟨q1, q2, q3⟩
        all_goals go_wp2_with (at_builtin; refine wpList_append_lies _ rfl (.tmp 47) (.tmp 50) 101 rfl w.heap.size 127 i1 _ 3 24 Try.underlying101 hi' hy0 hy1 hy2 rfl (by decide) _ _ _ rfl ((hrow.alloc _).alloc _) ⟨wr.heap.size + 1, 0, none⟩ 1 1 [.int .i64 2, .int .i64 k, .int .i64 0] rfl rfl (World.news_of_block (heap_alloc_new2 _ _ _)) (by simp [Value.oneCell']) (by decide) c3 c4 (by rw [size_alloc', size_alloc']; omega) (wr.heap.size + 2) (by simp) ?_; intro g4 cap4 W4 hr4 hg4 _ _)
        all_goals go_roundw
        case measure | measure | measure => simp [intOf]; omega
        case rel | rel | rel => exact ⟨k + 1, m + 1, _, rfl, by omega, by go_num, HS'.out.app hr4 hg4, by omega⟩
    · obtain rfl : k = n := by omega
      clear hrow hB
      obtain ⟨a3, c3, rfl⟩ := HS.out.form
      rcases Nat.eq_zero_or_pos m with hm0 | hm0
      rotate_left
      · have nz : (0 : Int) < (m : Int) := by omega
        go_wp2
        go_ret
        obtain ⟨⟨xs, k1⟩, -, k3⟩ := HS.out
        exact ⟨_, _, _, rfl, k1, by omega, k3⟩
      subst hm0
      go_wp2_with fail
      refine (HP3.out _ HS.out.below).mono ?_
      rintro e w2 ⟨v2, m2, xs2, rfl, hr2, hm2, hb2⟩
      have HS2 := Lib.hid (HS.out.ret hr2 hb2 (m' := 0))
      obtain ⟨a2, c2, rfl⟩ := HS2.out.form
      clear y0 y1 ly hr2 hb2
      obtain ⟨ly, y0, -, y1, -⟩ := HS2.out.soup.two
      rcases Nat.eq_zero_or_pos m2 with hm0 | hm0
      rotate_left
      · have nz : (0 : Int) < (m2 : Int) := by omega
        go_wp2
        go_ret
        obtain ⟨⟨xs, k1⟩, -, k3⟩ := HS2.out
        exact ⟨_, _, _, rfl, k1, by omega, k3⟩
      subst hm0
      go_wp2_with fail
      refine (HP4.out _ HS2.out.below).mono ?_
      rintro e w3 ⟨v3, m3, xs3, rfl, hr3, hm3, hb3⟩
      have HS3 := Lib.hid (HS2.out.ret hr3 hb3 (m' := 0))
      obtain ⟨a3, c3, rfl⟩ := HS3.out.form
      clear y0 y1 ly hr3 hb3
      obtain ⟨ly, y0, -, y1, -⟩ := HS3.out.soup.two
      rcases Nat.eq_zero_or_pos m3 with hm0 | hm0
      rotate_left
      · have nz : (0 : Int) < (m3 : Int) := by omega
        go_wp2
        go_ret
        obtain ⟨⟨xs, k1⟩, -, k3⟩ := HS3.out
        exact ⟨_, _, _, rfl, k1, by omega, k3⟩
      subst hm0
      go_wp2
      go_loopw [3, 6] (fun v3 i wr => ∃ (j m : Nat) (v' : Value), v' = v3 ∧ (j = 0 ∨ (j : Int) ≤ N) ∧ i = .int .i64 j ∧ AS9 w N (.slice a k c) v' m wr ∧ m ≤ j) (fun _ i _ => N.toNat - (intOf i).toNat)
      case atStart => exact ⟨0, 0, _, rfl, .inl rfl, rfl, HS3.out, by omega⟩
      case round =>
        obtain ⟨j, m, v4, rfl, hj, rfl, hS, hm⟩ := hrel
        rename World => wA
        clear y0 y1 ly HS HS2 HS3 HS1
        have HS := Lib.hid hS
        obtain ⟨ly, y0, -, y1, -⟩ := hS.soup.two
        clear hS
        by_cases hlt : (j : Int) < N
        · go_wp2
          go_loopw [7, 8] (fun v7 i W => ∃ (i1 : Nat) (b : Bool), i1 ≤ k ∧ i = .int .i64 i1 ∧ v7 = .bool b ∧ AS9 w N (.slice a k c) v4 m W) (fun _ i _ => k - (intOf i).toNat)
          case atStart => exact ⟨0, false, by omega, rfl, rfl, HS.out⟩
          case round =>
            obtain ⟨i1x, b, hi1, rfl, rfl, hS⟩ := hrel
            rename World => wB
            have HSB := Lib.hid hS
            obtain ⟨lz, z0, -, z1, -⟩ := hS.soup.two
            by_cases hik : i1x < k
            · have hi3 : (i1x : Int) < (k : Int) := by omega
              have hi0 : (0 : Int) ≤ (i1x : Int) := by omega
              cases b
              · obtain ⟨⟨x, y, z⟩, ht⟩ : ∃ t, T[i1x]? = some t := ⟨T[i1x]'(by have := HN.out; omega), List.getElem?_eq_getElem _⟩
                obtain ⟨b, o, rfl, hbl, s0, s1, s2⟩ := HR.out i1x x y z ht
                have s0' := (hS.below.cell (p := ⟨b, _, none⟩) hbl).trans s0
                have s1' := (hS.below.cell (p := ⟨b, _, none⟩) hbl).trans s1
                have s2' := (hS.below.cell (p := ⟨b, _, none⟩) hbl).trans s2
                clear ht s0 s1 s2 hS
                go_wp2_with fail
                refine (HA.out _ _ _ _ _).mono ?_
                rintro e w5 ⟨⟨b5, rfl⟩, hb5⟩
                have HS5 := Lib.hid (HSB.out.le hb5)
                clear hb5 z0 z1 s0' s1' s2'
                go_wp2
                go_roundw
                case measure => simp [intOf]; omega
                case rel => exact ⟨i1x + 1, b5, by omega, by go_num, rfl, HS5.out⟩
              · clear hS
                go_wp2
                go_roundw
                case measure => simp [intOf]; omega
                case rel => exact ⟨i1x + 1, true, by omega, by go_num, rfl, HSB.out⟩
            · obtain rfl : i1x = k := by omega
              clear hS
              obtain ⟨⟨xs, hrow⟩, -, hB⟩ := HSB.out
              have hsz := hB.size
              have c3 : m + 1 ≤ maxLen := by unfold maxLen; omega
              have c4 : (m + 1) * 24 ≤ 140737488355328 := by omega
              cases b
              · clear hB
                go_wp2_with (at_builtin; refine wpList_append_lies _ rfl (.tmp 93) (.tmp 96) 101 rfl w.heap.size 127 i1 _ 3 24 Try.underlying101 hi' hy0 hy1 hy2 rfl (by decide) _ _ _ rfl (hrow.alloc _) ⟨wB.heap.size, 0, none⟩ 1 1 [.int .i64 5, .int .i64 j, .int .i64 0] rfl rfl (World.news_of_block (heap_alloc_new _ _)) (by simp [Value.oneCell']) (by decide) c3 c4 (by rw [size_alloc']; omega) (wB.heap.size + 1) (by simp) ?_; intro g4 cap4 W4 hr4 hg4 _ _)
                go_roundw
                case measure => simp [intOf]; omega
                case rel => exact ⟨j + 1, m + 1, _, rfl, by omega, by go_num, HSB.out.app hr4 hg4, by omega⟩
              · clear hB hrow
                go_wp2
                go_roundw
                case measure => simp [intOf]; omega
                case rel => exact ⟨j + 1, m, _, rfl, by omega, by go_num, HSB.out, by omega⟩
        · obtain ⟨a4, c4, rfl⟩ := HS.out.form
          rcases Nat.eq_zero_or_pos m with hm0 | hm0
          rotate_left
          · have nz : (0 : Int) < (m : Int) := by omega
            go_wp2
            go_ret
            obtain ⟨⟨xs, k1⟩, -, k3⟩ := HS.out
            exact ⟨_, _, _, rfl, k1, by omega, k3⟩
          subst hm0
          go_wp2
          clear hj hlt hm
          go_loopw [3, 9] (fun v3 i wr => ∃ (j m : Nat) (v' : Value), v' = v3 ∧ (j = 0 ∨ (j : Int) ≤ N) ∧ i = .int .i64 j ∧ AS9 w N (.slice a k c) v' m wr ∧ m ≤ j) (fun _ i _ => N.toNat - (intOf i).toNat)
          case atStart => exact ⟨0, 0, _, rfl, .inl rfl, rfl, HS.out, by omega⟩
          case round =>
            obtain ⟨j2, m, v5, rfl, hj, rfl, hS, hm⟩ := hrel
            rename World => wB
            clear y0 y1 ly HS
            have HS := Lib.hid hS
            obtain ⟨ly, y0, -, y1, -⟩ := hS.soup.two
            clear hS
            by_cases hlt : (j2 : Int) < N
            · go_wp2_with fail
              refine (HPi.out _ _ HS.out.below).mono ?_
              rintro e w5 ⟨⟨b5, rfl⟩, hb5⟩
              have HS5 := Lib.hid (HS.out.le hb5)
              clear hb5 y0 y1 ly
              obtain ⟨⟨xs, hrow⟩, -, hB⟩ := HS5.out
              have hsz := hB.size
              have c3 : m + 1 ≤ maxLen := by unfold maxLen; omega
              have c4 : (m + 1) * 24 ≤ 140737488355328 := by omega
              obtain ⟨ly, y0, -, y1, -⟩ := HS5.out.soup.two
              cases b5
              · clear hB hrow
                go_wp2
                go_roundw
                case measure => simp [intOf]; omega
                case rel => exact ⟨j2 + 1, m, _, rfl, by omega, by go_num, HS5.out, by omega⟩
              · clear hB
                go_wp2_with (at_builtin; refine wpList_append_lies _ rfl (.tmp 111) (.tmp 114) 101 rfl w.heap.size 127 i1 _ 3 24 Try.underlying101 hi' hy0 hy1 hy2 rfl (by decide) _ _ _ rfl (hrow.alloc _) ⟨w5.heap.size, 0, none⟩ 1 1 [.int .i64 6, .int .i64 j2, .int .i64 0] rfl rfl (World.news_of_block (heap_alloc_new _ _)) (by simp [Value.oneCell']) (by decide) c3 c4 (by rw [size_alloc']; omega) (w5.heap.size + 1) (by simp) ?_; intro g4 cap4 W4 hr4 hg4 _ _)
                go_roundw
                case measure => simp [intOf]; omega
                case rel => exact ⟨j2 + 1, m + 1, _, rfl, by omega, by go_num, HS5.out.app hr4 hg4, by omega⟩
            · go_wp2
              go_ret
              obtain ⟨⟨xs, k1⟩, -, k3⟩ := HS.out
              exact ⟨_, _, _, rfl, k1, by omega, k3⟩
set_option maxHeartbeats 1000000 in
/-- The document's decision comes to an end. -/
theorem surface9_any (N : Int) (v : Value) (T : List Tr) (w : World) (h : TrisRd w v T) (hl : T.length ≤ 40) (hN : N ≤ 120) : Calls Try.prog 26 #[.agg #[.int .i64 N, v]] w (RetB w) := by
  have hB0 : Below w.heap.size w (w.alloc (.cells #[.int .i64 N, v] 24)) := (Below.refl _ _).alloc (Nat.le_refl _) _
  have HI := Lib.hid (all9_any N v T _ (h.below hB0) hl hN)
  have b1 := Blk.new w 24 #[.int .i64 N, v]
  obtain ⟨l0, x0, -, x1, -⟩ := b1.two
  have HB0 := Lib.hid hB0
  clear hB0 b1 h
  go_enter Try.func26, Try.ntmps26
  go_wp2_with fail
  refine HI.out.mono ?_
  rintro e w1 ⟨v1, m1, xs1, rfl, hr1, hm1, hb1⟩
  have hf : ∃ a c, v1 = .slice a m1 c := by
    rcases hr1.2 with ⟨rfl, h0⟩ | ⟨g, cap, cur, rfl, _⟩
    · rw [h0]; exact ⟨_, _, rfl⟩
    · exact ⟨_, _, rfl⟩
  obtain ⟨a1, c1, rfl⟩ := hf
  have HB := Lib.hid (HB0.out.trans (hb1.mono HB0.out.size))
  clear hr1 hb1 x0 x1
  go_wp2
  go_ret
  exact ⟨⟨_, rfl⟩, HB.out⟩
end Go.Proofs.Ytghlnknncahkgaa
