/-
  zip.Is and the law's own 'awake' (layer 23), by walking their texts.
-/
import Derived.Test.YtgjcigokjfhfkaaZip
import Derived.Test.YtgjcigokjfhfkaaAwake24
namespace Go.Proofs.Ytgjcigokjfhfkaa
open Go.RowKit Go.Maps

/-! Three numbers in their order, written out. -/
def ord3 (a b c : Int) : Tr := (min a (min b c), a + b + c - min a (min b c) - max a (max b c), max a (max b c))
theorem sort3_ord (a b c : Int) : sort3 a b c = ord3 a b c := by
  have h := sort3_eq a b c
  have hp : (sortL [a, b, c]).Perm [a, b, c] := List.mergeSort_perm _ _
  have hs : (sortL [a, b, c]).Pairwise (fun x y => decide (x ≤ y) = true) := List.pairwise_mergeSort (by intro x y z; simp; omega) (by intro x y; simp; omega) _
  rw [h] at hp hs
  generalize sort3 a b c = t at *
  obtain ⟨x, y, z⟩ := t
  simp only at hp hs
  simp only [List.pairwise_cons, List.mem_cons, List.not_mem_nil, or_false, decide_eq_true_eq, forall_eq_or_imp, forall_eq] at hs
  have hsum : x + (y + (z + 0)) = a + (b + (c + 0)) := hp.foldr_eq' (f := fun (p q : Int) => p + q) (fun p _ q _ r => by omega) 0
  have m1 : x ∈ [a, b, c] := hp.mem_iff.1 (by simp)
  have m3 : z ∈ [a, b, c] := hp.mem_iff.1 (by simp)
  have ma : a ∈ [x, y, z] := hp.mem_iff.2 (by simp)
  have mb : b ∈ [x, y, z] := hp.mem_iff.2 (by simp)
  have mc : c ∈ [x, y, z] := hp.mem_iff.2 (by simp)
  simp at m1 m3 ma mb mc
  unfold ord3
  simp only [Prod.mk.injEq]
  omega
def fitsO (T : List Tr) (t : Tr) : Bool :=
  decide (ord3 t.1 t.2.1 t.2.2 ∉ T.map fun u => ord3 u.1 u.2.1 u.2.2) && decide ((t.1, t.2.1) ∉ edgesOf T) && decide ((t.2.1, t.2.2) ∉ (t.1, t.2.1) :: edgesOf T) && decide ((t.2.2, t.1) ∉ (t.2.1, t.2.2) :: (t.1, t.2.1) :: edgesOf T)
theorem sortedT_ord : sortedT = fun u => ord3 u.1 u.2.1 u.2.2 := by
  funext u
  exact sort3_ord _ _ _
theorem fitsM_ord (T : List Tr) (t : Tr) : fitsM T t = fitsO T t := by
  unfold fitsM fitsO
  rw [sortedT_ord]
theorem fitsAt_ord (zs : List Int) (k : Nat) : fitsAt zs k = fitsO (zmAt zs k).T (triAt zs k) := fitsM_ord _ _

/-- Whether a text can be zipped. -/
def zipsM (zs : List Int) : Bool := ref24M zs && (List.range zs.length).all (fitsAt zs)
theorem zipsM_all {zs : List Int} (h : ref24M zs = true) (h2 : ∀ j, j < zs.length → fitsAt zs j = true) : zipsM zs = true := by
  unfold zipsM
  rw [h, Bool.true_and, List.all_eq_true]
  intro x hx
  exact h2 x (List.mem_range.1 hx)
theorem zipsM_not {zs : List Int} {k : Nat} (hk : k < zs.length) (h2 : fitsAt zs k = false) : zipsM zs = false := by
  unfold zipsM
  have : (List.range zs.length).all (fitsAt zs) = false := by
    rw [List.all_eq_false]
    exact ⟨k, List.mem_range.2 hk, by simp [h2]⟩
  rw [this, Bool.and_false]

set_option maxRecDepth 100000 in
set_option maxHeartbeats 2000000 in
theorem is_any (s : ByteArray) (hs : s.size ≤ 1000) (w : World) : Calls Try.prog 27 #[.string s] w fun e w' => e = .returned (.bool (zipsM (lettersOf s))) ∧ Below w.heap.size w w' := by
  go_enter Try.func27, Try.ntmps27
  go_wp2_with fail
  refine (zip_any s hs _).mono ?_
  rintro e w1 ⟨hb, h⟩
  rcases h with ⟨h1, r, h2, rfl⟩ | ⟨h1, k, hk, h2, h3, rfl⟩ | ⟨h1, h2, v, h3, rfl⟩
  · have hz : zipsM (lettersOf s) = false := by unfold zipsM; rw [h1]; rfl
    have Hz := Lib.hid hz
    clear h1 h2 hz
    go_wp2
    go_ret
    exact ⟨by rw [Hz.out]; rfl, hb.alloc hb.size _⟩
  · have Hz := Lib.hid (zipsM_not hk h3)
    clear h1 h2 h3 hk
    go_wp2
    go_ret
    exact ⟨by rw [Hz.out]; rfl, hb.alloc hb.size _⟩
  · have Hz := Lib.hid (zipsM_all h1 h2)
    obtain ⟨g, c, rfl⟩ := ownsRow_succ h3
    clear h1 h2 h3
    go_wp2
    go_ret
    exact ⟨by rw [Hz.out]; rfl, hb.alloc hb.size _⟩

theorem cle_facts : ref24M [67, 76, 69] = true ∧ (∀ j, j < 3 → fitsAt [67, 76, 69] j = true) ∧ (zmAt [67, 76, 69] 3).n = 4 ∧ (zmAt [67, 76, 69] 3).T = [(0, 1, 2), (3, 1, 0), (2, 1, 3), (0, 2, 3)] := by
  refine ⟨by decide, ?_, by decide, by decide⟩
  intro j hj
  have : j = 0 ∨ j = 1 ∨ j = 2 := by omega
  rcases this with rfl | rfl | rfl <;> (rw [fitsAt_ord]; decide)
theorem e_facts : ref24M [69] = true ∧ fitsAt [69] 0 = false := ⟨by decide, by rw [fitsAt_ord]; decide⟩
theorem cre_facts : ref24M [67, 82, 69] = true ∧ fitsAt [67, 82, 69] 1 = false := ⟨by decide, by rw [fitsAt_ord]; decide⟩
theorem letters_cle : lettersOf ⟨#[67, 76, 69]⟩ = [67, 76, 69] := by decide
theorem letters_cre : lettersOf ⟨#[67, 82, 69]⟩ = [67, 82, 69] := by decide
theorem letters_e : lettersOf ⟨#[69]⟩ = [69] := by decide
theorem zip_cle (w : World) : Calls Try.prog 24 #[.string ⟨#[67, 76, 69]⟩] w fun e w' => ∃ g c, e = .returned (.tuple #[.agg #[.int .i64 4, .slice (some ⟨g, 0, none⟩) 4 c], .int .i64 0, .int .i64 0]) ∧
    w'.ownsRow w.heap.size 57 3 (.slice (some ⟨g, 0, none⟩) 4 c) 4 (triCells [(0, 1, 2), (3, 1, 0), (2, 1, 3), (0, 2, 3)]) ∧ Below w.heap.size w w' := by
  refine (zip_any ⟨#[67, 76, 69]⟩ (by decide) w).mono ?_
  rintro e w1 ⟨hb, h⟩
  rw [letters_cle] at h
  obtain ⟨f1, f2, f3, f4⟩ := cle_facts
  rcases h with ⟨h1, _⟩ | ⟨h1, k, hk, h2, h3, _⟩ | ⟨h1, h2, v, h3, rfl⟩
  · rw [f1] at h1; cases h1
  · rw [f2 k hk] at h3; cases h3
  · rw [show ([67, 76, 69] : List Int).length = 3 from rfl, f4] at h3
    rw [show ([67, 76, 69] : List Int).length = 3 from rfl, f3]
    obtain ⟨g, c, rfl⟩ := ownsRow_succ h3
    exact ⟨g, c, rfl, h3, hb⟩
theorem zip_e (w : World) : Calls Try.prog 24 #[.string ⟨#[69]⟩] w fun e w' => e = .returned (.tuple #[.agg #[.int .i64 0, .slice none 0 0], .int .i64 1, .int .i64 11]) ∧ Below w.heap.size w w' := by
  refine (zip_any ⟨#[69]⟩ (by decide) w).mono ?_
  rintro e w1 ⟨hb, h⟩
  rw [letters_e] at h
  obtain ⟨f1, f2⟩ := e_facts
  rcases h with ⟨h1, _⟩ | ⟨h1, k, hk, h2, h3, rfl⟩ | ⟨h1, h2, v, h3, rfl⟩
  · rw [f1] at h1; cases h1
  · have : k = 0 := by simp at hk; omega
    subst this
    exact ⟨rfl, hb⟩
  · rw [h2 0 (by simp)] at f2; cases f2
theorem is_cle (w : World) : Calls Try.prog 27 #[.string ⟨#[67, 76, 69]⟩] w fun e w' => e = .returned (.bool true) ∧ Below w.heap.size w w' := by
  have h := is_any ⟨#[67, 76, 69]⟩ (by decide) w
  rw [letters_cle, zipsM_all cle_facts.1 cle_facts.2.1] at h
  exact h
theorem is_cre (w : World) : Calls Try.prog 27 #[.string ⟨#[67, 82, 69]⟩] w fun e w' => e = .returned (.bool false) ∧ Below w.heap.size w w' := by
  have h := is_any ⟨#[67, 82, 69]⟩ (by decide) w
  rw [letters_cre, zipsM_not (by decide) cre_facts.2] at h
  exact h

/-- == of two triangles. -/
theorem eq3 (a b c a' b' c' : Int) (w : World) :
    (Op.equalIn 10000 57 (.agg #[.int .i64 a, .int .i64 b, .int .i64 c]) (.agg #[.int .i64 a', .int .i64 b', .int .i64 c'])).run Try.prog w = .ok (a == a' && (b == b' && c == c')) w := by
  show (Op.equalIn (9998 + 2) _ _ _).run _ _ = _
  rw [Op.equalIn]
  simp [run_underlying Try.underlying57, List.range'_succ, part, go_sem]
  repeat' split
  all_goals simp_all
set_option maxRecDepth 100000 in
set_option maxHeartbeats 2000000 in
theorem awake23_any (w : World) : Calls Try.prog 23 #[] w fun en w' => en = .returned (.bool true) ∧ Below w.heap.size w w' := by
  have q3 := @eq3
  go_enter Try.func23, Try.ntmps23
  go_wp2_with fail
  refine (zip_cle _).mono ?_
  rintro e w1 ⟨g, c, rfl, hr1, hb1⟩
  have hr1' := hr1.alloc (.cells #[.int .i64 4, .slice (some ⟨g, 0, none⟩) 4 c] 42)
  have hb := Blk.new w1 42 #[.int .i64 4, .slice (some ⟨g, 0, none⟩) 4 c]
  clear hr1
  go_wp2_with fail
  refine (zip_e _).mono ?_
  rintro e w2 ⟨rfl, hb2⟩
  have hB2 : Below w.heap.size w w2 := below_then hb1 hb1.size hb2
  have hr2 := hr1'.kept (grown_of_below hb2 none) (by cases h : (Value.slice (some ⟨g, 0, none⟩) 4 c).ownBlock <;> simp)
  obtain ⟨l0, q0, -, q1, -⟩ := (hb.below hb2 (by simp)).two
  have t3 := hr2.cellAt 3 (by omega)
  have t4 := hr2.cellAt 4 (by omega)
  have t5 := hr2.cellAt 5 (by omega)
  simp [triCells] at t3 t4 t5
  have hg2 : g < w2.heap.size := (hr2.lt g rfl).2
  clear hr1' hb hr2
  go_wp2_with fail
  refine (is_cle _).mono ?_
  rintro e w3 ⟨rfl, hb3⟩
  have hB3 : Below w.heap.size w w3 := below_then hB2 hB2.size hb3
  go_wp2_with fail
  refine (is_cre _).mono ?_
  rintro e w4 ⟨rfl, hb4⟩
  have hB4 := below_on hB3 hB3.size hb4
  go_wp2
  go_ret
  exact ⟨rfl, hB4⟩
end Go.Proofs.Ytgjcigokjfhfkaa
