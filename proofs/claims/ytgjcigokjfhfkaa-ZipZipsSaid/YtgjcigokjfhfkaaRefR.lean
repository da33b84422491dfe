/-
  The document's Right (layer 24), by walking its text.
-/
import Derived.Test.YtgjcigokjfhfkaaCount
import Derived.BigQuiet
import Derived.Deep.QuietTactic
import Derived.Deep.RegionLaw
namespace Go.Proofs.Ytgjcigokjfhfkaa
open Go.RowKit

/-- One letter more, from behind: the lengths of the loops that wait, the last one first. -/
def ref24Step (l : List Int) (c : Int) : Option (List Int) :=
  if c = 69 then some (3 :: l)
  else if c = 67 then (match l with | [] => none | x :: r => if x < 4 then none else some ((x - 1) :: r))
  else if c = 76 ∨ c = 82 then (match l with | [] => none | x :: r => some ((x + 1) :: r))
  else if c = 83 then (match l with | x :: y :: r => some ((x + y - 1) :: r) | _ => none)
  else none
def ref24Run (cs : List Int) : Option (List Int) := cs.foldlM ref24Step []
def isThree : List Int → Bool
  | [x] => x == 3
  | _ => false
def ref24M (zs : List Int) : Bool :=
  match ref24Run zs.reverse with
  | some l => isThree l
  | none => false

theorem ref24Run_snoc (cs : List Int) (c : Int) : ref24Run (cs ++ [c]) = (ref24Run cs).bind (fun p => ref24Step p c) := by
  simp [ref24Run, List.foldlM_append]
theorem ref24M_none {zs : List Int} (h : ∃ k, ref24Run (zs.reverse.take k) = none) : ref24M zs = false := by
  obtain ⟨k, hk⟩ := h
  have : ref24Run zs.reverse = none := by
    rw [← List.take_append_drop k zs.reverse]
    unfold ref24Run at hk ⊢
    rw [List.foldlM_append, hk]
    rfl
  unfold ref24M
  rw [this]
theorem rev_take_succ (zs : List Int) (k : Nat) (h : k < zs.length) : zs.reverse.take (k + 1) = zs.reverse.take k ++ [zs[zs.length - 1 - k]] := by
  rw [List.take_succ_eq_append_getElem (by simpa using h)]
  simp
def sumL : List Int → Int
  | [] => 0
  | x :: r => (x.natAbs : Int) + sumL r
theorem sumL_nonneg : ∀ st, 0 ≤ sumL st
  | [] => Int.le_refl _
  | x :: r => by have := sumL_nonneg r; simp only [sumL]; omega
theorem ref24Step_some {l l' : List Int} {c : Int} (h : ref24Step l c = some l') : sumL l' ≤ sumL l + 4 ∧ l'.length ≤ l.length + 1 := by
  unfold ref24Step at h
  split at h
  · cases h; simp [sumL]; omega
  · split at h
    · cases l with
      | nil => cases h
      | cons x r =>
        simp only at h
        split at h
        · cases h
        · cases h; simp [sumL]; omega
    · split at h
      · cases l with
        | nil => cases h
        | cons x r => cases h; simp [sumL]; omega
      · split at h
        · match l, h with
          | x :: y :: r, h => cases h; simp [sumL]; omega
        · cases h
theorem ref24Run_some {cs l : List Int} (h : ref24Run cs = some l) : sumL l ≤ 4 * cs.length ∧ l.length ≤ cs.length := by
  suffices H : ∀ (cs p q : List Int), cs.foldlM ref24Step p = some q → sumL q ≤ sumL p + 4 * cs.length ∧ q.length ≤ p.length + cs.length by
    have := H cs _ _ h
    simpa [sumL] using this
  intro cs
  induction cs with
  | nil => intro p q h; simp at h; subst h; simp
  | cons c r ih =>
    intro p q h
    rw [List.foldlM_cons] at h
    cases hs : ref24Step p c with
    | none => rw [hs] at h; cases h
    | some p' =>
      rw [hs] at h
      have h' := ih p' q h
      have h1 := ref24Step_some hs
      simp only [List.length_cons]
      omega

set_option maxRecDepth 100000 in
set_option maxHeartbeats 1000000 in
theorem ref24_any (s : ByteArray) (hs : s.size ≤ 1000000) (w : World) :
    Calls Try.prog 17 #[.string s] w fun e w' => e = .returned (.bool (ref24M (lettersOf s))) ∧ Below w.heap.size w w' := by
  have Hl := Lib.hid (lettersOf_length s)
  obtain ⟨i1, hi', hy0, hy1, hy2⟩ := info_parts info_int
  go_enter Try.func17, Try.ntmps17
  go_wp2
  go_loopw [3, 4, 2] (fun v i u wr => ∃ (k : Nat) (l : List Int) (v' : Value), v' = v ∧ u = .bool false ∧ k ≤ s.size ∧ i = .int .i64 ((s.size : Int) - 1 - k) ∧ ref24Run ((lettersOf s).reverse.take k) = some l ∧ wr.ownsRow w.heap.size 3 1 v' l.length (l.reverse.map (Value.int .i64)) ∧ Below w.heap.size w wr) (fun _ i _ _ => (intOf i + 1).toNat)
  case atStart => exact ⟨0, [], _, rfl, rfl, Nat.zero_le _, by simp, rfl, World.ownsRow_nil _ _ _ _, Below.refl _ _⟩
  case round =>
    obtain ⟨k, l, v, rfl, rfl, hk, rfl, hrun, hown, hB⟩ := hrel
    have hrs := ref24Run_some hrun
    rw [List.length_take, List.length_reverse, Hl.out] at hrs
    have hnn2 := sumL_nonneg l
    by_cases hlt : k < s.size
    · have hnn : (0 : Int) ≤ (s.size : Int) - 1 - k := by omega
      have hsn := rev_take_succ (lettersOf s) k (by rw [Hl.out]; exact hlt)
      have hat := letter_at s (s.size - 1 - k) (by omega)
      have hat2 : (lettersOf s)[(lettersOf s).length - 1 - k]'(by rw [Hl.out]; omega) = ((s[s.size - 1 - k]'(by omega)).toNat : Int) := by
        rw [← hat]; congr 1; rw [Hl.out]
      rw [hat2] at hsn
      have hstep := ref24Run_snoc ((lettersOf s).reverse.take k) ((s[s.size - 1 - k]'(by omega)).toNat : Int)
      rw [← hsn, hrun] at hstep
      simp only [Option.bind_some] at hstep
      have Hstep := Lib.hid hstep
      have hl1 : l.length ≤ 1000000 := by omega
      have hl2 : sumL l ≤ 4000000 := by omega
      have c3 : l.length + 1 ≤ maxLen := by unfold maxLen; omega
      have c4 : (l.length + 1) * 8 ≤ 140737488355328 := by omega
      clear hstep hsn hat hat2 hrun hrs
      rcases l with _ | ⟨x, r⟩
      · obtain ⟨ao, cp, rfl⟩ : ∃ ao cp, v = .slice ao 0 cp := by
          rcases hown.2 with ⟨rfl, _⟩ | ⟨g, cap, cur, rfl, _⟩
          · exact ⟨_, _, rfl⟩
          · exact ⟨_, _, rfl⟩
        have hca := cells_new wr [.int .i64 3] 3
        have Hca := Lib.hid hca
        clear hca
        go_wp2_with (at_builtin; refine wpList_append_own _ rfl (.tmp 20) (.tmp 21) 52 rfl w.heap.size 3 i1 _ 1 8 Try.underlying52 hi' hy0 hy1 hy2 rfl (by decide) _ _ _ rfl (hown.alloc _) ⟨wr.heap.size, 0, none⟩ 1 1 [.int .i64 3] rfl rfl Hca.out (by simp [Value.oneCell']) c3 c4 (by simp; have := hB.size; omega) ?_; intro v4 W4 hr4 hg4 _)
        · have hc : (((s[s.size - 1 - k]'(by omega)).toNat : Int) == 69) = true := by assumption
          go_roundw
          case measure => simp [intOf]; omega
          case rel => exact ⟨k + 1, [3], _, rfl, rfl, by omega, by congr 1; omega, by rw [Hstep.out]; simp_all [ref24Step], by simpa using hr4, hB.grown (gGrown (gAlloc (World.grownBy.refl _ _) _) hg4 (row := (Value.slice ao 0 cp).ownBlock) (fun j e => .inl e)) hB.size (fun j e => (hown.lt j e).1)⟩
        all_goals
          go_ret
          exact ⟨by rw [ref24M_none ⟨k + 1, by rw [Hstep.out]; simp_all [ref24Step]⟩]; rfl, hB⟩
      · obtain ⟨g, cp, rfl⟩ := ownsRow_succ hown
        have hgl := (hown.lt g rfl).2
        have hgb := (hown.lt g rfl).1
        have e1 : (x :: r).reverse.map (Value.int .i64) = r.reverse.map (Value.int .i64) ++ [.int .i64 x] := by simp
        rw [e1, List.length_cons] at hown
        have k0 : wr.cell? ⟨g, r.length, none⟩ = some (.int .i64 x) := by
          rw [hown.cellAt r.length (by simp)]; simp
        have f0 : wr.frozen? ⟨g, r.length, none⟩ = false := hown.frozenAt r.length
        have hx1 : x ≤ 4000000 := by have := sumL_nonneg r; simp only [sumL] at hl2; omega
        have hx2 : -4000000 ≤ x := by have := sumL_nonneg r; simp only [sumL] at hl2; omega
        have hlr : r.length + 1 ≤ 1000000 := by simpa using hl1
        have hcap : r.length + 1 ≤ cp ∧ cp ≤ maxLen := by
          rcases hown.2 with ⟨h', _⟩ | ⟨g', cap', cur, h', _, _, h3, h4, _⟩
          · cases h'
          · cases h'; exact ⟨h3, h4⟩
        have Hcap := Lib.hid hcap
        have Hown := Lib.hid hown
        have hst : ∀ u : Int, (wr.setCell ⟨g, r.length, none⟩ (.int .i64 u)).ownsRow w.heap.size 3 1 (.slice (some ⟨g, 0, none⟩) (r.length + 1) cp) (r.length + 1) ((u :: r).reverse.map (Value.int .i64)) := by
          intro u
          have := (hown.stored r.length (.int .i64 u)).1
          have e2 : (r.reverse.map (Value.int .i64) ++ [Value.int .i64 x]).set r.length (.int .i64 u) = (u :: r).reverse.map (Value.int .i64) := by
            rw [List.set_append_right _ _ (by simp)]; simp
          rw [e2] at this
          exact this
        have Hst := Lib.hid hst
        have Hsum := Lib.hid hl2
        clear hst e1 hcap hl1 hl2 hnn2 hown c3 c4
        have hca := cells_new wr [.int .i64 3] 3
        have Hca := Lib.hid hca
        clear hca
        by_cases hS : (((s[s.size - 1 - k]'(by omega)).toNat : Int) == 83) = true
        · have hS1 : (((s[s.size - 1 - k]'(by omega)).toNat : Int) == 69) = false := by simp at hS; simp [hS]
          have hS2 : (((s[s.size - 1 - k]'(by omega)).toNat : Int) == 67) = false := by simp at hS; simp [hS]
          have hS3 : (((s[s.size - 1 - k]'(by omega)).toNat : Int) == 76) = false := by simp at hS; simp [hS]
          have hS4 : (((s[s.size - 1 - k]'(by omega)).toNat : Int) == 82) = false := by simp at hS; simp [hS]
          rcases r with _ | ⟨y, r⟩
          · go_wp2
            go_ret
            exact ⟨by rw [ref24M_none ⟨k + 1, by rw [Hstep.out]; simp_all [ref24Step]⟩]; rfl, hB⟩
          · have k1 : wr.cell? ⟨g, r.length, none⟩ = some (.int .i64 y) := by
              rw [Hown.out.cellAt r.length (by simp; omega)]; simp
            have yb1 : y ≤ 4000000 := by have := Hsum.out; have := sumL_nonneg r; simp only [sumL] at *; omega
            have yb2 : -4000000 ≤ y := by have := Hsum.out; have := sumL_nonneg r; simp only [sumL] at *; omega
            have hcap2 : r.length + 1 + 1 ≤ cp := by have := Hcap.out.1; simp at this; omega
            have hcap3 : cp ≤ 9223372036854775807 := by have := Hcap.out.2; unfold maxLen at this; omega
            have hrl : r.length + 2 ≤ 1000000 := by simp at hlr; omega
            have hcut : wr.ownsRow w.heap.size 3 1 (.slice (some ⟨g, 0, none⟩) r.length cp) r.length (r.reverse.map (Value.int .i64)) := by
              have h0 := Hown.out
              have e3 : ((y :: r).reverse.map (Value.int .i64) ++ [Value.int .i64 x]) = r.reverse.map (Value.int .i64) ++ [Value.int .i64 y, Value.int .i64 x] := by simp
              rw [e3] at h0
              exact cut_own h0 (by simp) (by simp; omega)
            have Hcut := Lib.hid hcut
            clear hcut hlr
            go_wp2
            have hca2 := cells_new wr.drew [.int .i64 (x + y - 1)] 3
            have Hca2 := Lib.hid hca2
            clear hca2
            have hsz0 := hB.size
            have k0' : wr.cell? ⟨g, r.length + 1, none⟩ = some (.int .i64 x) := by simpa using k0
            have f0' : wr.frozen? ⟨g, r.length + 1, none⟩ = false := by simpa using f0
            clear k0 f0
            have w1 : IntKind.i64.wrap ((r.length : Int) + 1 + 1 - 2) = (r.length : Int) := by rw [IntWalk.i64_in _ (by omega)]; omega
            have w2 : IntKind.i64.wrap ((r.length : Int) + 1 + 1 - 1) = (r.length : Int) + 1 := by rw [IntWalk.i64_in _ (by omega)]; omega
            have w2' : IntKind.i64.wrap ((r.length : Int) + 1) = (r.length : Int) + 1 := IntWalk.i64_in _ (by omega)
            have w3 : ((r.length : Int) + 1).toNat = r.length + 1 := by omega
            have w4 : IntKind.i64.wrap (x + y) = x + y := IntWalk.i64_in _ (by omega)
            have w5 : IntKind.i64.wrap (x + y - 1) = x + y - 1 := IntWalk.i64_in _ (by omega)
            have w6 : (r.length : Int) ≤ (cp : Int) := by omega
            have w7 : (0 : Int) ≤ (r.length : Int) + 1 := by omega
            have w8 : (r.length : Int) < (r.length : Int) + 1 + 1 := by omega
            have w9 : (r.length : Int) + 1 < (r.length : Int) + 1 + 1 := by omega
            go_region_law (refine step_append_own _ rfl (.tmp 67) (.tmp 80) 52 rfl w.heap.size 3 i1 _ 1 8 Try.underlying52 hi' hy0 hy1 hy2 rfl (by decide) _ _ _ rfl (World.ownsRow.alloc (World.ownsRow.drew Hcut.out) _) ⟨wr.heap.size, 0, none⟩ 1 1 [.int .i64 (x + y - 1)] rfl rfl Hca2.out (by simp [Value.oneCell']) (by unfold maxLen; omega) (by omega) (by simp; omega) ?_; intro v4 W4 hr4 hg4 _)
            all_goals
              go_wp2
              go_roundw
              case measure => simp [intOf]; omega
              case rel =>
                refine ⟨k + 1, (x + y - 1) :: r, _, rfl, rfl, by omega, by congr 1; omega, by rw [Hstep.out]; simp_all [ref24Step], by simpa using hr4, ?_⟩
                first
                  | exact hB.grown (gGrown (gAlloc (gDrew (World.grownBy.refl _ _)) _) hg4 (row := some g) (fun j e => .inl e)) hB.size (fun j e => by cases e; exact hgb)
                  | exact hB.grown (gGrown (gDrew (gAlloc (World.grownBy.refl _ _) _)) hg4 (row := some g) (fun j e => .inl e)) hB.size (fun j e => by cases e; exact hgb)
        · have hS' : (((s[s.size - 1 - k]'(by omega)).toNat : Int) == 83) = false := by simpa using hS
          clear hS
          go_wp2_with (at_builtin; refine wpList_append_own _ rfl (.tmp 20) (.tmp 21) 52 rfl w.heap.size 3 i1 _ 1 8 Try.underlying52 hi' hy0 hy1 hy2 rfl (by decide) _ _ _ rfl (Hown.out.alloc _) ⟨wr.heap.size, 0, none⟩ 1 1 [.int .i64 3] rfl rfl Hca.out (by simp [Value.oneCell']) (by unfold maxLen; omega) (by omega) (by simp; have := hB.size; omega) ?_; intro v4 W4 hr4 hg4 _)
          · have hc : (((s[s.size - 1 - k]'(by omega)).toNat : Int) == 69) = true := by assumption
            go_roundw
            case measure => simp [intOf]; omega
            case rel => exact ⟨k + 1, 3 :: x :: r, _, rfl, rfl, by omega, by congr 1; omega, by rw [Hstep.out]; simp_all [ref24Step], by simpa using hr4, hB.grown (gGrown (gAlloc (World.grownBy.refl _ _) _) hg4 (row := some g) (fun j e => .inl e)) hB.size (fun j e => by cases e; exact hgb)⟩
          · have h4 : (r.length : Int) + 1 < 1 ∨ x < 4 := by assumption
            have hx4 : x < 4 := by omega
            clear h4
            go_ret
            exact ⟨by rw [ref24M_none ⟨k + 1, by rw [Hstep.out]; simp_all [ref24Step]⟩]; rfl, hB⟩
          · have h4 : 1 ≤ (r.length : Int) + 1 ∧ 4 ≤ x := by assumption
            have hx4 : ¬ x < 4 := by omega
            clear h4
            go_roundw
            case measure => simp [intOf]; omega
            case rel => exact ⟨k + 1, (x - 1) :: r, _, rfl, rfl, by omega, by congr 1; omega, by rw [Hstep.out]; simp_all [ref24Step], Hst.out (x - 1), hB.setCell (p := ⟨g, r.length, none⟩) hgb _⟩
          · go_roundw
            case measure => simp [intOf]; omega
            case rel => exact ⟨k + 1, (x + 1) :: r, _, rfl, rfl, by omega, by congr 1; omega, by rw [Hstep.out]; simp_all [ref24Step], Hst.out (x + 1), hB.setCell (p := ⟨g, r.length, none⟩) hgb _⟩
          · go_roundw
            case measure => simp [intOf]; omega
            case rel => exact ⟨k + 1, (x + 1) :: r, _, rfl, rfl, by omega, by congr 1; omega, by rw [Hstep.out]; simp_all [ref24Step], Hst.out (x + 1), hB.setCell (p := ⟨g, r.length, none⟩) hgb _⟩
          · go_ret
            exact ⟨by rw [ref24M_none ⟨k + 1, by rw [Hstep.out]; simp_all [ref24Step]⟩]; rfl, hB⟩
    · obtain rfl : k = s.size := by omega
      have e : (lettersOf s).reverse.take s.size = (lettersOf s).reverse := by rw [← Hl.out]; exact List.take_of_length_le (by simp)
      have hM : ref24M (lettersOf s) = isThree l := by rw [e] at hrun; unfold ref24M; rw [hrun]
      have HM := Lib.hid hM
      clear hM e hrun hrs hlt
      rcases l with _ | ⟨x, _ | ⟨y, r⟩⟩
      · obtain ⟨ao, cp, rfl⟩ : ∃ ao cp, v = .slice ao 0 cp := by
          rcases hown.2 with ⟨rfl, _⟩ | ⟨g, cap, cur, rfl, _⟩
          · exact ⟨_, _, rfl⟩
          · exact ⟨_, _, rfl⟩
        go_wp2
        go_ret
        exact ⟨by rw [HM.out]; rfl, hB⟩
      · obtain ⟨g, cp, rfl⟩ := ownsRow_succ hown
        have k0 : wr.cell? ⟨g, 0, none⟩ = some (.int .i64 x) := by
          rw [hown.cellAt 0 (by simp)]; simp
        go_wp2
        go_ret
        exact ⟨by rw [HM.out]; rfl, hB⟩
      · obtain ⟨g, cp, rfl⟩ := ownsRow_succ hown
        have hl1 : (((r.length : Int) + 1 + 1) == 1) = false := by simp; omega
        have Hown := Lib.hid hown
        clear hown hnn2
        go_wp2
        go_ret
        exact ⟨by rw [HM.out]; rfl, hB⟩
end Go.Proofs.Ytgjcigokjfhfkaa
