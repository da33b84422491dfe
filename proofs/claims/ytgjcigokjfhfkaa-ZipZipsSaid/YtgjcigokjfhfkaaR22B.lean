/-
  gypsumref22: Lengths, Right, times, Begins, Least, by walking their texts.
-/
import Derived.Test.YtgjcigokjfhfkaaR22
namespace Go.Proofs.Ytgjcigokjfhfkaa
open Go.RowKit

/-- The length of the word that begins at a place. -/
def headAt (zs : List Int) (p : Nat) : Int := ((exAt zs p).getD []).headD 0
def headsTo (zs : List Int) (k : Nat) : List Int := (List.range k).map (headAt zs)
theorem headsTo_succ (zs : List Int) (k : Nat) : headsTo zs (k + 1) = headsTo zs k ++ [headAt zs k] := by simp [headsTo, List.range_succ]
theorem headsTo_length (zs : List Int) (k : Nat) : (headsTo zs k).length = k := by simp [headsTo]
theorem exAt_head {zs : List Int} {x0 : Int} (h : exRun zs.reverse = some [x0]) {p : Nat} (hp : p < zs.length) : ∃ r, exAt zs p = some (headAt zs p :: r) := by
  obtain ⟨l, hl⟩ := exAt_some h p (by omega)
  have hst := exAt_step zs p hp
  obtain ⟨q, hq⟩ := exAt_some h (p + 1) (by omega)
  rw [hl, hq] at hst
  simp only [Option.bind_some] at hst
  have := (exStep_len (l := q)).1 _ hst.symm
  match l, hl, this with
  | x :: r, hl, _ => exact ⟨r, by unfold headAt; rw [hl]; rfl⟩
  | [], _, this => simp at this
theorem right22_iff {zs : List Int} {x0 : Int} (h : exRun zs.reverse = some [x0]) : ref24M zs = true ↔ headAt zs 0 = 3 ∧ ∀ p, p < zs.length → 3 ≤ headAt zs p := by
  have hx0 : headAt zs 0 = x0 := by unfold headAt; rw [exAt_zero, h]; rfl
  constructor
  · intro hr
    have h3 := run_of_right hr
    have h4 := ex_of_st (zs := zs) (p := 0) (l := [3]) (by rw [stAt_zero]; exact h3)
    refine ⟨by unfold headAt; rw [h4]; rfl, fun p hp => ?_⟩
    obtain ⟨l, hl⟩ := stAt_some h3 p (by omega)
    have h5 := ex_of_st hl
    obtain ⟨r, h6⟩ := exAt_head h hp
    rw [h5] at h6
    cases h6
    exact run_all3 hl _ (by simp)
  · rintro ⟨h1, h2⟩
    refine right_of_ex (by rw [h, ← hx0, h1]) fun p x r hp hx => ?_
    have := h2 p hp
    unfold headAt at this
    rw [hx] at this
    exact this
theorem headAt_bound {zs : List Int} {p : Nat} : -(4 * (zs.length : Int)) ≤ headAt zs p ∧ headAt zs p ≤ 4 * zs.length := by
  unfold headAt
  cases h : exAt zs p with
  | none => simp; omega
  | some l =>
    have := exAt_bound h
    cases l with
    | nil => simp; omega
    | cons x r =>
      have h2 := sumL_nonneg r
      simp only [sumL] at this
      simp only [Option.getD_some, List.headD_cons]
      omega

set_option maxRecDepth 100000 in
set_option maxHeartbeats 1000000 in
theorem lengths22_none (s : ByteArray) (hs : s.size ≤ 100000) (h : missM (lettersOf s) ≠ 0) (w : World) :
    Calls Try.prog 49 #[.string s] w fun e w' => e = .returned (.tuple #[.slice none 0 0, .bool false]) ∧ Below w.heap.size w w' := by
  have hb : (missM (lettersOf s) != 0) = true := by simpa using h
  have hM := missing_any s (by omega)
  generalize missM (lettersOf s) = m at *
  clear h
  go_enter Try.func49, Try.ntmps49
  go_wp2_with fail
  refine (hM _).mono ?_
  rintro e w1 ⟨rfl, rfl⟩
  go_wp2
  go_ret2
  exact ⟨rfl, Below.refl _ _⟩

set_option maxRecDepth 100000 in
set_option maxHeartbeats 1000000 in
theorem lengths22_some (s : ByteArray) (hs : s.size ≤ 100000) (h : missM (lettersOf s) = 0) (w : World) :
    Calls Try.prog 49 #[.string s] w fun e w' => ∃ v, e = .returned (.tuple #[v, .bool true]) ∧ w'.ownsRow w.heap.size 3 1 v s.size ((headsTo (lettersOf s) s.size).map (Value.int .i64)) ∧ Below w.heap.size w w' := by
  have hM := missing_any s (by omega)
  obtain ⟨x0, hx0⟩ := (miss_zero _).1 h
  rw [h] at hM
  have HX := Lib.hid hx0
  have HL := Lib.hid (lettersOf_length s)
  obtain ⟨i1, hi', hy0, hy1, hy2⟩ := info_parts info_int
  clear h hx0
  go_enter Try.func49, Try.ntmps49
  go_wp2_with fail
  refine (hM _).mono ?_
  rintro e w1 ⟨rfl, rfl⟩
  go_wp2
  clear hM
  go_loopw [4, 5] (fun v i wr => ∃ (k : Nat) (v' : Value), v' = v ∧ k ≤ s.size ∧ i = .int .i64 k ∧ wr.ownsRow w1.heap.size 3 1 v' k ((headsTo (lettersOf s) k).map (Value.int .i64)) ∧ Below w1.heap.size w1 wr) (fun _ i _ => s.size - (intOf i).toNat)
  case atStart =>
    refine ⟨0, _, rfl, Nat.zero_le _, rfl, ?_, (Below.refl _ _).alloc (Nat.le_refl _) _⟩
    exact World.ownsRow_lit w1 #[] 0 (Nat.le_refl _) (by decide) rfl
  case round =>
    obtain ⟨k, v, rfl, hk, rfl, hr, hB⟩ := hrel
    by_cases hlt : k < s.size
    · obtain ⟨r, hx⟩ := exAt_head HX.out (p := k) (by rw [HL.out]; exact hlt)
      have hlen := length_any s hs (s.size - k) k (Nat.le_refl _) _ _ hx
      have hbd := headAt_bound (zs := lettersOf s) (p := k)
      rw [HL.out] at hbd
      have hsu := headsTo_succ (lettersOf s) k
      have Hsu := Lib.hid hsu
      have Hlen := Lib.hid hlen
      have c3 : k + 1 ≤ maxLen := by unfold maxLen; omega
      have c4 : (k + 1) * 8 ≤ 140737488355328 := by omega
      have hsz := hB.size
      generalize headAt (lettersOf s) k = x at *
      clear hx hsu hlen
      have hca := cells_new wr [.int .i64 x] 3
      have Hca := Lib.hid hca
      clear hca
      go_wp2_with (first
        | (go_at_call 57; refine (Hlen.out _).mono ?_; rintro e w' ⟨⟨nx, rfl, -, -, -⟩, rfl⟩)
        | (at_builtin; refine wpList_append_own _ rfl (.tmp 24) (.tmp 26) 52 rfl w1.heap.size 3 i1 _ 1 8 Try.underlying52 hi' hy0 hy1 hy2 rfl (by decide) _ _ _ rfl (hr.alloc _) ⟨w'.heap.size, 0, none⟩ 1 1 [.int .i64 x] rfl rfl Hca.out (by simp [Value.oneCell']) c3 c4 (by simp; omega) ?_; intro v4 W4 hr4 hg4 _))
      go_roundw
      case measure => simp [intOf]; omega
      case rel =>
        refine ⟨k + 1, _, rfl, by omega, by go_num, ?_, hB.grown (gGrown (World.grownBy_alloc w' _ _) hg4 (row := v.ownBlock) (fun j e => .inl e)) hB.size (fun j e => (hr.lt j e).1)⟩
        rw [Hsu.out, List.map_append]
        exact hr4
    · obtain rfl : k = s.size := by omega
      go_wp2
      go_ret2
      exact ⟨_, rfl, hr, hB⟩

set_option maxRecDepth 100000 in
set_option maxHeartbeats 1000000 in
theorem right22_any (s : ByteArray) (hs : s.size ≤ 100000) (w : World) : Calls Try.prog 36 #[.string s] w fun e w' => e = .returned (.bool (ref24M (lettersOf s))) ∧ Below w.heap.size w w' := by
  have hl := lettersOf_length s
  by_cases hm : missM (lettersOf s) = 0
  · obtain ⟨x0, hx0⟩ := (miss_zero _).1 hm
    have hiff := right22_iff hx0
    have hpos : 0 < s.size := by
      rw [← hl]
      cases hz : lettersOf s with
      | nil => rw [hz] at hx0; cases hx0
      | cons c r => simp
    have hbd := fun p => headAt_bound (zs := lettersOf s) (p := p)
    rw [hl] at hiff
    have HI := Lib.hid hiff
    have HM := Lib.hid hm
    have hlen := fun k => headsTo_length (lettersOf s) k
    clear hiff hx0 hm hl
    go_enter Try.func36, Try.ntmps36
    go_wp2_with fail
    refine (lengths22_some s hs HM.out _).mono ?_
    rintro e w1 ⟨v, rfl, hr, hb⟩
    obtain ⟨n, hn⟩ : ∃ n, s.size = n + 1 := ⟨s.size - 1, by omega⟩
    rw [hn] at hr HI
    obtain ⟨g, c, rfl⟩ := ownsRow_succ hr
    have cell : ∀ p, p < n + 1 → w1.cell? ⟨g, p, none⟩ = some (.int .i64 (headAt (lettersOf s) p)) := fun p hp => by
      rw [hr.cellAt p (by omega)]
      simp [headsTo, List.getElem?_range hp]
    have c0 := cell 0 (by omega)
    have HC := Lib.hid cell
    have hnb : n + 1 ≤ 100000 := by omega
    clear hr hlen hpos hbd cell hn
    by_cases h3 : headAt (lettersOf s) 0 = 3
    · have hb3 : (headAt (lettersOf s) 0 != 3) = false := by simpa using h3
      have H3 := Lib.hid h3
      obtain ⟨x1, hx1⟩ : ∃ x, headAt (lettersOf s) 0 = x := ⟨_, rfl⟩
      rw [hx1] at c0 hb3
      clear hx1
      clear h3
      go_wp2
      go_loopw [5] (fun i wr => ∃ k : Nat, k ≤ n + 1 ∧ i = .int .i64 k ∧ (∀ p, p < k → 3 ≤ headAt (lettersOf s) p) ∧ wr = w1) (fun i _ => n + 1 - (intOf i).toNat)
      case atStart => exact ⟨0, by omega, rfl, fun p hp => by omega, rfl⟩
      case round =>
        obtain ⟨k, hk, rfl, hall, rfl⟩ := hrel
        have Hall := Lib.hid hall
        clear hall
        by_cases hlt : k < n + 1
        · have ck := HC.out k hlt
          have hk3 : (k : Int) < (n : Int) + 1 := by omega
          have hk0 : (0 : Int) ≤ (k : Int) := by omega
          by_cases hx : headAt (lettersOf s) k < 3
          · have hxb : decide (headAt (lettersOf s) k < 3) = true := by simpa using hx
            have : ref24M (lettersOf s) = false := by
              cases hh : ref24M (lettersOf s) with
              | false => rfl
              | true => have := (HI.out.1 hh).2 k hlt; omega
            have HR := Lib.hid this
            clear this hx
            go_wp2
            go_ret
            exact ⟨by rw [HR.out]; rfl, hb⟩
          · have hxb : decide (headAt (lettersOf s) k < 3) = false := by simpa using hx
            have HX := Lib.hid hx
            clear hx
            go_wp2
            go_roundw
            case measure => simp [intOf]; omega
            case rel =>
              refine ⟨k + 1, by omega, by go_num, fun p hp => ?_, trivial⟩
              rcases Nat.lt_or_ge p k with h1 | h1
              · exact Hall.out p h1
              · obtain rfl : p = k := by omega
                have := HX.out
                omega
        · obtain rfl : k = n + 1 := by omega
          have : ref24M (lettersOf s) = true := HI.out.2 ⟨H3.out, Hall.out⟩
          have HR := Lib.hid this
          clear this
          go_wp2
          go_ret
          exact ⟨by rw [HR.out]; rfl, hb⟩
    · have hb3 : (headAt (lettersOf s) 0 != 3) = true := by simpa using h3
      have : ref24M (lettersOf s) = false := by
        cases hh : ref24M (lettersOf s) with
        | false => rfl
        | true => exact absurd (HI.out.1 hh).1 h3
      have HR := Lib.hid this
      clear this h3
      go_wp2
      go_ret
      exact ⟨by rw [HR.out]; rfl, hb⟩
  · have hr : ref24M (lettersOf s) = false := by
      cases hh : ref24M (lettersOf s) with
      | false => rfl
      | true => exact absurd (miss_right hh) hm
    have HR := Lib.hid hr
    clear hr
    go_enter Try.func36, Try.ntmps36
    go_wp2_with fail
    refine (lengths22_none s hs hm _).mono ?_
    rintro e w1 ⟨rfl, hb⟩
    go_wp2
    go_ret
    exact ⟨by rw [HR.out]; rfl, hb⟩
set_option maxRecDepth 100000 in
set_option maxHeartbeats 1000000 in
theorem times_any (s : ByteArray) (n : Nat) (hn : n ≤ 100000) (h1 : s.size ≤ 1) (w : World) : Calls Try.prog 58 #[.string s, .int .i64 (n : Int)] w fun e w' => (∃ t : ByteArray, e = .returned (.string t) ∧ lettersOf t = (List.replicate n (lettersOf s)).flatten) ∧ w' = w := by
  go_enter Try.func58, Try.ntmps58
  go_wp2
  go_loop [5, 6] (fun v i => ∃ (k : Nat) (t : ByteArray), k ≤ n ∧ i = .int .i64 k ∧ v = .string t ∧ lettersOf t = (List.replicate k (lettersOf s)).flatten) (fun _ i => n - (intOf i).toNat)
  case atStart => exact ⟨0, ⟨#[]⟩, Nat.zero_le _, rfl, rfl, rfl⟩
  case round =>
    obtain ⟨k, t, hk, rfl, rfl, ht⟩ := hrel
    have hts : t.size ≤ k := by
      have h2 := lettersOf_length t
      rw [ht] at h2
      simp at h2
      have h3 := lettersOf_length s
      rw [h3] at h2
      rw [← h2]
      rcases Nat.le_one_iff_eq_zero_or_eq_one.1 h1 with h | h <;> rw [h] <;> omega
    by_cases hlt : k < n
    · have HT := Lib.hid ht
      clear ht
      go_wp2
      go_round
      case measure => simp [intOf]; omega
      case rel => exact ⟨k + 1, t ++ s, by omega, by go_num, rfl, by rw [lettersOf_append, HT.out, List.replicate_succ']; simp⟩
    · obtain rfl : k = n := by omega
      have HT := Lib.hid ht
      clear ht
      go_wp2
      go_ret
      exact ⟨⟨t, rfl, HT.out⟩, rfl⟩
theorem flat_one (n : Nat) (c : Int) : (List.replicate n [c]).flatten = List.replicate n c := by
  induction n with
  | zero => rfl
  | succ n ih => rw [List.replicate_succ, List.flatten_cons, ih, List.replicate_succ]; rfl
theorem times_L (n : Nat) (hn : n ≤ 100000) (w : World) : Calls Try.prog 58 #[.string ⟨#[76]⟩, .int .i64 (n : Int)] w fun e w' => (∃ t : ByteArray, e = .returned (.string t) ∧ lettersOf t = List.replicate n 76) ∧ w' = w := by
  refine (times_any ⟨#[76]⟩ n hn (by decide) w).mono ?_
  rintro e w' ⟨⟨t, rfl, ht⟩, rfl⟩
  exact ⟨⟨t, rfl, by rw [ht, show lettersOf ⟨#[76]⟩ = [76] from by decide, flat_one]⟩, rfl⟩
theorem times_E (n : Nat) (hn : n ≤ 100000) (w : World) : Calls Try.prog 58 #[.string ⟨#[69]⟩, .int .i64 (n : Int)] w fun e w' => (∃ t : ByteArray, e = .returned (.string t) ∧ lettersOf t = List.replicate n 69) ∧ w' = w := by
  refine (times_any ⟨#[69]⟩ n hn (by decide) w).mono ?_
  rintro e w' ⟨⟨t, rfl, ht⟩, rfl⟩
  exact ⟨⟨t, rfl, by rw [ht, show lettersOf ⟨#[69]⟩ = [69] from by decide, flat_one]⟩, rfl⟩
theorem missGo_le (zs : List Int) : ∀ m : Int, 0 ≤ m → missGo zs m ≤ m + zs.length := by
  induction zs with
  | nil => intro m h; simp [missGo]
  | cons c r ih =>
    intro m h
    rw [missGo_cons]
    have ht := (takesM_le c).2
    simp only [List.length_cons]
    split
    · omega
    · have := ih (m - 1 + takesM c) (by omega)
      omega

set_option maxRecDepth 100000 in
set_option maxHeartbeats 1000000 in
theorem begins22_any (s : ByteArray) (hs : s.size ≤ 1000) (w : World) : Calls Try.prog 50 #[.string s] w fun e w' => e = .returned (.bool (beginsM (lettersOf s))) ∧ Below w.heap.size w w' := by
  have hl := lettersOf_length s
  rw [← beg22_eq]
  have hM := missing_any s (by omega)
  have hle := missGo_le (lettersOf s) 1 (by omega)
  have hneg := missGo_neg (lettersOf s) 1 (by omega)
  rw [hl] at hle
  obtain ⟨B, hB⟩ : ∃ B, beg22 (lettersOf s) = B := ⟨_, rfl⟩
  rw [hB]
  unfold beg22 at hB
  unfold missM at hM hB
  rw [hl] at hB
  by_cases hm : missGo (lettersOf s) 1 < 0
  · rw [if_pos hm] at hB
    subst hB
    have hm1 : missGo (lettersOf s) 1 = -1 := by omega
    rw [hm1] at hM
    clear hm hm1 hle hneg hl
    go_enter Try.func50, Try.ntmps50
    go_wp2_with fail
    refine (hM _).mono ?_
    rintro e w1 ⟨rfl, rfl⟩
    go_wp2
    go_ret
    exact ⟨rfl, Below.refl _ _⟩
  · rw [if_neg hm] at hB
    by_cases h0 : missGo (lettersOf s) 1 = 0
    · rw [if_pos h0] at hB
      subst hB
      rw [h0] at hM
      clear hm h0 hle hneg hl
      go_enter Try.func50, Try.ntmps50
      go_wp2_with fail
      refine (hM _).mono ?_
      rintro e w1 ⟨rfl, rfl⟩
      go_wp2_with fail
      refine (right22_any s (by omega) _).mono ?_
      rintro e w2 ⟨rfl, hb⟩
      go_wp2
      go_ret
      exact ⟨rfl, hb⟩
    · rw [if_neg h0] at hB
      obtain ⟨m, hmm⟩ : ∃ m : Nat, missGo (lettersOf s) 1 = m := ⟨(missGo (lettersOf s) 1).toNat, by omega⟩
      rw [hmm] at hM hB hle h0
      have hm1 : 1 ≤ m := by omega
      have hm2 : m ≤ 1001 := by omega
      rw [Int.toNat_natCast] at hB
      have hmb : ((m : Int) == 0) = false := by simp; omega
      have HB := Lib.hid hB
      clear hm h0 hle hneg hl hmm hB
      go_enter Try.func50, Try.ntmps50
      go_wp2_with fail
      refine (hM _).mono ?_
      rintro e w1 ⟨rfl, rfl⟩
      clear hM
      go_wp2
      go_loopw [4] (fun i wr => ∃ k : Nat, k ≤ s.size + 2 ∧ i = .int .i64 k ∧ (∀ j, j < k → ref24M (lettersOf s ++ extL j m) = false) ∧ Below w1.heap.size w1 wr) (fun i _ => s.size + 2 - (intOf i).toNat)
      case atStart => exact ⟨0, Nat.zero_le _, rfl, fun j hj => by omega, Below.refl _ _⟩
      case round =>
        obtain ⟨k, hk, rfl, hall, hb⟩ := hrel
        have Hall := Lib.hid hall
        clear hall
        by_cases hlt : k < s.size + 2
        · go_wp2_with fail
          refine (times_L k (by omega) _).mono ?_
          rintro e w2 ⟨⟨t1, rfl, ht1⟩, rfl⟩
          have hz1 : t1.size = k := by rw [← lettersOf_length, ht1, List.length_replicate]
          have HT1 := Lib.hid ht1
          clear ht1
          go_wp2_with fail
          refine (times_E m (by omega) _).mono ?_
          rintro e w2 ⟨⟨t2, rfl, ht2⟩, rfl⟩
          have hz2 : t2.size = m := by rw [← lettersOf_length, ht2, List.length_replicate]
          have HT2 := Lib.hid ht2
          clear ht2
          go_wp2_with fail
          refine (right22_any (s ++ t1 ++ t2) (by simp; omega) _).mono ?_
          rw [lettersOf_append, lettersOf_append, HT1.out, HT2.out, List.append_assoc, show List.replicate k (76 : Int) ++ List.replicate m 69 = extL k m from rfl]
          rintro e w3 ⟨rfl, hb3⟩
          have hB3 := below_on hb hb.size hb3
          cases hr : ref24M (lettersOf s ++ extL k m)
          · have HR := Lib.hid hr
            clear hr
            go_wp2
            go_roundw
            case measure => simp [intOf]; omega
            case rel =>
              refine ⟨k + 1, by omega, by go_num, fun j hj => ?_, hB3⟩
              rcases Nat.lt_or_ge j k with h1 | h1
              · exact Hall.out j h1
              · obtain rfl : j = k := by omega
                exact HR.out
          · have HR := Lib.hid hr
            clear hr
            go_wp2
            go_ret
            have : B = true := by
              rw [← HB.out, List.any_eq_true]
              exact ⟨k, List.mem_range.2 hlt, HR.out⟩
            rw [this]
            exact ⟨rfl, hB3⟩
        · obtain rfl : k = s.size + 2 := by omega
          have : B = false := by
            rw [← HB.out, List.any_eq_false]
            intro j hj
            rw [Hall.out j (List.mem_range.1 hj)]
            decide
          have HBF := Lib.hid this
          clear this
          go_wp2
          go_ret
          rw [HBF.out]
          exact ⟨rfl, hb⟩

set_option maxRecDepth 100000 in
set_option maxHeartbeats 1000000 in
theorem least22_any (s : ByteArray) (hs : s.size ≤ 1000) (h : ref24M (lettersOf s) = false) (r : Nat) (hr : LeastAt (lettersOf s) r) (w : World) : Calls Try.prog 37 #[.string s] w fun e w' => e = .returned (.int .i64 (r : Int)) ∧ Below w.heap.size w w' := by
  have hl := lettersOf_length s
  have hf := least_first hr
  have hle := hr.1
  have hbad := hr.2.1
  rw [hl] at hle hbad
  have HF := Lib.hid hf
  have HBad := Lib.hid hbad
  have H := Lib.hid h
  clear hf hbad h hr hl
  go_enter Try.func37, Try.ntmps37
  go_wp2_with fail
  refine (right22_any s (by omega) _).mono ?_
  rw [H.out]
  rintro e w1 ⟨rfl, hb1⟩
  go_wp2
  go_loopw [3] (fun i wr => ∃ k : Nat, k ≤ r ∧ i = .int .i64 k ∧ Below w.heap.size w wr) (fun i _ => s.size - (intOf i).toNat)
  case atStart => exact ⟨0, Nat.zero_le _, rfl, hb1⟩
  case round =>
    obtain ⟨k, hk, rfl, hb⟩ := hrel
    by_cases hlt : k < s.size
    · have hlt1 : (k : Int) + 1 ≤ (s.size : Int) := by omega
      have e1 : ((k : Int) + 1).toNat = k + 1 := by omega
      go_wp2_with fail
      refine (begins22_any (s.extract 0 (k + 1)) (by simp; omega) _).mono ?_
      rw [lettersOf_extract]
      rintro e w2 ⟨rfl, hb2⟩
      have hB2 := below_on hb hb.size hb2
      rcases Nat.lt_or_ge k r with hkr | hkr
      · rw [HF.out k hkr]
        go_wp2
        go_roundw
        case measure => simp [intOf]; omega
        case rel => exact ⟨k + 1, by omega, by go_num, hB2⟩
      · obtain rfl : k = r := by omega
        rw [HBad.out hlt]
        go_wp2
        go_ret
        exact ⟨rfl, hB2⟩
    · obtain rfl : k = r := by omega
      obtain rfl : k = s.size := by omega
      go_wp2
      go_ret
      exact ⟨rfl, hb⟩
end Go.Proofs.Ytgjcigokjfhfkaa
