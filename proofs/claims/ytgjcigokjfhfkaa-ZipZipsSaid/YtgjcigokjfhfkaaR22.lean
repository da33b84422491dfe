/-
  gypsumref22: Takes, Missing, length, by walking their texts.
-/
import Derived.Test.YtgjcigokjfhfkaaBegQ
import Derived.Test.YtgjcigokjfhfkaaConcat
namespace Go.Proofs.Ytgjcigokjfhfkaa
open Go.RowKit

set_option maxRecDepth 100000 in
theorem takes_any (c : Int) (w : World) : Calls Try.prog 70 #[.int .u8 c] w fun e w' => e = .returned (.int .i64 (takesM c)) ∧ w' = w := by
  by_cases h1 : c = 69
  · subst h1
    go_enter Try.func70, Try.ntmps70
    go_wp2
    go_ret
    exact ⟨rfl, rfl⟩
  · by_cases h2 : c = 67
    · subst h2
      go_enter Try.func70, Try.ntmps70
      go_wp2
      go_ret
      exact ⟨rfl, rfl⟩
    · by_cases h3 : c = 76
      · subst h3
        go_enter Try.func70, Try.ntmps70
        go_wp2
        go_ret
        exact ⟨rfl, rfl⟩
      · by_cases h4 : c = 82
        · subst h4
          go_enter Try.func70, Try.ntmps70
          go_wp2
          go_ret
          exact ⟨rfl, rfl⟩
        · by_cases h5 : c = 83
          · subst h5
            go_enter Try.func70, Try.ntmps70
            go_wp2
            go_ret
            exact ⟨rfl, rfl⟩
          · have ht : takesM c = -1 := by simp [takesM, h1, h2, h3, h4, h5]
            have b1 : (c == 69) = false := by simpa using h1
            have b2 : (c == 67) = false := by simpa using h2
            have b3 : (c == 76) = false := by simpa using h3
            have b4 : (c == 82) = false := by simpa using h4
            have b5 : (c == 83) = false := by simpa using h5
            have HT := Lib.hid ht
            clear h1 h2 h3 h4 h5 ht
            go_enter Try.func70, Try.ntmps70
            go_wp2
            go_ret
            exact ⟨by rw [HT.out]; rfl, rfl⟩

set_option maxRecDepth 100000 in
set_option maxHeartbeats 1000000 in
theorem missing_any (s : ByteArray) (hs : s.size ≤ 1000000) (w : World) : Calls Try.prog 56 #[.string s] w fun e w' => e = .returned (.int .i64 (missM (lettersOf s))) ∧ w' = w := by
  have HL := Lib.hid (lettersOf_length s)
  go_enter Try.func56, Try.ntmps56
  go_wp2
  go_loop [3, 4] (fun m i => ∃ (k : Nat) (j : Int), k ≤ s.size ∧ i = .int .i64 k ∧ m = .int .i64 j ∧ 0 ≤ j ∧ j ≤ 1 + k ∧ missM (lettersOf s) = missGo ((lettersOf s).drop k) j) (fun _ i => s.size - (intOf i).toNat)
  case atStart => exact ⟨0, 1, Nat.zero_le _, rfl, rfl, by omega, by omega, rfl⟩
  case round =>
    obtain ⟨k, j, hk, rfl, rfl, hj0, hj1, hm⟩ := hrel
    by_cases hlt : k < s.size
    · have hkl : k < (lettersOf s).length := by rw [HL.out]; exact hlt
      have hat := letter_at s k hlt
      rw [List.drop_eq_getElem_cons hkl, missGo_cons, hat] at hm
      have htk := takesM_le ((s[k]'hlt).toNat : Int)
      generalize hc : takesM ((s[k]'hlt).toNat : Int) = tk at *
      have HC := Lib.hid hc
      by_cases hstop : j = 0 ∨ tk < 0
      · rw [if_pos hstop] at hm
        have HM := Lib.hid hm
        clear hm hat hc
        rcases hstop with rfl | hstop
        · go_wp2_with (go_at_call 70; refine (takes_any _ _).mono ?_; rintro e w' ⟨rfl, rfl⟩; rw [HC.out])
          go_ret
          exact ⟨by rw [HM.out]; rfl, rfl⟩
        · have hb : decide (tk < 0) = true := by simpa using hstop
          go_wp2_with (go_at_call 70; refine (takes_any _ _).mono ?_; rintro e w' ⟨rfl, rfl⟩; rw [HC.out])
          all_goals
            go_ret
            exact ⟨by rw [HM.out]; rfl, rfl⟩
      · rw [if_neg hstop] at hm
        have hj2 : (j == 0) = false := by simp; omega
        have hb : decide (tk < 0) = false := by simp; omega
        have hj3 : 1 ≤ j := by omega
        have ht3 : 0 ≤ tk := by omega
        have ht4 := htk.2
        have HM := Lib.hid hm
        clear hm hat hc hstop htk
        go_wp2_with (go_at_call 70; refine (takes_any _ _).mono ?_; rintro e w' ⟨rfl, rfl⟩; rw [HC.out])
        go_round
        case measure => simp [intOf]; omega
        case rel => exact ⟨k + 1, j - 1 + tk, by omega, by go_num, rfl, by omega, by push_cast; omega, HM.out⟩
    · obtain rfl : k = s.size := by omega
      rw [← HL.out, List.drop_length, missGo_nil] at hm
      have HM := Lib.hid hm
      clear hm
      go_wp2
      go_ret
      exact ⟨by rw [HM.out]; rfl, rfl⟩

theorem exStep_some {l l' : List Int} {c : Int} (h : exStep l c = some l') : sumL l' ≤ sumL l + 4 ∧ l'.length ≤ l.length + 1 := by
  unfold exStep at h
  split at h
  · cases h; simp [sumL]; omega
  · split at h
    · cases l with
      | nil => cases h
      | cons x r => cases h; simp [sumL]; omega
    · split at h
      · cases l with
        | nil => cases h
        | cons x r => cases h; simp [sumL]; omega
      · split at h
        · match l, h with
          | x :: y :: r, h => cases h; simp [sumL]; omega
        · cases h
theorem exRun_some {cs l : List Int} (h : exRun cs = some l) : sumL l ≤ 4 * cs.length ∧ l.length ≤ cs.length := by
  suffices H : ∀ (cs p q : List Int), cs.foldlM exStep p = some q → sumL q ≤ sumL p + 4 * cs.length ∧ q.length ≤ p.length + cs.length by
    have := H cs _ _ h
    simpa [sumL] using this
  intro cs
  induction cs with
  | nil => intro p q h; simp at h; subst h; simp
  | cons c r ih =>
    intro p q h
    rw [List.foldlM_cons] at h
    cases hs : exStep p c with
    | none => rw [hs] at h; cases h
    | some p' =>
      rw [hs] at h
      have h' := ih p' q h
      have h1 := exStep_some hs
      simp only [List.length_cons]
      omega
theorem exAt_bound {zs l : List Int} {p : Nat} (h : exAt zs p = some l) : sumL l ≤ 4 * zs.length := by
  have := (exRun_some h).1
  simp only [List.length_reverse, List.length_drop] at this
  omega
theorem exAt_lt {zs r : List Int} {p : Nat} {x : Int} (h : exAt zs p = some (x :: r)) : p < zs.length := by
  rcases Nat.lt_or_ge p zs.length with h1 | h1
  · exact h1
  · unfold exAt at h
    rw [List.drop_eq_nil_of_le h1] at h
    cases h

set_option maxRecDepth 100000 in
set_option maxHeartbeats 1000000 in
theorem length_any (s : ByteArray) (hs : s.size ≤ 100000) : ∀ (n at_ : Nat), s.size - at_ ≤ n → ∀ (x : Int) (r : List Int), exAt (lettersOf s) at_ = some (x :: r) → ∀ w : World,
    Calls Try.prog 57 #[.string s, .int .i64 (at_ : Int)] w fun e w' => (∃ nx : Nat, e = .returned (.tuple #[.int .i64 x, .int .i64 (nx : Int)]) ∧ at_ < nx ∧ nx ≤ s.size ∧ exAt (lettersOf s) nx = some r) ∧ w' = w := by
  have HL := Lib.hid (lettersOf_length s)
  intro n
  induction n with
  | zero =>
    intro at_ hn x r hx w
    have := exAt_lt hx
    rw [HL.out] at this
    omega
  | succ n ih =>
    intro at_ hn x r hx w
    have hkl := exAt_lt hx
    have hlt : at_ < s.size := by rw [← HL.out]; exact hkl
    have hat := letter_at s at_ hlt
    have hst := exAt_step _ at_ hkl
    have hbd := exAt_bound hx
    rw [hx, hat] at hst
    rw [HL.out] at hbd
    have hsr := sumL_nonneg r
    simp only [sumL] at hbd
    cases hq : exAt (lettersOf s) (at_ + 1) with
    | none => rw [hq] at hst; cases hst
    | some q =>
      rw [hq] at hst
      simp only [Option.bind_some] at hst
      have hbq := exAt_bound hq
      rw [HL.out] at hbq
      have htk := (exStep_len (l := q)).1 _ hst.symm
      have hih : ∀ (y : Int) (t : List Int), q = y :: t → ∀ w : World, Calls Try.prog 57 #[.string s, .int .i64 ((at_ : Int) + 1)] w fun e w' => (∃ nx : Nat, e = .returned (.tuple #[.int .i64 y, .int .i64 (nx : Int)]) ∧ at_ + 1 < nx ∧ nx ≤ s.size ∧ exAt (lettersOf s) nx = some t) ∧ w' = w := by
        intro y t e w
        have := ih (at_ + 1) (by omega) y t (by rw [hq, e]) w
        rw [show ((at_ + 1 : Nat) : Int) = (at_ : Int) + 1 from by omega] at this
        exact this
      generalize hc : ((s[at_]'hlt).toNat : Int) = c at *
      have hcl : c = 69 ∨ c = 67 ∨ c = 76 ∨ c = 82 ∨ c = 83 := by
        have h0 := htk.1
        unfold takesM at h0
        by_cases h1 : c = 69
        · exact .inl h1
        · by_cases h2 : c = 67 ∨ c = 76 ∨ c = 82
          · omega
          · rw [if_neg h1, if_neg h2] at h0
            by_cases h4 : c = 83
            · omega
            · rw [if_neg h4] at h0; omega
      have HC := Lib.hid hc
      have HX := Lib.hid hx
      have HQ := Lib.hid hq
      clear htk hx hq hc hat
      rcases hcl with rfl | rfl | rfl | rfl | rfl
      · simp [exStep] at hst
        obtain ⟨rfl, rfl⟩ := hst
        have hcb : (((s[at_]'hlt).toNat : Int) == 69) = true := by rw [HC.out]; rfl
        go_enter Try.func57, Try.ntmps57
        go_wp2
        go_ret2
        exact ⟨⟨at_ + 1, by rfl, by omega, by omega, HQ.out⟩, rfl⟩
      · match q, hst, hih, hbq with
        | y :: t, hst, hih, hbq =>
          simp [exStep] at hst
          obtain ⟨rfl, rfl⟩ := hst
          have hs2 := sumL_nonneg r
          simp only [sumL] at hbq
          have b1 : (((s[at_]'hlt).toNat : Int) == 69) = false := by rw [HC.out]; rfl
          have b2 : (((s[at_]'hlt).toNat : Int) == 67) = true := by rw [HC.out]; rfl
          have hy1 : y ≤ 400000 := by omega
          have hy2 : -400000 ≤ y := by omega
          clear hbq hbd hst
          go_enter Try.func57, Try.ntmps57
          go_wp2_with fail
          refine (hih y r rfl _).mono ?_
          rintro e w' ⟨⟨nx, rfl, hn1, hn2, hn3⟩, rfl⟩
          go_wp2
          go_ret2
          exact ⟨⟨nx, by rfl, by omega, hn2, hn3⟩, rfl⟩
      · match q, hst, hih, hbq with
        | y :: t, hst, hih, hbq =>
          simp [exStep] at hst
          obtain ⟨rfl, rfl⟩ := hst
          have hs2 := sumL_nonneg r
          simp only [sumL] at hbq
          have b1 : (((s[at_]'hlt).toNat : Int) == 69) = false := by rw [HC.out]; rfl
          have b2 : (((s[at_]'hlt).toNat : Int) == 67) = false := by rw [HC.out]; rfl
          have b3 : (((s[at_]'hlt).toNat : Int) == 83) = false := by rw [HC.out]; rfl
          have hy1 : y ≤ 400000 := by omega
          have hy2 : -400000 ≤ y := by omega
          clear hbq hbd hst
          go_enter Try.func57, Try.ntmps57
          go_wp2_with fail
          refine (hih y r rfl _).mono ?_
          rintro e w' ⟨⟨nx, rfl, hn1, hn2, hn3⟩, rfl⟩
          go_wp2
          go_ret2
          exact ⟨⟨nx, by rfl, by omega, hn2, hn3⟩, rfl⟩
      · match q, hst, hih, hbq with
        | y :: t, hst, hih, hbq =>
          simp [exStep] at hst
          obtain ⟨rfl, rfl⟩ := hst
          have hs2 := sumL_nonneg r
          simp only [sumL] at hbq
          have b1 : (((s[at_]'hlt).toNat : Int) == 69) = false := by rw [HC.out]; rfl
          have b2 : (((s[at_]'hlt).toNat : Int) == 67) = false := by rw [HC.out]; rfl
          have b3 : (((s[at_]'hlt).toNat : Int) == 83) = false := by rw [HC.out]; rfl
          have hy1 : y ≤ 400000 := by omega
          have hy2 : -400000 ≤ y := by omega
          clear hbq hbd hst
          go_enter Try.func57, Try.ntmps57
          go_wp2_with fail
          refine (hih y r rfl _).mono ?_
          rintro e w' ⟨⟨nx, rfl, hn1, hn2, hn3⟩, rfl⟩
          go_wp2
          go_ret2
          exact ⟨⟨nx, by rfl, by omega, hn2, hn3⟩, rfl⟩
      · match q, hst, hih, hbq with
        | [], hst, _, _ => simp [exStep] at hst
        | [y], hst, _, _ => simp [exStep] at hst
        | y :: u :: t, hst, hih, hbq =>
          simp [exStep] at hst
          obtain ⟨rfl, rfl⟩ := hst
          have hs2 := sumL_nonneg r
          simp only [sumL] at hbq
          have b1 : (((s[at_]'hlt).toNat : Int) == 69) = false := by rw [HC.out]; rfl
          have b2 : (((s[at_]'hlt).toNat : Int) == 67) = false := by rw [HC.out]; rfl
          have b3 : (((s[at_]'hlt).toNat : Int) == 83) = true := by rw [HC.out]; rfl
          have hy1 : y ≤ 400000 := by omega
          have hy2 : -400000 ≤ y := by omega
          have hu1 : u ≤ 400000 := by omega
          have hu2 : -400000 ≤ u := by omega
          clear hbq hbd hst
          go_enter Try.func57, Try.ntmps57
          go_wp2_with fail
          refine (hih y (u :: r) rfl _).mono ?_
          rintro e w' ⟨⟨nx, rfl, hn1, hn2, hn3⟩, rfl⟩
          go_wp2_with fail
          refine (ih nx (by omega) u r hn3 _).mono ?_
          rintro e w' ⟨⟨nx2, rfl, hm1, hm2, hm3⟩, rfl⟩
          go_wp2
          go_ret2
          exact ⟨⟨nx2, by rfl, by omega, hm2, hm3⟩, rfl⟩
end Go.Proofs.Ytgjcigokjfhfkaa
