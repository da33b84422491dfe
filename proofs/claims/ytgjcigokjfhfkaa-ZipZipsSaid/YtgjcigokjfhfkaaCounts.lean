/-
  The plain laws on counts: what a right word's letters come to. No program in sight.
-/
import Derived.Test.YtgjcigokjfhfkaaRightEq
import Derived.Test.YtgjcigokjfhfkaaCountR
import Derived.Test.YtgjcigokjfhfkaaCost
namespace Go.Proofs.Ytgjcigokjfhfkaa

theorem cnt_reverse (zs : List Int) (c : Int) : cnt zs.reverse c = cnt zs c := by
  unfold cnt; rw [List.filter_reverse, List.length_reverse]
theorem cnt_append (a b : List Int) (c : Int) : cnt (a ++ b) c = cnt a c + cnt b c := by
  unfold cnt; simp
theorem cnt_cons (z : Int) (b : List Int) (c : Int) : cnt (z :: b) c = (if z = c then 1 else 0) + cnt b c := by
  unfold cnt
  by_cases h : z = c
  · simp [h]; omega
  · simp [h]
def sumI : List Int → Int
  | [] => 0
  | x :: r => x + sumI r

/-- What the letters that were gone over come to. -/
structure CountRel (cs l : List Int) : Prop where
  len : (l.length : Int) = cnt cs 69 - cnt cs 83
  sum : sumI l = 3 * cnt cs 69 - cnt cs 67 + cnt cs 76 + cnt cs 82 - cnt cs 83
  all : (cs.length : Int) = cnt cs 67 + cnt cs 76 + cnt cs 82 + cnt cs 69 + cnt cs 83
  cost : costM cs = cnt cs 67 + 3 * (cnt cs 76 + cnt cs 82 + cnt cs 69 + cnt cs 83)
  letters : cs.all (fun c => !(codeN c == 0)) = true

theorem count_rel (xs : List Int) : ∀ l, ref24Run xs.reverse = some l → CountRel xs.reverse l := by
  induction xs with
  | nil =>
    intro l h
    cases h
    exact ⟨by simp [cnt], by simp [cnt, sumI], by simp [cnt], by simp [cnt, costM, costSum], by simp⟩
  | cons c xs ih =>
    intro l' h
    rw [List.reverse_cons] at h ⊢
    rw [ref24Run_snoc] at h
    cases hr : ref24Run xs.reverse with
    | none => rw [hr] at h; cases h
    | some l =>
      rw [hr] at h
      simp only [Option.bind_some] at h
      obtain ⟨h1, h2, h3, h4, h5⟩ := ih l hr
      have hc : costM xs.reverse = costSum xs.reverse := by unfold costM; rw [if_pos h5]
      rw [hc] at h4
      have fin : codeN c ≠ 0 → costM (xs.reverse ++ [c]) = costSum xs.reverse + codeN c ∧ (xs.reverse ++ [c]).all (fun c => !(codeN c == 0)) = true := by
        intro h0
        have : (xs.reverse ++ [c]).all (fun c => !(codeN c == 0)) = true := by
          rw [List.all_append, h5]; simp [h0]
        exact ⟨by unfold costM; rw [if_pos this, costSum_snoc], this⟩
      have hlen : ((xs.reverse ++ [c]).length : Int) = (xs.length : Int) + 1 := by simp
      rw [List.length_reverse] at h3
      unfold ref24Step at h
      split at h
      · rename_i e; subst e
        cases h
        obtain ⟨f1, f2⟩ := fin (by decide)
        refine ⟨?_, ?_, ?_, ?_, f2⟩
        · simp only [cnt_snoc, List.length_cons]; simp; omega
        · simp only [cnt_snoc, sumI]; simp; omega
        · rw [hlen, h3]; simp only [cnt_snoc]; simp; omega
        · rw [f1, h4]; simp only [cnt_snoc, codeN]; simp; omega
      · split at h
        · rename_i e; subst e
          cases l with
          | nil => cases h
          | cons x r =>
            simp only at h
            split at h
            · cases h
            · cases h
              obtain ⟨f1, f2⟩ := fin (by decide)
              simp only [sumI, List.length_cons] at h1 h2
              refine ⟨?_, ?_, ?_, ?_, f2⟩
              · simp only [cnt_snoc, List.length_cons]; simp; omega
              · simp only [cnt_snoc, sumI]; simp; omega
              · rw [hlen, h3]; simp only [cnt_snoc]; simp; omega
              · rw [f1, h4]; simp only [cnt_snoc, codeN]; simp; omega
        · split at h
          · rename_i e
            cases l with
            | nil => cases h
            | cons x r =>
              cases h
              simp only [sumI, List.length_cons] at h1 h2
              rcases e with rfl | rfl
              · obtain ⟨f1, f2⟩ := fin (by decide)
                refine ⟨?_, ?_, ?_, ?_, f2⟩
                · simp only [cnt_snoc, List.length_cons]; simp; omega
                · simp only [cnt_snoc, sumI]; simp; omega
                · rw [hlen, h3]; simp only [cnt_snoc]; simp; omega
                · rw [f1, h4]; simp only [cnt_snoc, codeN]; simp; omega
              · obtain ⟨f1, f2⟩ := fin (by decide)
                refine ⟨?_, ?_, ?_, ?_, f2⟩
                · simp only [cnt_snoc, List.length_cons]; simp; omega
                · simp only [cnt_snoc, sumI]; simp; omega
                · rw [hlen, h3]; simp only [cnt_snoc]; simp; omega
                · rw [f1, h4]; simp only [cnt_snoc, codeN]; simp; omega
          · split at h
            · rename_i e; subst e
              match l, h, h1, h2 with
              | x :: y :: r, h, h1, h2 =>
                cases h
                obtain ⟨f1, f2⟩ := fin (by decide)
                simp only [sumI, List.length_cons] at h1 h2
                refine ⟨?_, ?_, ?_, ?_, f2⟩
                · simp only [cnt_snoc, List.length_cons]; simp; omega
                · simp only [cnt_snoc, sumI]; simp; omega
                · rw [hlen, h3]; simp only [cnt_snoc]; simp; omega
                · rw [f1, h4]; simp only [cnt_snoc, codeN]; simp; omega
            · cases h

theorem costSum_reverse (zs : List Int) : costSum zs.reverse = costSum zs := by
  induction zs with
  | nil => rfl
  | cons c r ih =>
    rw [List.reverse_cons, costSum_snoc, ih]
    have : ∀ (r : List Int) (a : Int), r.foldl (fun n c => n + codeN c) a = a + r.foldl (fun n c => n + codeN c) 0 := by
      intro r
      induction r with
      | nil => intro a; simp
      | cons x r ih => intro a; simp only [List.foldl_cons]; rw [ih (a + codeN x), ih (0 + codeN x)]; omega
    unfold costSum
    rw [List.foldl_cons, this r (0 + codeN c)]
    omega

/-- A right word's counts. -/
structure RightCounts (zs : List Int) : Prop where
  ends : cnt zs 69 = cnt zs 83 + 1
  cees : cnt zs 67 = cnt zs 76 + cnt zs 82 + 2 * cnt zs 83
  all : (zs.length : Int) = cnt zs 67 + cnt zs 76 + cnt zs 82 + cnt zs 69 + cnt zs 83
  bits : bitsM zs = 2 * (zs.length : Int) + 1
  cost : costM zs = bitsM zs
theorem right_counts {zs : List Int} (h : ref24M zs = true) : RightCounts zs := by
  unfold ref24M at h
  cases hr : ref24Run zs.reverse with
  | none => rw [hr] at h; cases h
  | some l =>
    rw [hr] at h
    match l, h, hr with
    | [x], h, hr =>
      simp [isThree] at h
      subst h
      obtain ⟨h1, h2, h3, h4, h5⟩ := count_rel zs [3] hr
      simp only [cnt_reverse, sumI, List.length_cons, List.length_nil, List.length_reverse] at h1 h2 h3 h4
      have hc : costM zs = costM zs.reverse := by
        unfold costM
        rw [List.all_reverse, costSum_reverse]
      refine ⟨by omega, by omega, h3, ?_, ?_⟩
      · unfold bitsM; omega
      · rw [hc, h4]; rfl
end Go.Proofs.Ytgjcigokjfhfkaa
