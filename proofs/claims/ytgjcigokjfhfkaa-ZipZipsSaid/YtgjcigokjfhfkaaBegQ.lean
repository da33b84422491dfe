/-
  Letters that word.begins takes are ahead of a right word: some L and then E for each word that is missing make one (the plain law).
-/
import Derived.Test.YtgjcigokjfhfkaaMiss
namespace Go.Proofs.Ytgjcigokjfhfkaa

/-- Spans of which none is open. -/
def shut (l : List Int) : List Span := l.map fun x => (x, false)
theorem shut_nil : shut [] = [] := rfl
theorem shut_cons (x : Int) (r : List Int) : shut (x :: r) = (x, false) :: shut r := rfl
/-- The lowest span is open: the first missing word stands in it, and so many more of length three; it may be as long as one likes from n on. -/
structure OpenAt (cs l : List Int) (n : Int) (p : Nat) (d : Int) : Prop where
  n3 : 3 ≤ n
  dn : d ≤ n
  dl : 3 - (cs.length : Int) ≤ d
  run : ∀ v r, n ≤ v → cs.foldlM ref24Step ((3 + (v - d)) :: (List.replicate p 3 ++ r)) = some (l ++ v :: r)
/-- What the stack of spans stands for. -/
def Rep (cs : List Int) (st : List Span) : Prop :=
  (∃ l, st = shut l ∧ ref24Run cs = some l) ∨ (∃ l n p d, st = shut l ++ [(n, true)] ∧ OpenAt cs l n p d)
theorem fold_snoc (cs : List Int) (c : Int) (a : List Int) : (cs ++ [c]).foldlM ref24Step a = (cs.foldlM ref24Step a).bind fun q => ref24Step q c := by
  simp [List.foldlM_append]
theorem st69 (l : List Int) : ref24Step l 69 = some (3 :: l) := rfl
theorem st67 (x : Int) (r : List Int) (h : 4 ≤ x) : ref24Step (x :: r) 67 = some ((x - 1) :: r) := by
  simp [ref24Step]
  omega
theorem st76 (x : Int) (r : List Int) : ref24Step (x :: r) 76 = some ((x + 1) :: r) := rfl
theorem st82 (x : Int) (r : List Int) : ref24Step (x :: r) 82 = some ((x + 1) :: r) := rfl
theorem st83 (x y : Int) (r : List Int) : ref24Step (x :: y :: r) 83 = some ((x + y - 1) :: r) := rfl
theorem run_snoc_of {cs l l' : List Int} {c : Int} (h : ref24Run cs = some l) (hs : ref24Step l c = some l') : ref24Run (cs ++ [c]) = some l' := by
  rw [ref24Run_snoc, h]
  exact hs
/-- A letter more, onto an open stack. -/
theorem OpenAt.snoc {cs l l' : List Int} {c n d n' d' e : Int} {p q : Nat} (h : OpenAt cs l n p d) (h3 : 3 ≤ n') (hdn : d' ≤ n') (hdl : 2 - (cs.length : Int) ≤ d') (he : d' = d + e) (hne : n + e ≤ n')
    (hr : ∀ v r, n' ≤ v → ref24Step (l ++ (v - e) :: (List.replicate q 3 ++ r)) c = some (l' ++ v :: r)) (hp : ∀ r : List Int, List.replicate (p + q) 3 ++ r = List.replicate p 3 ++ (List.replicate q 3 ++ r)) : OpenAt (cs ++ [c]) l' n' (p + q) d' := by
  refine ⟨h3, hdn, by simp; omega, fun v r hv => ?_⟩
  rw [fold_snoc, hp, show (3 : Int) + (v - d') = 3 + ((v - e) - d) from by omega, h.run (v - e) _ (by omega)]
  exact hr v r hv
theorem rep_add (p q : Nat) (r : List Int) : List.replicate (p + q) (3 : Int) ++ r = List.replicate p 3 ++ (List.replicate q 3 ++ r) := by
  rw [← List.append_assoc, List.replicate_append_replicate]
/-- The first missing word is taken. -/
theorem OpenAt.first {cs l l0 l' : List Int} {c n' d' : Int} {q : Nat} (h : ref24Run cs = some l0) (h3 : 3 ≤ n') (hdn : d' ≤ n') (hdl : 2 - (cs.length : Int) ≤ d')
    (hr : ∀ v r, n' ≤ v → ref24Step (l0 ++ (3 + (v - d')) :: (List.replicate q 3 ++ r)) c = some (l' ++ v :: r)) (_ : l = l') : OpenAt (cs ++ [c]) l' n' q d' := by
  refine ⟨h3, hdn, by simp; omega, fun v r hv => ?_⟩
  have := ref24Fold_frame cs [] l0 ((3 + (v - d')) :: (List.replicate q 3 ++ r)) h
  rw [List.nil_append] at this
  rw [fold_snoc, this]
  exact hr v r hv

theorem rep_step {cs : List Int} {st st' : List Span} {c : Int} (h : Rep cs st) (hs : begStep st c = some st') : Rep (cs ++ [c]) st' := by
  unfold begStep at hs
  split at hs
  · cases hs
  · rename_i hno
    cases hs
    have hok : (wordM st c).2.1 = true := by
      cases hx : (wordM st c).2.1
      · exact absurd (.inl hx) hno
      · rfl
    have hge : 3 ≤ (wordM st c).1.1 := by
      rcases Int.lt_or_le (wordM st c).1.1 3 with h1 | h1
      · exact absurd (.inr h1) hno
      · exact h1
    clear hno
    have hc : c = 67 ∨ c = 69 ∨ c = 76 ∨ c = 82 ∨ c = 83 := by
      unfold wordM codeN at hok
      by_cases h1 : c = 67
      · exact .inl h1
      · by_cases h2 : c = 83
        · simp [h2]
        · by_cases h3 : c = 82
          · simp [h3]
          · by_cases h4 : c = 76
            · simp [h4]
            · by_cases h5 : c = 69
              · simp [h5]
              · simp [h1, h2, h3, h4, h5] at hok
    rcases h with ⟨l, rfl, hrun⟩ | ⟨l, n, p, d, rfl, ho⟩
    · -- none is open
      rcases hc with rfl | rfl | rfl | rfl | rfl
      · match l, hrun, hge with
        | [], hrun, hge => exact .inr ⟨[], 3, 0, 2, rfl, OpenAt.first (l := []) hrun (by omega) (by omega) (by omega) (fun v r hv => by rw [List.nil_append, List.replicate_zero, List.nil_append, st67 _ _ (by omega)]; simp; omega) rfl⟩
        | x :: r, hrun, hge =>
          have hx : 3 ≤ x - 1 := by simpa [wordM, codeN, shut, popX, popR] using hge
          exact .inl ⟨(x - 1) :: r, rfl, run_snoc_of hrun (st67 _ _ (by omega))⟩
      · exact .inl ⟨3 :: l, rfl, run_snoc_of hrun (st69 _)⟩
      · match l, hrun with
        | [], hrun => exact .inr ⟨[], 4, 0, 4, rfl, OpenAt.first (l := []) hrun (by omega) (by omega) (by omega) (fun v r hv => by rw [List.nil_append, List.replicate_zero, List.nil_append, st76]; simp; omega) rfl⟩
        | x :: r, hrun => exact .inl ⟨(x + 1) :: r, rfl, run_snoc_of hrun (st76 _ _)⟩
      · match l, hrun with
        | [], hrun => exact .inr ⟨[], 4, 0, 4, rfl, OpenAt.first (l := []) hrun (by omega) (by omega) (by omega) (fun v r hv => by rw [List.nil_append, List.replicate_zero, List.nil_append, st82]; simp; omega) rfl⟩
        | x :: r, hrun => exact .inl ⟨(x + 1) :: r, rfl, run_snoc_of hrun (st82 _ _)⟩
      · match l, hrun with
        | [], hrun => exact .inr ⟨[], 5, 1, 5, rfl, OpenAt.first (l := []) hrun (by omega) (by omega) (by omega) (fun v r hv => by simp [st83]; omega) rfl⟩
        | [x], hrun =>
          have hx := run_all3 hrun x (by simp)
          refine .inr ⟨[], x + 3 - 1, 0, x + 2, rfl, OpenAt.first (l := []) hrun (by omega) (by omega) (by omega) (fun v r hv => by simp [st83]; omega) rfl⟩
        | x :: y :: r, hrun => exact .inl ⟨(x + y - 1) :: r, rfl, run_snoc_of hrun (st83 _ _ _)⟩
    · have hn3 := ho.n3
      have hdn := ho.dn
      have hdl := ho.dl
      rcases hc with rfl | rfl | rfl | rfl | rfl
      · match l, ho, hge with
        | [], ho, hge => exact .inr ⟨[], max (n - 1) 3, p + 0, d - 1, rfl, ho.snoc (e := -1) (q := 0) (by omega) (by omega) (by omega) (by omega) (by omega) (fun v r hv => by simp [st67 _ _ (show 4 ≤ v + 1 by omega)]) (rep_add p 0)⟩
        | x :: t, ho, hge =>
          have hx : 3 ≤ x - 1 := by simpa [wordM, codeN, shut, popX, popR] using hge
          exact .inr ⟨(x - 1) :: t, n, p + 0, d, rfl, ho.snoc (e := 0) (q := 0) (by omega) (by omega) (by omega) (by omega) (by omega) (fun v r hv => by rw [List.cons_append, st67 _ _ (by omega)]; simp) (rep_add p 0)⟩
      · exact .inr ⟨3 :: l, n, p + 0, d, rfl, ho.snoc (e := 0) (q := 0) (by omega) (by omega) (by omega) (by omega) (by omega) (fun v r hv => by rw [st69]; simp) (rep_add p 0)⟩
      · match l, ho with
        | [], ho => exact .inr ⟨[], n + 1, p + 0, d + 1, rfl, ho.snoc (e := 1) (q := 0) (by omega) (by omega) (by omega) (by omega) (by omega) (fun v r hv => by simp [st76]) (rep_add p 0)⟩
        | x :: t, ho => exact .inr ⟨(x + 1) :: t, n, p + 0, d, rfl, ho.snoc (e := 0) (q := 0) (by omega) (by omega) (by omega) (by omega) (by omega) (fun v r hv => by rw [List.cons_append, st76]; simp) (rep_add p 0)⟩
      · match l, ho with
        | [], ho => exact .inr ⟨[], n + 1, p + 0, d + 1, rfl, ho.snoc (e := 1) (q := 0) (by omega) (by omega) (by omega) (by omega) (by omega) (fun v r hv => by simp [st82]) (rep_add p 0)⟩
        | x :: t, ho => exact .inr ⟨(x + 1) :: t, n, p + 0, d, rfl, ho.snoc (e := 0) (q := 0) (by omega) (by omega) (by omega) (by omega) (by omega) (fun v r hv => by rw [List.cons_append, st82]; simp) (rep_add p 0)⟩
      · match l, ho with
        | [], ho => exact .inr ⟨[], n + 3 - 1, p + 1, d + 2, rfl, ho.snoc (e := 2) (q := 1) (by omega) (by omega) (by omega) (by omega) (by omega) (fun v r hv => by simp [st83]; omega) (rep_add p 1)⟩
        | [x], ho =>
          have hx : 3 ≤ x := by
            have h1 := ho.run n [] (by omega)
            have h2 : ∀ y ∈ ([x] ++ n :: []), 3 ≤ y := by
              suffices H : ∀ (cs a b : List Int), (∀ y ∈ a, 3 ≤ y) → cs.foldlM ref24Step a = some b → ∀ y ∈ b, 3 ≤ y from H _ _ _ (by
                intro y hy
                simp at hy
                rcases hy with rfl | ⟨_, rfl⟩ <;> omega) h1
              intro cs
              induction cs with
              | nil => intro a b ha hb; simp at hb; subst hb; exact ha
              | cons c' r' ih =>
                intro a b ha hb
                rw [List.foldlM_cons] at hb
                cases hs : ref24Step a c' with
                | none => rw [hs] at hb; cases hb
                | some a' =>
                  rw [hs] at hb
                  exact ih a' b (step_all3 ha hs) hb
            exact h2 x (by simp)
          exact .inr ⟨[], x + n - 1, p + 0, d + (x - 1), rfl, ho.snoc (e := x - 1) (q := 0) (by omega) (by omega) (by omega) (by omega) (by omega) (fun v r hv => by simp [st83]; omega) (rep_add p 0)⟩
        | x :: y :: t, ho => exact .inr ⟨(x + y - 1) :: t, n, p + 0, d, rfl, ho.snoc (e := 0) (q := 0) (by omega) (by omega) (by omega) (by omega) (by omega) (fun v r hv => by rw [List.cons_append, List.cons_append, st83]; simp) (rep_add p 0)⟩
theorem rep_run (cs : List Int) : ∀ {ds : List Int} {st st' : List Span}, Rep ds st → cs.foldlM begStep st = some st' → Rep (ds ++ cs) st' := by
  induction cs with
  | nil => intro ds st st' h hs; simp at hs; subst hs; simpa using h
  | cons c r ih =>
    intro ds st st' h hs
    rw [List.foldlM_cons] at hs
    cases h1 : begStep st c with
    | none => rw [h1] at hs; cases hs
    | some st1 =>
      rw [h1] at hs
      have := ih (rep_step h h1) hs
      rwa [List.append_assoc] at this

/-- So many L, and E behind them. -/
def extL (k m : Nat) : List Int := List.replicate k 76 ++ List.replicate m 69
theorem fold69 (m : Nat) : ∀ l : List Int, (List.replicate m (69 : Int)).foldlM ref24Step l = some (List.replicate m 3 ++ l) := by
  induction m with
  | zero => intro l; rfl
  | succ m ih =>
    intro l
    rw [List.replicate_succ, List.foldlM_cons, st69]
    show (List.replicate m (69 : Int)).foldlM ref24Step (3 :: l) = _
    rw [ih, List.replicate_succ']
    simp
theorem fold76 (k : Nat) : ∀ (x : Int) (r : List Int), (List.replicate k (76 : Int)).foldlM ref24Step (x :: r) = some ((x + k) :: r) := by
  induction k with
  | zero => intro x r; simp
  | succ k ih =>
    intro x r
    rw [List.replicate_succ, List.foldlM_cons, st76]
    show (List.replicate k (76 : Int)).foldlM ref24Step ((x + 1) :: r) = _
    rw [ih]
    congr 2
    push_cast
    omega
theorem extL_run (k p : Nat) : ref24Run (extL k (p + 1)).reverse = some ((3 + (k : Int)) :: List.replicate p 3) := by
  unfold extL ref24Run
  rw [List.reverse_append, List.reverse_replicate, List.reverse_replicate, List.foldlM_append, fold69, List.append_nil, List.replicate_succ]
  exact fold76 k 3 _
theorem right_iff {zs : List Int} : ref24M zs = true ↔ ref24Run zs.reverse = some [3] := by
  refine ⟨run_of_right, fun h => ?_⟩
  unfold ref24M
  rw [h]
  rfl
theorem right_ext {zs : List Int} {n d : Int} {p : Nat} (h : OpenAt zs.reverse [] n p d) (hn : n ≤ 3) : ∃ k : Nat, k ≤ zs.length ∧ ref24M (zs ++ extL k (p + 1)) = true := by
  have hd := h.dn
  have hl := h.dl
  rw [List.length_reverse] at hl
  refine ⟨(3 - d).toNat, by omega, ?_⟩
  rw [right_iff, List.reverse_append]
  have h1 := extL_run (3 - d).toNat p
  unfold ref24Run at h1 ⊢
  rw [List.foldlM_append, h1]
  have h2 := h.run 3 [] hn
  rw [List.append_nil, List.nil_append] at h2
  rw [show (3 : Int) + ((3 - d).toNat : Int) = 3 + (3 - d) from by omega]
  exact h2
theorem missGo_cons (c : Int) (r : List Int) (m : Int) : missGo (c :: r) m = if m = 0 ∨ takesM c < 0 then -1 else missGo r (m - 1 + takesM c) := rfl
theorem missGo_nil (m : Int) : missGo [] m = m := rfl
theorem missGo_neg (zs : List Int) : ∀ m : Int, 0 ≤ m → missGo zs m = -1 ∨ 0 ≤ missGo zs m := by
  induction zs with
  | nil => intro m h; exact .inr h
  | cons c r ih =>
    intro m h
    unfold missGo
    split
    · exact .inl rfl
    · exact ih _ (by omega)
theorem missGo_append (a b : List Int) : ∀ m : Int, 0 ≤ m → missGo (a ++ b) m = if missGo a m = -1 then -1 else missGo b (missGo a m) := by
  induction a with
  | nil => intro m h; rw [List.nil_append, missGo_nil, if_neg (by omega)]
  | cons c r ih =>
    intro m h
    rw [List.cons_append, missGo_cons, missGo_cons]
    by_cases hc : m = 0 ∨ takesM c < 0
    · rw [if_pos hc, if_pos hc, if_pos rfl]
    · rw [if_neg hc, if_neg hc]
      exact ih _ (by omega)
theorem missGo_E (q : Nat) : ∀ j : Int, 0 ≤ j → missGo (List.replicate q 69) j = 0 → j = q := by
  induction q with
  | zero => intro j _ h; simpa [missGo] using h
  | succ q ih =>
    intro j hj h
    rw [List.replicate_succ] at h
    unfold missGo at h
    split at h
    · omega
    · rename_i hc
      have ht : takesM 69 = 0 := rfl
      rw [ht] at h hc
      have := ih _ (by omega) h
      push_cast
      omega
theorem missGo_L (k : Nat) (b : List Int) : ∀ j : Int, 1 ≤ j → missGo (List.replicate k 76 ++ b) j = missGo b j := by
  induction k with
  | zero => intro j _; rfl
  | succ k ih =>
    intro j hj
    have ht : takesM 76 = 1 := rfl
    rw [List.replicate_succ, List.cons_append, missGo_cons, ht, if_neg (by omega), show j - 1 + 1 = j from by omega]
    exact ih j hj
theorem miss_right {zs : List Int} (h : ref24M zs = true) : missM zs = 0 := by
  rw [miss_zero]
  refine ⟨3, ?_⟩
  have := ex_of_st (zs := zs) (p := 0) (l := [3]) (by rw [stAt_zero]; exact run_of_right h)
  rwa [exAt_zero] at this
theorem miss_ext {zs : List Int} {k p : Nat} (h : ref24M (zs ++ extL k (p + 1)) = true) : missM zs = p + 1 := by
  have h1 := miss_right h
  unfold missM at h1 ⊢
  rw [missGo_append _ _ 1 (by omega)] at h1
  rcases missGo_neg zs 1 (by omega) with h2 | h2
  · rw [h2] at h1; cases h1
  · rw [if_neg (by omega)] at h1
    generalize missGo zs 1 = j at *
    unfold extL at h1
    rcases Int.lt_or_le 0 j with h3 | h3
    · rw [missGo_L _ _ _ (by omega)] at h1
      have := missGo_E _ _ (by omega) h1
      omega
    · obtain rfl : j = 0 := by omega
      cases k with
      | zero => rw [List.replicate_zero, List.nil_append, List.replicate_succ] at h1; simp [missGo] at h1
      | succ k => rw [List.replicate_succ, List.cons_append] at h1; simp [missGo] at h1
/-- Letters with which word.begins is content: a right word, or so many L and then an E for each missing word make one. -/
theorem begins_ext {zs : List Int} (h : beginsM zs = true) : ref24M zs = true ∨ ∃ k p : Nat, k ≤ zs.length ∧ missM zs = p + 1 ∧ ref24M (zs ++ extL k (p + 1)) = true := by
  unfold beginsM begRun at h
  cases hs : zs.reverse.foldlM begStep [] with
  | none => rw [hs] at h; cases h
  | some st =>
    rw [hs] at h
    simp only at h
    rcases rep_run zs.reverse (ds := []) (st := []) (.inl ⟨[], rfl, rfl⟩) hs with ⟨l, rfl, hrun⟩ | ⟨l, n, p, d, rfl, ho⟩
    · rw [List.nil_append] at hrun
      match l, h, hrun with
      | [], h, hrun =>
        have : zs = [] := by
          cases hz : zs with
          | nil => rfl
          | cons c r =>
            exfalso
            rw [hz, List.reverse_cons, ref24Run_snoc] at hrun
            cases hq : ref24Run r.reverse with
            | none => rw [hq] at hrun; cases hrun
            | some q =>
              rw [hq] at hrun
              exact (step_letter hrun).2 rfl
        subst this
        exact .inr ⟨0, 0, by simp, rfl, by decide⟩
      | [x], h, hrun =>
        have : x = 3 := by simpa [begEnd, shut] using h
        rw [this] at hrun
        exact .inl (right_iff.2 hrun)
      | x :: y :: r, h, _ => simp [begEnd, shut] at h
    · rw [List.nil_append] at ho
      match l, h, ho with
      | [], h, ho =>
        have hn : n ≤ 3 := by
          simp [begEnd, shut] at h
          omega
        obtain ⟨k, hk, hr⟩ := right_ext ho hn
        exact .inr ⟨k, p, hk, miss_ext hr, hr⟩
      | x :: r, h, _ =>
        exfalso
        cases r <;> simp [begEnd, shut] at h
/-- What the document's Begins answers. -/
def beg22 (zs : List Int) : Bool :=
  if missM zs < 0 then false else if missM zs = 0 then ref24M zs else (List.range (zs.length + 2)).any fun k => ref24M (zs ++ extL k (missM zs).toNat)
theorem beg22_eq (zs : List Int) : beg22 zs = beginsM zs := by
  rw [Bool.eq_iff_iff]
  constructor
  · intro h
    unfold beg22 at h
    split at h
    · cases h
    · split at h
      · have := begins_of_cut h zs.length
        rwa [List.take_length] at this
      · rw [List.any_eq_true] at h
        obtain ⟨k, _, hk⟩ := h
        have := begins_of_cut hk zs.length
        rwa [List.take_append_of_le_length (Nat.le_refl _), List.take_length] at this
  · intro h
    unfold beg22
    rcases begins_ext h with h1 | ⟨k, p, hk, hm, hr⟩
    · have hm := miss_right h1
      rw [if_neg (by omega), if_pos hm]
      exact h1
    · rw [if_neg (by omega), if_neg (by omega), List.any_eq_true]
      refine ⟨k, List.mem_range.2 (by omega), ?_⟩
      rw [hm, show ((p : Int) + 1).toNat = p + 1 from by omega]
      exact hr
theorem begins_prefix {zs : List Int} (h : beginsM zs = true) (j : Nat) : beginsM (zs.take j) = true := by
  rcases Nat.lt_or_ge zs.length j with hj | hj
  · rw [List.take_of_length_le (by omega)]; exact h
  · rcases begins_ext h with h1 | ⟨k, p, _, _, hr⟩
    · exact begins_of_cut h1 j
    · have := begins_of_cut hr j
      rwa [List.take_append_of_le_length hj] at this
/-- The place that word.Least tells is the first one. -/
theorem least_first {zs : List Int} {r : Nat} (h : LeastAt zs r) : ∀ k, k < r → beginsM (zs.take (k + 1)) = true := by
  intro k hk
  have := begins_prefix (h.2.2 (by omega)) (k + 1)
  rwa [List.take_take, Nat.min_eq_left (by omega)] at this
end Go.Proofs.Ytgjcigokjfhfkaa
