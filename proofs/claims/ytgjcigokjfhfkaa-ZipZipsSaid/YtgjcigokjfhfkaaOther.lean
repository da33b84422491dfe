/-
  Two right words that are zipped to the same triangles are one (the plain law).
-/
import Derived.Test.YtgjcigokjfhfkaaZipN
namespace Go.Proofs.Ytgjcigokjfhfkaa

theorem getD_inj {l : List Int} (h : l.Nodup) {i j : Nat} (hi : i < l.length) (hj : j < l.length) (e : l.getD i 0 = l.getD j 0) : i = j := by
  rw [getD_getElem hi, getD_getElem hj] at e
  exact (List.getElem_inj h).1 e
section
variable {zs : List Int} {k : Nat} {m : ZM}
/-- Which vertex each letter tells, and how long the loop is. -/
theorem ZInv.kind (h : ZInv zs k m) (hk : k < zs.length) :
    (zs.getD k 0 = 67 ∧ iAt zs k = 0 ∧ (stepM (zs.getD k 0) (iAt zs k) m).1 = m.n) ∨
    (zs.getD k 0 = 69 ∧ iAt zs k = 0 ∧ m.loop.length = 3 ∧ (stepM (zs.getD k 0) (iAt zs k) m).1 = m.loop.getD 2 0) ∨
    (zs.getD k 0 = 76 ∧ iAt zs k = 0 ∧ 4 ≤ m.loop.length ∧ (stepM (zs.getD k 0) (iAt zs k) m).1 = m.loop.getD (m.loop.length - 1) 0) ∨
    (zs.getD k 0 = 82 ∧ iAt zs k = 0 ∧ 4 ≤ m.loop.length ∧ (stepM (zs.getD k 0) (iAt zs k) m).1 = m.loop.getD 2 0) ∨
    (zs.getD k 0 = 83 ∧ 3 ≤ iAt zs k ∧ iAt zs k + 2 ≤ m.loop.length ∧ (stepM (zs.getD k 0) (iAt zs k) m).1 = m.loop.getD (iAt zs k) 0) := by
  obtain ⟨h1, h2, h3, h4, h5⟩ := h.len hk
  have hs := h.st hk
  have hst := stAt_step zs k hk
  rw [hs, ← getD_getElem hk] at hst
  cases hq : stAt zs (k + 1) with
  | none => rw [hq] at hst; cases hst
  | some q =>
    rw [hq] at hst
    simp only [Option.bind_some] at hst
    have hall := run_all3 hq
    have hz : zs.getD k 0 ≠ 83 → iAt zs k = 0 := fun hne => by unfold iAt; rw [if_neg hne]
    rcases h4 with hc | hc | hc | hc | hc
    · refine .inl ⟨hc, hz (by rw [hc]; decide), ?_⟩
      simp only [stepM, hc, if_true]
    · refine .inr (.inl ⟨hc, hz (by rw [hc]; decide), ?_, ?_⟩)
      · rw [hc] at hst
        simp [ref24Step] at hst
        omega
      · simp only [stepM, hc, if_false, Int.reduceEq]
        cases m.waits <;> rfl
    · refine .inr (.inr (.inl ⟨hc, hz (by rw [hc]; decide), ?_, ?_⟩))
      · rw [hc] at hst
        match q, hst, hall with
        | x :: r, hst, hall =>
          simp [ref24Step] at hst
          have := hall x (by simp)
          omega
        | [], hst, _ => simp [ref24Step] at hst
      · simp only [stepM, hc, if_true, if_false, Int.reduceEq]
    · refine .inr (.inr (.inr (.inl ⟨hc, hz (by rw [hc]; decide), ?_, ?_⟩)))
      · rw [hc] at hst
        match q, hst, hall with
        | x :: r, hst, hall =>
          simp [ref24Step] at hst
          have := hall x (by simp)
          omega
        | [], hst, _ => simp [ref24Step] at hst
      · simp only [stepM, hc, if_true, if_false, Int.reduceEq]
    · have hi : iAt zs k = match stAt zs (k + 1) with | some (_ :: y :: _) => y.toNat | _ => 0 := by unfold iAt; rw [if_pos hc]; rfl
      rw [hq] at hi
      refine .inr (.inr (.inr (.inr ⟨hc, ?_, ?_, ?_⟩)))
      all_goals try (rw [hc] at hst)
      · match q, hst, hall, hi with
        | x :: y :: r, hst, hall, hi =>
          have := hall y (by simp)
          simp only at hi
          omega
        | [x], hst, _, _ => simp [ref24Step] at hst
        | [], hst, _, _ => simp [ref24Step] at hst
      · match q, hst, hall, hi with
        | x :: y :: r, hst, hall, hi =>
          simp [ref24Step] at hst
          have := hall x (by simp)
          have := hall y (by simp)
          simp only at hi
          omega
        | [x], hst, _, _ => simp [ref24Step] at hst
        | [], hst, _, _ => simp [ref24Step] at hst
      · simp only [stepM, hc, if_true, if_false, Int.reduceEq]
/-- No vertex stands in a loop twice. -/
def ZNod (m : ZM) : Prop := m.loop.Nodup ∧ ∀ l ∈ m.waits, l.Nodup
theorem nodup_last {l : List Int} (h : l.Nodup) : (l.drop (l.length - 1) ++ (l.take (l.length - 1)).drop 1).Nodup := by
  have h1 : (l.take (l.length - 1) ++ l.drop (l.length - 1)).Nodup := by rw [List.take_append_drop]; exact h
  rw [List.nodup_append] at h1 ⊢
  obtain ⟨a1, a2, a3⟩ := h1
  exact ⟨a2, a1.sublist (List.drop_sublist _ _), fun x hx y hy e => a3 y (List.mem_of_mem_drop hy) x hx e.symm⟩
theorem nodup_skip {l : List Int} (h : l.Nodup) (i : Nat) (hi : 1 ≤ i) : (l.take 1 ++ l.drop i).Nodup := by
  have h1 : (l.take 1 ++ l.drop 1).Nodup := by rw [List.take_append_drop]; exact h
  refine h1.sublist (List.Sublist.append_left ?_ _)
  have : l.drop i = (l.drop 1).drop (i - 1) := by rw [List.drop_drop]; congr 1; omega
  rw [this]
  exact List.drop_sublist _ _
theorem nodup_wait {l : List Int} (h : l.Nodup) (i : Nat) : ((l.drop i).take 1 ++ (l.take i).drop 1).Nodup := by
  have h1 : (l.take i ++ l.drop i).Nodup := by rw [List.take_append_drop]; exact h
  rw [List.nodup_append] at h1 ⊢
  obtain ⟨a1, a2, a3⟩ := h1
  exact ⟨a2.sublist (List.take_sublist _ _), a1.sublist (List.drop_sublist _ _), fun x hx y hy e => a3 y (List.mem_of_mem_drop hy) x (List.mem_of_mem_take hx) e.symm⟩
theorem ZNod.next (h : ZInv zs k m) (hk : k < zs.length) (hn : ZNod m) : ZNod (nextM zs k m) := by
  obtain ⟨h1, h2, h3, h4, h5⟩ := h.len hk
  obtain ⟨n1, n2⟩ := hn
  unfold ZNod
  rcases h4 with hc | hc | hc | hc | hc
  · simp only [nextM, stepM, hc, if_true]
    refine ⟨?_, n2⟩
    have hsp : (m.loop.take 1 ++ m.loop.drop 1).Nodup := by rw [List.take_append_drop]; exact n1
    rw [List.nodup_append] at hsp
    obtain ⟨a1, a2, a3⟩ := hsp
    have hnew : ∀ x ∈ m.loop, x ≠ (m.n : Int) := fun x hx e => by have := (h.lb x hx).2; omega
    rw [List.nodup_append, List.nodup_append]
    refine ⟨⟨a1, by simp, fun x hx y hy e => ?_⟩, a2, fun x hx y hy e => ?_⟩
    · simp at hy; exact hnew x (List.mem_of_mem_take hx) (by rw [e, hy])
    · simp only [List.mem_append, List.mem_singleton] at hx
      rcases hx with hx | hx
      · exact a3 x hx y hy e
      · exact hnew y (List.mem_of_mem_drop hy) (by rw [← e, hx])
  · cases hw : m.waits with
    | nil =>
      simp only [nextM, stepM, hc, hw, if_false, Int.reduceEq]
      exact ⟨n1, by rw [hw] at n2; exact n2⟩
    | cons l r =>
      simp only [nextM, stepM, hc, hw, if_false, Int.reduceEq]
      rw [hw] at n2
      exact ⟨n2 l (by simp), fun x hx => n2 x (by simp [hx])⟩
  · simp only [nextM, stepM, hc, if_true, if_false, Int.reduceEq]
    exact ⟨nodup_last n1, n2⟩
  · simp only [nextM, stepM, hc, if_true, if_false, Int.reduceEq]
    exact ⟨nodup_skip n1 2 (by omega), n2⟩
  · simp only [nextM, stepM, hc, if_true, if_false, Int.reduceEq]
    refine ⟨nodup_skip n1 _ (h5 hc).1, fun l hl => ?_⟩
    simp only [List.mem_cons] at hl
    rcases hl with rfl | hl
    · exact nodup_wait n1 _
    · exact n2 l hl
end
theorem znod_at {zs : List Int} (h : ref24M zs = true) : ∀ k, k ≤ zs.length → ZNod (zmAt zs k) := by
  intro k
  induction k with
  | zero => intro _; exact ⟨show ([1, 0, 2] : List Int).Nodup by decide, by simp [zmAt]⟩
  | succ k ih => intro hk; exact ZNod.next (zinv_at h k (by omega)) (by omega) (ih (by omega))
theorem zmAt_T (zs : List Int) (k : Nat) : (zmAt zs (k + 1)).T = (zmAt zs k).T ++ [triAt zs k] := rfl
theorem zmAt_T_len (zs : List Int) (k : Nat) : (zmAt zs k).T.length = k + 1 := by
  induction k with
  | zero => rfl
  | succ k ih => rw [zmAt_T]; simp [ih]
theorem zmAt_T_take (zs : List Int) {k n : Nat} (hk : k ≤ n) : (zmAt zs n).T.take (k + 1) = (zmAt zs k).T := by
  induction n with
  | zero =>
    obtain rfl : k = 0 := by omega
    rfl
  | succ n ih =>
    rcases Nat.lt_or_ge k (n + 1) with h | h
    · rw [zmAt_T, List.take_append_of_le_length (by rw [zmAt_T_len]; omega), ih (by omega)]
    · obtain rfl : k = n + 1 := by omega
      rw [List.take_of_length_le (by rw [zmAt_T_len]; omega)]
theorem other_eq {a b : List Int} (ha : ref24M a = true) (hb : ref24M b = true) (hT : (zmAt a a.length).T = (zmAt b b.length).T) : a = b := by
  have hl : a.length = b.length := by
    have := congrArg List.length hT
    rw [zmAt_T_len, zmAt_T_len] at this
    omega
  have hTk : ∀ k, k ≤ a.length → (zmAt a k).T = (zmAt b k).T := fun k hk => by
    rw [← zmAt_T_take a hk, ← zmAt_T_take b (by omega : k ≤ b.length), hT]
  have htri : ∀ k, k < a.length → triAt a k = triAt b k := fun k hk => by
    have h1 := hTk (k + 1) (by omega)
    rw [zmAt_T, zmAt_T, hTk k (by omega)] at h1
    have := List.append_cancel_left h1
    simpa using this
  have key : ∀ k, k ≤ a.length → a.take k = b.take k ∧ zmAt a k = zmAt b k := by
    intro k
    induction k with
    | zero => intro _; exact ⟨by simp, rfl⟩
    | succ k ih =>
      intro hk
      obtain ⟨h1, h2⟩ := ih (by omega)
      have ia := zinv_at ha k (by omega)
      have ib := zinv_at hb k (by omega)
      rw [← h2] at ib
      have nd := (znod_at ha k (by omega)).1
      have ht := htri k (by omega)
      unfold triAt at ht
      rw [← h2] at ht
      simp only [Prod.mk.injEq] at ht
      have hv := ht.1
      obtain ⟨p1, p2, p3, p4, p5⟩ := ia.len (by omega)
      have hlt : ∀ j, j < (zmAt a k).loop.length → (zmAt a k).loop.getD j 0 ≠ ((zmAt a k).n : Int) := fun j hj e => by
        have := (ia.lb _ (getD_mem hj)).2
        omega
      have hci : a.getD k 0 = b.getD k 0 ∧ iAt a k = iAt b k := by
        rcases ia.kind (by omega) with ⟨c1, i1, v1⟩ | ⟨c1, i1, l1, v1⟩ | ⟨c1, i1, l1, v1⟩ | ⟨c1, i1, l1, v1⟩ | ⟨c1, i1, l1, v1⟩ <;>
        rcases ib.kind (by omega) with ⟨c2, i2, v2⟩ | ⟨c2, i2, l2, v2⟩ | ⟨c2, i2, l2, v2⟩ | ⟨c2, i2, l2, v2⟩ | ⟨c2, i2, l2, v2⟩ <;>
        rw [v1, v2] at hv <;>
        first
          | (constructor <;> omega)
          | (exfalso; refine hlt _ ?_ hv; omega)
          | (exfalso; refine hlt _ ?_ hv.symm; omega)
          | (exfalso; omega)
          | (have := getD_inj nd (by omega) (by omega) hv
             first
               | (constructor <;> omega)
               | (exfalso; omega))
      refine ⟨?_, ?_⟩
      · rw [take_snoc_int a k (by omega), take_snoc_int b k (by omega), h1, ← getD_getElem (show k < a.length by omega), ← getD_getElem (show k < b.length by omega), hci.1]
      · show nextM a k (zmAt a k) = nextM b k (zmAt b k)
        unfold nextM
        rw [← h2, hci.1, hci.2]
  have := (key a.length (Nat.le_refl _)).1
  rw [List.take_length, hl, List.take_length] at this
  exact this
end Go.Proofs.Ytgjcigokjfhfkaa
