/-
  Texts joined by program, what the law uses alone: ZpRight ZpRightEq ZpZipN ZpOther ZpCountR ZpCost ZpCounts Cmp Row CertA CertI CertL Grp PairM SetQ Jor.
-/
import Derived.Lib.Hide
import Derived.Deep.RegionHeld3
import Derived.Deep.AppendLies
import Derived.Laws.OwnMore
import Derived.WideKeyEntry
import Derived.Deep.AppendSrc
import Derived.Laws.IdiomCopy
import Derived.Test.YtpnkhgjjlionnaaG1
namespace Go.Proofs.Ytpnkhgjjlionnaa.Zp
open Go.RowKit Go.Shelf

/-- What word.Right answers. -/
def rightM (zs : List Int) : Bool :=
  match lengthsM zs with
  | none => false
  | some l => (l.headD 0 == 3) && decide (3 ≤ Lib.minOf l)

theorem lengths_some (s : ByteArray) (hs : s.size ≤ 1000000) (l : List Int) (h : lengthsM (lettersOf s) = some l) (w : World) :
    Calls Try.prog 38 #[.string s] w fun e w' => ∃ g c, e = .returned (.tuple #[.slice (some ⟨g, 0, none⟩) l.length c, .int .i64 0]) ∧ w'.ownsRow w.heap.size 3 1 (.slice (some ⟨g, 0, none⟩) l.length c) l.length (l.map (Value.int .i64)) ∧ Below w.heap.size w w' := by
  refine (lengths_any s hs w).mono ?_
  intro e w' hp
  unfold LenPost at hp
  rw [h] at hp
  obtain ⟨⟨v, rfl, ho⟩, hb⟩ := hp
  have hl := lengthsM_pos h
  obtain ⟨n, hn⟩ : ∃ n, l.length = n + 1 := ⟨l.length - 1, by omega⟩
  rw [hn] at ho
  obtain ⟨g, c, rfl⟩ := ownsRow_succ ho
  rw [hn]
  exact ⟨g, c, rfl, ho, hb⟩
theorem lengths_none (s : ByteArray) (hs : s.size ≤ 1000000) (h : lengthsM (lettersOf s) = none) (w : World) :
    Calls Try.prog 38 #[.string s] w fun e w' => e = .returned (.tuple #[.slice none 0 0, .int .i64 3]) ∧ Below w.heap.size w w' := by
  refine (lengths_any s hs w).mono ?_
  intro e w' hp
  unfold LenPost at hp
  rw [h] at hp
  exact hp

set_option maxHeartbeats 400000 in
theorem right_any (s : ByteArray) (hs : s.size ≤ 1000000) (w : World) :
    Calls Try.prog 35 #[.string s] w fun e w' => e = .returned (.bool (rightM (lettersOf s))) ∧ Below w.heap.size w w' := by
  cases hM : lengthsM (lettersOf s) with
  | none =>
    have hr : rightM (lettersOf s) = false := by unfold rightM; rw [hM]
    have Hr := Lib.hid hr
    have HM := Lib.hid hM
    clear hr hM
    go_enter Try.func35, Try.ntmps35
    go_wp2_with (go_at_call 38; refine (lengths_none s hs HM.out _).mono ?_; rintro e w' ⟨rfl, hb⟩)
    go_ret
    rw [Hr.out]
    exact ⟨rfl, hb⟩
  | some l =>
    have hl := lengthsM_pos hM
    have hlen := lengthsM_length hM
    obtain ⟨z, r, rfl⟩ : ∃ z r, l = z :: r := by
      cases l with
      | nil => simp at hl
      | cons z r => exact ⟨z, r, rfl⟩
    have hr : rightM (lettersOf s) = ((z == 3) && decide (3 ≤ Lib.minOf (z :: r))) := by unfold rightM; rw [hM]; rfl
    rw [lettersOf_length] at hlen
    have hl2 : r.length + 1 ≤ 1000000 := by simp at hlen; omega
    have Hr := Lib.hid hr
    have HM := Lib.hid hM
    have Hl := Lib.hid hl
    clear hr hM hlen hl
    cases h0 : (z == 3)
    · go_enter Try.func35, Try.ntmps35
      go_wp2_with (go_at_call 38; refine (lengths_some s hs _ HM.out _).mono ?_; rintro e w' ⟨g, c, rfl, ho, hb⟩; have hc0 := ho.cellAt 0 (by simp); have hi0 : (0 : Int) < (r.length : Int) + 1 := by omega)
      go_ret
      rw [Hr.out, h0]
      exact ⟨rfl, hb⟩
    · go_enter Try.func35, Try.ntmps35
      go_wp2_with (go_at_call 38; refine (lengths_some s hs _ HM.out _).mono ?_; rintro e w' ⟨g, c, rfl, ho, hb⟩; have hc0 := ho.cellAt 0 (by simp); have hi0 : (0 : Int) < (r.length : Int) + 1 := by omega)
      refine (min_own w.heap.size _ (z :: r) _ (by simpa using ho) Hl.out (by simp; omega)).mono ?_
      rintro e w2 ⟨rfl, rfl⟩
      go_wp2
      go_ret
      rw [Hr.out, h0]
      exact ⟨by simp, hb⟩
end Go.Proofs.Ytpnkhgjjlionnaa.Zp
namespace Go.Proofs.Ytpnkhgjjlionnaa.Zp

theorem foldl_min_le (l : List Int) (a k : Int) : k ≤ l.foldl min a ↔ k ≤ a ∧ ∀ o ∈ l, k ≤ o := by
  induction l generalizing a with
  | nil => simp
  | cons x r ih =>
    rw [List.foldl_cons, ih]
    constructor
    · rintro ⟨h1, h2⟩
      refine ⟨by omega, fun o ho => ?_⟩
      rcases List.mem_cons.1 ho with rfl | ho
      · omega
      · exact h2 o ho
    · rintro ⟨h1, h2⟩
      exact ⟨by have := h2 x (by simp); omega, fun o ho => h2 o (by simp [ho])⟩
theorem minOf_le {l : List Int} (h : l ≠ []) (k : Int) : k ≤ Lib.minOf l ↔ ∀ o ∈ l, k ≤ o := by
  cases l with
  | nil => exact absurd rfl h
  | cons x r =>
    unfold Lib.minOf
    rw [foldl_min_le]
    constructor
    · exact fun h => h.2
    · exact fun h => ⟨h x (by simp), h⟩

theorem mem_popR {st : List Span} {y : Span} (h : y ∈ popR st) : y ∈ st := by
  cases st with
  | nil => exact h
  | cons x r => exact List.mem_cons_of_mem _ h
theorem mem_word {st : List Span} {c : Int} {y : Span} (h : y ∈ (wordM st c).2.2) : y ∈ st := by
  unfold wordM at h
  split at h
  · exact h
  · split at h
    · exact h
    · split at h
      · exact mem_popR h
      · split at h
        · exact mem_popR (mem_popR h)
        · exact mem_popR h

/-- How the two runs stand to each other. -/
structure RunRel (st : List Span) (out : List Int) (r : Option (List Int)) : Prop where
  plain : ∀ x ∈ st, x.2 = false
  good : (∀ o ∈ out, 3 ≤ o) → r = some (st.map (·.1)) ∧ ∀ x ∈ st, 3 ≤ x.1
  bad : ¬ (∀ o ∈ out, 3 ≤ o) → r = none
  top : ∀ x r', st = x :: r' → out.getLast? = some x.1

theorem run_rel (xs : List Int) : (∀ st out, lenRun xs.reverse = some (st, out) → RunRel st out (ref24Run xs.reverse)) ∧ (lenRun xs.reverse = none → ref24Run xs.reverse = none) := by
  induction xs with
  | nil =>
    refine ⟨fun st out h => ?_, fun h => by cases h⟩
    cases h
    exact ⟨by simp, fun _ => ⟨rfl, by simp⟩, fun h => absurd (by simp) h, by simp⟩
  | cons c xs ih =>
    rw [List.reverse_cons, lenRun_snoc, ref24Run_snoc]
    cases hr : lenRun xs.reverse with
    | none =>
      refine ⟨fun st out h => by simp at h, fun _ => ?_⟩
      rw [ih.2 hr]
      rfl
    | some p =>
      obtain ⟨st, out⟩ := p
      obtain ⟨hp, hg, hb, ht⟩ := ih.1 st out hr
      simp only [Option.bind_some]
      have fin : ∀ x r', RunRel (x :: r') (out ++ [x.1]) ((ref24Run xs.reverse).bind fun p => ref24Step p c) ↔
          (∀ y ∈ x :: r', y.2 = false) ∧ ((∀ o ∈ out ++ [x.1], 3 ≤ o) → ((ref24Run xs.reverse).bind fun p => ref24Step p c) = some ((x :: r').map (·.1)) ∧ ∀ y ∈ x :: r', 3 ≤ y.1) ∧ (¬ (∀ o ∈ out ++ [x.1], 3 ≤ o) → ((ref24Run xs.reverse).bind fun p => ref24Step p c) = none) := by
        intro x r'
        constructor
        · rintro ⟨h1, h2, h3, -⟩; exact ⟨h1, h2, h3⟩
        · rintro ⟨h1, h2, h3⟩; exact ⟨h1, h2, h3, fun y r2 e => by cases e; simp⟩
      -- where what came before was bad, all is bad
      by_cases hall : ∀ o ∈ out, 3 ≤ o
      · obtain ⟨hrs, hge⟩ := hg hall
        rw [hrs] at fin ⊢
        simp only [Option.bind_some] at fin ⊢
        have allsnoc : ∀ x : Int, (∀ o ∈ out ++ [x], 3 ≤ o) ↔ 3 ≤ x := fun x => by
          constructor
          · exact fun h => h x (by simp)
          · intro h o ho
            rcases List.mem_append.1 ho with ho | ho
            · exact hall o ho
            · simp at ho; omega
        constructor
        · intro st' out' h
          unfold lenStep at h
          split at h
          · cases h
          · rename_i hno
            simp only [Option.some.injEq, Prod.mk.injEq] at h
            obtain ⟨rfl, rfl⟩ := h
            rw [fin]
            simp only [allsnoc]
            revert hno
            unfold wordM ref24Step
            by_cases h0 : codeN c = 0
            · simp [h0]
            · simp only [h0, if_false]
              by_cases h1 : c = 69
              · subst h1
                simp only [if_true]
                intro _
                refine ⟨?_, fun _ => ⟨rfl, ?_⟩, fun h => absurd (by simp) h⟩
                · intro y hy; rcases List.mem_cons.1 hy with rfl | hy
                  · rfl
                  · exact hp y hy
                · intro y hy; rcases List.mem_cons.1 hy with rfl | hy
                  · simp
                  · exact hge y hy
              · simp only [h1, if_false]
                cases st with
                | nil =>
                  intro hno
                  exfalso
                  apply hno
                  right
                  by_cases h2 : c = 67 <;> by_cases h3 : c = 83 <;> simp [h2, h3, popX]
                | cons x r =>
                  have hx2 : x.2 = false := hp x (by simp)
                  have hx3 : 3 ≤ x.1 := hge x (by simp)
                  have hpr : ∀ y ∈ r, y.2 = false := fun y hy => hp y (by simp [hy])
                  have hgr : ∀ y ∈ r, 3 ≤ y.1 := fun y hy => hge y (by simp [hy])
                  simp only [popX, popR]
                  by_cases h2 : c = 67
                  · subst h2
                    simp only [if_true, hx2, Bool.false_eq_true, if_false, List.map_cons]
                    intro _
                    refine ⟨?_, fun h => ?_, fun h => ?_⟩
                    · intro y hy; rcases List.mem_cons.1 hy with rfl | hy
                      · rfl
                      · exact hpr y hy
                    · rw [if_neg (by omega)]
                      refine ⟨rfl, fun y hy => ?_⟩
                      rcases List.mem_cons.1 hy with rfl | hy
                      · exact h
                      · exact hgr y hy
                    · rw [if_pos (by omega)]
                  · simp only [h2, if_false]
                    by_cases h3 : c = 83
                    · subst h3
                      cases r with
                      | nil =>
                        intro hno
                        exfalso
                        apply hno
                        right
                        simp
                      | cons y r =>
                        have hy2 : y.2 = false := hpr y (by simp)
                        have hy3 : 3 ≤ y.1 := hgr y (by simp)
                        simp only [if_true, List.map_cons]
                        intro _
                        refine ⟨?_, fun h => ⟨by simp, ?_⟩, fun h => absurd (by omega) h⟩
                        · intro z hz; rcases List.mem_cons.1 hz with rfl | hz
                          · simp [hx2, hy2]
                          · exact hpr z (by simp [hz])
                        · intro z hz; rcases List.mem_cons.1 hz with rfl | hz
                          · exact h
                          · exact hgr z (by simp [hz])
                    · simp only [h3, if_false]
                      intro _
                      have h4 : c = 76 ∨ c = 82 := by
                        unfold codeN at h0
                        simp [h1, h2, h3] at h0
                        omega
                      rw [if_pos h4]
                      refine ⟨?_, fun h => ⟨rfl, ?_⟩, fun h => absurd (by first | omega | (simp only; omega)) h⟩
                      · intro z hz; rcases List.mem_cons.1 hz with rfl | hz
                        · exact hx2
                        · exact hpr z hz
                      · intro z hz; rcases List.mem_cons.1 hz with rfl | hz
                        · exact h
                        · exact hgr z hz
        · intro h
          unfold lenStep at h
          split at h
          · rename_i hno
            revert hno
            unfold wordM ref24Step
            by_cases h0 : codeN c = 0
            · intro _
              unfold codeN at h0
              by_cases h1 : c = 69
              · simp [h1] at h0
              · by_cases h2 : c = 67
                · simp [h2] at h0
                · by_cases h3 : c = 83
                  · simp [h3] at h0
                  · by_cases h4 : c = 76 ∨ c = 82
                    · rcases h4 with rfl | rfl <;> simp at h0
                    · simp [h1, h2, h3, h4]
            · simp only [h0, if_false]
              by_cases h1 : c = 69
              · subst h1; simp
              · simp only [h1, if_false]
                cases st with
                | nil =>
                  intro _
                  by_cases h2 : c = 67
                  · simp [h2]
                  · by_cases h4 : c = 76 ∨ c = 82
                    · rcases h4 with rfl | rfl <;> simp
                    · by_cases h3 : c = 83
                      · subst h3; simp
                      · simp [h2, h3, h4]
                | cons x r =>
                  have hx2 : x.2 = false := hp x (by simp)
                  have hpr : ∀ y ∈ r, y.2 = false := fun y hy => hp y (by simp [hy])
                  simp only [popX, popR]
                  by_cases h2 : c = 67
                  · subst h2; simp [hx2]
                  · simp only [h2, if_false]
                    by_cases h3 : c = 83
                    · subst h3
                      cases r with
                      | nil => intro _; simp
                      | cons y r => simp [hx2, hpr y (by simp)]
                    · simp only [h3, if_false]
                      simp [hx2]
          · cases h
      · have hn := hb hall
        rw [hn] at fin ⊢
        refine ⟨fun st' out' h => ?_, fun _ => rfl⟩
        unfold lenStep at h
        split at h
        · cases h
        · rename_i hno
          simp only [Option.some.injEq, Prod.mk.injEq] at h
          obtain ⟨rfl, rfl⟩ := h
          rw [fin]
          refine ⟨?_, fun h => absurd (fun o ho => h o (by simp [ho])) hall, fun _ => rfl⟩
          intro y hy
          rcases List.mem_cons.1 hy with rfl | hy
          · cases h : (wordM st c).1.2
            · rfl
            · exact absurd (.inr h) hno
          · exact hp y (mem_word hy)

theorem right_eq (zs : List Int) : rightM zs = ref24M zs := by
  obtain ⟨h1, h2⟩ := run_rel zs
  unfold rightM ref24M lengthsM
  cases hr : lenRun zs.reverse with
  | none => rw [h2 hr]
  | some p =>
    obtain ⟨st, out⟩ := p
    obtain ⟨-, hg, hb, ht⟩ := h1 st out hr
    have hl := (lenRun_some hr).1
    simp only
    by_cases hall : ∀ o ∈ out, 3 ≤ o
    · rw [(hg hall).1]
      match st, ht with
      | [], _ => simp [isThree]
      | [x], ht =>
        have ht' := ht x [] rfl
        have hne : out.reverse ≠ [] := by
          intro e
          have : out = [] := by simpa using e
          rw [this] at ht'
          cases ht'
        have hm : 3 ≤ Lib.minOf out.reverse := (minOf_le hne 3).2 (fun o ho => hall o (by simpa using ho))
        have hh : out.reverse.headD 0 = x.1 := by
          rw [List.headD_eq_head?_getD, List.head?_reverse, ht']; rfl
        simp only [List.length_cons, List.length_nil, if_true, isThree, List.map_cons, List.map_nil]
        rw [hh]
        simp [hm]
      | x :: y :: r, _ => simp [isThree]
    · rw [hb hall]
      by_cases h1 : st.length = 1
      · rw [if_pos h1]
        have hne : out.reverse ≠ [] := by
          intro e
          have : out = [] := by simpa using e
          exact hall (by rw [this]; simp)
        have hm : ¬ 3 ≤ Lib.minOf out.reverse := fun h => hall (fun o ho => (minOf_le hne 3).1 h o (by simpa using ho))
        simp [hm]
      · rw [if_neg h1]
end Go.Proofs.Ytpnkhgjjlionnaa.Zp
namespace Go.Proofs.Ytpnkhgjjlionnaa.Zp
open Go.RowKit

/-- Of an S the length of the second word that it takes. -/
def iAt (zs : List Int) (k : Nat) : Nat := if zs.getD k 0 = 83 then (match stAt zs (k + 1) with | some (_ :: y :: _) => y.toNat | _ => 0) else 0
def nextM (zs : List Int) (k : Nat) (m : ZM) : ZM :=
  { (stepM (zs.getD k 0) (iAt zs k) m).2 with T := m.T ++ [((stepM (zs.getD k 0) (iAt zs k) m).1, m.loop.getD 0 0, m.loop.getD 1 0)] }
/-- What is zipped ahead of letter k. -/
def zmAt (zs : List Int) : Nat → ZM
  | 0 => ⟨3, [(0, 1, 2)], [1, 0, 2], []⟩
  | k + 1 => nextM zs k (zmAt zs k)
/-- The triangle of letter k; whether it fits to those ahead. -/
def triAt (zs : List Int) (k : Nat) : Tr := ((stepM (zs.getD k 0) (iAt zs k) (zmAt zs k)).1, (zmAt zs k).loop.getD 0 0, (zmAt zs k).loop.getD 1 0)
def fitsAt (zs : List Int) (k : Nat) : Bool := fitsM (zmAt zs k).T (triAt zs k)
theorem stepM_T (c : Int) (i : Nat) (m : ZM) : (stepM c i m).2.T = m.T := by
  unfold stepM
  repeat' split
  all_goals rfl

theorem run_all3 {cs l : List Int} (h : ref24Run cs = some l) : ∀ x ∈ l, 3 ≤ x := by
  suffices H : ∀ (cs p q : List Int), (∀ x ∈ p, 3 ≤ x) → cs.foldlM ref24Step p = some q → ∀ x ∈ q, 3 ≤ x from H cs [] l (by simp) h
  intro cs
  induction cs with
  | nil => intro p q hp h; simp at h; subst h; exact hp
  | cons c r ih =>
    intro p q hp h
    rw [List.foldlM_cons] at h
    cases hs : ref24Step p c with
    | none => rw [hs] at h; cases h
    | some p' =>
      rw [hs] at h
      refine ih p' q ?_ h
      unfold ref24Step at hs
      split at hs
      · cases hs
        intro x hx
        simp at hx
        rcases hx with rfl | hx
        · omega
        · exact hp x hx
      · split at hs
        · cases p with
          | nil => cases hs
          | cons y t =>
            simp only at hs
            split at hs
            · cases hs
            · cases hs
              intro x hx
              simp at hx
              rcases hx with rfl | hx
              · omega
              · exact hp x (by simp [hx])
        · split at hs
          · cases p with
            | nil => cases hs
            | cons y t =>
              cases hs
              intro x hx
              simp at hx
              rcases hx with rfl | hx
              · have := hp y (by simp); omega
              · exact hp x (by simp [hx])
          · split at hs
            · match p, hs with
              | y :: u :: t, hs =>
                cases hs
                intro x hx
                simp at hx
                rcases hx with rfl | hx
                · have h1 := hp y (by simp); have h2 := hp u (by simp); omega
                · exact hp x (by simp [hx])
            · cases hs
theorem step_letter {l l' : List Int} {c : Int} (h : ref24Step l c = some l') : (c = 67 ∨ c = 69 ∨ c = 76 ∨ c = 82 ∨ c = 83) ∧ l' ≠ [] := by
  unfold ref24Step at h
  split at h
  · rename_i hc; cases h; exact ⟨.inr (.inl hc), by simp⟩
  · split at h
    · rename_i hc
      cases l with
      | nil => cases h
      | cons x r =>
        simp only at h
        split at h
        · cases h
        · cases h; exact ⟨.inl hc, by simp⟩
    · split at h
      · rename_i hc
        cases l with
        | nil => cases h
        | cons x r =>
          cases h
          exact ⟨by rcases hc with h | h <;> simp [h], by simp⟩
      · split at h
        · rename_i hc
          match l, h with
          | x :: y :: r, h => cases h; exact ⟨.inr (.inr (.inr (.inr hc))), by simp⟩
        · cases h
theorem getD_getElem {zs : List Int} {k : Nat} (h : k < zs.length) : zs.getD k 0 = zs[k] := by simp [List.getD, List.getElem?_eq_getElem h]
theorem getD_mem {zs : List Int} {k : Nat} (h : k < zs.length) : zs.getD k 0 ∈ zs := by rw [getD_getElem h]; exact List.getElem_mem h

structure ZInv (zs : List Int) (k : Nat) (m : ZM) : Prop where
  st : k < zs.length → stAt zs k = some ((m.loop.length : Int) :: m.waits.map fun l => (l.length : Int))
  T : m.T.length = k + 1
  n : (m.n : Int) = 3 + cnt (zs.take k) 67
  lb : ∀ x ∈ m.loop, 0 ≤ x ∧ x < m.n
  wb : ∀ l ∈ m.waits, ∀ x ∈ l, 0 ≤ x ∧ x < m.n

section
variable {zs : List Int} {k : Nat} {m : ZM}
theorem ZInv.start (h : ref24M zs = true) : ZInv zs 0 (zmAt zs 0) := by
  refine ⟨fun _ => ?_, rfl, rfl, ?_, fun l hl => absurd hl (by simp [zmAt])⟩
  · rw [stAt_zero]
    unfold ref24M at h
    cases hr : ref24Run zs.reverse with
    | none => rw [hr] at h; cases h
    | some l =>
      rw [hr] at h
      match l, h with
      | [x], h =>
        have : x = 3 := by simpa [isThree] using h
        subst this
        rfl
  · intro x hx
    simp [zmAt] at hx ⊢
    omega
theorem ZInv.len (h : ZInv zs k m) (hk : k < zs.length) : 3 ≤ m.loop.length ∧ (m.loop.length : Int) ≤ 4 * zs.length ∧ m.waits.length ≤ zs.length ∧ (zs.getD k 0 = 67 ∨ zs.getD k 0 = 69 ∨ zs.getD k 0 = 76 ∨ zs.getD k 0 = 82 ∨ zs.getD k 0 = 83) ∧ (zs.getD k 0 = 83 → 1 ≤ iAt zs k ∧ iAt zs k < m.loop.length) := by
  have hs := h.st hk
  have h1 : (m.loop.length : Int) ≥ 3 := run_all3 hs _ (by simp)
  obtain ⟨h2, h3⟩ := ref24Run_some hs
  simp only [List.length_reverse, List.length_drop, List.length_cons, List.length_map, sumL] at h2 h3
  have h4 := sumL_nonneg (m.waits.map fun l => (l.length : Int))
  have h5 := stAt_step zs k hk
  rw [hs] at h5
  cases hq : stAt zs (k + 1) with
  | none => rw [hq] at h5; cases h5
  | some q =>
    rw [hq] at h5
    simp only [Option.bind_some] at h5
    rw [← getD_getElem hk] at h5
    refine ⟨by omega, by omega, by omega, (step_letter h5.symm).1, fun hc => ?_⟩
    rw [hc] at h5
    unfold iAt
    rw [if_pos hc, hq]
    match q, h5, hq with
    | x :: y :: r, h5, hq =>
      have h6 : some ((m.loop.length : Int) :: m.waits.map fun l => (l.length : Int)) = some ((x + y - 1) :: r) := h5
      have h7 := run_all3 hq
      have h8 := h7 x (by simp)
      have h9 := h7 y (by simp)
      simp at h6
      simp only
      omega
    | [x], h5, _ => cases h5
    | [], h5, _ => cases h5
theorem ZInv.tri (h : ZInv zs k m) (hk : k < zs.length) : 0 ≤ m.loop.getD 0 0 ∧ m.loop.getD 0 0 < m.n ∧ 0 ≤ m.loop.getD 1 0 ∧ m.loop.getD 1 0 < m.n ∧ 0 ≤ (stepM (zs.getD k 0) (iAt zs k) m).1 ∧ (stepM (zs.getD k 0) (iAt zs k) m).1 ≤ m.n := by
  obtain ⟨h1, h2, h3, h4, h5⟩ := h.len hk
  have g0 := h.lb _ (getD_mem (zs := m.loop) (k := 0) (by omega))
  have g1 := h.lb _ (getD_mem (zs := m.loop) (k := 1) (by omega))
  refine ⟨g0.1, g0.2, g1.1, g1.2, ?_⟩
  have H : ∀ j, j < m.loop.length → 0 ≤ m.loop.getD j 0 ∧ m.loop.getD j 0 ≤ m.n := fun j hj => by
    have := h.lb _ (getD_mem (zs := m.loop) hj)
    omega
  unfold stepM
  rcases h4 with hc | hc | hc | hc | hc <;> rw [hc] <;> simp only [if_true, if_false, Int.reduceEq]
  · omega
  · cases m.waits <;> exact H 2 (by omega)
  · exact H _ (by omega)
  · exact H _ (by omega)
  · exact H _ (h5 hc).2
theorem ZInv.next (h : ZInv zs k m) (hk : k < zs.length) : ZInv zs (k + 1) (nextM zs k m) := by
  obtain ⟨h1, h2, h3, h4, h5⟩ := h.len hk
  have hs := h.st hk
  have hst := stAt_step zs k hk
  rw [hs, ← getD_getElem hk] at hst
  have htk : zs.take (k + 1) = zs.take k ++ [zs.getD k 0] := by rw [getD_getElem hk]; exact take_snoc_int zs k hk
  have hn := h.n
  cases hq : stAt zs (k + 1) with
  | none => rw [hq] at hst; cases hst
  | some q =>
    rw [hq] at hst
    simp only [Option.bind_some] at hst
    have hcn : cnt (zs.take (k + 1)) 67 = cnt (zs.take k) 67 + (if zs.getD k 0 = 67 then 1 else 0) := by
      rw [htk, cnt_snoc]
      split <;> simp_all
    have htl : (nextM zs k m).T.length = k + 1 + 1 := by simp [nextM, h.T]
    have hsub : ∀ l : List Int, (∀ x ∈ l, x ∈ m.loop) → ∀ x ∈ l, 0 ≤ x ∧ x < m.n := fun l hl x hx => h.lb x (hl x hx)
    rcases h4 with hc | hc | hc | hc | hc
    · have e : nextM zs k m = { n := m.n + 1, T := m.T ++ [((m.n : Int), m.loop.getD 0 0, m.loop.getD 1 0)], loop := m.loop.take 1 ++ [(m.n : Int)] ++ m.loop.drop 1, waits := m.waits } := by
        simp only [nextM, stepM, hc, if_true]
      rw [hc] at hst hcn
      rw [e] at htl ⊢
      refine ⟨fun _ => ?_, htl, ?_, ?_, ?_⟩
      · rw [hq]
        match q, hst with
        | x :: r, hst =>
          by_cases hx : x < 4
          · simp [ref24Step, hx] at hst
          · simp [ref24Step, hx] at hst
            have : (m.loop.take 1 ++ [(m.n : Int)] ++ m.loop.drop 1).length = m.loop.length + 1 := by simp; omega
            rw [this, hst.2]
            congr 2
            push_cast
            omega
        | [], hst => simp [ref24Step] at hst
      · simp at hcn ⊢; omega
      · intro x hx
        simp only [List.mem_append, List.mem_singleton] at hx
        rcases hx with (hx | rfl) | hx
        · have := h.lb x (List.mem_of_mem_take hx); simp; omega
        · simp; omega
        · have := h.lb x (List.mem_of_mem_drop hx); simp; omega
      · intro l hl x hx
        have := h.wb l hl x hx
        simp; omega
    · rw [hc] at hst hcn
      have hq2 : q = m.waits.map fun l => (l.length : Int) := by
        simp [ref24Step] at hst
        exact hst.2.symm
      cases hw : m.waits with
      | nil =>
        have e : nextM zs k m = { n := m.n, T := m.T ++ [(m.loop.getD 2 0, m.loop.getD 0 0, m.loop.getD 1 0)], loop := m.loop, waits := m.waits } := by
          simp only [nextM, stepM, hc, hw, if_false, Int.reduceEq]
        rw [e] at htl ⊢
        refine ⟨fun hk1 => ?_, htl, by simp at hcn ⊢; omega, h.lb, h.wb⟩
        exfalso
        rw [hw] at hq2
        subst hq2
        have h6 := stAt_step zs (k + 1) hk1
        rw [hq] at h6
        cases hq3 : stAt zs (k + 1 + 1) with
        | none => rw [hq3] at h6; cases h6
        | some q3 =>
          rw [hq3] at h6
          exact (step_letter h6.symm).2 rfl
      | cons l r =>
        have e : nextM zs k m = { n := m.n, T := m.T ++ [(m.loop.getD 2 0, m.loop.getD 0 0, m.loop.getD 1 0)], loop := l, waits := r } := by
          simp only [nextM, stepM, hc, hw, if_false, Int.reduceEq]
        rw [e] at htl ⊢
        refine ⟨fun _ => ?_, htl, by simp at hcn ⊢; omega, fun x hx => h.wb l (by simp [hw]) x hx, fun l' hl' => h.wb l' (by simp [hw, hl'])⟩
        rw [hq, hq2, hw]
        rfl
    · have e : nextM zs k m = { n := m.n, T := m.T ++ [(m.loop.getD (m.loop.length - 1) 0, m.loop.getD 0 0, m.loop.getD 1 0)], loop := m.loop.drop (m.loop.length - 1) ++ (m.loop.take (m.loop.length - 1)).drop 1, waits := m.waits } := by
        simp only [nextM, stepM, hc, if_true, if_false, Int.reduceEq]
      rw [hc] at hst hcn
      rw [e] at htl ⊢
      refine ⟨fun _ => ?_, htl, by simp at hcn ⊢; omega, ?_, h.wb⟩
      · rw [hq]
        match q, hst with
        | x :: r, hst =>
          simp [ref24Step] at hst
          have : (m.loop.drop (m.loop.length - 1) ++ (m.loop.take (m.loop.length - 1)).drop 1).length = m.loop.length - 1 := by simp; omega
          rw [this, hst.2]
          congr 2
          omega
        | [], hst => simp [ref24Step] at hst
      · refine hsub _ fun x hx => ?_
        simp only [List.mem_append] at hx
        rcases hx with hx | hx
        · exact List.mem_of_mem_drop hx
        · exact List.mem_of_mem_take (List.mem_of_mem_drop hx)
    · have e : nextM zs k m = { n := m.n, T := m.T ++ [(m.loop.getD 2 0, m.loop.getD 0 0, m.loop.getD 1 0)], loop := m.loop.take 1 ++ m.loop.drop 2, waits := m.waits } := by
        simp only [nextM, stepM, hc, if_true, if_false, Int.reduceEq]
      rw [hc] at hst hcn
      rw [e] at htl ⊢
      refine ⟨fun _ => ?_, htl, by simp at hcn ⊢; omega, ?_, h.wb⟩
      · rw [hq]
        match q, hst with
        | x :: r, hst =>
          simp [ref24Step] at hst
          have : (m.loop.take 1 ++ m.loop.drop 2).length = m.loop.length - 1 := by simp; omega
          rw [this, hst.2]
          congr 2
          omega
        | [], hst => simp [ref24Step] at hst
      · refine hsub _ fun x hx => ?_
        simp only [List.mem_append] at hx
        rcases hx with hx | hx
        · exact List.mem_of_mem_take hx
        · exact List.mem_of_mem_drop hx
    · obtain ⟨i1, i2⟩ := h5 hc
      have e : nextM zs k m = { n := m.n, T := m.T ++ [(m.loop.getD (iAt zs k) 0, m.loop.getD 0 0, m.loop.getD 1 0)], loop := m.loop.take 1 ++ m.loop.drop (iAt zs k), waits := ((m.loop.drop (iAt zs k)).take 1 ++ (m.loop.take (iAt zs k)).drop 1) :: m.waits } := by
        simp only [nextM, stepM, hc, if_true, if_false, Int.reduceEq]
      have hi : iAt zs k = match stAt zs (k + 1) with | some (_ :: y :: _) => y.toNat | _ => 0 := by unfold iAt; rw [if_pos hc]
      rw [hq] at hi
      rw [hc] at hst hcn
      rw [e] at htl ⊢
      refine ⟨fun _ => ?_, htl, by simp at hcn ⊢; omega, ?_, ?_⟩
      · rw [hq]
        match q, hst, hi with
        | x :: y :: r, hst, hi =>
          simp [ref24Step] at hst
          simp only at hi
          have e1 : (m.loop.take 1 ++ m.loop.drop (iAt zs k)).length = 1 + (m.loop.length - iAt zs k) := by simp; omega
          have e2 : ((m.loop.drop (iAt zs k)).take 1 ++ (m.loop.take (iAt zs k)).drop 1).length = iAt zs k := by simp; omega
          rw [List.map_cons, e1, e2, hst.2]
          have hy : (iAt zs k : Int) = y := by omega
          congr 2
          · omega
          · rw [hy]
        | [x], hst, hi => simp [ref24Step] at hst
        | [], hst, hi => simp [ref24Step] at hst
      · refine hsub _ fun x hx => ?_
        simp only [List.mem_append] at hx
        rcases hx with hx | hx
        · exact List.mem_of_mem_take hx
        · exact List.mem_of_mem_drop hx
      · intro l hl
        simp only [List.mem_cons] at hl
        rcases hl with rfl | hl
        · refine hsub _ fun x hx => ?_
          simp only [List.mem_append] at hx
          rcases hx with hx | hx
          · exact List.mem_of_mem_drop (List.mem_of_mem_take hx)
          · exact List.mem_of_mem_take (List.mem_of_mem_drop hx)
        · exact h.wb l hl
end
theorem zinv_at {zs : List Int} (h : ref24M zs = true) : ∀ k, k ≤ zs.length → ZInv zs k (zmAt zs k) := by
  intro k
  induction k with
  | zero => intro _; exact ZInv.start h
  | succ k ih => intro hk; exact (ih (by omega)).next (by omega)
theorem lenFold_pre (ds : List Int) : ∀ (p q : List Span × List Int), ds.foldlM lenStep p = some q → ∃ ext, q.2 = p.2 ++ ext ∧ ext.length = ds.length := by
  induction ds with
  | nil => intro p q h; simp at h; subst h; exact ⟨[], by simp, rfl⟩
  | cons d r ih =>
    intro p q h
    rw [List.foldlM_cons] at h
    cases hs : lenStep p d with
    | none => rw [hs] at h; cases h
    | some p' =>
      rw [hs] at h
      obtain ⟨ext, h1, h2⟩ := ih p' q h
      unfold lenStep at hs
      split at hs
      · cases hs
      · cases hs
        exact ⟨(wordM p.1 d).1.1 :: ext, by rw [h1]; simp, by simp [h2]⟩
/-- What word.Lengths tells of a letter is what the stack has on top there. -/
theorem lengths_at {zs l : List Int} (h : lengthsM zs = some l) {p : Nat} {x : Int} {r : List Int} (hst : stAt zs p = some (x :: r)) (hp : p < zs.length) : l[p]? = some x := by
  unfold lengthsM at h
  cases hr : lenRun zs.reverse with
  | none => rw [hr] at h; cases h
  | some q =>
    obtain ⟨st, out⟩ := q
    rw [hr] at h
    simp only at h
    have hl : out.reverse = l := by
      split at h
      · cases h; rfl
      · cases h
    have hsp : zs.reverse = (zs.drop p).reverse ++ (zs.take p).reverse := by rw [← List.reverse_append, List.take_append_drop]
    rw [hsp] at hr
    unfold lenRun at hr
    rw [List.foldlM_append] at hr
    cases hr1 : (zs.drop p).reverse.foldlM lenStep ([], []) with
    | none => rw [hr1] at hr; cases hr
    | some q1 =>
      obtain ⟨st1, out1⟩ := q1
      rw [hr1] at hr
      obtain ⟨ext, h1, h2⟩ := lenFold_pre _ _ _ hr
      simp only at h1
      have hrel := (run_rel (zs.drop p)).1 st1 out1 hr1
      unfold stAt at hst
      have hall : ∀ o ∈ out1, 3 ≤ o := by
        by_cases ha : ∀ o ∈ out1, 3 ≤ o
        · exact ha
        · have := hrel.bad ha
          rw [hst] at this
          cases this
      have hg := (hrel.good hall).1
      rw [hst] at hg
      match st1, hg, hrel.top with
      | y :: t, hg, htop =>
        have hx : x = y.1 := by simpa using (congrArg (fun o => (o.getD []).head?) hg)
        have := htop y t rfl
        rw [← hl, h1, List.reverse_append, List.getElem?_append_right (by simp [h2]; omega), hx]
        simp only [List.length_reverse, h2, List.length_take]
        rw [show p - min p zs.length = 0 from by omega, ← List.head?_eq_getElem?, List.head?_reverse]
        exact this
      | [], hg, _ => simp at hg
end Go.Proofs.Ytpnkhgjjlionnaa.Zp
namespace Go.Proofs.Ytpnkhgjjlionnaa.Zp

section
variable {zs : List Int} {k : Nat} {m : ZM}
/-- Which vertex each letter tells, and how long the loop is. -/
theorem ZInv.kind (h : ZInv zs k m) (hk : k < zs.length) :
    (zs.getD k 0 = 67 ∧ iAt zs k = 0 ∧ (stepM (zs.getD k 0) (iAt zs k) m).1 = m.n) ∨
    (zs.getD k 0 = 69 ∧ iAt zs k = 0 ∧ m.loop.length = 3 ∧ (stepM (zs.getD k 0) (iAt zs k) m).1 = m.loop.getD 2 0) ∨
    (zs.getD k 0 = 76 ∧ iAt zs k = 0 ∧ 4 ≤ m.loop.length ∧ (stepM (zs.getD k 0) (iAt zs k) m).1 = m.loop.getD (m.loop.length - 1) 0) ∨
    (zs.getD k 0 = 82 ∧ iAt zs k = 0 ∧ 4 ≤ m.loop.length ∧ (stepM (zs.getD k 0) (iAt zs k) m).1 = m.loop.getD 2 0) ∨
    (zs.getD k 0 = 83 ∧ 3 ≤ iAt zs k ∧ iAt zs k + 2 ≤ m.loop.length ∧ (stepM (zs.getD k 0) (iAt zs k) m).1 = m.loop.getD (iAt zs k) 0) := by
  obtain ⟨h1, h2, h3, h4, h5⟩ := h.len hk
  have hs := h.st hk
  have hst := stAt_step zs k hk
  rw [hs, ← getD_getElem hk] at hst
  cases hq : stAt zs (k + 1) with
  | none => rw [hq] at hst; cases hst
  | some q =>
    rw [hq] at hst
    simp only [Option.bind_some] at hst
    have hall := run_all3 hq
    have hz : zs.getD k 0 ≠ 83 → iAt zs k = 0 := fun hne => by unfold iAt; rw [if_neg hne]
    rcases h4 with hc | hc | hc | hc | hc
    · refine .inl ⟨hc, hz (by rw [hc]; decide), ?_⟩
      simp only [stepM, hc, if_true]
    · refine .inr (.inl ⟨hc, hz (by rw [hc]; decide), ?_, ?_⟩)
      · rw [hc] at hst
        simp [ref24Step] at hst
        omega
      · simp only [stepM, hc, if_false, Int.reduceEq]
        cases m.waits <;> rfl
    · refine .inr (.inr (.inl ⟨hc, hz (by rw [hc]; decide), ?_, ?_⟩))
      · rw [hc] at hst
        match q, hst, hall with
        | x :: r, hst, hall =>
          simp [ref24Step] at hst
          have := hall x (by simp)
          omega
        | [], hst, _ => simp [ref24Step] at hst
      · simp only [stepM, hc, if_true, if_false, Int.reduceEq]
    · refine .inr (.inr (.inr (.inl ⟨hc, hz (by rw [hc]; decide), ?_, ?_⟩)))
      · rw [hc] at hst
        match q, hst, hall with
        | x :: r, hst, hall =>
          simp [ref24Step] at hst
          have := hall x (by simp)
          omega
        | [], hst, _ => simp [ref24Step] at hst
      · simp only [stepM, hc, if_true, if_false, Int.reduceEq]
    · have hi : iAt zs k = match stAt zs (k + 1) with | some (_ :: y :: _) => y.toNat | _ => 0 := by unfold iAt; rw [if_pos hc] <;> rfl
      rw [hq] at hi
      refine .inr (.inr (.inr (.inr ⟨hc, ?_, ?_, ?_⟩)))
      all_goals try (rw [hc] at hst)
      · match q, hst, hall, hi with
        | x :: y :: r, hst, hall, hi =>
          have := hall y (by simp)
          simp only at hi
          omega
        | [x], hst, _, _ => simp [ref24Step] at hst
        | [], hst, _, _ => simp [ref24Step] at hst
      · match q, hst, hall, hi with
        | x :: y :: r, hst, hall, hi =>
          simp [ref24Step] at hst
          have := hall x (by simp)
          have := hall y (by simp)
          simp only at hi
          omega
        | [x], hst, _, _ => simp [ref24Step] at hst
        | [], hst, _, _ => simp [ref24Step] at hst
      · simp only [stepM, hc, if_true, if_false, Int.reduceEq]
/-- No vertex stands in a loop twice. -/
def ZNod (m : ZM) : Prop := m.loop.Nodup ∧ ∀ l ∈ m.waits, l.Nodup
theorem nodup_last {l : List Int} (h : l.Nodup) : (l.drop (l.length - 1) ++ (l.take (l.length - 1)).drop 1).Nodup := by
  have h1 : (l.take (l.length - 1) ++ l.drop (l.length - 1)).Nodup := by rw [List.take_append_drop]; exact h
  rw [List.nodup_append] at h1 ⊢
  obtain ⟨a1, a2, a3⟩ := h1
  exact ⟨a2, a1.sublist (List.drop_sublist _ _), fun x hx y hy e => a3 y (List.mem_of_mem_drop hy) x hx e.symm⟩
theorem nodup_skip {l : List Int} (h : l.Nodup) (i : Nat) (hi : 1 ≤ i) : (l.take 1 ++ l.drop i).Nodup := by
  have h1 : (l.take 1 ++ l.drop 1).Nodup := by rw [List.take_append_drop]; exact h
  refine h1.sublist (List.Sublist.append_left ?_ _)
  have : l.drop i = (l.drop 1).drop (i - 1) := by rw [List.drop_drop]; congr 1; omega
  rw [this]
  exact List.drop_sublist _ _
theorem nodup_wait {l : List Int} (h : l.Nodup) (i : Nat) : ((l.drop i).take 1 ++ (l.take i).drop 1).Nodup := by
  have h1 : (l.take i ++ l.drop i).Nodup := by rw [List.take_append_drop]; exact h
  rw [List.nodup_append] at h1 ⊢
  obtain ⟨a1, a2, a3⟩ := h1
  exact ⟨a2.sublist (List.take_sublist _ _), a1.sublist (List.drop_sublist _ _), fun x hx y hy e => a3 y (List.mem_of_mem_drop hy) x (List.mem_of_mem_take hx) e.symm⟩
theorem ZNod.next (h : ZInv zs k m) (hk : k < zs.length) (hn : ZNod m) : ZNod (nextM zs k m) := by
  obtain ⟨h1, h2, h3, h4, h5⟩ := h.len hk
  obtain ⟨n1, n2⟩ := hn
  unfold ZNod
  rcases h4 with hc | hc | hc | hc | hc
  · simp only [nextM, stepM, hc, if_true]
    refine ⟨?_, n2⟩
    have hsp : (m.loop.take 1 ++ m.loop.drop 1).Nodup := by rw [List.take_append_drop]; exact n1
    rw [List.nodup_append] at hsp
    obtain ⟨a1, a2, a3⟩ := hsp
    have hnew : ∀ x ∈ m.loop, x ≠ (m.n : Int) := fun x hx e => by have := (h.lb x hx).2; omega
    rw [List.nodup_append, List.nodup_append]
    refine ⟨⟨a1, by simp, fun x hx y hy e => ?_⟩, a2, fun x hx y hy e => ?_⟩
    · simp at hy; exact hnew x (List.mem_of_mem_take hx) (by rw [e, hy])
    · simp only [List.mem_append, List.mem_singleton] at hx
      rcases hx with hx | hx
      · exact a3 x hx y hy e
      · exact hnew y (List.mem_of_mem_drop hy) (by rw [← e, hx])
  · cases hw : m.waits with
    | nil =>
      simp only [nextM, stepM, hc, hw, if_false, Int.reduceEq]
      exact ⟨n1, by rw [hw] at n2; exact n2⟩
    | cons l r =>
      simp only [nextM, stepM, hc, hw, if_false, Int.reduceEq]
      rw [hw] at n2
      exact ⟨n2 l (by simp), fun x hx => n2 x (by simp [hx])⟩
  · simp only [nextM, stepM, hc, if_true, if_false, Int.reduceEq]
    exact ⟨nodup_last n1, n2⟩
  · simp only [nextM, stepM, hc, if_true, if_false, Int.reduceEq]
    exact ⟨nodup_skip n1 2 (by omega), n2⟩
  · simp only [nextM, stepM, hc, if_true, if_false, Int.reduceEq]
    refine ⟨nodup_skip n1 _ (h5 hc).1, fun l hl => ?_⟩
    simp only [List.mem_cons] at hl
    rcases hl with rfl | hl
    · exact nodup_wait n1 _
    · exact n2 l hl
end
theorem znod_at {zs : List Int} (h : ref24M zs = true) : ∀ k, k ≤ zs.length → ZNod (zmAt zs k) := by
  intro k
  induction k with
  | zero => intro _; exact ⟨show ([1, 0, 2] : List Int).Nodup by decide, by simp [zmAt]⟩
  | succ k ih => intro hk; exact ZNod.next (zinv_at h k (by omega)) (by omega) (ih (by omega))
theorem zmAt_T (zs : List Int) (k : Nat) : (zmAt zs (k + 1)).T = (zmAt zs k).T ++ [triAt zs k] := rfl
theorem zmAt_T_len (zs : List Int) (k : Nat) : (zmAt zs k).T.length = k + 1 := by
  induction k with
  | zero => rfl
  | succ k ih => rw [zmAt_T]; simp [ih]
theorem zmAt_T_take (zs : List Int) {k n : Nat} (hk : k ≤ n) : (zmAt zs n).T.take (k + 1) = (zmAt zs k).T := by
  induction n with
  | zero =>
    obtain rfl : k = 0 := by omega
    rfl
  | succ n ih =>
    rcases Nat.lt_or_ge k (n + 1) with h | h
    · rw [zmAt_T, List.take_append_of_le_length (by rw [zmAt_T_len]; omega), ih (by omega)]
    · obtain rfl : k = n + 1 := by omega
      rw [List.take_of_length_le (by rw [zmAt_T_len]; omega)]
end Go.Proofs.Ytpnkhgjjlionnaa.Zp
namespace Go.Proofs.Ytpnkhgjjlionnaa.Zp
open Go.RowKit

/-- The bits of a text's letters, by the document. -/
def bitsM (zs : List Int) : Int := cnt zs 67 + 3 * (cnt zs 76 + cnt zs 82 + cnt zs 69 + cnt zs 83)

end Go.Proofs.Ytpnkhgjjlionnaa.Zp
namespace Go.Proofs.Ytpnkhgjjlionnaa.Zp
open Go.RowKit

def costSum (zs : List Int) : Int := zs.foldl (fun n c => n + codeN c) 0
/-- What word.Cost answers. -/
def costM (zs : List Int) : Int := if zs.all (fun c => !(codeN c == 0)) then costSum zs else -1
theorem costSum_snoc (zs : List Int) (c : Int) : costSum (zs ++ [c]) = costSum zs + codeN c := by simp [costSum]
theorem codeN_le (c : Int) : 0 ≤ codeN c ∧ codeN c ≤ 3 := by unfold codeN; repeat' split <;> omega
end Go.Proofs.Ytpnkhgjjlionnaa.Zp
namespace Go.Proofs.Ytpnkhgjjlionnaa.Zp

theorem cnt_reverse (zs : List Int) (c : Int) : cnt zs.reverse c = cnt zs c := by
  unfold cnt; rw [List.filter_reverse, List.length_reverse]
def sumI : List Int → Int
  | [] => 0
  | x :: r => x + sumI r

/-- What the letters that were gone over come to. -/
structure CountRel (cs l : List Int) : Prop where
  len : (l.length : Int) = cnt cs 69 - cnt cs 83
  sum : sumI l = 3 * cnt cs 69 - cnt cs 67 + cnt cs 76 + cnt cs 82 - cnt cs 83
  all : (cs.length : Int) = cnt cs 67 + cnt cs 76 + cnt cs 82 + cnt cs 69 + cnt cs 83
  cost : costM cs = cnt cs 67 + 3 * (cnt cs 76 + cnt cs 82 + cnt cs 69 + cnt cs 83)
  letters : cs.all (fun c => !(codeN c == 0)) = true

theorem count_rel (xs : List Int) : ∀ l, ref24Run xs.reverse = some l → CountRel xs.reverse l := by
  induction xs with
  | nil =>
    intro l h
    cases h
    exact ⟨by simp [cnt], by simp [cnt, sumI], by simp [cnt], by simp [cnt, costM, costSum], by simp⟩
  | cons c xs ih =>
    intro l' h
    rw [List.reverse_cons] at h ⊢
    rw [ref24Run_snoc] at h
    cases hr : ref24Run xs.reverse with
    | none => rw [hr] at h; cases h
    | some l =>
      rw [hr] at h
      simp only [Option.bind_some] at h
      obtain ⟨h1, h2, h3, h4, h5⟩ := ih l hr
      have hc : costM xs.reverse = costSum xs.reverse := by unfold costM; rw [if_pos h5]
      rw [hc] at h4
      have fin : codeN c ≠ 0 → costM (xs.reverse ++ [c]) = costSum xs.reverse + codeN c ∧ (xs.reverse ++ [c]).all (fun c => !(codeN c == 0)) = true := by
        intro h0
        have : (xs.reverse ++ [c]).all (fun c => !(codeN c == 0)) = true := by
          rw [List.all_append, h5]; simp [h0]
        exact ⟨by unfold costM; rw [if_pos this, costSum_snoc], this⟩
      have hlen : ((xs.reverse ++ [c]).length : Int) = (xs.length : Int) + 1 := by simp
      rw [List.length_reverse] at h3
      unfold ref24Step at h
      split at h
      · rename_i e; subst e
        cases h
        obtain ⟨f1, f2⟩ := fin (by decide)
        refine ⟨?_, ?_, ?_, ?_, f2⟩
        · simp only [cnt_snoc, List.length_cons]; simp; omega
        · simp only [cnt_snoc, sumI]; simp; omega
        · rw [hlen, h3]; simp only [cnt_snoc]; simp; omega
        · rw [f1, h4]; simp only [cnt_snoc, codeN]; simp; omega
      · split at h
        · rename_i e; subst e
          cases l with
          | nil => cases h
          | cons x r =>
            simp only at h
            split at h
            · cases h
            · cases h
              obtain ⟨f1, f2⟩ := fin (by decide)
              simp only [sumI, List.length_cons] at h1 h2
              refine ⟨?_, ?_, ?_, ?_, f2⟩
              · simp only [cnt_snoc, List.length_cons]; simp; omega
              · simp only [cnt_snoc, sumI]; simp; omega
              · rw [hlen, h3]; simp only [cnt_snoc]; simp; omega
              · rw [f1, h4]; simp only [cnt_snoc, codeN]; simp; omega
        · split at h
          · rename_i e
            cases l with
            | nil => cases h
            | cons x r =>
              cases h
              simp only [sumI, List.length_cons] at h1 h2
              rcases e with rfl | rfl
              · obtain ⟨f1, f2⟩ := fin (by decide)
                refine ⟨?_, ?_, ?_, ?_, f2⟩
                · simp only [cnt_snoc, List.length_cons]; simp; omega
                · simp only [cnt_snoc, sumI]; simp; omega
                · rw [hlen, h3]; simp only [cnt_snoc]; simp; omega
                · rw [f1, h4]; simp only [cnt_snoc, codeN]; simp; omega
              · obtain ⟨f1, f2⟩ := fin (by decide)
                refine ⟨?_, ?_, ?_, ?_, f2⟩
                · simp only [cnt_snoc, List.length_cons]; simp; omega
                · simp only [cnt_snoc, sumI]; simp; omega
                · rw [hlen, h3]; simp only [cnt_snoc]; simp; omega
                · rw [f1, h4]; simp only [cnt_snoc, codeN]; simp; omega
          · split at h
            · rename_i e; subst e
              match l, h, h1, h2 with
              | x :: y :: r, h, h1, h2 =>
                cases h
                obtain ⟨f1, f2⟩ := fin (by decide)
                simp only [sumI, List.length_cons] at h1 h2
                refine ⟨?_, ?_, ?_, ?_, f2⟩
                · simp only [cnt_snoc, List.length_cons]; simp; omega
                · simp only [cnt_snoc, sumI]; simp; omega
                · rw [hlen, h3]; simp only [cnt_snoc]; simp; omega
                · rw [f1, h4]; simp only [cnt_snoc, codeN]; simp; omega
            · cases h

theorem costSum_reverse (zs : List Int) : costSum zs.reverse = costSum zs := by
  induction zs with
  | nil => rfl
  | cons c r ih =>
    rw [List.reverse_cons, costSum_snoc, ih]
    have : ∀ (r : List Int) (a : Int), r.foldl (fun n c => n + codeN c) a = a + r.foldl (fun n c => n + codeN c) 0 := by
      intro r
      induction r with
      | nil => intro a; simp
      | cons x r ih => intro a; simp only [List.foldl_cons]; rw [ih (a + codeN x), ih (0 + codeN x)]; omega
    unfold costSum
    rw [List.foldl_cons, this r (0 + codeN c)]
    omega

/-- A right word's counts. -/
structure RightCounts (zs : List Int) : Prop where
  ends : cnt zs 69 = cnt zs 83 + 1
  cees : cnt zs 67 = cnt zs 76 + cnt zs 82 + 2 * cnt zs 83
  all : (zs.length : Int) = cnt zs 67 + cnt zs 76 + cnt zs 82 + cnt zs 69 + cnt zs 83
  bits : bitsM zs = 2 * (zs.length : Int) + 1
  cost : costM zs = bitsM zs
theorem right_counts {zs : List Int} (h : ref24M zs = true) : RightCounts zs := by
  unfold ref24M at h
  cases hr : ref24Run zs.reverse with
  | none => rw [hr] at h; cases h
  | some l =>
    rw [hr] at h
    match l, h, hr with
    | [x], h, hr =>
      simp [isThree] at h
      subst h
      obtain ⟨h1, h2, h3, h4, h5⟩ := count_rel zs [3] hr
      simp only [cnt_reverse, sumI, List.length_cons, List.length_nil, List.length_reverse] at h1 h2 h3 h4
      have hc : costM zs = costM zs.reverse := by
        unfold costM
        rw [List.all_reverse, costSum_reverse]
      refine ⟨by omega, by omega, h3, ?_, ?_⟩
      · unfold bitsM; omega
      · rw [hc, h4]; rfl
end Go.Proofs.Ytpnkhgjjlionnaa.Zp
namespace Go.Proofs.Ytpnkhgjjlionnaa
open Go.RowKit

def cmpI (x y : Int) : Int := if x < y then -1 else if y < x then 1 else 0
set_option maxRecDepth 100000 in
theorem compareI_any (x y : Int) (w : World) : Calls Try.prog 91 #[.int .i64 x, .int .i64 y] w fun e w' => e = .returned (.int .i64 (cmpI x y)) ∧ w' = w := by
  by_cases h1 : x < y
  · have hd : cmpI x y = -1 := by simp [cmpI, h1]
    have b1 : decide (x < y) = true := by simpa using h1
    have HD := Lib.hid hd
    clear h1 hd
    go_enter Try.func91, Try.ntmps91
    go_wp2
    go_ret
    exact ⟨by rw [HD.out]; rfl, rfl⟩
  · by_cases h2 : y < x
    · have hd : cmpI x y = 1 := by simp [cmpI, h1, h2]
      have b1 : decide (x < y) = false := by simpa using h1
      have b2 : decide (y < x) = true := by simpa using h2
      have HD := Lib.hid hd
      clear h1 h2 hd
      go_enter Try.func91, Try.ntmps91
      go_wp2
      go_ret
      exact ⟨by rw [HD.out]; rfl, rfl⟩
    · have hd : cmpI x y = 0 := by simp [cmpI, h1, h2]
      have b1 : decide (x < y) = false := by simpa using h1
      have b2 : decide (y < x) = false := by simpa using h2
      have HD := Lib.hid hd
      clear h1 h2 hd
      go_enter Try.func91, Try.ntmps91
      go_wp2
      go_ret
      exact ⟨by rw [HD.out]; rfl, rfl⟩
/-- A slice of numbers, as it is read. -/
def IntsRd (w : World) (v : Value) (xs : List Int) : Prop := ∃ a c, v = .slice a xs.length c ∧ xs.length ≤ 9223372036854775807 ∧ ∀ k x, xs[k]? = some x → ∃ b o, a = some ⟨b, o, none⟩ ∧ b < w.heap.size ∧ w.cell? ⟨b, o + k, none⟩ = some (.int .i64 x)
theorem IntsRd.of_row {w : World} {base n : Nat} {v : Value} {xs : List Int} (h : w.ownsRow base 3 1 v n (xs.map (Value.int .i64))) (hn : xs.length = n) : IntsRd w v xs := by
  rcases h.2 with ⟨rfl, h0⟩ | ⟨g, cap, cur, rfl, _, _, h1, h2, _⟩
  · have : xs = [] := List.eq_nil_of_length_eq_zero (by omega)
    subst this
    exact ⟨none, 0, rfl, by simp, fun k x hx => by simp at hx⟩
  · subst hn
    refine ⟨some ⟨g, 0, none⟩, cap, rfl, by unfold maxLen at h2; omega, fun k x hx => ⟨g, 0, rfl, (h.lt g rfl).2, ?_⟩⟩
    have hk := (List.getElem?_eq_some_iff.1 hx).1
    rw [Nat.zero_add, h.cellAt k (by omega), List.getElem?_map, hx]
    rfl

end Go.Proofs.Ytpnkhgjjlionnaa
namespace Go.Proofs.Ytpnkhgjjlionnaa
open Go.RowKit

abbrev Tr := Int × Int × Int
def flatT (T : List Tr) : List Int := T.flatMap fun t => [t.1, t.2.1, t.2.2]
theorem flatT_length (T : List Tr) : (flatT T).length = 3 * T.length := by
  induction T with
  | nil => rfl
  | cons t r ih => simp only [flatT, List.flatMap_cons] at ih ⊢; simp only [List.length_append, ih, List.length_cons, List.length_nil]; omega
/-- Triangles, as they are read. -/
def TrisRd (w : World) (v : Value) (T : List Tr) : Prop := ∃ a c, v = .slice a T.length c ∧ T.length ≤ c ∧ c ≤ 9223372036854775807 ∧ ∀ (k : Nat) (x y z : Int), T[k]? = some (x, y, z) → ∃ b o, a = some ⟨b, o, none⟩ ∧ b < w.heap.size ∧ w.cell? ⟨b, o + k * 3, none⟩ = some (.int .i64 x) ∧ w.cell? ⟨b, o + k * 3 + 1, none⟩ = some (.int .i64 y) ∧ w.cell? ⟨b, o + k * 3 + 2, none⟩ = some (.int .i64 z)
theorem TrisRd.below {w w' : World} {v : Value} {T : List Tr} (h : TrisRd w v T) (hb : Below w.heap.size w w') : TrisRd w' v T := by
  obtain ⟨a, c, rfl, h1, h2, h3⟩ := h
  refine ⟨a, c, rfl, h1, h2, fun k x y z hk => ?_⟩
  obtain ⟨b, o, rfl, hl, s0, s1, s2⟩ := h3 k x y z hk
  exact ⟨b, o, rfl, Nat.lt_of_lt_of_le hl hb.size, (hb.cell (p := ⟨b, _, none⟩) hl).trans s0, (hb.cell (p := ⟨b, _, none⟩) hl).trans s1, (hb.cell (p := ⟨b, _, none⟩) hl).trans s2⟩
theorem TrisRd.alloc {w : World} {v : Value} {T : List Tr} (h : TrisRd w v T) (o : Obj) : TrisRd (w.alloc o) v T := h.below ((Below.refl _ _).alloc (Nat.le_refl _) _)
end Go.Proofs.Ytpnkhgjjlionnaa
namespace Go.Proofs.Ytpnkhgjjlionnaa
open Go.RowKit

/-- The cells of a row of triples. -/
def ws3 (ws : List Tr) : List Value := (flatT ws).map (Value.int .i64)
theorem ws3_snoc (ws : List Tr) (a b c : Int) : ws3 (ws ++ [(a, b, c)]) = ws3 ws ++ [.int .i64 a, .int .i64 b, .int .i64 c] := by simp [ws3, flatT]
theorem index_t0 (a b c : Value) (w : World) : (Instr.index 61 (.agg #[a, b, c]) (.int .i64 0)).run Try.prog w = .ok a w := by
  simp [Instr.index, run_underlying Try.underlying61, part, go_sem]
theorem index_t1 (a b c : Value) (w : World) : (Instr.index 61 (.agg #[a, b, c]) (.int .i64 1)).run Try.prog w = .ok b w := by
  simp [Instr.index, run_underlying Try.underlying61, part, go_sem]
theorem index_t2 (a b c : Value) (w : World) : (Instr.index 61 (.agg #[a, b, c]) (.int .i64 2)).run Try.prog w = .ok c w := by
  simp [Instr.index, run_underlying Try.underlying61, part, go_sem]
theorem heap_alloc_new2 (w : World) (o o' : Obj) : ((w.alloc o).alloc o').heap[w.heap.size + 1]? = some o' := by
  have h := heap_alloc_new (w.alloc o) o'
  rw [size_alloc'] at h
  exact h
theorem snoc_kind {ws : List Tr} {k : Int} {t : Tr} (h : ∀ x ∈ ws, x.1 = k) (ht : t.1 = k) : ∀ x ∈ ws ++ [t], x.1 = k := by
  intro x hx
  rcases List.mem_append.1 hx with hx | hx
  · exact h x hx
  · simp only [List.mem_singleton] at hx
    rw [hx, ht]
/-- What a list of witnesses says: of one kind, none just if nothing is wrong. -/
def WitsIs (w : World) (base : Nat) (v : Value) (kind : Int) (P : Prop) : Prop := ∃ ws : List Tr, w.ownsRow base 44 3 v ws.length (ws3 ws) ∧ (ws = [] ↔ P) ∧ (∀ x ∈ ws, x.1 = kind) ∧ ws.length ≤ 1000000000000
theorem infoWit : (Try.prog.info? 44).map (fun i => (i.zero, i.size, i.bytes)) = some (some (.agg #[.int .i64 0, .int .i64 0, .int .i64 0]), 3, 24) := by kernel_rfl
def simple3 (t : Tr) : Prop := t.1 ≠ t.2.1 ∧ t.2.1 ≠ t.2.2 ∧ t.2.2 ≠ t.1
theorem take_succ_all {α : Type} {p : α → Prop} {T : List α} {k : Nat} {t : α} (h : T[k]? = some t) : (∀ x ∈ T.take (k + 1), p x) ↔ (∀ x ∈ T.take k, p x) ∧ p t := by
  obtain ⟨hk, he⟩ := List.getElem?_eq_some_iff.1 h
  rw [List.take_succ_eq_append_getElem hk, he]
  constructor
  · exact fun hh => ⟨fun x hx => hh x (by simp [hx]), hh t (by simp)⟩
  · rintro ⟨h1, h2⟩ x hx
    rcases List.mem_append.1 hx with hx | hx
    · exact h1 x hx
    · simp only [List.mem_singleton] at hx
      subst hx
      exact h2

theorem simple3_parts (x y z : Int) : ((x == y) = false ∧ (y == z) = false ∧ (z == x) = false ∧ simple3 (x, y, z)) ∨ (((x == y) = true ∨ ((x == y) = false ∧ (y == z) = true) ∨ ((x == y) = false ∧ (y == z) = false ∧ (z == x) = true)) ∧ ¬ simple3 (x, y, z)) := by
  unfold simple3
  cases h1 : (x == y) <;> cases h2 : (y == z) <;> cases h3 : (z == x) <;> simp_all
set_option maxRecDepth 100000 in
set_option maxHeartbeats 1000000 in
theorem loop_any (N : Int) (v : Value) (T : List Tr) (w : World) (h : TrisRd w v T) (hl : T.length ≤ 100000) : Calls Try.prog 95 #[.agg #[.int .i64 N, v]] w fun e w' => ∃ v', e = .returned v' ∧ WitsIs w' w.heap.size v' 2 (∀ t ∈ T, simple3 t) ∧ Below w.heap.size w w' := by
  obtain ⟨i1, hi', hy0, hy1, hy2⟩ := info_parts infoWit
  obtain ⟨a, c, rfl, hc1, hc2, hr⟩ := h
  have HR := Lib.hid hr
  have b1 := Blk.new w 24 #[.int .i64 N, .slice a T.length c]
  obtain ⟨l0, x0, -, x1, -⟩ := b1.two
  have hB0 : Below w.heap.size w (w.alloc (.cells #[.int .i64 N, .slice a T.length c] 24)) := (Below.refl _ _).alloc (Nat.le_refl _) _
  obtain ⟨n, hn⟩ : ∃ n, T.length = n := ⟨_, rfl⟩
  rw [hn] at hl hc1 x1 hB0 b1 l0 ⊢
  have HN := Lib.hid hn
  clear hr hn
  go_enter Try.func95, Try.ntmps95
  go_wp2
  go_loopw [3, 9] (fun v3 i wr => ∃ (k : Nat) (v' : Value) (ws : List Tr), v' = v3 ∧ k ≤ n ∧ i = .int .i64 k ∧ wr.ownsRow w.heap.size 44 3 v' ws.length (ws3 ws) ∧ ws.length ≤ k ∧ (ws = [] ↔ ∀ t ∈ T.take k, simple3 t) ∧ (∀ x ∈ ws, x.1 = 2) ∧ Below w.heap.size w wr) (fun _ i _ => n - (intOf i).toNat)
  case atStart => exact ⟨0, _, [], rfl, Nat.zero_le _, rfl, World.ownsRow_nil _ _ _ _, Nat.le_refl _, by simp, by simp, hB0⟩
  case round =>
    obtain ⟨k, v', ws, rfl, hk, rfl, hrow, hwl, hws, hkd, hB⟩ := hrel
    by_cases hlt : k < n
    · obtain ⟨t, ht⟩ : ∃ t, T[k]? = some t := ⟨T[k]'(by have := HN.out; omega), List.getElem?_eq_getElem _⟩
      obtain ⟨x, y, z⟩ := t
      obtain ⟨b, o, rfl, hbl, s0, s1, s2⟩ := HR.out k x y z ht
      have s0' := (hB.cell (p := ⟨b, _, none⟩) hbl).trans s0
      have s1' := (hB.cell (p := ⟨b, _, none⟩) hbl).trans s1
      have s2' := (hB.cell (p := ⟨b, _, none⟩) hbl).trans s2
      have Hts := Lib.hid (take_succ_all (p := simple3) ht)
      have Hws := Lib.hid hws
      have hsz := hB.size
      have hk3 : (k : Int) < (n : Int) := by omega
      have hk0 : (0 : Int) ≤ (k : Int) := by omega
      have c3 : ws.length + 1 ≤ maxLen := by unfold maxLen; omega
      have c4 : (ws.length + 1) * 24 ≤ 140737488355328 := by omega
      clear ht s0 s1 s2 hws
      rcases simple3_parts x y z with ⟨q1, q2, q3, e1⟩ | ⟨q, e1⟩
      · have He := Lib.hid e1
        clear e1
        go_wp2
        go_roundw
        case measure => simp [intOf]; omega
        case rel =>
          refine ⟨k + 1, _, ws, rfl, by omega, by go_num, hrow.alloc _, by omega, ?_, hkd, hB.alloc hB.size _⟩
          rw [Hts.out, Hws.out]
          exact ⟨fun h => ⟨h, He.out⟩, fun h => h.1⟩
      · have He := Lib.hid e1
        clear e1
        rcases q with q1 | ⟨q1, q2⟩ | ⟨q1, q2, q3⟩
        all_goals go_wp2_with (at_builtin; refine wpList_append_lies _ rfl (.tmp 33) (.tmp 36) 114 rfl w.heap.size 44 i1 _ 3 24 Try.underlying114 hi' hy0 hy1 hy2 rfl (by decide) _ _ _ rfl ((hrow.alloc _).alloc _) ⟨wr.heap.size + 1, 0, none⟩ 1 1 [.int .i64 2, .int .i64 k, .int .i64 0] rfl rfl (World.news_of_block (heap_alloc_new2 _ _ _)) (by simp [Value.oneCell']) (by decide) c3 c4 (by rw [size_alloc', size_alloc']; omega) (wr.heap.size + 2) (by simp) ?_; intro g4 cap4 W4 hr4 hg4 _ _)
        all_goals go_roundw
        case measure | measure | measure => simp [intOf]; omega
        case rel | rel | rel =>
          refine ⟨k + 1, _, ws ++ [(2, (k : Int), 0)], rfl, by omega, by go_num, ?_, by simp; omega, ?_, ?_, (hB.alloc hB.size _).grown (gGrown (World.grownBy_alloc _ _ _) hg4 (row := v'.ownBlock) (fun _ e => .inl e)) (by rw [size_alloc']; omega) (fun j e => (hrow.lt j e).1)⟩
          · rw [ws3_snoc]
            simpa using hr4
          · rw [Hts.out]
            simp [He.out]
          · intro x hx
            rcases List.mem_append.1 hx with hx | hx
            · exact hkd x hx
            · simp only [List.mem_singleton] at hx
              rw [hx]
    · obtain rfl : k = n := by omega
      have hnn := HN.out
      rw [List.take_of_length_le (by omega)] at hws
      have Hrow := Lib.hid hrow
      have HB := Lib.hid hB
      have Hws := Lib.hid hws
      clear hrow hB hnn hws
      go_wp2
      go_ret
      exact ⟨_, rfl, ⟨ws, Hrow.out, Hws.out, hkd, by omega⟩, HB.out⟩
end Go.Proofs.Ytpnkhgjjlionnaa
namespace Go.Proofs.Ytpnkhgjjlionnaa
open Go.RowKit

def inR (N v : Int) : Prop := 0 ≤ v ∧ v < N
def in3 (N : Int) (t : Tr) : Prop := inR N t.1 ∧ inR N t.2.1 ∧ inR N t.2.2

set_option maxRecDepth 100000 in
set_option maxHeartbeats 2000000 in
theorem index_any (N : Int) (v : Value) (T : List Tr) (w : World) (h : TrisRd w v T) (hN : 0 ≤ N ∧ N ≤ 4096) (hl : T.length ≤ 8192) : Calls Try.prog 94 #[.agg #[.int .i64 N, v]] w fun e w' => ∃ v', e = .returned v' ∧ WitsIs w' w.heap.size v' 1 (∀ t ∈ T, in3 N t) ∧ Below w.heap.size w w' := by
  obtain ⟨i1, hi', hy0, hy1, hy2⟩ := info_parts infoWit
  obtain ⟨a, c, rfl, hc1, hc2, hr⟩ := h
  have HR := Lib.hid hr
  have b1 := Blk.new w 24 #[.int .i64 N, .slice a T.length c]
  obtain ⟨l0, x0, -, x1, -⟩ := b1.two
  have hB0 : Below w.heap.size w (w.alloc (.cells #[.int .i64 N, .slice a T.length c] 24)) := (Below.refl _ _).alloc (Nat.le_refl _) _
  obtain ⟨n, hn⟩ : ∃ n, T.length = n := ⟨_, rfl⟩
  rw [hn] at hl hc1 x0 x1 hB0 b1 l0 ⊢
  have HN := Lib.hid hn
  obtain ⟨hN0, hN1⟩ := hN
  have g1 : ¬ N < 0 := by omega
  have g2 : ¬ 4096 < N := by omega
  have g3 : ¬ 8192 < (n : Int) := by omega
  have ix0 := @index_t0
  have ix1 := @index_t1
  have ix2 := @index_t2
  clear hr hn
  go_enter Try.func94, Try.ntmps94
  go_wp2
  go_loopw [3, 27] (fun v3 i wr => ∃ (k : Nat) (v' : Value) (ws : List Tr), v' = v3 ∧ k ≤ n ∧ i = .int .i64 k ∧ wr.ownsRow w.heap.size 44 3 v' ws.length (ws3 ws) ∧ ws.length ≤ k ∧ (ws = [] ↔ ∀ t ∈ T.take k, in3 N t) ∧ (∀ x ∈ ws, x.1 = 1) ∧ Blk wr w.heap.size 24 #[.int .i64 N, .slice a n c] ∧ Below w.heap.size w wr) (fun _ i _ => n - (intOf i).toNat)
  case atStart => exact ⟨0, _, [], rfl, Nat.zero_le _, rfl, World.ownsRow_nil _ _ _ _, Nat.le_refl _, by simp, by simp, b1, hB0⟩
  case round =>
    obtain ⟨k, v', ws, rfl, hk, rfl, hrow, hwl, hws, hkd, hB', hB⟩ := hrel
    obtain ⟨ly, y0, -, y1, -⟩ := hB'.two
    clear x0 x1 l0 b1
    by_cases hlt : k < n
    · obtain ⟨t, ht⟩ : ∃ t, T[k]? = some t := ⟨T[k]'(by have := HN.out; omega), List.getElem?_eq_getElem _⟩
      obtain ⟨x, y, z⟩ := t
      obtain ⟨b, o, rfl, hbl, s0, s1, s2⟩ := HR.out k x y z ht
      have s0' := (hB.cell (p := ⟨b, _, none⟩) hbl).trans s0
      have s1' := (hB.cell (p := ⟨b, _, none⟩) hbl).trans s1
      have s2' := (hB.cell (p := ⟨b, _, none⟩) hbl).trans s2
      have Hts := Lib.hid (take_succ_all (p := in3 N) ht)
      have Hws := Lib.hid hws
      have hsz := hB.size
      have hk3 : (k : Int) < (n : Int) := by omega
      have hk0 : (0 : Int) ≤ (k : Int) := by omega
      have c3 : ws.length + 1 ≤ maxLen := by unfold maxLen; omega
      have c4 : (ws.length + 1) * 24 ≤ 140737488355328 := by omega
      have hB'' := hB'.alloc (.cells #[.int .i64 x, .int .i64 y, .int .i64 z] 61)
      obtain ⟨lz, z0, -, z1, -⟩ := hB''.two
      have HNE := Lib.hid (fun e => own_blk_ne hrow hB' (by decide) e.symm : some w.heap.size ≠ v'.ownBlock)
      clear ht s0 s1 s2 hws
      go_wp2
      rename World => wA
      go_loopw [3, 33] (fun v3 i wq => ∃ j : Nat, v' = v3 ∧ j ≤ 3 ∧ i = .int .i64 j ∧ wq = wA.alloc (.cells #[.int .i64 x, .int .i64 y, .int .i64 z] 61) ∧ (1 ≤ j → inR N x) ∧ (2 ≤ j → inR N y) ∧ (3 ≤ j → inR N z)) (fun _ i _ => 3 - (intOf i).toNat)
      case atStart => exact ⟨0, rfl, by omega, rfl, rfl, by omega, by omega, by omega⟩
      case round =>
        obtain ⟨j, rfl, hj, rfl, rfl, f1, f2, f3⟩ := hrel
        have F1 := Lib.hid f1
        have F2 := Lib.hid f2
        have F3 := Lib.hid f3
        clear f1 f2 f3
        have hj' : j = 0 ∨ j = 1 ∨ j = 2 ∨ j = 3 := by omega
        rcases hj' with rfl | rfl | rfl | rfl
        · by_cases u1 : x < 0
          · have He : ¬ in3 N (x, y, z) := fun h => by have := h.1.1; simp only at this; omega
            have He := Lib.hid He
            go_wp2_with (at_builtin; refine wpList_append_lies _ rfl (.tmp 44) (.tmp 47) 114 rfl w.heap.size 44 i1 _ 3 24 Try.underlying114 hi' hy0 hy1 hy2 rfl (by decide) _ _ _ rfl ((hrow.alloc _).alloc _) ⟨wA.heap.size + 1, 0, none⟩ 1 1 [.int .i64 1, .int .i64 k, .int .i64 0] rfl rfl (World.news_of_block (heap_alloc_new2 _ _ _)) (by simp [Value.oneCell']) (by decide) c3 c4 (by rw [size_alloc', size_alloc']; omega) (wA.heap.size + 2) (by simp) ?_; intro g4 cap4 W4 hr4 hg4 _ _)
            go_roundw
            case measure => simp [intOf]; omega
            case rel => exact ⟨k + 1, _, ws ++ [(1, (k : Int), 0)], rfl, by omega, by go_num, by rw [ws3_snoc]; simpa using hr4, by simp; omega, by rw [Hts.out]; simp [He.out], snoc_kind hkd rfl, (hB'.alloc _).grown (gGrown (World.grownBy_alloc _ _ _) hg4 (row := v'.ownBlock) (fun _ e => .inl e)) HNE.out, (hB.alloc hB.size _).grown (gGrown (World.grownBy_alloc _ _ _) hg4 (row := v'.ownBlock) (fun _ e => .inl e)) (by rw [size_alloc']; omega) (fun j e => (hrow.lt j e).1)⟩
          · by_cases u2 : N ≤ x
            · have He : ¬ in3 N (x, y, z) := fun h => by have := h.1.2; simp only at this; omega
              have He := Lib.hid He
              go_wp2_with (at_builtin; refine wpList_append_lies _ rfl (.tmp 44) (.tmp 47) 114 rfl w.heap.size 44 i1 _ 3 24 Try.underlying114 hi' hy0 hy1 hy2 rfl (by decide) _ _ _ rfl ((hrow.alloc _).alloc _) ⟨wA.heap.size + 1, 0, none⟩ 1 1 [.int .i64 1, .int .i64 k, .int .i64 0] rfl rfl (World.news_of_block (heap_alloc_new2 _ _ _)) (by simp [Value.oneCell']) (by decide) c3 c4 (by rw [size_alloc', size_alloc']; omega) (wA.heap.size + 2) (by simp) ?_; intro g4 cap4 W4 hr4 hg4 _ _)
              go_roundw
              case measure => simp [intOf]; omega
              case rel => exact ⟨k + 1, _, ws ++ [(1, (k : Int), 0)], rfl, by omega, by go_num, by rw [ws3_snoc]; simpa using hr4, by simp; omega, by rw [Hts.out]; simp [He.out], snoc_kind hkd rfl, (hB'.alloc _).grown (gGrown (World.grownBy_alloc _ _ _) hg4 (row := v'.ownBlock) (fun _ e => .inl e)) HNE.out, (hB.alloc hB.size _).grown (gGrown (World.grownBy_alloc _ _ _) hg4 (row := v'.ownBlock) (fun _ e => .inl e)) (by rw [size_alloc']; omega) (fun j e => (hrow.lt j e).1)⟩
            · have u3 : inR N x := ⟨by omega, by omega⟩
              have U3 := Lib.hid u3
              clear u3
              go_wp2
              go_roundw
              case measure => simp [intOf]
              case rel => exact ⟨1, rfl, by omega, by simp, by simp, fun _ => U3.out, by omega, by omega⟩
        · by_cases u1 : y < 0
          · have He : ¬ in3 N (x, y, z) := fun h => by have := h.2.1.1; simp only at this; omega
            have He := Lib.hid He
            go_wp2_with (at_builtin; refine wpList_append_lies _ rfl (.tmp 44) (.tmp 47) 114 rfl w.heap.size 44 i1 _ 3 24 Try.underlying114 hi' hy0 hy1 hy2 rfl (by decide) _ _ _ rfl ((hrow.alloc _).alloc _) ⟨wA.heap.size + 1, 0, none⟩ 1 1 [.int .i64 1, .int .i64 k, .int .i64 0] rfl rfl (World.news_of_block (heap_alloc_new2 _ _ _)) (by simp [Value.oneCell']) (by decide) c3 c4 (by rw [size_alloc', size_alloc']; omega) (wA.heap.size + 2) (by simp) ?_; intro g4 cap4 W4 hr4 hg4 _ _)
            go_roundw
            case measure => simp [intOf]; omega
            case rel => exact ⟨k + 1, _, ws ++ [(1, (k : Int), 0)], rfl, by omega, by go_num, by rw [ws3_snoc]; simpa using hr4, by simp; omega, by rw [Hts.out]; simp [He.out], snoc_kind hkd rfl, (hB'.alloc _).grown (gGrown (World.grownBy_alloc _ _ _) hg4 (row := v'.ownBlock) (fun _ e => .inl e)) HNE.out, (hB.alloc hB.size _).grown (gGrown (World.grownBy_alloc _ _ _) hg4 (row := v'.ownBlock) (fun _ e => .inl e)) (by rw [size_alloc']; omega) (fun j e => (hrow.lt j e).1)⟩
          · by_cases u2 : N ≤ y
            · have He : ¬ in3 N (x, y, z) := fun h => by have := h.2.1.2; simp only at this; omega
              have He := Lib.hid He
              go_wp2_with (at_builtin; refine wpList_append_lies _ rfl (.tmp 44) (.tmp 47) 114 rfl w.heap.size 44 i1 _ 3 24 Try.underlying114 hi' hy0 hy1 hy2 rfl (by decide) _ _ _ rfl ((hrow.alloc _).alloc _) ⟨wA.heap.size + 1, 0, none⟩ 1 1 [.int .i64 1, .int .i64 k, .int .i64 0] rfl rfl (World.news_of_block (heap_alloc_new2 _ _ _)) (by simp [Value.oneCell']) (by decide) c3 c4 (by rw [size_alloc', size_alloc']; omega) (wA.heap.size + 2) (by simp) ?_; intro g4 cap4 W4 hr4 hg4 _ _)
              go_roundw
              case measure => simp [intOf]; omega
              case rel => exact ⟨k + 1, _, ws ++ [(1, (k : Int), 0)], rfl, by omega, by go_num, by rw [ws3_snoc]; simpa using hr4, by simp; omega, by rw [Hts.out]; simp [He.out], snoc_kind hkd rfl, (hB'.alloc _).grown (gGrown (World.grownBy_alloc _ _ _) hg4 (row := v'.ownBlock) (fun _ e => .inl e)) HNE.out, (hB.alloc hB.size _).grown (gGrown (World.grownBy_alloc _ _ _) hg4 (row := v'.ownBlock) (fun _ e => .inl e)) (by rw [size_alloc']; omega) (fun j e => (hrow.lt j e).1)⟩
            · have u3 : inR N y := ⟨by omega, by omega⟩
              have U3 := Lib.hid u3
              clear u3
              go_wp2
              go_roundw
              case measure => simp [intOf]
              case rel => exact ⟨2, rfl, by omega, by simp, by simp, fun _ => F1.out (by omega), fun _ => U3.out, by omega⟩
        · by_cases u1 : z < 0
          · have He : ¬ in3 N (x, y, z) := fun h => by have := h.2.2.1; simp only at this; omega
            have He := Lib.hid He
            go_wp2_with (at_builtin; refine wpList_append_lies _ rfl (.tmp 44) (.tmp 47) 114 rfl w.heap.size 44 i1 _ 3 24 Try.underlying114 hi' hy0 hy1 hy2 rfl (by decide) _ _ _ rfl ((hrow.alloc _).alloc _) ⟨wA.heap.size + 1, 0, none⟩ 1 1 [.int .i64 1, .int .i64 k, .int .i64 0] rfl rfl (World.news_of_block (heap_alloc_new2 _ _ _)) (by simp [Value.oneCell']) (by decide) c3 c4 (by rw [size_alloc', size_alloc']; omega) (wA.heap.size + 2) (by simp) ?_; intro g4 cap4 W4 hr4 hg4 _ _)
            go_roundw
            case measure => simp [intOf]; omega
            case rel => exact ⟨k + 1, _, ws ++ [(1, (k : Int), 0)], rfl, by omega, by go_num, by rw [ws3_snoc]; simpa using hr4, by simp; omega, by rw [Hts.out]; simp [He.out], snoc_kind hkd rfl, (hB'.alloc _).grown (gGrown (World.grownBy_alloc _ _ _) hg4 (row := v'.ownBlock) (fun _ e => .inl e)) HNE.out, (hB.alloc hB.size _).grown (gGrown (World.grownBy_alloc _ _ _) hg4 (row := v'.ownBlock) (fun _ e => .inl e)) (by rw [size_alloc']; omega) (fun j e => (hrow.lt j e).1)⟩
          · by_cases u2 : N ≤ z
            · have He : ¬ in3 N (x, y, z) := fun h => by have := h.2.2.2; simp only at this; omega
              have He := Lib.hid He
              go_wp2_with (at_builtin; refine wpList_append_lies _ rfl (.tmp 44) (.tmp 47) 114 rfl w.heap.size 44 i1 _ 3 24 Try.underlying114 hi' hy0 hy1 hy2 rfl (by decide) _ _ _ rfl ((hrow.alloc _).alloc _) ⟨wA.heap.size + 1, 0, none⟩ 1 1 [.int .i64 1, .int .i64 k, .int .i64 0] rfl rfl (World.news_of_block (heap_alloc_new2 _ _ _)) (by simp [Value.oneCell']) (by decide) c3 c4 (by rw [size_alloc', size_alloc']; omega) (wA.heap.size + 2) (by simp) ?_; intro g4 cap4 W4 hr4 hg4 _ _)
              go_roundw
              case measure => simp [intOf]; omega
              case rel => exact ⟨k + 1, _, ws ++ [(1, (k : Int), 0)], rfl, by omega, by go_num, by rw [ws3_snoc]; simpa using hr4, by simp; omega, by rw [Hts.out]; simp [He.out], snoc_kind hkd rfl, (hB'.alloc _).grown (gGrown (World.grownBy_alloc _ _ _) hg4 (row := v'.ownBlock) (fun _ e => .inl e)) HNE.out, (hB.alloc hB.size _).grown (gGrown (World.grownBy_alloc _ _ _) hg4 (row := v'.ownBlock) (fun _ e => .inl e)) (by rw [size_alloc']; omega) (fun j e => (hrow.lt j e).1)⟩
            · have u3 : inR N z := ⟨by omega, by omega⟩
              have U3 := Lib.hid u3
              clear u3
              go_wp2
              go_roundw
              case measure => simp [intOf]
              case rel => exact ⟨3, rfl, by omega, by simp, by simp, fun _ => F1.out (by omega), fun _ => F2.out (by omega), fun _ => U3.out⟩
        · have He : in3 N (x, y, z) := ⟨F1.out (by omega), F2.out (by omega), F3.out (by omega)⟩
          have He := Lib.hid He
          go_wp2
          go_roundw
          case measure => simp [intOf]; omega
          case rel =>
            refine ⟨k + 1, _, ws, rfl, by omega, by go_num, hrow.alloc _, by omega, ?_, hkd, hB'.alloc _, hB.alloc hB.size _⟩
            rw [Hts.out, Hws.out]
            exact ⟨fun h => ⟨h, He.out⟩, fun h => h.1⟩
    · obtain rfl : k = n := by omega
      have hnn := HN.out
      rw [List.take_of_length_le (by omega)] at hws
      have Hrow := Lib.hid hrow
      have HB := Lib.hid hB
      have Hws := Lib.hid hws
      clear hrow hB hnn hws
      go_wp2
      go_ret
      exact ⟨_, rfl, ⟨ws, Hrow.out, Hws.out, hkd, by omega⟩, HB.out⟩
end Go.Proofs.Ytpnkhgjjlionnaa
namespace Go.Proofs.Ytpnkhgjjlionnaa
open Go.RowKit

/-- Which numbers are marked. -/
def BitsOf (bs : List Bool) (m : Nat) (S : List Int) : Prop := bs.length = m ∧ ∀ v, v < m → (bs[v]? = some true ↔ (v : Int) ∈ S)
def bools (bs : List Bool) : List Value := bs.map Value.bool
theorem BitsOf.none_ (m : Nat) : BitsOf (List.replicate m false) m [] := ⟨by simp, fun v hv => by simp [hv]⟩
theorem BitsOf.mark {bs : List Bool} {m : Nat} {S : List Int} (h : BitsOf bs m S) {v : Nat} (hv : v < m) : BitsOf (bs.set v true) m (S ++ [(v : Int)]) := by
  obtain ⟨h1, h2⟩ := h
  refine ⟨by simp [h1], fun u hu => ?_⟩
  rw [List.getElem?_set]
  by_cases e : v = u
  · subst e
    simp [h1, hv]
  · rw [if_neg e, h2 u hu]
    simp
    omega
theorem bools_set (bs : List Bool) (v : Nat) (b : Bool) : (bools bs).set v (.bool b) = bools (bs.set v b) := by simp [bools, List.map_set]
theorem infoBool : (Try.prog.info? 4).map (fun i => (i.zero, i.size, i.bytes)) = some (some (.bool false), 1, 1) := by kernel_rfl
theorem made_bools (m : Nat) : (madeCells (Value.bool false).cells (m * 1)).toList = bools (List.replicate m false) := by
  rw [Nat.mul_one]
  show (madeCells #[Value.bool false] m).toList = _
  rw [toList_madeCells_one]
  simp [bools]

set_option maxRecDepth 100000 in
set_option maxHeartbeats 2000000 in
theorem lonely_any (N : Int) (v : Value) (T : List Tr) (w : World) (h : TrisRd w v T) (hN : 0 ≤ N ∧ N ≤ 4096) (hl : T.length ≤ 8192) (hin : ∀ t ∈ T, in3 N t) : Calls Try.prog 98 #[.agg #[.int .i64 N, v]] w fun e w' => ∃ v', e = .returned v' ∧ WitsIs w' w.heap.size v' 5 (∀ u : Int, inR N u → u ∈ flatT T) ∧ Below w.heap.size w w' := by
  obtain ⟨i1, hi', hy0, hy1, hy2⟩ := info_parts infoWit
  obtain ⟨i2, hj', hz0, hz1, hz2⟩ := info_parts infoBool
  obtain ⟨a, c, rfl, hc1, hc2, hr⟩ := h
  have HR := Lib.hid hr
  obtain ⟨hN0, hN1⟩ := hN
  obtain ⟨m, rfl⟩ : ∃ m : Nat, N = m := ⟨N.toNat, by omega⟩
  have b1 := Blk.new w 24 #[.int .i64 m, .slice a T.length c]
  obtain ⟨l0, x0, -, x1, -⟩ := b1.two
  have hB0 : Below w.heap.size w (w.alloc (.cells #[.int .i64 m, .slice a T.length c] 24)) := (Below.refl _ _).alloc (Nat.le_refl _) _
  have HIN := Lib.hid hin
  obtain ⟨n, hn⟩ : ∃ n, T.length = n := ⟨_, rfl⟩
  rw [hn] at hl hc1 x0 x1 hB0 b1 l0 ⊢
  have HN := Lib.hid hn
  have ix0 := @index_t0
  have ix1 := @index_t1
  have ix2 := @index_t2
  clear hr hn hin
  go_enter Try.func98, Try.ntmps98
  go_wp2_with (at_make; refine wpList_make_full _ rfl (.tmp 12) (.tmp 12) 66 rfl w.heap.size 4 i2 _ 1 Try.underlying66 hj' hz0 hz1 .i64 .i64 _ _ m rfl rfl rfl rfl (by rw [hz2]; omega) (by unfold maxLen; omega) (by rw [size_alloc']; omega) ?_; intro w1 hr1 hg1; have k1 := b1.grown hg1 (by simp); obtain ⟨l1, y0, -, y1, -⟩ := k1.two)
  rw [made_bools, size_alloc'] at hr1
  have hB1 : Below w.heap.size w w1 := hB0.grown hg1 (by rw [size_alloc']; omega) (fun j e => by cases e)
  clear b1 x0 x1 l0 hg1 hB0
  go_loopw [17] (fun i wr => ∃ (k : Nat) (bs : List Bool), k ≤ n ∧ i = .int .i64 k ∧ wr.ownsRow w.heap.size 4 1 (.slice (some ⟨w.heap.size + 1, 0, none⟩) m m) m (bools bs) ∧ BitsOf bs m (flatT (T.take k)) ∧ Below w.heap.size w wr) (fun i _ => n - (intOf i).toNat)
  case atStart => exact ⟨0, _, Nat.zero_le _, rfl, hr1, BitsOf.none_ m, hB1⟩
  case round =>
    clear hr1 hB1 k1 l1 y0 y1
    obtain ⟨k, bs, hk, rfl, hrow, hbs, hB⟩ := hrel
    by_cases hlt : k < n
    · obtain ⟨t, ht⟩ : ∃ t, T[k]? = some t := ⟨T[k]'(by have := HN.out; omega), List.getElem?_eq_getElem _⟩
      obtain ⟨x, y, z⟩ := t
      obtain ⟨⟨ix1', ix2'⟩, ⟨iy1, iy2⟩, ⟨iz1, iz2⟩⟩ := HIN.out _ (List.mem_of_getElem? ht)
      simp only at ix1' ix2' iy1 iy2 iz1 iz2
      obtain ⟨x, rfl⟩ : ∃ q : Nat, x = q := ⟨x.toNat, by omega⟩
      obtain ⟨y, rfl⟩ : ∃ q : Nat, y = q := ⟨y.toNat, by omega⟩
      obtain ⟨z, rfl⟩ : ∃ q : Nat, z = q := ⟨z.toNat, by omega⟩
      obtain ⟨b, o, rfl, hbl, s0, s1, s2⟩ := HR.out k x y z ht
      have s0' := (hB.cell (p := ⟨b, _, none⟩) hbl).trans s0
      have s1' := (hB.cell (p := ⟨b, _, none⟩) hbl).trans s1
      have s2' := (hB.cell (p := ⟨b, _, none⟩) hbl).trans s2
      have Hts : Hid (flatT (T.take (k + 1)) = flatT (T.take k) ++ [(x : Int), (y : Int), (z : Int)]) := by
        refine Lib.hid ?_
        obtain ⟨hk', he⟩ := List.getElem?_eq_some_iff.1 ht
        rw [List.take_succ_eq_append_getElem hk', he]
        simp [flatT]
      have hsz := hB.size
      have hk3 : (k : Int) < (n : Int) := by omega
      have hk0 : (0 : Int) ≤ (k : Int) := by omega
      clear ht s0 s1 s2
      go_wp2
      rename World => wA
      go_loopw [22] (fun i wq => ∃ (j : Nat) (bs : List Bool), j ≤ 3 ∧ i = .int .i64 j ∧ wq.ownsRow w.heap.size 4 1 (.slice (some ⟨w.heap.size + 1, 0, none⟩) m m) m (bools bs) ∧ BitsOf bs m (flatT (T.take k) ++ [(x : Int), (y : Int), (z : Int)].take j) ∧ Below w.heap.size w wq) (fun i _ => 3 - (intOf i).toNat)
      case atStart => exact ⟨0, _, by omega, rfl, hrow.alloc _, by simpa using hbs, hB.alloc hB.size _⟩
      case round =>
        clear hrow hbs hB
        rename World => hrelW
        obtain ⟨j, cs, hj, rfl, hrow, hbs, hB⟩ := hrel
        have hj4 : j = 0 ∨ j = 1 ∨ j = 2 ∨ j = 3 := by omega
        have hfr := fun i => hrow.frozenAt i
        have hsz' := hB.size
        rcases hj4 with rfl | rfl | rfl | rfl
        · obtain ⟨cb, hcb⟩ : ∃ cb, cs[x]? = some cb := ⟨cs[x]'(by rw [hbs.1]; omega), List.getElem?_eq_getElem _⟩
          have hc : hrelW.cell? ⟨w.heap.size + 1, x, none⟩ = some (.bool cb) := by rw [hrow.cellAt x (by omega), bools, List.getElem?_map, hcb]; rfl
          have hf := hrow.frozenAt x
          have hv3 : (x : Int) < (m : Int) := by omega
          clear hfr hcb
          go_wp2
          go_roundw
          case measure => simp [intOf]
          case rel => exact ⟨1, cs.set x true, by omega, by simp, by rw [← bools_set]; exact (hrow.stored x _).1, by simpa using hbs.mark (v := x) (by omega), hB.grown (hrow.stored x _).2 hsz' (fun j e => by cases e; omega)⟩
        · obtain ⟨cb, hcb⟩ : ∃ cb, cs[y]? = some cb := ⟨cs[y]'(by rw [hbs.1]; omega), List.getElem?_eq_getElem _⟩
          have hc : hrelW.cell? ⟨w.heap.size + 1, y, none⟩ = some (.bool cb) := by rw [hrow.cellAt y (by omega), bools, List.getElem?_map, hcb]; rfl
          have hf := hrow.frozenAt y
          have hv3 : (y : Int) < (m : Int) := by omega
          clear hfr hcb
          go_wp2
          go_roundw
          case measure => simp [intOf]
          case rel => exact ⟨2, cs.set y true, by omega, by simp, by rw [← bools_set]; exact (hrow.stored y _).1, by simpa using hbs.mark (v := y) (by omega), hB.grown (hrow.stored y _).2 hsz' (fun j e => by cases e; omega)⟩
        · obtain ⟨cb, hcb⟩ : ∃ cb, cs[z]? = some cb := ⟨cs[z]'(by rw [hbs.1]; omega), List.getElem?_eq_getElem _⟩
          have hc : hrelW.cell? ⟨w.heap.size + 1, z, none⟩ = some (.bool cb) := by rw [hrow.cellAt z (by omega), bools, List.getElem?_map, hcb]; rfl
          have hf := hrow.frozenAt z
          have hv3 : (z : Int) < (m : Int) := by omega
          clear hfr hcb
          go_wp2
          go_roundw
          case measure => simp [intOf]
          case rel => exact ⟨3, cs.set z true, by omega, by simp, by rw [← bools_set]; exact (hrow.stored z _).1, by simpa using hbs.mark (v := z) (by omega), hB.grown (hrow.stored z _).2 hsz' (fun j e => by cases e; omega)⟩
        · have hbs' : BitsOf cs m (flatT (T.take (k + 1))) := by rw [Hts.out]; exact hbs
          go_wp2
          go_roundw
          case measure => simp [intOf]; omega
          case rel => exact ⟨k + 1, cs, by omega, by go_num, hrow, hbs', hB⟩
    · obtain rfl : k = n := by omega
      have hnn := HN.out
      rw [List.take_of_length_le (by omega)] at hbs
      have hb1 := Lib.hid hbs
      go_wp2
      clear ix0 ix1 ix2
      rename World => wB
      go_loopw [8, 32] (fun v3 i wr => ∃ (j : Nat) (v' : Value) (ws : List Tr), v' = v3 ∧ j ≤ m ∧ i = .int .i64 j ∧ wr.ownsRow w.heap.size 44 3 v' ws.length (ws3 ws) ∧ ws.length ≤ j ∧ (ws = [] ↔ ∀ u : Nat, u < j → (u : Int) ∈ flatT T) ∧ (∀ x ∈ ws, x.1 = 5) ∧ wr.ownsRow w.heap.size 4 1 (.slice (some ⟨w.heap.size + 1, 0, none⟩) m m) m (bools bs) ∧ Below w.heap.size w wr) (fun _ i _ => m - (intOf i).toNat)
      case atStart => exact ⟨0, _, [], rfl, Nat.zero_le _, rfl, World.ownsRow_nil _ _ _ _, Nat.le_refl _, by simp, by simp, hrow, hB⟩
      case round =>
        clear hrow hB
        obtain ⟨j, v', ws, rfl, hj, rfl, hrw, hwl, hws, hkd, hrow, hB⟩ := hrel
        rename World => wC
        have Hws := Lib.hid hws
        have hsz := hB.size
        clear hws
        by_cases hjm : j < m
        · obtain ⟨cb, hcb⟩ : ∃ cb, bs[j]? = some cb := ⟨bs[j]'(by rw [hb1.out.1]; omega), List.getElem?_eq_getElem _⟩
          have hc : wC.cell? ⟨w.heap.size + 1, j, none⟩ = some (.bool cb) := by rw [hrow.cellAt j (by omega), bools, List.getElem?_map, hcb]; rfl
          have Hcb := Lib.hid (hb1.out.2 j hjm)
          have hv3 : (j : Int) < (m : Int) := by omega
          have hv0 : (0 : Int) ≤ (j : Int) := by omega
          have c3 : ws.length + 1 ≤ maxLen := by unfold maxLen; omega
          have c4 : (ws.length + 1) * 24 ≤ 140737488355328 := by omega
          have HNE := Lib.hid (own_own_ne hrow hrw (by decide))
          cases cb
          · have hn' : Hid (¬ (j : Int) ∈ flatT T) := Lib.hid (fun e => by have := Hcb.out.2 e; rw [hcb] at this; cases this)
            clear hcb
            go_wp2_with (at_builtin; refine wpList_append_lies _ rfl (.tmp 39) (.tmp 42) 114 rfl w.heap.size 44 i1 _ 3 24 Try.underlying114 hi' hy0 hy1 hy2 rfl (by decide) _ _ _ rfl (hrw.alloc _) ⟨wC.heap.size, 0, none⟩ 1 1 [.int .i64 5, .int .i64 j, .int .i64 0] rfl rfl (World.news_of_block (heap_alloc_new _ _)) (by simp [Value.oneCell']) (by decide) c3 c4 (by rw [size_alloc']; omega) (wC.heap.size + 1) (by simp) ?_; intro g4 cap4 W4 hr4 hg4 _ _)
            go_roundw
            case measure => simp [intOf]; omega
            case rel =>
              refine ⟨j + 1, _, ws ++ [(5, (j : Int), 0)], rfl, by omega, by go_num, by rw [ws3_snoc]; simpa using hr4, by simp; omega, ?_, snoc_kind hkd rfl, (hrow.alloc _).kept hg4 HNE.out, hB.grown (gGrown (World.grownBy_alloc _ _ _) hg4 (row := v'.ownBlock) (fun _ e => .inl e)) hsz (fun j e => (hrw.lt j e).1)⟩
              constructor
              · intro h; simp at h
              · intro h; exact absurd (h j (by omega)) hn'.out
          · have hn' : Hid ((j : Int) ∈ flatT T) := Lib.hid (Hcb.out.1 hcb)
            clear hcb
            go_wp2
            go_roundw
            case measure => simp [intOf]; omega
            case rel =>
              refine ⟨j + 1, _, ws, rfl, by omega, by go_num, hrw, by omega, ?_, hkd, hrow, hB⟩
              rw [Hws.out]
              constructor
              · intro h u hu
                by_cases e : u = j
                · rw [e]; exact hn'.out
                · exact h u (by omega)
              · intro h u hu
                exact h u (by omega)
        · obtain rfl : j = m := by omega
          have Hrow := Lib.hid hrw
          have HB := Lib.hid hB
          clear hrow hB hrw
          go_wp2
          go_ret
          refine ⟨_, rfl, ⟨ws, Hrow.out, ?_, hkd, by omega⟩, HB.out⟩
          rw [Hws.out]
          constructor
          · intro h u hu
            obtain ⟨q, rfl⟩ : ∃ q : Nat, u = q := ⟨u.toNat, by have := hu.1; omega⟩
            exact h q (by have := hu.2; omega)
          · intro h u hu
            exact h u ⟨by omega, by omega⟩
end Go.Proofs.Ytpnkhgjjlionnaa
namespace Go.Proofs.Ytpnkhgjjlionnaa
open Go.RowKit Go.Maps
open Go.MapKept (Stamped)

def intsV (zs : List Int) : List Value := zs.map (Value.int .i64)
open Classical in
noncomputable def upd (f : Value → List Int) (key : Value) (zs : List Int) : Value → List Int := fun y => if y = key then zs else f y
theorem upd_same (f : Value → List Int) (key : Value) (zs : List Int) : upd f key zs key = zs := by simp [upd]
theorem upd_other {f : Value → List Int} {key y : Value} {zs : List Int} (h : y ≠ key) : upd f key zs y = f y := by simp [upd, h]
/-- Block b is a map from keys of type k to rows (of one-cell elements e, from block 'base' on, apart from each other): at a key the numbers f says. -/
def Grp (P : Program) (k : TypeId) (base : Nat) (e : TypeId) (w : World) (b : Nat) (f : Value → List Int) : Prop :=
  ∃ es clock, w.heap[b]? = some (.map es clock) ∧ Stamped es clock ∧ (∀ x ∈ es.toList, ∃ l, keyOf P k x.key = some l) ∧
    (∀ x ∈ es.toList, w.ownsRow base e 1 x.val (f x.key).length (intsV (f x.key))) ∧
    (∀ x ∈ es.toList, ∀ y ∈ es.toList, x.key ≠ y.key → x.val.ownBlock = none ∨ x.val.ownBlock ≠ y.val.ownBlock) ∧
    (∀ key, (∀ x ∈ es.toList, x.key ≠ key) → f key = []) ∧ b < base
section
variable {P : Program} {k e : TypeId} {base b : Nat} {w : World} {f : Value → List Int}
theorem Grp.made (w : World) (P : Program) (k e : TypeId) {base : Nat} (h : w.heap.size < base) : Grp P k base e (w.alloc (.map #[] 0)) w.heap.size (fun _ => []) :=
  ⟨#[], 0, heap_alloc_new w _, MapKept.stamped_empty 0, by simp, by simp, by simp, fun _ _ => rfl, h⟩
theorem Grp.lt (h : Grp P k base e w b f) : b < w.heap.size := by
  obtain ⟨es, clock, hb, _⟩ := h
  exact (Array.getElem?_eq_some_iff.1 hb).1
theorem Grp.notRow (h : Grp P k base e w b f) {base' : Nat} {e' : TypeId} {s n : Nat} {v : Value} {xs : List Value} (hr : w.ownsRow base' e' s v n xs) : v.ownBlock ≠ some b := by
  obtain ⟨es, clock, hb, _⟩ := h
  intro e0
  rcases hr.2 with ⟨rfl, _⟩ | ⟨g, cap, cur, rfl, _, hh, _⟩
  · cases e0
  · have : g = b := by simpa [Value.ownBlock] using e0
    subst this
    rw [hh] at hb
    cases hb
theorem Grp.kept {w' : World} {row : Option Nat} (h : Grp P k base e w b f) (hg : w.grownBy w' row) (hne : some b ≠ row) (hr : ∀ v n xs, w.ownsRow base e 1 v n xs → v.ownBlock = none ∨ v.ownBlock ≠ row) : Grp P k base e w' b f := by
  have hlt := h.lt
  obtain ⟨es, clock, hb, h1, h2, h3, h4, h5, h6⟩ := h
  exact ⟨es, clock, (hg.block b hlt hne).trans hb, h1, h2, fun x hx => (h3 x hx).kept hg (hr _ _ _ (h3 x hx)), h4, h5, h6⟩
theorem Grp.alloc (h : Grp P k base e w b f) (o : Obj) : Grp P k base e (w.alloc o) b f := h.kept (World.grownBy_alloc w o none) (by simp) (fun v _ _ hv => by
  cases hb : v.ownBlock
  · exact .inl rfl
  · exact .inr (by simp))
theorem Grp.grown {w' : World} (h : Grp P k base e w b f) (hg : w.grownBy w' none) : Grp P k base e w' b f := h.kept hg (by simp) (fun v _ _ hv => by
  cases hb : v.ownBlock
  · exact .inl rfl
  · exact .inr (by simp))
/-- A row of elements of another type is written. -/
theorem Grp.row {w' : World} {base' : Nat} {e' : TypeId} {s n : Nat} {v : Value} {xs : List Value} (h : Grp P k base e w b f) (hr : w.ownsRow base' e' s v n xs) (hne : e ≠ e') (hg : w.grownBy w' v.ownBlock) : Grp P k base e w' b f :=
  h.kept hg (fun e0 => h.notRow hr e0.symm) (fun _ _ _ hv => own_own_ne hv hr hne)
/-- Another map is written. -/
theorem Grp.map {w' : World} {b' : Nat} {es : Array MapEntry} {clock : Nat} (h : Grp P k base e w b f) (hm : w.heap[b']? = some (.map es clock)) (hne : b ≠ b') (hg : w.grownBy w' (some b')) : Grp P k base e w' b f :=
  h.kept hg (by simpa using hne) (fun v _ _ hv => by
    rcases hv.2 with ⟨rfl, _⟩ | ⟨g, cap, cur, rfl, _, hh, _⟩
    · exact .inl rfl
    · refine .inr (fun e0 => ?_)
      have : g = b' := by simpa [Value.ownBlock] using e0
      subst this
      rw [hh] at hm
      cases hm)
theorem Grp.look {t E : TypeId} (h : Grp P k base e w b f) (K : Keyed P k) (ht : P.underlying t = some (.map k E)) (hz : (zeroValue E).run P w = .ok (.slice none 0 0) w) {key : Value} {kl : Lit} (hkey : keyOf P k key = some kl) :
    ∃ v, (Instr.lookup t (.map (some b)) key false).run P w = .ok v w ∧ w.ownsRow base e 1 v (f key).length (intsV (f key)) := by
  obtain ⟨es, clock, hb, h1, h2, h3, h4, h5, h6⟩ := h
  rcases K.find w hkey es.toList h2 with ⟨g1, g2⟩ | ⟨j, e0, g1, g2, g3⟩
  · refine ⟨.slice none 0 0, by simp [Instr.lookup, run_underlying ht, MapKept.run_getObj_map hb, K.check w _ hkey, g1, hz, Result.andThen], ?_⟩
    rw [h5 key g2]
    exact World.ownsRow_nil _ _ _ _
  · refine ⟨e0.val, by simp [Instr.lookup, run_underlying ht, MapKept.run_getObj_map hb, K.check w _ hkey, g1, Result.andThen], ?_⟩
    have := h3 e0 (List.mem_of_getElem? g2)
    rw [g3] at this
    exact this
theorem setBlock_grown {w : World} {es : Array MapEntry} {clock : Nat} (hb : w.heap[b]? = some (.map es clock)) (o : Obj) : w.grownBy (ChangeMaps.setBlock w b o) (some b) :=
  ⟨rfl, rfl, rfl, by simp [ChangeMaps.setBlock], fun i _ hi => ChangeMaps.heap_setBlock_other hb _ (fun e1 => hi (by rw [e1]))⟩
theorem mem_set_apart {l : List MapEntry} (hd : l.Pairwise (fun x y => x.key ≠ y.key)) {j : Nat} {e0 a : MapEntry} (h : l[j]? = some e0) {x : MapEntry} (hx : x ∈ l.set j a) : x = a ∨ (x ∈ l ∧ x.key ≠ e0.key) := by
  obtain ⟨i, hi⟩ := List.mem_iff_getElem?.1 hx
  rw [List.getElem?_set] at hi
  by_cases hij : j = i
  · subst hij
    have hlt := (List.getElem?_eq_some_iff.1 h).1
    rw [if_pos rfl, if_pos hlt] at hi
    exact .inl (Option.some.inj hi).symm
  · rw [if_neg hij] at hi
    refine .inr ⟨List.mem_of_getElem? hi, ?_⟩
    obtain ⟨h1, e1⟩ := List.getElem?_eq_some_iff.1 hi
    obtain ⟨h2, e2⟩ := List.getElem?_eq_some_iff.1 h
    have hp := List.pairwise_iff_getElem.1 hd
    rcases Nat.lt_or_gt_of_ne hij with hlt | hlt
    · have := hp j i h2 h1 hlt
      rw [e1, e2] at this
      exact fun e3 => this e3.symm
    · have := hp i j h1 h2 hlt
      rw [e1, e2] at this
      exact this
/-- Entered at a key: what is there, and the way back: what is stored at the stamp. -/
theorem Grp.entry {t E : TypeId} (h : Grp P k base e w b f) (K : Keyed P k) (ht : P.underlying t = some (.map k E)) (hz : ∀ u : World, (zeroValue E).run P u = .ok (.slice none 0 0) u) {key : Value} {kl : Lit} (hkey : keyOf P k key = some kl) :
    ∃ v st W1, (Instr.mapEntry t (.map (some b)) key).run P w = .ok (.tuple #[v, .int .i64 st]) W1 ∧ w.grownBy W1 (some b) ∧ W1.heap.size = w.heap.size ∧ Grp P k base e W1 b f ∧ W1.ownsRow base e 1 v (f key).length (intsV (f key)) ∧
      ∀ (W2 : World) (v' : Value) (zs' : List Int), W1.grownBy W2 v.ownBlock → W2.ownsRow base e 1 v' zs'.length (intsV zs') → (v'.ownBlock = v.ownBlock ∨ ∃ g, v'.ownBlock = some g ∧ W1.heap.size ≤ g) →
        ∃ W3, (Instr.entryStore t (.map (some b)) (.int .i64 st) v').run P W2 = .ok () W3 ∧ Grp P k base e W3 b (upd f key zs') ∧ W2.grownBy W3 (some b) := by
  have hblt := h.lt
  obtain ⟨es, clock, hb, h1, h2, h3, h4, h5, h6⟩ := h
  -- what is behind the entry: the key stands somewhere
  have claim : ∃ (es1 : Array MapEntry) (clock1 j : Nat) (e1 : MapEntry), (Instr.mapEntry t (.map (some b)) key).run P w = .ok (.tuple #[e1.val, goInt e1.born]) (ChangeMaps.setBlock w b (.map es1 clock1)) ∧ Stamped es1 clock1 ∧
      es1.toList[j]? = some e1 ∧ e1.key = key ∧ (∀ x ∈ es1.toList, ∃ l, keyOf P k x.key = some l) ∧ (∀ x ∈ es1.toList, w.ownsRow base e 1 x.val (f x.key).length (intsV (f x.key))) ∧
      (∀ x ∈ es1.toList, ∀ y ∈ es1.toList, x.key ≠ y.key → x.val.ownBlock = none ∨ x.val.ownBlock ≠ y.val.ownBlock) ∧ (∀ key, (∀ x ∈ es1.toList, x.key ≠ key) → f key = []) := by
    rcases K.find w hkey es.toList h2 with ⟨g1, g2⟩ | ⟨j, e0, g1, g2, g3⟩
    · refine ⟨es.push ⟨key, .slice none 0 0, clock⟩, clock + 1, es.size, ⟨key, .slice none 0 0, clock⟩, ?_, MapKept.stamped_push h1 g2, by simp, rfl, ?_, ?_, ?_, ?_⟩
      · simp [Instr.mapEntry, run_underlying ht, MapKept.run_getObj_map hb, K.check w false hkey, g1, hz, MapKept.run_setObj_map _ hb, Result.andThen, ChangeMaps.setBlock]
      · intro x hx
        simp only [Array.toList_push, List.mem_append, List.mem_singleton] at hx
        rcases hx with hx | rfl
        · exact h2 x hx
        · exact ⟨_, hkey⟩
      · intro x hx
        simp only [Array.toList_push, List.mem_append, List.mem_singleton] at hx
        rcases hx with hx | rfl
        · exact h3 x hx
        · rw [h5 key g2]
          exact World.ownsRow_nil _ _ _ _
      · intro x hx y hy hne
        simp only [Array.toList_push, List.mem_append, List.mem_singleton] at hx hy
        rcases hx with hx | rfl
        · rcases hy with hy | rfl
          · exact h4 x hx y hy hne
          · cases hv : x.val.ownBlock
            · exact .inl rfl
            · exact .inr (by simp [Value.ownBlock])
        · exact .inl rfl
      · intro u hu
        exact h5 u (fun x hx => hu x (by simp [hx]))
    · have hj : es[j]? = some e0 := by simpa using g2
      have hsame : es.modify j (fun e => { e with key := key }) = es := by
        apply Array.ext'
        rw [Array.toList_modify, ChangeMaps.modify_eq_set _ _ _ _ g2]
        have : ({ e0 with key := key } : MapEntry) = e0 := by rw [← g3]
        rw [this]
        exact WideElems.set_self _ _ _ g2
      refine ⟨es, clock, j, e0, ?_, h1, g2, g3, h2, h3, h4, h5⟩
      simp [Instr.mapEntry, run_underlying ht, MapKept.run_getObj_map hb, K.check w false hkey, g1, hj, g3, K.stays w hkey, hsame, MapKept.run_setObj_map _ hb, Result.andThen, ChangeMaps.setBlock]
  obtain ⟨es1, clock1, j, e1, c0, c1, c2, c3, c4, c5, c6, c7⟩ := claim
  have hgw := setBlock_grown hb (.map es1 clock1)
  have hne_b : ∀ {u : World} {v : Value} {n : Nat} {xs : List Value}, u.ownsRow base e 1 v n xs → v.ownBlock = none ∨ v.ownBlock ≠ some b := fun {u v n xs} hv => by
    cases hb' : v.ownBlock
    · exact .inl rfl
    · refine .inr (fun e2 => ?_)
      have := (hv.lt _ hb').1
      cases e2
      omega
  have hrows : ∀ x ∈ es1.toList, (ChangeMaps.setBlock w b (.map es1 clock1)).ownsRow base e 1 x.val (f x.key).length (intsV (f x.key)) := fun x hx => (c5 x hx).kept hgw (hne_b (c5 x hx))
  have hm1 : (ChangeMaps.setBlock w b (.map es1 clock1)).heap[b]? = some (.map es1 clock1) := ChangeMaps.heap_setBlock_same hb _
  have m1 := List.mem_of_getElem? c2
  refine ⟨e1.val, e1.born, _, c0, hgw, by simp [ChangeMaps.setBlock], ⟨es1, clock1, hm1, c1, c4, hrows, c6, c7, h6⟩, by have := hrows e1 m1; rw [c3] at this; exact this, ?_⟩
  intro W2 v' zs' hg hown hloc
  have hbW : (ChangeMaps.setBlock w b (.map es1 clock1)).heap.size = w.heap.size := by simp [ChangeMaps.setBlock]
  have hvb : some b ≠ e1.val.ownBlock := fun e2 => by
    rcases hne_b (hrows e1 m1) with h | h
    · rw [h] at e2; cases e2
    · exact h e2.symm
  have hm2 : W2.heap[b]? = some (.map es1 clock1) := (hg.block b (by rw [hbW]; exact hblt) hvb).trans hm1
  obtain ⟨s1, s2, s3⟩ := (MapKept.stamped_iff es1 clock1).1 c1
  have hidx : es1.findIdx? (fun e => ((e.born : Nat) : Int) == ((e1.born : Nat) : Int)) = some j := by
    rw [WideElems.findIdx_arr]
    exact WideElems.findIdx_born s2 c2
  have hset : (es1.modify j (fun e => { e with val := v' })).toList = es1.toList.set j { e1 with val := v' } := by
    rw [Array.toList_modify, ChangeMaps.modify_eq_set _ _ _ _ c2]
  have hgw2 := setBlock_grown hm2 (.map (es1.modify j (fun e => { e with val := v' })) clock1)
  have hmem : ∀ x ∈ (es1.modify j (fun e => { e with val := v' })).toList, x = { e1 with val := v' } ∨ (x ∈ es1.toList ∧ x.key ≠ key) := by
    intro x hx
    rw [hset] at hx
    rcases mem_set_apart s3 c2 hx with h | ⟨h, h'⟩
    · exact .inl h
    · exact .inr ⟨h, by rw [← c3]; exact h'⟩
  have old : ∀ x ∈ es1.toList, x.key ≠ key → x.val.ownBlock = none ∨ x.val.ownBlock ≠ e1.val.ownBlock := fun x hx hne => c6 x hx e1 m1 (by rw [c3]; exact hne)
  have old_new : ∀ x ∈ es1.toList, x.key ≠ key → x.val.ownBlock = none ∨ x.val.ownBlock ≠ v'.ownBlock := by
    intro x hx hne
    rcases hloc with g1 | ⟨g, g1, g2⟩
    · rw [g1]
      exact old x hx hne
    · cases hx' : x.val.ownBlock
      · exact .inl rfl
      · refine .inr (fun e2 => ?_)
        have := ((hrows x hx).lt _ hx').2
        rw [g1] at e2
        cases e2
        omega
  refine ⟨ChangeMaps.setBlock W2 b (.map (es1.modify j (fun e => { e with val := v' })) clock1), ?_, ⟨_, clock1, ChangeMaps.heap_setBlock_same hm2 _, ?_, ?_, ?_, ?_, ?_, h6⟩, hgw2⟩
  · have hidx' : es1.findIdx? (fun e => ((e.born : Nat) : Int) == ((e1.born : Nat) : Int)) = some j := hidx
    simp [Instr.entryStore, MapKept.run_getObj_map hm2, asInt, asIntOf, hidx', MapKept.run_setObj_map _ hm2, Result.andThen, ChangeMaps.setBlock]
  · exact MapKept.stamped_modify c1 j _ (fun _ _ => rfl) (fun _ _ _ => rfl)
  · intro x hx
    rcases hmem x hx with rfl | ⟨hx, _⟩
    · exact c4 e1 m1
    · exact c4 x hx
  · intro x hx
    rcases hmem x hx with rfl | ⟨hx, hne⟩
    · simp only [c3, upd_same]
      exact hown.kept hgw2 (hne_b hown)
    · simp only [upd_other hne]
      have r2 := (hrows x hx).kept hg (old x hx hne)
      exact r2.kept hgw2 (hne_b r2)
  · intro x hx y hy hne
    rcases hmem x hx with rfl | ⟨hx, hxk⟩ <;> rcases hmem y hy with rfl | ⟨hy, hyk⟩
    · exact absurd rfl hne
    · show v'.ownBlock = none ∨ v'.ownBlock ≠ y.val.ownBlock
      cases hv : v'.ownBlock
      · exact .inl rfl
      · refine .inr (fun e2 => ?_)
        rcases old_new y hy hyk with h | h
        · rw [h] at e2; cases e2
        · exact h (by rw [hv, e2])
    · exact old_new x hx hxk
    · exact c6 x hx y hy hne
  · intro u hu
    have huk : u ≠ key := fun e2 => hu { e1 with val := v' } (by rw [hset]; exact List.mem_iff_getElem?.2 ⟨j, by rw [List.getElem?_set, if_pos rfl, if_pos (List.getElem?_eq_some_iff.1 c2).1]⟩) (by rw [e2]; exact c3)
    rw [upd_other huk]
    refine c7 u (fun x hx e2 => ?_)
    obtain ⟨i, hi⟩ := List.mem_iff_getElem?.1 hx
    have hij : j ≠ i := fun e3 => by
      subst e3
      rw [c2] at hi
      cases hi
      exact huk (e2.symm.trans c3)
    exact hu x (by rw [hset]; exact List.mem_iff_getElem?.2 ⟨i, by rw [List.getElem?_set, if_neg hij]; exact hi⟩) e2
theorem wpList_lookupG {ops : Array Oper} {rest : List Oper} {o : Oper} {a : Act} {Q : Exit → Act → World → Prop} (h : Grp P k base e w b f)
    (hg : o.guard = none) (m x : Operand) (t E : TypeId) (hop : o.op = Op.lookup t m x false) (K : Keyed P k) (ht : P.underlying t = some (.map k E)) (hz : (zeroValue E).run P w = .ok (.slice none 0 0) w)
    (hm : a.eval m = .map (some b)) (key : Value) (hx : a.eval x = key) {kl : Lit} (hkey : keyOf P k key = some kl)
    (hK : ∀ v, w.ownsRow base e 1 v (f key).length (intsV (f key)) → wpList P ops Q rest (a.put o.dst v) w) : wpList P ops Q (o :: rest) a w := by
  refine wpList_plain hg fun K' hK' => ?_
  obtain ⟨v, hrun, r1⟩ := h.look K ht hz hkey
  unfold Oper.wp
  simp [execOp, hop, hm, hx, hrun, Result.andThen]
  exact hK' _ _ (hK v r1)
theorem wpList_entryG {ops : Array Oper} {rest : List Oper} {o : Oper} {a : Act} {Q : Exit → Act → World → Prop} (h : Grp P k base e w b f)
    (hg : o.guard = none) (m x : Operand) (t E : TypeId) (hop : o.op = Op.mapEntry t m x) (K : Keyed P k) (ht : P.underlying t = some (.map k E)) (hz : ∀ u : World, (zeroValue E).run P u = .ok (.slice none 0 0) u)
    (hm : a.eval m = .map (some b)) (key : Value) (hx : a.eval x = key) {kl : Lit} (hkey : keyOf P k key = some kl)
    (hK : ∀ v st W1, w.grownBy W1 (some b) → W1.heap.size = w.heap.size → Grp P k base e W1 b f → W1.ownsRow base e 1 v (f key).length (intsV (f key)) →
      (∀ (W2 : World) (v' : Value) (zs' : List Int), W1.grownBy W2 v.ownBlock → W2.ownsRow base e 1 v' zs'.length (intsV zs') → (v'.ownBlock = v.ownBlock ∨ ∃ g, v'.ownBlock = some g ∧ W1.heap.size ≤ g) →
        ∃ W3, (Instr.entryStore t (.map (some b)) (.int .i64 st) v').run P W2 = .ok () W3 ∧ Grp P k base e W3 b (upd f key zs') ∧ W2.grownBy W3 (some b)) →
      wpList P ops Q rest (a.put o.dst (.tuple #[v, .int .i64 st])) W1) : wpList P ops Q (o :: rest) a w := by
  refine wpList_plain hg fun K' hK' => ?_
  obtain ⟨v, st, W1, hrun, r1, r2, r3, r4, r5⟩ := h.entry K ht hz hkey
  unfold Oper.wp
  simp [execOp, hop, hm, hx, hrun, Result.andThen]
  exact hK' _ _ (hK v st W1 r1 r2 r3 r4 r5)
end
end Go.Proofs.Ytpnkhgjjlionnaa
namespace Go.Proofs.Ytpnkhgjjlionnaa
open Go.RowKit Go.Maps

theorem arrPair : WideMaps.ArrKey Try.prog 87 3 2 := ⟨Try.underlying87, by kernel_rfl, by kernel_rfl, by kernel_rfl⟩
theorem arrThree : WideMaps.ArrKey Try.prog 60 3 3 := ⟨Try.underlying60, by kernel_rfl, by kernel_rfl, by kernel_rfl⟩
theorem types_succ : ∃ m, Try.prog.types.size = m + 1 := ⟨Try.prog.types.size - 1, by kernel_rfl⟩
theorem zero_bool (w : World) : (zeroValue 4).run Try.prog w = .ok (.bool false) w := by kernel_rfl
theorem zero_ints (w : World) : (zeroValue 35).run Try.prog w = .ok (.slice none 0 0) w := by kernel_rfl
def triV (t : Tr) : Value := .agg #[.int .i64 t.1, .int .i64 t.2.1, .int .i64 t.2.2]
def pairV (e : Int × Int) : Value := .agg #[.int .i64 e.1, .int .i64 e.2]
theorem triV_inj {a b : Tr} (h : triV a = triV b) : a = b := by
  obtain ⟨a1, a2, a3⟩ := a
  obtain ⟨b1, b2, b3⟩ := b
  simpa [triV] using h

section
variable {P : Program} {k e : TypeId} {w : World} {b n : Nat} {seen : List Value}
theorem MapB.obj (h : MapB P k e w b n seen) : ∃ es clock, w.heap[b]? = some (.map es clock) := by
  obtain ⟨D, ⟨es, clock, hb, _⟩, _⟩ := h
  exact ⟨es, clock, hb⟩
theorem Grp.obj {base : Nat} {f : Value → List Int} (h : Grp P k base e w b f) : ∃ es clock, w.heap[b]? = some (.map es clock) := by
  obtain ⟨es, clock, hb, _⟩ := h
  exact ⟨es, clock, hb⟩
theorem row_map_ne {base' n' s : Nat} {e' : TypeId} {v : Value} {xs : List Value} (hr : w.ownsRow base' e' s v n' xs) (hm : ∃ es clock, w.heap[b]? = some (.map es clock)) : v.ownBlock = none ∨ v.ownBlock ≠ some b := by
  obtain ⟨es, clock, hb⟩ := hm
  rcases hr.2 with ⟨rfl, _⟩ | ⟨g, cap, cur, rfl, _, hh, _⟩
  · exact .inl rfl
  · refine .inr (fun e0 => ?_)
    have : g = b := by simpa [Value.ownBlock] using e0
    subst this
    rw [hh] at hb
    cases hb
theorem map_row_ne {base' n' s : Nat} {e' : TypeId} {v : Value} {xs : List Value} (hr : w.ownsRow base' e' s v n' xs) (hm : ∃ es clock, w.heap[b]? = some (.map es clock)) : some b ≠ v.ownBlock := by
  rcases row_map_ne hr hm with h | h
  · rw [h]; simp
  · exact fun e0 => h e0.symm
theorem wpList_lookupB {ops : Array Oper} {rest : List Oper} {o : Oper} {a : Act} {Q : Exit → Act → World → Prop} (h : MapB P k e w b n seen)
    (hg : o.guard = none) (m x : Operand) (t : TypeId) (hop : o.op = Op.lookup t m x false) (K : Keyed P k) (ht : P.underlying t = some (.map k e)) (he : P.underlying e = some .bool) (hz : (zeroValue e).run P w = .ok (.bool false) w)
    (hm : a.eval m = .map (some b)) (key : Value) (hx : a.eval x = key) {kl : Lit} (hkey : keyOf P k key = some kl)
    (hK : ∀ r : Bool, (r = true ↔ key ∈ seen) → wpList P ops Q rest (a.put o.dst (.bool r)) w) : wpList P ops Q (o :: rest) a w := by
  refine wpList_plain hg fun K' hK' => ?_
  obtain ⟨r, hrun, hi⟩ := h.look K ht he hz hkey
  unfold Oper.wp
  simp [execOp, hop, hm, hx, hrun, Result.andThen]
  exact hK' _ _ (hK r hi)
theorem wpList_storeB {ops : Array Oper} {rest : List Oper} {o : Oper} {a : Act} {Q : Exit → Act → World → Prop} (h : MapB P k e w b n seen)
    (hg : o.guard = none) (m x v : Operand) (t : TypeId) (hop : o.op = Op.mapUpdate t m x v) (K : Keyed P k) (ht : P.underlying t = some (.map k e)) (he : P.underlying e = some .bool) (hn : n < maxLen)
    (hm : a.eval m = .map (some b)) (key : Value) (hx : a.eval x = key) (hv : a.eval v = .bool true) {kl : Lit} (hkey : keyOf P k key = some kl)
    (hK : ∀ w', MapB P k e w' b (n + 1) (key :: seen) → w.grownBy w' (some b) → wpList P ops Q rest (a.put o.dst undef) w') : wpList P ops Q (o :: rest) a w := by
  refine wpList_plain hg fun K' hK' => ?_
  obtain ⟨w', hrun, r1, r2⟩ := h.store K ht he hn hkey
  unfold Oper.wp
  simp [execOp, hop, hm, hx, hv, hrun, Result.andThen]
  exact hK' _ _ (hK w' r1 r2)
theorem wpList_entryStore {ops : Array Oper} {rest : List Oper} {o : Oper} {a : Act} {Q : Exit → Act → World → Prop}
    (hg : o.guard = none) (m s v : Operand) (t : TypeId) (hop : o.op = Op.entryStore t m s v) {vm vs vv : Value} (hm : a.eval m = vm) (hs : a.eval s = vs) (hv : a.eval v = vv) {w' : World}
    (hrun : (Instr.entryStore t vm vs vv).run P w = .ok () w') (hK : wpList P ops Q rest (a.put o.dst undef) w') : wpList P ops Q (o :: rest) a w := by
  refine wpList_plain hg fun K' hK' => ?_
  unfold Oper.wp
  simp [execOp, hop, hm, hs, hv, hrun, Result.andThen]
  exact hK' _ _ hK
end

/-- What is held. H: the world's size at the start; f: the rows at each key; S: the pairs seen. -/
structure PairSt (w W : World) (kind : Int) (f : Value → List Int) (S : List Value) (v : Value) (ws : List Tr) : Prop where
  g : Grp Try.prog 60 (w.heap.size + 3) 3 W (w.heap.size + 1) f
  s : MapB Try.prog 87 4 W (w.heap.size + 2) ws.length S
  r : W.ownsRow w.heap.size 44 3 v ws.length (ws3 ws)
  b : Below w.heap.size w W
  c : ws = [] → S = []
  k : ∀ x ∈ ws, x.1 = kind
section
variable {w W : World} {kind : Int} {f : Value → List Int} {S : List Value} {v : Value} {ws : List Tr}
theorem PairSt.alloc (h : PairSt w W kind f S v ws) (o : Obj) : PairSt w (W.alloc o) kind f S v ws :=
  ⟨h.g.alloc o, h.s.kept (World.grownBy_alloc W o none) (by simp), h.r.alloc o, h.b.alloc h.b.size o, h.c, h.k⟩
theorem PairSt.below {W' : World} (h : PairSt w W kind f S v ws) (hb : Below W.heap.size W W') : PairSt w W' kind f S v ws :=
  ⟨h.g.grown (grown_of_below hb none), h.s.kept (grown_of_below hb none) (by simp), h.r.kept (grown_of_below hb none) (by cases e0 : v.ownBlock <;> simp), h.b.trans (hb.mono h.b.size), h.c, h.k⟩
/-- A pair is marked, and its witness written. -/
theorem PairSt.mark {W1 W2 : World} {o : Obj} {x : Tr} {v' p : Value} (h : PairSt w W kind f S v ws) (hm : MapB Try.prog 87 4 W1 (w.heap.size + 2) (ws.length + 1) (p :: S)) (hg : W.grownBy W1 (some (w.heap.size + 2)))
    (hr : W2.ownsRow w.heap.size 44 3 v' (ws.length + 1) (ws3 (ws ++ [x]))) (hg2 : (W1.alloc o).grownBy W2 v.ownBlock) (hx : x.1 = kind) : PairSt w W2 kind f (p :: S) v' (ws ++ [x]) := by
  have hr1 := h.r.kept hg (row_map_ne h.r h.s.obj)
  obtain ⟨es, clock, hob⟩ := h.s.obj
  have g1 := h.g.map hob (by omega) hg
  have hall := gGrown (World.grownBy_alloc W1 o v.ownBlock) hg2 (row := v.ownBlock) (fun _ e => .inl e)
  exact ⟨g1.row hr1 (by decide) hall, by rw [List.length_append]; exact hm.kept hall (map_row_ne hr1 hm.obj), by rw [List.length_append]; exact hr, (h.b.grown hg h.b.size (fun j e => by cases e; omega)).grown hall (Nat.le_trans h.b.size hg.size) (fun j e => (hr1.lt j e).1), by simp, snoc_kind h.k hx⟩
theorem PairSt.markRow {W1 W2 : World} {o : Obj} {base' s' n' : Nat} {e' : TypeId} {u : Value} {xs : List Value} (h : PairSt w W kind f S v ws) (hg : W.grownBy W1 (some (w.heap.size + 2)))
    (hg2 : (W1.alloc o).grownBy W2 v.ownBlock) (hne : e' ≠ 44) (hu : W.ownsRow base' e' s' u n' xs) : W2.ownsRow base' e' s' u n' xs := by
  have hr1 := h.r.kept hg (row_map_ne h.r h.s.obj)
  have hall := gGrown (World.grownBy_alloc W1 o v.ownBlock) hg2 (row := v.ownBlock) (fun _ e => .inl e)
  have u1 := hu.kept hg (row_map_ne hu h.s.obj)
  exact u1.kept hall (own_own_ne u1 hr1 hne)
theorem PairSt.markBlk {W1 W2 : World} {o : Obj} {g : Nat} {t : TypeId} {cs : Array Value} (h : PairSt w W kind f S v ws) (hg : W.grownBy W1 (some (w.heap.size + 2)))
    (hg2 : (W1.alloc o).grownBy W2 v.ownBlock) (hne : 44 ≠ t) (hb : Blk W g t cs) : Blk W2 g t cs := by
  have hr1 := h.r.kept hg (row_map_ne h.r h.s.obj)
  have hall := gGrown (World.grownBy_alloc W1 o v.ownBlock) hg2 (row := v.ownBlock) (fun _ e => .inl e)
  have b1 := hb.grown hg (fun e0 => by
    obtain ⟨es, clock, ho⟩ := h.s.obj
    cases e0
    rw [show W.heap[w.heap.size + 2]? = _ from hb] at ho
    cases ho)
  exact b1.grown hall (fun e0 => own_blk_ne hr1 b1 hne e0.symm)
/-- A number is put at a key. -/
theorem PairSt.put {W1 W2 W3 : World} {v0 : Value} {f' : Value → List Int} (h : PairSt w W kind f S v ws) (h1 : W.grownBy W1 (some (w.heap.size + 1))) (hg1 : Grp Try.prog 60 (w.heap.size + 3) 3 W1 (w.heap.size + 1) f) {n0 : Nat} {xs0 : List Value} (hr0 : W1.ownsRow (w.heap.size + 3) 3 1 v0 n0 xs0) (h2 : W1.grownBy W2 v0.ownBlock) (h3 : W2.grownBy W3 (some (w.heap.size + 1))) (hg : Grp Try.prog 60 (w.heap.size + 3) 3 W3 (w.heap.size + 1) f') : PairSt w W3 kind f' S v ws := by
  have s1 := h.s.kept h1 (by simp)
  have r1 := h.r.kept h1 (row_map_ne h.r h.g.obj)
  have s2 := s1.kept h2 (map_row_ne hr0 s1.obj)
  have r2 := r1.kept h2 (own_own_ne r1 hr0 (by decide))
  have hm1 : ∃ es clock, W2.heap[w.heap.size + 1]? = some (.map es clock) := by
    obtain ⟨es, clock, ho⟩ := hg1.obj
    exact ⟨es, clock, (h2.block _ hg1.lt (map_row_ne hr0 hg1.obj)).trans ho⟩
  exact ⟨hg, s2.kept h3 (by simp), r2.kept h3 (row_map_ne r2 hm1), ((h.b.grown h1 h.b.size (fun j e => by cases e; omega)).grown h2 (Nat.le_trans h.b.size h1.size) (fun j e => by have := (hr0.lt j e).1; omega)).grown h3 (Nat.le_trans h.b.size (Nat.le_trans h1.size h2.size)) (fun j e => by cases e; omega), h.c, h.k⟩
theorem PairSt.putRow {W1 W2 W3 : World} {v0 u : Value} {base' s' n' : Nat} {e' : TypeId} {xs : List Value} (h : PairSt w W kind f S v ws) (h1 : W.grownBy W1 (some (w.heap.size + 1))) (hg1 : Grp Try.prog 60 (w.heap.size + 3) 3 W1 (w.heap.size + 1) f) {n0 : Nat} {xs0 : List Value} (hr0 : W1.ownsRow (w.heap.size + 3) 3 1 v0 n0 xs0) (h2 : W1.grownBy W2 v0.ownBlock) (h3 : W2.grownBy W3 (some (w.heap.size + 1))) (hne : e' ≠ 3) (hu : W.ownsRow base' e' s' u n' xs) : W3.ownsRow base' e' s' u n' xs := by
  have u1 := hu.kept h1 (row_map_ne hu h.g.obj)
  have u2 := u1.kept h2 (own_own_ne u1 hr0 hne)
  have hm1 : ∃ es clock, W2.heap[w.heap.size + 1]? = some (.map es clock) := by
    obtain ⟨es, clock, ho⟩ := hg1.obj
    exact ⟨es, clock, (h2.block _ hg1.lt (map_row_ne hr0 hg1.obj)).trans ho⟩
  exact u2.kept h3 (row_map_ne u2 hm1)
end
end Go.Proofs.Ytpnkhgjjlionnaa
namespace Go.Proofs.Ytpnkhgjjlionnaa
open Go.RowKit Go.Maps
open Go.MapKept (Stamped)

/-- Block b is a map of bools: it has just the keys ks, each once, and all are true. -/
def KSet (P : Program) (k : TypeId) (w : World) (b : Nat) (ks : List Value) : Prop :=
  ∃ es clock, w.heap[b]? = some (.map es clock) ∧ Stamped es clock ∧ (∀ x ∈ es.toList, ∃ l, keyOf P k x.key = some l) ∧ es.toList.map (·.key) = ks ∧ ∀ x ∈ es.toList, x.val = .bool true
def mapSize (w : World) (b : Nat) : Nat := match w.heap[b]? with | some (.map es _) => es.size | _ => 0
section
variable {P : Program} {k e : TypeId} {b : Nat} {w : World} {ks : List Value}
theorem KSet.made (w : World) (P : Program) (k : TypeId) : KSet P k (w.alloc (.map #[] 0)) w.heap.size [] := ⟨#[], 0, heap_alloc_new w _, MapKept.stamped_empty 0, by simp, rfl, by simp⟩
theorem KSet.lt (h : KSet P k w b ks) : b < w.heap.size := by
  obtain ⟨es, clock, hb, _⟩ := h
  exact (Array.getElem?_eq_some_iff.1 hb).1
theorem KSet.size (h : KSet P k w b ks) : mapSize w b = ks.length := by
  obtain ⟨es, clock, hb, _, _, h3, _⟩ := h
  unfold mapSize
  rw [hb, ← h3]
  simp
theorem KSet.same {w' : World} (h : KSet P k w b ks) (hg : w'.heap[b]? = w.heap[b]?) : KSet P k w' b ks := by
  obtain ⟨es, clock, hb, h1⟩ := h
  exact ⟨es, clock, hg.trans hb, h1⟩
theorem KSet.kept {w' : World} {row : Option Nat} (h : KSet P k w b ks) (hg : w.grownBy w' row) (hne : some b ≠ row) : KSet P k w' b ks := h.same (hg.block b h.lt hne)
theorem KSet.alloc (h : KSet P k w b ks) (o : Obj) : KSet P k (w.alloc o) b ks := h.kept (World.grownBy_alloc w o none) (by simp)
theorem KSet.look {t : TypeId} (h : KSet P k w b ks) (K : Keyed P k) (ht : P.underlying t = some (.map k e)) (hz : (zeroValue e).run P w = .ok (.bool false) w) {key : Value} {kl : Lit} (hkey : keyOf P k key = some kl) :
    ∃ r : Bool, (Instr.lookup t (.map (some b)) key false).run P w = .ok (.bool r) w ∧ (r = true ↔ key ∈ ks) := by
  obtain ⟨es, clock, hb, h1, h2, h3, h4⟩ := h
  rcases K.find w hkey es.toList h2 with ⟨g1, g2⟩ | ⟨j, e0, g1, g2, g3⟩
  · refine ⟨false, by simp [Instr.lookup, run_underlying ht, MapKept.run_getObj_map hb, K.check w _ hkey, g1, hz, Result.andThen], ?_⟩
    rw [← h3]
    constructor
    · intro e0; cases e0
    · intro hm
      obtain ⟨x, hx, e0⟩ := List.mem_map.1 hm
      exact absurd e0 (g2 x hx)
  · have hm := List.mem_of_getElem? g2
    refine ⟨true, ?_, ?_⟩
    · rw [h4 e0 hm] at g1
      simp [Instr.lookup, run_underlying ht, MapKept.run_getObj_map hb, K.check w _ hkey, g1, Result.andThen]
    · rw [← h3]
      exact ⟨fun _ => List.mem_map.2 ⟨e0, hm, g3⟩, fun _ => rfl⟩
theorem KSet.store {t : TypeId} (h : KSet P k w b ks) (K : Keyed P k) (ht : P.underlying t = some (.map k e)) {key : Value} {kl : Lit} (hkey : keyOf P k key = some kl) (hn : key ∉ ks) :
    ∃ w', (Instr.mapUpdate t (.map (some b)) key (.bool true)).run P w = .ok () w' ∧ KSet P k w' b (ks ++ [key]) ∧ w.grownBy w' (some b) ∧ w'.heap.size = w.heap.size := by
  obtain ⟨es, clock, hb, h1, h2, h3, h4⟩ := h
  rcases K.find w hkey es.toList h2 with ⟨g1, g2⟩ | ⟨j, e0, g1, g2, g3⟩
  · refine ⟨_, by simp [Instr.mapUpdate, run_underlying ht, MapKept.run_getObj_map hb, K.check w _ hkey, g1, MapKept.run_setObj_map _ hb, Result.andThen]; rfl, ⟨es.push ⟨key, .bool true, clock⟩, clock + 1, ChangeMaps.heap_setBlock_same hb _, MapKept.stamped_push h1 g2, ?_, by simp [h3], ?_⟩, setBlock_grown hb _, by simp [ChangeMaps.setBlock]⟩
    · intro x hx
      simp only [Array.toList_push, List.mem_append, List.mem_singleton] at hx
      rcases hx with hx | rfl
      · exact h2 x hx
      · exact ⟨_, hkey⟩
    · intro x hx
      simp only [Array.toList_push, List.mem_append, List.mem_singleton] at hx
      rcases hx with hx | rfl
      · exact h4 x hx
      · rfl
  · exact absurd (by rw [← h3]; exact List.mem_map.2 ⟨e0, List.mem_of_getElem? g2, g3⟩) hn
theorem KSet.len {t : TypeId} (h : KSet P k w b ks) (ht : P.underlying t = some (.map k e)) (ty : TypeId) : (Builtin.len_ #[t] ty #[.map (some b)]).run P w = .ok (.int .i64 ks.length) w := by
  obtain ⟨es, clock, hb, h1, h2, h3, h4⟩ := h
  have : (ks.length : Int) = es.size := by rw [← h3]; simp
  rw [this]
  simp [Builtin.len_, run_underlying ht, MapKept.run_getObj_map hb, goInt, Result.andThen]
theorem wpList_lookupK {ops : Array Oper} {rest : List Oper} {o : Oper} {a : Act} {Q : Exit → Act → World → Prop} (h : KSet P k w b ks)
    (hg : o.guard = none) (m x : Operand) (t : TypeId) (hop : o.op = Op.lookup t m x false) (K : Keyed P k) (ht : P.underlying t = some (.map k e)) (hz : (zeroValue e).run P w = .ok (.bool false) w)
    (hm : a.eval m = .map (some b)) (key : Value) (hx : a.eval x = key) {kl : Lit} (hkey : keyOf P k key = some kl)
    (hK : ∀ r : Bool, (r = true ↔ key ∈ ks) → wpList P ops Q rest (a.put o.dst (.bool r)) w) : wpList P ops Q (o :: rest) a w := by
  refine wpList_plain hg fun K' hK' => ?_
  obtain ⟨r, hrun, hi⟩ := h.look K ht hz hkey
  unfold Oper.wp
  simp [execOp, hop, hm, hx, hrun, Result.andThen]
  exact hK' _ _ (hK r hi)
theorem wpList_storeK {ops : Array Oper} {rest : List Oper} {o : Oper} {a : Act} {Q : Exit → Act → World → Prop} (h : KSet P k w b ks)
    (hg : o.guard = none) (m x v : Operand) (t : TypeId) (hop : o.op = Op.mapUpdate t m x v ∨ o.op = Op.insert t m x v) (K : Keyed P k) (ht : P.underlying t = some (.map k e))
    (hm : a.eval m = .map (some b)) (key : Value) (hx : a.eval x = key) (hv : a.eval v = .bool true) {kl : Lit} (hkey : keyOf P k key = some kl) (hn : key ∉ ks)
    (hK : ∀ w', KSet P k w' b (ks ++ [key]) → w.grownBy w' (some b) → w'.heap.size = w.heap.size → wpList P ops Q rest (a.put o.dst undef) w') : wpList P ops Q (o :: rest) a w := by
  refine wpList_plain hg fun K' hK' => ?_
  obtain ⟨w', hrun, r1, r2, r3⟩ := h.store K ht hkey hn
  unfold Oper.wp
  rcases hop with hop | hop <;> simp [execOp, hop, hm, hx, hv, hrun, Result.andThen] <;> exact hK' _ _ (hK w' r1 r2 r3)
theorem wpList_lenK {ops : Array Oper} {rest : List Oper} {o : Oper} {a : Act} {Q : Exit → Act → World → Prop} (h : KSet P k w b ks)
    (hg : o.guard = none) (m : Operand) (t : TypeId) (hop : o.op = Op.call { callee := Callee.builtin Builtin.len, args := #[m], argTypes := #[t] }) (ht : P.underlying t = some (.map k e)) (hm : a.eval m = .map (some b))
    (hK : wpList P ops Q rest (a.put o.dst (.int .i64 ks.length)) w) : wpList P ops Q (o :: rest) a w := by
  refine wpList_plain hg fun K' hK' => ?_
  have hrun := h.len ht o.type
  unfold Oper.wp execOp
  simp only [hop, resolve, invoke, builtin, Sem.run_bind, Sem.run_pure, Result.andThen_ok, List.map_toArray, List.map_cons, List.map_nil, hm, hrun]
  exact hK' _ _ hK
end

/-- A queue of numbers: what its cells hold; from block 'base' on; room behind it. -/
def IQ (w : World) (base : Nat) (v : Value) (zs : List Int) : Prop :=
  ∃ ao b off cap cur, v = .slice ao zs.length cap ∧ zs.length ≤ cap ∧ cap ≤ maxLen ∧ (0 < cap → ao = some ⟨b, off, none⟩ ∧ base ≤ b ∧ w.heap[b]? = some (.cells cur 3 (0, 0)) ∧ off + cap ≤ cur.size ∧ ∀ j, j < zs.length → cur[off + j]? = (intsV zs)[j]?)
theorem IQ.kept {w w' : World} {base : Nat} {v : Value} {zs : List Int} {row : Option Nat} (h : IQ w base v zs) (hg : w.grownBy w' row) (hr : ∀ j, row = some j → j < base ∨ ∃ es clock, w.heap[j]? = some (.map es clock)) : IQ w' base v zs := by
  obtain ⟨ao, b, off, cap, cur, h1, h2, h3, h4⟩ := h
  refine ⟨ao, b, off, cap, cur, h1, h2, h3, fun hc => ?_⟩
  obtain ⟨g1, g2, g3, g4, g5⟩ := h4 hc
  refine ⟨g1, g2, (hg.block b (Array.getElem?_eq_some_iff.1 g3).1 (fun e0 => ?_)).trans g3, g4, g5⟩
  rcases hr b e0.symm with hlt | ⟨es, clock, ho⟩
  · omega
  · rw [g3] at ho
    cases ho
theorem IQ.alloc {w : World} {base : Nat} {v : Value} {zs : List Int} (h : IQ w base v zs) (o : Obj) : IQ (w.alloc o) base v zs := h.kept (World.grownBy_alloc w o none) (fun j e => by cases e)
theorem IQ.form {w : World} {base : Nat} {v : Value} {zs : List Int} (h : IQ w base v zs) : ∃ ao c, v = .slice ao zs.length c := by
  obtain ⟨ao, b, off, cap, cur, h1, _⟩ := h
  exact ⟨ao, cap, h1⟩
end Go.Proofs.Ytpnkhgjjlionnaa
namespace Go.Proofs.Ytpnkhgjjlionnaa
namespace Jor

/-! The exclusive or of a test over a list. -/
section
variable {l m : List Nat} {p q : Nat → Bool}
end

/-! Lists without doubles. -/
theorem nodup_le {l m : List Nat} (hn : l.Nodup) (hs : ∀ x ∈ l, x ∈ m) : l.length ≤ m.length := by
  induction l generalizing m with
  | nil => exact Nat.zero_le _
  | cons a l ih =>
    rw [List.nodup_cons] at hn
    have ha := hs a (List.mem_cons_self ..)
    have h1 := ih (m := m.erase a) hn.2 (fun x hx => (List.mem_erase_of_ne (fun e => hn.1 (by rw [← e]; exact hx))).2 (hs x (List.mem_cons_of_mem _ hx)))
    have h2 := List.length_erase_of_mem ha
    have h3 := List.length_pos_of_mem ha
    simp only [List.length_cons]
    omega
/-! Corners -/
def nx (c : Nat) : Nat := c - c % 3 + (c + 1) % 3
def pv (c : Nat) : Nat := c - c % 3 + (c + 2) % 3
theorem nx_div (c : Nat) : nx c / 3 = c / 3 := by unfold nx; omega
theorem pv_div (c : Nat) : pv c / 3 = c / 3 := by unfold pv; omega
theorem pv_nx (c : Nat) : pv (nx c) = c := by unfold nx pv; omega
theorem nx_pv (c : Nat) : nx (pv c) = c := by unfold nx pv; omega
theorem nx_nx (c : Nat) : nx (nx c) = pv c := by unfold nx pv; omega
theorem pv_pv (c : Nat) : pv (pv c) = nx c := by unfold nx pv; omega
theorem nx_lt {F c : Nat} (h : c < 3 * F) : nx c < 3 * F := by unfold nx; omega
theorem pv_lt {F c : Nat} (h : c < 3 * F) : pv c < 3 * F := by unfold pv; omega

/-- A closed surface of F triangles and N vertices; across each corner is one. -/
structure Closed (F N : Nat) (opp vert : Nat → Nat) : Prop where
  lt : ∀ c, c < 3 * F → opp c < 3 * F
  inv : ∀ c, c < 3 * F → opp (opp c) = c
  apart : ∀ c, c < 3 * F → opp c / 3 ≠ c / 3
  vn : ∀ c, c < 3 * F → vert (nx (opp c)) = vert (pv c)
  vp : ∀ c, c < 3 * F → vert (pv (opp c)) = vert (nx c)
  simple : ∀ c, c < 3 * F → vert (nx c) ≠ vert c
  vlt : ∀ c, c < 3 * F → vert c < N
  all : ∀ v, v < N → ∃ c, c < 3 * F ∧ vert c = v
  conn : ∀ S : Nat → Prop, S 0 → (∀ c, c < 3 * F → S (c / 3) → S (opp c / 3)) → ∀ t, t < F → S t
section
variable {F N : Nat} {opp vert : Nat → Nat}

/-! A tree of vertices, along edges U. -/
variable {U : Nat → Prop}
/-- The edges of a list of corners, both ways. -/
def both (opp : Nat → Nat) (l : List Nat) : List Nat := l ++ l.map opp
theorem both_mem {l : List Nat} {c : Nat} : c ∈ both opp l ↔ c ∈ l ∨ ∃ b ∈ l, opp b = c := by
  unfold both
  rw [List.mem_append, List.mem_map]
theorem both_length {l : List Nat} : (both opp l).length = 2 * l.length := by
  unfold both
  simp
  omega

end
end Jor
end Go.Proofs.Ytpnkhgjjlionnaa
