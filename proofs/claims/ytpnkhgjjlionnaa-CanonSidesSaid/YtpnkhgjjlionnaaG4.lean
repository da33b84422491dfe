/-
  Texts joined by program, what the law uses alone: Ord FrM InsS FoM WkT BrdM Same10 SoupS Fits FitsS FoN FoP Iso IsoF IsoC IsoS.
-/
import Derived.Deep.RegionHeld3
import Derived.Sort.Defs
import Derived.Test.YtpnkhgjjlionnaaG1
import Derived.Test.YtpnkhgjjlionnaaG3
import Derived.Test.YtpnkhgjjlionnaaShelf
namespace Go.Proofs.Ytpnkhgjjlionnaa
open Go.RowKit

theorem cmpL_self : ∀ l : List Int, cmpL l l = 0
  | [] => rfl
  | x :: r => by simp [cmpL, cmpL_self r]
theorem cmpL_anti : ∀ a b : List Int, cmpL b a = -cmpL a b
  | [], [] => rfl
  | [], _ :: _ => rfl
  | _ :: _, [] => rfl
  | x :: xs, y :: ys => by
    simp only [cmpL]
    by_cases h1 : x < y
    · rw [if_pos h1, if_neg (by omega), if_pos h1]
      rfl
    · by_cases h2 : y < x
      · rw [if_pos h2, if_neg h1, if_pos h2]
      · rw [if_neg h2, if_neg h1, if_neg h1, if_neg h2]
        exact cmpL_anti xs ys
/-- How two lists of triangles stand, as the document says it. -/
def ordM (N1 : Int) (T1 : List Tr) (N2 : Int) (T2 : List Tr) : Int := cmpL (rowM N1 T1) (rowM N2 T2)
set_option maxRecDepth 100000 in
set_option maxHeartbeats 1000000 in
theorem less_any (N1 N2 : Int) (v1 v2 : Value) (T1 T2 : List Tr) (w : World) (h1 : TrisRd w v1 T1) (h2 : TrisRd w v2 T2) (l1 : T1.length ≤ 100000) (l2 : T2.length ≤ 100000) :
    Calls Try.prog 27 #[.agg #[.int .i64 N1, v1], .agg #[.int .i64 N2, v2]] w fun e w' => e = .returned (.bool (decide (ordM N1 T1 N2 T2 < 0))) ∧ Below w.heap.size w w' := by
  obtain ⟨z, hz⟩ : ∃ z, ordM N1 T1 N2 T2 = z := ⟨_, rfl⟩
  have hz' : cmpL (rowM N1 T1) (rowM N2 T2) = z := hz
  rw [hz]
  have H1 := Lib.hid (fun (W : World) (hW : Below w.heap.size w W) => row_any N1 v1 T1 W (h1.below hW) l1)
  have H2 := Lib.hid (fun (W : World) (hW : Below w.heap.size w W) => row_any N2 v2 T2 W (h2.below hW) l2)
  obtain ⟨a1, c1, rfl, -, -, -⟩ := h1
  obtain ⟨a2, c2, rfl, -, -, -⟩ := h2
  have b1 := (Blk.new w 24 #[.int .i64 N1, .slice a1 T1.length c1]).alloc (.cells #[.int .i64 N2, .slice a2 T2.length c2] 24)
  have b2 : Blk ((w.alloc (.cells #[.int .i64 N1, .slice a1 T1.length c1] 24)).alloc (.cells #[.int .i64 N2, .slice a2 T2.length c2] 24)) (w.heap.size + 1) 24 #[.int .i64 N2, .slice a2 T2.length c2] := by
    have := Blk.new (w.alloc (.cells #[.int .i64 N1, .slice a1 T1.length c1] 24)) 24 #[.int .i64 N2, .slice a2 T2.length c2]
    rwa [size_alloc'] at this
  have hB : Below w.heap.size w ((w.alloc (.cells #[.int .i64 N1, .slice a1 T1.length c1] 24)).alloc (.cells #[.int .i64 N2, .slice a2 T2.length c2] 24)) := ((Below.refl _ _).alloc (Nat.le_refl _) _).alloc (by simp) _
  obtain ⟨p0, x0, -, x1, -⟩ := b1.two
  obtain ⟨q0, y0, -, y1, -⟩ := b2.two
  have f1 := flatT_length T1
  have f2 := flatT_length T2
  have HR1 := Lib.hid (show (rowM N1 T1).length = 2 + 3 * T1.length from by simp [rowM]; omega)
  have HR2 := Lib.hid (show (rowM N2 T2).length = 2 + 3 * T2.length from by simp [rowM]; omega)
  obtain ⟨R1, hR1⟩ : ∃ R1, rowM N1 T1 = R1 := ⟨_, rfl⟩
  obtain ⟨R2, hR2⟩ : ∃ R2, rowM N2 T2 = R2 := ⟨_, rfl⟩
  rw [hR1] at H1 HR1 hz'
  rw [hR2] at H2 HR2 hz'
  have HC := Lib.hid (fun (v1 v2 : Value) (W : World) (i1 : IntsRd W v1 R1) (i2 : IntsRd W v2 R2) => (by have := compareL_any v1 v2 R1 R2 W i1 i2; rw [hz'] at this; exact this : Calls Try.prog 60 #[v1, v2] W fun e w' => e = .returned (.int .i64 z) ∧ w' = W))
  clear f1 f2 hz hz' hR1 hR2
  go_enter Try.func27, Try.ntmps27
  go_wp2
  generalize (w.alloc (.cells #[.int .i64 N1, .slice a1 T1.length c1] 24)).alloc (.cells #[.int .i64 N2, .slice a2 T2.length c2] 24) = W0 at *
  have HX := Lib.hid (fun (W : World) (hW : Below W0.heap.size W0 W) => And.intro ((hW.cell (p := ⟨w.heap.size, 0, none⟩) p0).trans x0) (And.intro ((hW.cell (p := ⟨w.heap.size, 1, none⟩) p0).trans x1) (And.intro ((hW.cell (p := ⟨w.heap.size + 1, 0, none⟩) q0).trans y0) ((hW.cell (p := ⟨w.heap.size + 1, 1, none⟩) q0).trans y1))))
  have HW := Lib.hid (fun (W : World) (hW : Below W0.heap.size W0 W) => hB.trans (hW.mono hB.size))
  have HBd := Lib.hid (Below.refl W0.heap.size W0).drew
  clear hB b1 b2 p0 q0
  go_region_with
    (first
      | (go_at_call 61; with_reducible refine (H1.out _ (HW.out _ (by first | exact HBB.out | exact HBd.out))).mono ?_; rintro e wA ⟨vA, rfl, hA, hbA⟩; have HBA := Lib.hid (show Below W0.heap.size W0 wA from by first | exact HBB.out.trans (hbA.mono HBB.out.size) | exact HBd.out.trans (hbA.mono HBd.out.size)); have IA := Lib.hid (fun (W : World) (hW : Below wA.heap.size wA W) => IntsRd.of_row (own_below hA hW) HR1.out); obtain ⟨u0, u1, u2, u3⟩ := HX.out _ HBA.out; clear hA)
      | (go_at_call 61; with_reducible refine (H2.out _ (HW.out _ (by first | exact HBA.out | exact HBd.out))).mono ?_; rintro e wB ⟨vB, rfl, hB, hbB⟩; have HBB := Lib.hid (show Below W0.heap.size W0 wB from by first | exact HBA.out.trans (hbB.mono HBA.out.size) | exact HBd.out.trans (hbB.mono HBd.out.size)); have IB := Lib.hid (fun (W : World) (hW : Below wB.heap.size wB W) => IntsRd.of_row (own_below hB hW) HR2.out); obtain ⟨u0, u1, u2, u3⟩ := HX.out _ HBB.out; clear hB)
      | (go_at_call 60; refine (HC.out vA vB _ (by first | exact IA.out _ (Below.refl _ _) | exact IA.out _ hbB) (by first | exact IB.out _ (Below.refl _ _) | exact IB.out _ hbA)).mono ?_; rintro e w' ⟨rfl, rfl⟩))
  all_goals
    go_wp2
    go_ret
    exact ⟨rfl, HW.out _ (by first | exact HBA.out | exact HBB.out)⟩
end Go.Proofs.Ytpnkhgjjlionnaa
namespace Go.Proofs.Ytpnkhgjjlionnaa
open Go.RowKit

/-- The places of the old vertices, in order. -/
def paintF (P : List Tr) (old : List Int) : List Tr := old.map fun v => P.getD v.toNat (0, 0, 0)
/-- The values of the corners, three a triangle. -/
def sideF (K : List Int) (L : List Nat) : List Int := L.flatMap fun d => [K.getD d 0, K.getD (Jor.nx d) 0, K.getD (Jor.pv d) 0]
def paintL (P : List Tr) (old : List Int) : List Tr := if P = [] then [] else paintF P old
def sideL (K : List Int) (L : List Nat) : List Int := if K = [] then [] else sideF K L
structure RecM where
  N : Int
  T : List Tr
  P : List Tr
  K : List Int
  old : List Int
def RecM.row (r : RecM) : List Int := rowM r.N r.T ++ (flatT r.P ++ r.K)
def fromM (T : List Tr) (P : List Tr) (K : List Int) (c : Nat) : RecM := ⟨(rtN T c).1.length, (rtN T c).2, paintL P (rtN T c).1, sideL K (rtL T c), (rtN T c).1⟩

theorem paintF_take {P : List Tr} {old : List Int} {k : Nat} {v : Int} (h : old[k]? = some v) : paintF P (old.take (k + 1)) = paintF P (old.take k) ++ [P.getD v.toNat (0, 0, 0)] := by
  obtain ⟨hk, he⟩ := List.getElem?_eq_some_iff.1 h
  rw [List.take_succ_eq_append_getElem hk, he]
  simp [paintF]
theorem sideF_take {K : List Int} {L : List Nat} {k d : Nat} (h : L[k]? = some d) : sideF K (L.take (k + 1)) = sideF K (L.take k) ++ [K.getD d 0, K.getD (Jor.nx d) 0, K.getD (Jor.pv d) 0] := by
  obtain ⟨hk, he⟩ := List.getElem?_eq_some_iff.1 h
  rw [List.take_succ_eq_append_getElem hk, he]
  simp [sideF]
theorem paintF_len (P : List Tr) (old : List Int) : (paintF P old).length = old.length := by simp [paintF]
theorem sideF_len (K : List Int) (L : List Nat) : (sideF K L).length = 3 * L.length := by
  unfold sideF
  induction L with
  | nil => rfl
  | cons d r ih => rw [List.flatMap_cons, List.length_append, ih, List.length_cons]; simp; omega
theorem flatT_snoc (T : List Tr) (x y z : Int) : flatT (T ++ [(x, y, z)]) = flatT T ++ [x, y, z] := by simp [flatT]
theorem rowM_len (N : Int) (T : List Tr) : (rowM N T).length = 2 + 3 * T.length := by
  have := flatT_length T
  simp [rowM]
  omega
theorem addV_in {old : List Int} {u v : Int} (h : u ∈ addV old v) : u ∈ old ∨ u = v := by
  unfold addV at h
  split at h
  · exact .inl h
  · simpa using h
theorem numL_in (T : List Tr) : ∀ (L : List Nat) (s : List Int × List Tr) (u : Int), u ∈ (numL T L s).1 → u ∈ s.1 ∨ ∃ d ∈ L, u = vertN T d ∨ u = vertN T (Jor.nx d) ∨ u = vertN T (Jor.pv d)
  | [], _, _, h => .inl h
  | d :: r, s, u, h => by
    rcases numL_in T r _ u h with h1 | ⟨e, he, h1⟩
    · rcases addV_in h1 with h2 | h2
      · rcases addV_in h2 with h3 | h3
        · rcases addV_in h3 with h4 | h4
          · exact .inl h4
          · exact .inr ⟨d, List.mem_cons_self .., .inl h4⟩
        · exact .inr ⟨d, List.mem_cons_self .., .inr (.inl h3)⟩
      · exact .inr ⟨d, List.mem_cons_self .., .inr (.inr h2)⟩
    · exact .inr ⟨e, List.mem_cons_of_mem _ he, h1⟩
theorem nx_lt3 {d n : Nat} (h : d < 3 * n) : Jor.nx d < 3 * n := by unfold Jor.nx; omega
theorem pv_lt3 {d n : Nat} (h : d < 3 * n) : Jor.pv d < 3 * n := by unfold Jor.pv; omega
theorem rtN_in {T : List Tr} {c : Nat} (hc : c < 3 * T.length) {u : Int} (h : u ∈ (rtN T c).1) : ∃ d, d < 3 * T.length ∧ u = vertN T d := by
  rcases numL_in T _ _ u h with h1 | ⟨d, hd, h1⟩
  · cases h1
  · have hlt := (LOk.rtL hc).lt d hd
    rcases h1 with h1 | h1 | h1
    · exact ⟨_, hlt, h1⟩
    · exact ⟨_, nx_lt3 hlt, h1⟩
    · exact ⟨_, pv_lt3 hlt, h1⟩
theorem rtN_lens {T : List Tr} {c : Nat} (hc : c < 3 * T.length) : (rtN T c).2.length = (rtL T c).length ∧ (rtL T c).length ≤ T.length ∧ (rtN T c).1.length ≤ 3 * T.length := by
  have h := numL_len T (rtL T c) ([], [])
  have h2 := (LOk.rtL hc).len
  simp only [List.length_nil] at h
  have e : numL T (rtL T c) ([], []) = rtN T c := rfl
  rw [e] at h
  omega
end Go.Proofs.Ytpnkhgjjlionnaa
namespace Go.Proofs.Ytpnkhgjjlionnaa
open Go.Sort

section
variable {α : Type} (lt : α → α → Bool)
/-- x is put among others, from the back: behind all that aren't greater. -/
def insB (l : List α) (x : α) : List α := (l.reverse.dropWhile (lt x)).reverse ++ x :: (l.reverse.takeWhile (lt x)).reverse
theorem insB_snoc (l : List α) (y x : α) : insB lt (l ++ [y]) x = if lt x y = true then insB lt l x ++ [y] else l ++ [y, x] := by
  unfold insB
  rw [List.reverse_append, List.reverse_singleton, List.singleton_append]
  by_cases h : lt x y = true
  · simp [h]
  · simp [h]
theorem insB_len (l : List α) (x : α) : (insB lt l x).length = l.length + 1 := by
  unfold insB
  have h := congrArg List.length (List.takeWhile_append_dropWhile (p := lt x) (l := l.reverse))
  simp only [List.length_append, List.length_reverse] at h
  simp only [List.length_append, List.length_reverse, List.length_cons]
  omega
theorem insB_perm (l : List α) (x : α) : (insB lt l x).Perm (x :: l) := by
  unfold insB
  have h := List.takeWhile_append_dropWhile (p := lt x) (l := l.reverse)
  have h2 : l = (l.reverse.dropWhile (lt x)).reverse ++ (l.reverse.takeWhile (lt x)).reverse := by
    rw [← List.reverse_append, h, List.reverse_reverse]
  refine List.perm_middle.trans ?_
  rw [← h2]
/-- All, one behind the other. -/
def sortB (l : List α) : List α := l.foldl (insB lt) []
theorem foldB_perm (l : List α) : ∀ m : List α, (l.foldl (insB lt) m).Perm (m ++ l) := by
  induction l with
  | nil => intro m; simp
  | cons a r ih =>
    intro m
    refine (ih _).trans ?_
    refine ((insB_perm lt m a).append_right r).trans ?_
    rw [List.cons_append]
    exact List.perm_middle.symm
theorem sortB_perm (l : List α) : (sortB lt l).Perm l := by simpa [sortB] using foldB_perm lt l []
theorem sortB_len (l : List α) : (sortB lt l).length = l.length := (sortB_perm lt l).length_eq
variable [Inhabited α]
theorem insInner_list (p q : List α) (x : α) : (insInner lt 0 p.length (p ++ x :: q).toArray).toList = insB lt p x ++ q := by
  induction hn : p.length generalizing p q with
  | zero =>
    have : p = [] := List.eq_nil_of_length_eq_zero hn
    subst this
    simp [insInner, insB]
  | succ n ih =>
    obtain ⟨p', y, rfl⟩ : ∃ p' y, p = p' ++ [y] := by
      rcases List.eq_nil_or_concat p with h | ⟨a, b, h⟩
      · subst h; simp at hn
      · exact ⟨a, b, by simpa using h⟩
    have hn' : p'.length = n := by simpa using hn
    rw [insB_snoc]
    unfold insInner
    have e1 : (p' ++ [y] ++ x :: q).toArray[n + 1]! = x := by
      rw [← hn']
      simp
    have e2 : (p' ++ [y] ++ x :: q).toArray[n]! = y := by
      rw [← hn']
      simp
    rw [e1, e2]
    by_cases h : lt x y = true
    · have e3 : swp (p' ++ [y] ++ x :: q).toArray (n + 1) n = (p' ++ x :: (y :: q)).toArray := by
        unfold swp
        rw [e1, e2, ← hn']
        simp
      rw [e3]
      simp [h, ih p' (y :: q) hn']
    · simp [h]
theorem insOuter_list  : ∀ (q p : List α), (insOuter lt 0 (p.length + q.length) p.length (p ++ q).toArray).toList = q.foldl (insB lt) p := by
  intro q
  induction q with
  | nil =>
    intro p
    unfold insOuter
    simp
  | cons a r ih =>
    intro p
    unfold insOuter
    have h1 : (insInner lt 0 p.length (p ++ a :: r).toArray) = (insB lt p a ++ r).toArray := by
      apply Array.ext'
      rw [insInner_list]
    rw [if_pos (by simp), h1]
    have h2 := ih (insB lt p a)
    rw [insB_len] at h2
    rw [List.length_cons, show p.length + (r.length + 1) = p.length + 1 + r.length from by omega, h2, List.foldl_cons]
/-- The library's sort of few elements is the fold. -/
theorem insertionSort_list (d : Array α) : (insertionSort lt d 0 d.size).toList = sortB lt d.toList := by
  obtain ⟨l⟩ := d
  unfold insertionSort sortB
  cases l with
  | nil => unfold insOuter; simp
  | cons a r =>
    have h := insOuter_list lt r [a]
    have e : insB lt [] a = [a] := by simp [insB]
    rw [List.foldl_cons, e, ← h]
    simp [Nat.add_comm]
theorem insOuter_done (d : Array α) (n : Nat) : insOuter lt n n (n + 1) d = d := by
  unfold insOuter
  rw [if_neg (by omega)]
end
end Go.Proofs.Ytpnkhgjjlionnaa
namespace Go.Proofs.Ytpnkhgjjlionnaa
open Go.RowKit

/-- Of two corners that of the lesser row; the elder where they are alike. -/
def pickC (rw_ : Nat → List Int) (o : Option Nat) (c : Nat) : Option Nat := match o with
  | none => some c
  | some d => if cmpL (rw_ c) (rw_ d) < 0 then some c else some d
/-- The best corners of the parts, one more corner looked at. -/
def bestS (rw_ : Nat → List Int) (out : List Int) (b : List (Option Nat)) (c : Nat) : List (Option Nat) := b.set (at_ out (c / 3)).toNat (pickC rw_ (b.getD (at_ out (c / 3)).toNat none) c)
/-- .. k corners looked at. -/
def bestK (rw_ : Nat → List Int) (out : List Int) (m k : Nat) : List (Option Nat) := (List.range k).foldl (bestS rw_ out) (List.replicate m none)
theorem bestK_succ (rw_ : Nat → List Int) (out : List Int) (m k : Nat) : bestK rw_ out m (k + 1) = bestS rw_ out (bestK rw_ out m k) k := by
  unfold bestK
  rw [List.range_succ, List.foldl_append]
  rfl
theorem bestS_len (rw_ : Nat → List Int) (out : List Int) (b : List (Option Nat)) (c : Nat) : (bestS rw_ out b c).length = b.length := by simp [bestS]
theorem bestK_len (rw_ : Nat → List Int) (out : List Int) (m : Nat) : ∀ k, (bestK rw_ out m k).length = m
  | 0 => by simp [bestK]
  | k + 1 => by rw [bestK_succ, bestS_len, bestK_len rw_ out m k]
/-- The best of part n alone. -/
def bestN (rw_ : Nat → List Int) (out : List Int) (n k : Nat) : Option Nat := (List.range k).foldl (fun o c => if at_ out (c / 3) = (n : Int) then pickC rw_ o c else o) none
theorem bestN_succ (rw_ : Nat → List Int) (out : List Int) (n k : Nat) : bestN rw_ out n (k + 1) = if at_ out (k / 3) = (n : Int) then pickC rw_ (bestN rw_ out n k) k else bestN rw_ out n k := by
  unfold bestN
  rw [List.range_succ, List.foldl_append]
  rfl
theorem bestK_at {rw_ : Nat → List Int} {out : List Int} {m : Nat} {k : Nat} (h0 : ∀ c, c < k → 0 ≤ at_ out (c / 3)) {n : Nat} (hn : n < m) : (bestK rw_ out m k)[n]? = some (bestN rw_ out n k) := by
  induction k with
  | zero => simp [bestK, bestN, hn]
  | succ k ih =>
    have ih := ih (fun c hc => h0 c (by omega))
    rw [bestK_succ, bestN_succ]
    have hk := h0 k (by omega)
    unfold bestS
    rw [List.getElem?_set]
    by_cases e : at_ out (k / 3) = (n : Int)
    · have e2 : (at_ out (k / 3)).toNat = n := by omega
      rw [e2, if_pos rfl, if_pos e, bestK_len]
      simp [hn, List.getD, ih]
    · have e2 : (at_ out (k / 3)).toNat ≠ n := by omega
      rw [if_neg e2, if_neg e, ih]
theorem bestN_isSome {rw_ : Nat → List Int} {out : List Int} {n k c : Nat} (hc : c < k) (h : at_ out (c / 3) = (n : Int)) : (bestN rw_ out n k).isSome = true := by
  induction k with
  | zero => omega
  | succ k ih =>
    rw [bestN_succ]
    by_cases e : at_ out (k / 3) = (n : Int)
    · rw [if_pos e]
      unfold pickC
      split
      · rfl
      · split <;> rfl
    · rw [if_neg e]
      have : c ≠ k := by rintro rfl; exact e h
      exact ih (by omega)
theorem bestN_some {rw_ : Nat → List Int} {out : List Int} {n k d : Nat} (h : bestN rw_ out n k = some d) : d < k ∧ at_ out (d / 3) = (n : Int) := by
  induction k with
  | zero => simp [bestN] at h
  | succ k ih =>
    rw [bestN_succ] at h
    by_cases e : at_ out (k / 3) = (n : Int)
    · rw [if_pos e] at h
      unfold pickC at h
      split at h
      · injection h with h
        subst h
        exact ⟨by omega, e⟩
      · split at h
        · injection h with h
          subst h
          exact ⟨by omega, e⟩
        · rename_i d' hd' _
          injection h with h
          subst h
          have := ih hd'
          exact ⟨by omega, this.2⟩
    · rw [if_neg e] at h
      have := ih h
      exact ⟨by omega, this.2⟩
theorem Shl.hit {T : List Tr} {out : List Int} (h : Shl T out) {n : Nat} : ∀ {j : Nat}, j < T.length → (n : Int) ≤ at_ out j → ∃ i, i ≤ j ∧ at_ out i = (n : Int) := by
  intro j
  induction j using Nat.strongRecOn with
  | ind j ih =>
    intro hj hn
    by_cases e : at_ out j = (n : Int)
    · exact ⟨j, Nat.le_refl _, e⟩
    · rcases h.new j hj with ⟨i, hi, e2, _⟩ | ⟨_, h0 | ⟨i, hi, e2⟩⟩
      · obtain ⟨q, hq, e3⟩ := ih i hi (by omega) (by omega)
        exact ⟨q, by omega, e3⟩
      · omega
      · obtain ⟨q, hq, e3⟩ := ih i hi (by omega) (by omega)
        exact ⟨q, by omega, e3⟩
end Go.Proofs.Ytpnkhgjjlionnaa
namespace Go.Proofs.Ytpnkhgjjlionnaa
open Go.RowKit

theorem vert_has {T : List Tr} {i : Nat} {t : Tr} (ht : T[i]? = some t) {x : Int} : hasV t x ↔ ∃ c, c < 3 * T.length ∧ c / 3 = i ∧ vertN T c = x := by
  have hi := (List.getElem?_eq_some_iff.1 ht).1
  have e0 : triAt T (3 * i) = t := by unfold triAt; rw [show 3 * i / 3 = i from by omega, ht]; rfl
  have e1 : triAt T (3 * i + 1) = t := by unfold triAt; rw [show (3 * i + 1) / 3 = i from by omega, ht]; rfl
  have e2 : triAt T (3 * i + 2) = t := by unfold triAt; rw [show (3 * i + 2) / 3 = i from by omega, ht]; rfl
  have v0 : vertN T (3 * i) = t.1 := by unfold vertN; rw [if_pos (by omega), e0]
  have v1 : vertN T (3 * i + 1) = t.2.1 := by unfold vertN; rw [if_neg (by omega), if_pos (by omega), e1]
  have v2 : vertN T (3 * i + 2) = t.2.2 := by unfold vertN; rw [if_neg (by omega), if_neg (by omega), e2]
  constructor
  · rintro (h | h | h)
    · exact ⟨3 * i, by omega, by omega, by rw [v0, h]⟩
    · exact ⟨3 * i + 1, by omega, by omega, by rw [v1, h]⟩
    · exact ⟨3 * i + 2, by omega, by omega, by rw [v2, h]⟩
  · rintro ⟨c, hc, h3, rfl⟩
    have : c = 3 * i ∨ c = 3 * i + 1 ∨ c = 3 * i + 2 := by omega
    rcases this with rfl | rfl | rfl
    · exact .inl v0
    · exact .inr (.inl v1)
    · exact .inr (.inr v2)
theorem atV_corner {T : List Tr} {v : Int} {i : Nat} : i ∈ atV T v ↔ ∃ c, c < 3 * T.length ∧ c / 3 = i ∧ vertN T c = v := by
  unfold atV
  rw [sieve_mem]
  unfold preT
  rw [List.mem_flatMap]
  constructor
  · rintro ⟨k, hk, hm⟩
    rw [List.mem_range] at hk
    have ht : T[k]? = some T[k] := List.getElem?_eq_getElem hk
    rw [ht] at hm
    simp only [three, Option.getD_some, List.mem_cons, Prod.mk.injEq, List.not_mem_nil, or_false] at hm
    have hik : i = k := by rcases hm with h | h | h <;> exact h.2
    subst hik
    exact (vert_has ht).1 (by rcases hm with h | h | h; exact .inl h.1; exact .inr (.inl h.1); exact .inr (.inr h.1))
  · rintro ⟨c, hc, rfl, hv⟩
    have hk : c / 3 < T.length := by omega
    have ht : T[c / 3]? = some T[c / 3] := List.getElem?_eq_getElem hk
    refine ⟨c / 3, List.mem_range.2 hk, ?_⟩
    rw [ht]
    have := (vert_has ht (x := v)).2 ⟨c, hc, rfl, hv⟩
    simp only [three, Option.getD_some, List.mem_cons, Prod.mk.injEq, List.not_mem_nil, or_false]
    rcases this with h | h | h
    · exact .inl ⟨h, trivial⟩
    · exact .inr (.inl ⟨h, trivial⟩)
    · exact .inr (.inr ⟨h, trivial⟩)
theorem edge_pv (T : List Tr) (c : Nat) : edgeN T (Jor.pv c) = (vertN T c, vertN T (Jor.nx c)) := by unfold edgeN; rw [Jor.nx_pv, Jor.pv_pv]
theorem edge_nx (T : List Tr) (c : Nat) : edgeN T (Jor.nx c) = (vertN T (Jor.pv c), vertN T c) := by unfold edgeN; rw [Jor.nx_nx, Jor.pv_nx]
end Go.Proofs.Ytpnkhgjjlionnaa
namespace Go.Proofs.Ytpnkhgjjlionnaa
open Go.RowKit Go.Maps

theorem opp_isI {T : List Tr} (hu : (T.flatMap edges3).Nodup) {c d : Nat} (hc : c < 3 * T.length) (hd : d < 3 * T.length) (h : edgeN T d = ((edgeN T c).2, (edgeN T c).1)) : oppI T (c : Int) = (d : Int) := by
  unfold oppI
  rw [edgeI_nat hc, ← h, facI_of hu hd]
/-- Round a vertex one comes to all its triangles. -/
theorem aroundB {N : Int} {T : List Tr} (hS : Surf N T) {v : Int} (hv : inR N v) (S : Nat → Prop) (h0 : ∃ c, c < 3 * T.length ∧ vertN T c = v ∧ S (c / 3))
    (hs : ∀ c, c < 3 * T.length → vertN T c = v → S (c / 3) → (∀ o : Nat, oppI T ((Jor.nx c : Nat) : Int) = (o : Int) → S (o / 3)) ∧ (∀ o : Nat, oppI T ((Jor.pv c : Nat) : Int) = (o : Int) → S (o / 3))) : ∀ c, c < 3 * T.length → vertN T c = v → S (c / 3) := by
  have hl := hS.pinch v hv
  have cl : ∀ i ∈ atV T v, ∀ k ∈ atV T v, S i → adjV T v i k → S k := by
    intro i hi k hk hSi hadj
    obtain ⟨c, hc, rfl, hcv⟩ := atV_corner.1 hi
    obtain ⟨d, hd, rfl, hdv⟩ := atV_corner.1 hk
    obtain ⟨a, b, x, ha, hb, hx, hax, hbx⟩ := hadj
    obtain ⟨c', hc', e1, hcx⟩ := (vert_has ha).1 hax
    obtain ⟨d', hd', e2, hdx⟩ := (vert_has hb).1 hbx
    have hc3 : c' = Jor.nx c ∨ c' = Jor.pv c := by
      have : c' = c ∨ c' = Jor.nx c ∨ c' = Jor.pv c := by unfold Jor.nx Jor.pv; omega
      rcases this with rfl | h
      · exact absurd (hcx.symm.trans hcv) hx
      · exact h
    have hd3 : d' = Jor.nx d ∨ d' = Jor.pv d := by
      have : d' = d ∨ d' = Jor.nx d ∨ d' = Jor.pv d := by unfold Jor.nx Jor.pv; omega
      rcases this with rfl | h
      · exact absurd (hdx.symm.trans hdv) hx
      · exact h
    have hst := hs c hc hcv hSi
    have hpc : Jor.pv c < 3 * T.length := Jor.pv_lt hc
    have hnc : Jor.nx c < 3 * T.length := Jor.nx_lt hc
    have hpd : Jor.pv d < 3 * T.length := Jor.pv_lt hd
    have hnd : Jor.nx d < 3 * T.length := Jor.nx_lt hd
    rcases hc3 with rfl | rfl
    · rcases hd3 with rfl | rfl
      · have e := edge_inj hS.twice hpc hpd (by rw [edge_pv, edge_pv, hcv, hdv, hcx, hdx])
        have : c / 3 = d / 3 := by rw [← Jor.pv_div c, e, Jor.pv_div]
        rw [← this]
        exact hSi
      · have e := opp_isI hS.twice hpc hnd (by rw [edge_pv, edge_nx, hcv, hdv, hcx, hdx])
        rw [← Jor.nx_div d]
        exact hst.2 _ e
    · rcases hd3 with rfl | rfl
      · have e := opp_isI hS.twice hnc hpd (by rw [edge_pv, edge_nx, hcv, hdv, hcx, hdx])
        rw [← Jor.pv_div d]
        exact hst.1 _ e
      · have e := edge_inj hS.twice hnc hnd (by rw [edge_nx, edge_nx, hcv, hdv, hcx, hdx])
        have : c / 3 = d / 3 := by rw [← Jor.nx_div c, e, Jor.nx_div]
        rw [← this]
        exact hSi
  have sym : ∀ i k, adjV T v i k → adjV T v k i := fun i k ⟨a, b, x, h1, h2, h3, h4, h5⟩ => ⟨b, a, x, h2, h1, h3, h5, h4⟩
  obtain ⟨c0, hc0, hv0, hS0⟩ := h0
  have hm0 : c0 / 3 ∈ atV T v := atV_corner.2 ⟨c0, hc0, rfl, hv0⟩
  intro c hc hcv
  have hm : c / 3 ∈ atV T v := atV_corner.2 ⟨c, hc, rfl, hcv⟩
  cases hh : (atV T v).head? with
  | none =>
    rw [List.head?_eq_none_iff] at hh
    rw [hh] at hm
    cases hm
  | some i0 =>
    by_cases hi : S i0
    · exact hl S (fun i e => by rw [hh] at e; cases e; exact hi) (fun i hi k hk h1 h2 => cl i hi k hk h1 h2) _ hm
    · exfalso
      exact hl (fun k => ¬ S k) (fun i e => by rw [hh] at e; cases e; exact hi) (fun i hi k hk h1 h2 h3 => h1 (cl k hk i hi h3 (sym _ _ h2))) _ hm0 hS0


end Go.Proofs.Ytpnkhgjjlionnaa
namespace Go.Proofs.Ytpnkhgjjlionnaa
open Go.RowKit

theorem ordM_self (N : Int) (T : List Tr) : ordM N T N T = 0 := cmpL_self _
theorem TrisRd.three {w : World} {a : Option Addr} {m c : Nat} {T : List Tr} (h : TrisRd w (.slice a m c) T) {t : Nat} {x y z : Int} (ht : T[t]? = some (x, y, z)) :
    ∃ b o, a = some ⟨b, o, none⟩ ∧ b < w.heap.size ∧ w.cell? ⟨b, o + t * 3, none⟩ = some (.int .i64 x) ∧ w.cell? ⟨b, o + t * 3 + 1, none⟩ = some (.int .i64 y) ∧ w.cell? ⟨b, o + t * 3 + 2, none⟩ = some (.int .i64 z) := by
  obtain ⟨a', c', e, -, -, hr⟩ := h
  cases e
  exact hr t x y z ht
theorem triEq (a b c a' b' c' : Int) (w : World) :
    (Op.equalIn 10000 61 (.agg #[.int .i64 a, .int .i64 b, .int .i64 c]) (.agg #[.int .i64 a', .int .i64 b', .int .i64 c'])).run Try.prog w = .ok (decide ((a, b, c) = (a', b', c'))) w := by
  have e : decide ((a, b, c) = (a', b', c')) = (a == a' && (b == b' && c == c')) := by
    simp only [Prod.mk.injEq]
    by_cases h1 : a = a' <;> by_cases h2 : b = b' <;> by_cases h3 : c = c' <;> simp [h1, h2, h3]
  rw [e]
  show (Op.equalIn (9998 + 2) _ _ _).run _ _ = _
  rw [Op.equalIn]
  simp [run_underlying Try.underlying61, List.range'_succ, part, go_sem]
  repeat' split
  all_goals simp_all
set_option maxRecDepth 100000 in
set_option maxHeartbeats 2000000 in
theorem same_any (N1 N2 : Int) (v1 v2 : Value) (T1 T2 : List Tr) (w : World) (h1 : TrisRd w v1 T1) (h2 : TrisRd w v2 T2) (l1 : T1.length ≤ 100000) (_l2 : T2.length ≤ 100000) :
    Calls Try.prog 25 #[.agg #[.int .i64 N1, v1], .agg #[.int .i64 N2, v2]] w fun e w' => e = .returned (.bool (decide (N1 = N2 ∧ T1 = T2))) ∧ Below w.heap.size w w' := by
  obtain ⟨a1, c1, rfl, g1, -, -⟩ := id h1
  obtain ⟨a2, c2, rfl, g2, -, -⟩ := id h2
  have b1 := (Blk.new w 24 #[.int .i64 N1, .slice a1 T1.length c1]).alloc (.cells #[.int .i64 N2, .slice a2 T2.length c2] 24)
  have b2 : Blk ((w.alloc (.cells #[.int .i64 N1, .slice a1 T1.length c1] 24)).alloc (.cells #[.int .i64 N2, .slice a2 T2.length c2] 24)) (w.heap.size + 1) 24 #[.int .i64 N2, .slice a2 T2.length c2] := by
    have := Blk.new (w.alloc (.cells #[.int .i64 N1, .slice a1 T1.length c1] 24)) 24 #[.int .i64 N2, .slice a2 T2.length c2]
    rwa [size_alloc'] at this
  have hB : Below w.heap.size w ((w.alloc (.cells #[.int .i64 N1, .slice a1 T1.length c1] 24)).alloc (.cells #[.int .i64 N2, .slice a2 T2.length c2] 24)) := ((Below.refl _ _).alloc (Nat.le_refl _) _).alloc (by simp) _
  obtain ⟨p0, x0, -, x1, -⟩ := b1.two
  obtain ⟨q0, y0, -, y1, -⟩ := b2.two
  have t1 := h1.below hB
  have t2 := h2.below hB
  clear h1 h2
  by_cases hN : N1 = N2
  · subst hN
    have bN : (N1 != N1) = false := by simp
    by_cases hL : T1.length = T2.length
    · have bL : ((T1.length : Int) != (T2.length : Int)) = false := by simp; omega
      have HL := Lib.hid hL
      clear hL
      go_enter Try.func25, Try.ntmps25
      go_wp2
      generalize (w.alloc (.cells #[.int .i64 N1, .slice a1 T1.length c1] 24)).alloc (.cells #[.int .i64 N1, .slice a2 T2.length c2] 24) = W0 at *
      have HX := Lib.hid (fun (W : World) (hW : Below W0.heap.size W0 W) => And.intro ((hW.cell (p := ⟨w.heap.size, 0, none⟩) p0).trans x0) (And.intro ((hW.cell (p := ⟨w.heap.size, 1, none⟩) p0).trans x1) (And.intro ((hW.cell (p := ⟨w.heap.size + 1, 0, none⟩) q0).trans y0) ((hW.cell (p := ⟨w.heap.size + 1, 1, none⟩) q0).trans y1))))
      have HT1 := Lib.hid t1
      have HT2 := Lib.hid t2
      have HB := Lib.hid hB
      clear x0 x1 y0 y1 b1 b2 t1 t2 hB
      go_loopw [5] (fun i5 wx => ∃ t : Nat, i5 = .int .i64 t ∧ t ≤ T1.length ∧ T1.take t = T2.take t ∧ Below W0.heap.size W0 wx) (fun i5 _ => T1.length - (intOf i5).toNat)
      case atStart => exact ⟨0, rfl, Nat.zero_le _, rfl, Below.refl _ _⟩
      case round =>
        rename World => wx
        obtain ⟨t, rfl, htl, he, hbx⟩ := hrel
        obtain ⟨x0, x1, y0, y1⟩ := HX.out _ hbx
        have HE := Lib.hid he
        have HBX := Lib.hid hbx
        by_cases hlt : t < T1.length
        · have hlt3 : (t : Int) < (T1.length : Int) := by omega
          have hlt4 : (t : Int) < (T2.length : Int) := by have := HL.out; omega
          have ht0 : (0 : Int) ≤ (t : Int) := by omega
          obtain ⟨⟨x, y, z⟩, hx⟩ : ∃ q, T1[t]? = some q := ⟨T1[t], List.getElem?_eq_getElem _⟩
          obtain ⟨⟨x', y', z'⟩, hx'⟩ : ∃ q, T2[t]? = some q := ⟨T2[t]'(by omega), List.getElem?_eq_getElem _⟩
          obtain ⟨b, o, rfl, hb, s0, s1, s2⟩ := HT1.out.three hx
          obtain ⟨b', o', rfl, hb', s0', s1', s2'⟩ := HT2.out.three hx'
          have u0 := (hbx.cell (p := ⟨b, _, none⟩) hb).trans s0
          have u1 := (hbx.cell (p := ⟨b, _, none⟩) hb).trans s1
          have u2 := (hbx.cell (p := ⟨b, _, none⟩) hb).trans s2
          have u0' := (hbx.cell (p := ⟨b', _, none⟩) hb').trans s0'
          have u1' := (hbx.cell (p := ⟨b', _, none⟩) hb').trans s1'
          have u2' := (hbx.cell (p := ⟨b', _, none⟩) hb').trans s2'
          by_cases hq : (x, y, z) = (x', y', z')
          · have qe := fun W : World => triEq x y z x' y' z' W
            rw [decide_eq_true hq] at qe
            obtain ⟨rfl, rfl, rfl⟩ : x = x' ∧ y = y' ∧ z = z' := by simpa using hq
            have HE3 := Lib.hid (show T1.take (t + 1) = T2.take (t + 1) from by rw [List.take_add_one, List.take_add_one, he, hx, hx'])
            clear he hbx hx hx' s0 s1 s2 s0' s1' s2' hb hb' hq
            go_wp2
            go_region
            all_goals
              go_wp2
              go_roundw
              case measure => simp [intOf]; omega
              case rel => exact ⟨t + 1, by go_num, by omega, HE3.out, HBX.out.drew⟩
          · have qe := fun W : World => triEq x y z x' y' z' W
            rw [decide_eq_false hq] at qe
            have HZ := Lib.hid (show (decide (N1 = N1 ∧ T1 = T2)) = false from by
              simp only [true_and, decide_eq_false_iff_not]
              intro e
              rw [e, hx'] at hx
              exact hq (Option.some.inj hx).symm)
            clear he hbx hx hx' s0 s1 s2 s0' s1' s2' hb hb' hq
            go_wp2
            go_region
            all_goals
              go_wp2
              go_ret
              exact ⟨by have h := HZ.out; simp only [true_and] at h ⊢; rw [h]; rfl, HB.out.trans ((HBX.out.drew).mono HB.out.size)⟩
        · obtain rfl : t = T1.length := by omega
          have HZ := Lib.hid (show decide (N1 = N1 ∧ T1 = T2) = true from by
            have h := HE.out
            have := HL.out
            rw [List.take_of_length_le (by omega), List.take_of_length_le (by omega)] at h
            simp [h])
          clear he hbx
          go_wp2
          go_ret
          exact ⟨by have h := HZ.out; simp only [true_and] at h ⊢; rw [h]; rfl, HB.out.trans (HBX.out.mono HB.out.size)⟩
    · have hz : decide (N1 = N1 ∧ T1 = T2) = false := by
        simp only [true_and, decide_eq_false_iff_not]
        intro e
        exact hL (by rw [e])
      rw [hz]
      have bL : ((T1.length : Int) != (T2.length : Int)) = true := by simp; omega
      have HB := Lib.hid hB
      clear hB t1 t2 b1 b2 hz hL
      go_enter Try.func25, Try.ntmps25
      go_wp2
      go_ret
      exact ⟨rfl, HB.out⟩
  · have hz : decide (N1 = N2 ∧ T1 = T2) = false := by simp [hN]
    have bN : (N1 != N2) = true := by simpa using hN
    have HB := Lib.hid hB
    rw [hz]
    clear hB t1 t2 b1 b2 hz hN
    go_enter Try.func25, Try.ntmps25
    go_wp2
    go_ret
    exact ⟨rfl, HB.out⟩
end Go.Proofs.Ytpnkhgjjlionnaa
namespace Go.Proofs.Ytpnkhgjjlionnaa
open Go.RowKit

set_option maxRecDepth 100000 in
set_option maxHeartbeats 2000000 in
theorem equalT_any (v1 v2 : Value) (T1 T2 : List Tr) (w : World) (h1 : TrisRd w v1 T1) (h2 : TrisRd w v2 T2) (l1 : T1.length ≤ 100000) (_l2 : T2.length ≤ 100000) :
    Calls Try.prog 68 #[v1, v2] w fun e w' => e = .returned (.bool (decide (T1 = T2))) ∧ Below w.heap.size w w' := by
  obtain ⟨a1, c1, rfl, g1, -, -⟩ := id h1
  obtain ⟨a2, c2, rfl, g2, -, -⟩ := id h2
  by_cases hL : T1.length = T2.length
  · have bL : ((T1.length : Int) != (T2.length : Int)) = false := by simp; omega
    have HL := Lib.hid hL
    have HT1 := Lib.hid h1
    have HT2 := Lib.hid h2
    clear hL h1 h2
    go_enter Try.func68, Try.ntmps68
    go_wp2
    go_loopw [13] (fun i5 wx => ∃ t : Nat, i5 = .int .i64 t ∧ t ≤ T1.length ∧ T1.take t = T2.take t ∧ Below w.heap.size w wx) (fun i5 _ => T1.length - (intOf i5).toNat)
    case atStart => exact ⟨0, rfl, Nat.zero_le _, rfl, Below.refl _ _⟩
    case round =>
      rename World => wx
      obtain ⟨t, rfl, htl, he, hbx⟩ := hrel
      have HE := Lib.hid he
      have HBX := Lib.hid hbx
      by_cases hlt : t < T1.length
      · have hlt3 : (t : Int) < (T1.length : Int) := by omega
        have hlt4 : (t : Int) < (T2.length : Int) := by have := HL.out; omega
        have ht0 : (0 : Int) ≤ (t : Int) := by omega
        obtain ⟨⟨x, y, z⟩, hx⟩ : ∃ q, T1[t]? = some q := ⟨T1[t], List.getElem?_eq_getElem _⟩
        obtain ⟨⟨x', y', z'⟩, hx'⟩ : ∃ q, T2[t]? = some q := ⟨T2[t]'(by omega), List.getElem?_eq_getElem _⟩
        obtain ⟨b, o, rfl, hb, s0, s1, s2⟩ := HT1.out.three hx
        obtain ⟨b', o', rfl, hb', s0', s1', s2'⟩ := HT2.out.three hx'
        have u0 := (hbx.cell (p := ⟨b, _, none⟩) hb).trans s0
        have u1 := (hbx.cell (p := ⟨b, _, none⟩) hb).trans s1
        have u2 := (hbx.cell (p := ⟨b, _, none⟩) hb).trans s2
        have u0' := (hbx.cell (p := ⟨b', _, none⟩) hb').trans s0'
        have u1' := (hbx.cell (p := ⟨b', _, none⟩) hb').trans s1'
        have u2' := (hbx.cell (p := ⟨b', _, none⟩) hb').trans s2'
        by_cases hq : (x, y, z) = (x', y', z')
        · have qe := fun W : World => triEq x y z x' y' z' W
          rw [decide_eq_true hq] at qe
          obtain ⟨rfl, rfl, rfl⟩ : x = x' ∧ y = y' ∧ z = z' := by simpa using hq
          have HE3 := Lib.hid (show T1.take (t + 1) = T2.take (t + 1) from by rw [List.take_add_one, List.take_add_one, he, hx, hx'])
          clear he hbx hx hx' s0 s1 s2 s0' s1' s2' hb hb' hq
          go_wp2
          go_region
          all_goals
            go_wp2
            go_roundw
            case measure => simp [intOf]; omega
            case rel => exact ⟨t + 1, by go_num, by omega, HE3.out, HBX.out.drew⟩
        · have qe := fun W : World => triEq x y z x' y' z' W
          rw [decide_eq_false hq] at qe
          have HZ := Lib.hid (show decide (T1 = T2) = false from by
            simp only [decide_eq_false_iff_not]
            intro e
            rw [e, hx'] at hx
            exact hq (Option.some.inj hx).symm)
          clear he hbx hx hx' s0 s1 s2 s0' s1' s2' hb hb' hq
          go_wp2
          go_region
          all_goals
            go_wp2
            go_ret
            exact ⟨by rw [HZ.out]; rfl, HBX.out.drew⟩
      · obtain rfl : t = T1.length := by omega
        have HZ := Lib.hid (show decide (T1 = T2) = true from by
          have h := HE.out
          have := HL.out
          rw [List.take_of_length_le (by omega), List.take_of_length_le (by omega)] at h
          simp [h])
        clear he hbx
        go_wp2
        go_ret
        exact ⟨by rw [HZ.out]; rfl, HBX.out⟩
  · have hz : decide (T1 = T2) = false := by
      simp only [decide_eq_false_iff_not]
      intro e
      exact hL (by rw [e])
    rw [hz]
    have bL : ((T1.length : Int) != (T2.length : Int)) = true := by simp; omega
    clear hz hL h1 h2
    go_enter Try.func68, Try.ntmps68
    go_wp2
    go_ret
    exact ⟨rfl, Below.refl _ _⟩
set_option maxRecDepth 100000 in
set_option maxHeartbeats 2000000 in
theorem soupSame_any (N1 N2 : Int) (v1 v2 : Value) (T1 T2 : List Tr) (w : World) (h1 : TrisRd w v1 T1) (h2 : TrisRd w v2 T2) (l1 : T1.length ≤ 100000) (l2 : T2.length ≤ 100000) :
    Calls Try.prog 30 #[.agg #[.int .i64 N1, v1], .agg #[.int .i64 N2, v2]] w fun e w' => e = .returned (.bool (decide (N1 = N2 ∧ T1 = T2))) ∧ Below w.heap.size w w' := by
  obtain ⟨a1, c1, rfl, g1, -, -⟩ := id h1
  obtain ⟨a2, c2, rfl, g2, -, -⟩ := id h2
  have b1 := (Blk.new w 24 #[.int .i64 N1, .slice a1 T1.length c1]).alloc (.cells #[.int .i64 N2, .slice a2 T2.length c2] 24)
  have b2 : Blk ((w.alloc (.cells #[.int .i64 N1, .slice a1 T1.length c1] 24)).alloc (.cells #[.int .i64 N2, .slice a2 T2.length c2] 24)) (w.heap.size + 1) 24 #[.int .i64 N2, .slice a2 T2.length c2] := by
    have := Blk.new (w.alloc (.cells #[.int .i64 N1, .slice a1 T1.length c1] 24)) 24 #[.int .i64 N2, .slice a2 T2.length c2]
    rwa [size_alloc'] at this
  have hB : Below w.heap.size w ((w.alloc (.cells #[.int .i64 N1, .slice a1 T1.length c1] 24)).alloc (.cells #[.int .i64 N2, .slice a2 T2.length c2] 24)) := ((Below.refl _ _).alloc (Nat.le_refl _) _).alloc (by simp) _
  obtain ⟨p0, x0, -, x1, -⟩ := b1.two
  obtain ⟨q0, y0, -, y1, -⟩ := b2.two
  have HQ := Lib.hid (equalT_any _ _ T1 T2 _ (h1.below hB) (h2.below hB) l1 l2)
  have HB := Lib.hid hB
  clear h1 h2
  by_cases hN : N1 = N2
  · subst hN
    have bN : (N1 == N1) = true := by simp
    have HZ := Lib.hid (show decide (N1 = N1 ∧ T1 = T2) = decide (T1 = T2) from by simp)
    rw [HZ.out]
    obtain ⟨q, hq⟩ : ∃ q, decide (T1 = T2) = q := ⟨_, rfl⟩
    rw [hq] at HQ ⊢
    clear hB b1 b2 hq HZ
    go_enter Try.func30, Try.ntmps30
    go_wp2_with (go_at_call 68; refine HQ.out.mono ?_; rintro e w' ⟨rfl, hb⟩)
    go_ret
    exact ⟨rfl, HB.out.trans (hb.mono HB.out.size)⟩
  · have hz : decide (N1 = N2 ∧ T1 = T2) = false := by simp [hN]
    have bN : (N1 == N2) = false := by simpa using hN
    rw [hz]
    clear hB b1 b2 hz hN
    go_enter Try.func30, Try.ntmps30
    go_wp2
    go_ret
    exact ⟨rfl, HB.out⟩
end Go.Proofs.Ytpnkhgjjlionnaa
namespace Go.Proofs.Ytpnkhgjjlionnaa
open Go.RowKit

/-- A triangle whose corners are vertices of n, no two the same. -/
def fitsM (t : Tr) (n : Int) : Prop := (0 ≤ t.1 ∧ t.1 < n) ∧ (0 ≤ t.2.1 ∧ t.2.1 < n) ∧ (0 ≤ t.2.2 ∧ t.2.2 < n) ∧ t.1 ≠ t.2.1 ∧ t.2.1 ≠ t.2.2 ∧ t.2.2 ≠ t.1
instance (t : Tr) (n : Int) : Decidable (fitsM t n) := by unfold fitsM; infer_instance
theorem fitsM_f {x y z n : Int} (h : ¬ (0 ≤ x ∧ x < n) ∨ ¬ (0 ≤ y ∧ y < n) ∨ ¬ (0 ≤ z ∧ z < n)) : decide (fitsM (x, y, z) n) = false := by
  refine decide_eq_false (fun hm => ?_)
  obtain ⟨a, b, c, -⟩ := hm
  rcases h with h | h | h
  · exact h a
  · exact h b
  · exact h c
theorem fitsM_t {x y z n : Int} (hx : 0 ≤ x ∧ x < n) (hy : 0 ≤ y ∧ y < n) (hz : 0 ≤ z ∧ z < n) : decide (fitsM (x, y, z) n) = ((x != y) && ((y != z) && (z != x))) := by
  have e : fitsM (x, y, z) n ↔ (x ≠ y ∧ y ≠ z ∧ z ≠ x) := ⟨fun h => h.2.2.2, fun h => ⟨hx, hy, hz, h⟩⟩
  have e2 : decide (fitsM (x, y, z) n) = decide (x ≠ y ∧ y ≠ z ∧ z ≠ x) := decide_eq_decide.2 e
  rw [e2]
  simp [bne]
  rfl
set_option maxRecDepth 100000 in
set_option maxHeartbeats 2000000 in
theorem fits_any (x y z n : Int) (w : World) : Calls Try.prog 67 #[.agg #[.int .i64 x, .int .i64 y, .int .i64 z], .int .i64 n] w fun e w' => e = .returned (.bool (decide (fitsM (x, y, z) n))) ∧ Below w.heap.size w w' := by
  have q0 := @index_t0
  have q1 := @index_t1
  have q2 := @index_t2
  have b1 := Blk.new w 61 #[.int .i64 x, .int .i64 y, .int .i64 z]
  have hB : Below w.heap.size w (w.alloc (.cells #[.int .i64 x, .int .i64 y, .int .i64 z] 61)) := (Below.refl _ _).alloc (Nat.le_refl _) _
  obtain ⟨p0, x0, -, x1, -, x2, -⟩ := b1.three
  have HB := Lib.hid hB
  obtain ⟨r, hr⟩ : ∃ r, decide (fitsM (x, y, z) n) = r := ⟨_, rfl⟩
  rw [hr]
  have HR := Lib.hid hr
  clear hB b1 hr
  go_enter Try.func67, Try.ntmps67
  go_wp2
  generalize w.alloc (.cells #[.int .i64 x, .int .i64 y, .int .i64 z] 61) = W0 at *
  go_loopw [8] (fun i8 wx => ∃ k : Nat, i8 = .int .i64 k ∧ k ≤ 3 ∧ (0 < k → 0 ≤ x ∧ x < n) ∧ (1 < k → 0 ≤ y ∧ y < n) ∧ (2 < k → 0 ≤ z ∧ z < n) ∧ wx = W0) (fun i8 _ => 3 - (intOf i8).toNat)
  case atStart => exact ⟨0, rfl, by omega, by omega, by omega, by omega, rfl⟩
  case round =>
    obtain ⟨k, rfl, hk, f0, f1, f2, rfl⟩ := hrel
    have : k = 0 ∨ k = 1 ∨ k = 2 ∨ k = 3 := by omega
    rcases this with rfl | rfl | rfl | rfl
    · by_cases h0 : x < 0
      · have d0 : decide (x < 0) = true := by simpa using h0
        have hf : r = false := by rw [← HR.out]; exact fitsM_f (by omega)
        subst hf
        clear f0 f1 f2 hk h0
        go_wp2
        go_ret
        exact ⟨rfl, HB.out⟩
      · have d0 : decide (x < 0) = false := by simpa using h0
        by_cases h1 : n ≤ x
        · have d1 : decide (n ≤ x) = true := by simpa using h1
          have hf : r = false := by rw [← HR.out]; exact fitsM_f (by omega)
          subst hf
          clear f0 f1 f2 hk h0 h1
          go_wp2
          go_ret
          exact ⟨rfl, HB.out⟩
        · have d1 : decide (n ≤ x) = false := by simpa using h1
          have H := Lib.hid (show 0 ≤ x ∧ x < n by omega)
          clear f0 f1 f2 hk h0 h1
          go_wp2
          go_roundw
          case measure => simp [intOf]
          case rel => exact ⟨1, by go_num, by omega, fun _ => H.out, fun h => absurd h (by omega), fun h => absurd h (by omega), by first | rfl | trivial⟩
    · have H0 := Lib.hid (f0 (by omega))
      by_cases h0 : y < 0
      · have d0 : decide (y < 0) = true := by simpa using h0
        have hf : r = false := by rw [← HR.out]; exact fitsM_f (by omega)
        subst hf
        clear f0 f1 f2 hk h0
        go_wp2
        go_ret
        exact ⟨rfl, HB.out⟩
      · have d0 : decide (y < 0) = false := by simpa using h0
        by_cases h1 : n ≤ y
        · have d1 : decide (n ≤ y) = true := by simpa using h1
          have hf : r = false := by rw [← HR.out]; exact fitsM_f (by omega)
          subst hf
          clear f0 f1 f2 hk h0 h1
          go_wp2
          go_ret
          exact ⟨rfl, HB.out⟩
        · have d1 : decide (n ≤ y) = false := by simpa using h1
          have H := Lib.hid (show 0 ≤ y ∧ y < n by omega)
          clear f0 f1 f2 hk h0 h1
          go_wp2
          go_roundw
          case measure => simp [intOf]
          case rel => exact ⟨2, by go_num, by omega, fun _ => H0.out, fun _ => H.out, fun h => absurd h (by omega), by first | rfl | trivial⟩
    · have H0 := Lib.hid (f0 (by omega))
      have H1 := Lib.hid (f1 (by omega))
      by_cases h0 : z < 0
      · have d0 : decide (z < 0) = true := by simpa using h0
        have hf : r = false := by rw [← HR.out]; exact fitsM_f (by omega)
        subst hf
        clear f0 f1 f2 hk h0
        go_wp2
        go_ret
        exact ⟨rfl, HB.out⟩
      · have d0 : decide (z < 0) = false := by simpa using h0
        by_cases h1 : n ≤ z
        · have d1 : decide (n ≤ z) = true := by simpa using h1
          have hf : r = false := by rw [← HR.out]; exact fitsM_f (by omega)
          subst hf
          clear f0 f1 f2 hk h0 h1
          go_wp2
          go_ret
          exact ⟨rfl, HB.out⟩
        · have d1 : decide (n ≤ z) = false := by simpa using h1
          have H := Lib.hid (show 0 ≤ z ∧ z < n by omega)
          clear f0 f1 f2 hk h0 h1
          go_wp2
          go_roundw
          case measure => simp [intOf]
          case rel => exact ⟨3, by go_num, by omega, fun _ => H0.out, fun _ => H1.out, fun _ => H.out, by first | rfl | trivial⟩
    · have g0 := f0 (by omega)
      have g1 := f1 (by omega)
      have g2 := f2 (by omega)
      have hf : r = ((x != y) && ((y != z) && (z != x))) := by rw [← HR.out]; exact fitsM_t g0 g1 g2
      clear f0 f1 f2 hk g0 g1 g2
      by_cases e1 : x = y
      · have d1 : (x != y) = false := by simpa using e1
        rw [d1] at hf
        simp only [Bool.false_and] at hf
        subst hf
        clear e1
        go_wp2
        go_ret
        exact ⟨rfl, HB.out⟩
      · have d1 : (x != y) = true := by simpa using e1
        by_cases e2 : y = z
        · have d2 : (y != z) = false := by simpa using e2
          rw [d1, d2] at hf
          simp only [Bool.false_and, Bool.true_and] at hf
          subst hf
          clear e1 e2
          go_wp2
          go_ret
          exact ⟨rfl, HB.out⟩
        · have d2 : (y != z) = true := by simpa using e2
          rw [d1, d2] at hf
          simp only [Bool.true_and] at hf
          clear e1 e2
          subst hf
          go_wp2
          go_ret
          exact ⟨rfl, HB.out⟩
end Go.Proofs.Ytpnkhgjjlionnaa
namespace Go.Proofs.Ytpnkhgjjlionnaa
open Go.RowKit

def triC (t : Tr) : List Value := [.int .i64 t.1, .int .i64 t.2.1, .int .i64 t.2.2]
set_option maxRecDepth 100000 in
theorem fitsC_any (s : Nat) (N : Int) (t : Tr) (w : World) (h0 : w.cell? ⟨s, 0, none⟩ = some (.int .i64 N)) (hs : s < w.heap.size) :
    Calls Try.prog 66 #[.agg (triC t).toArray, .pointer (some ⟨s, 0, none⟩)] w fun e w' => e = .returned (.bool (!decide (fitsM t N))) ∧ Below w.heap.size w w' := by
  obtain ⟨x, y, z⟩ := t
  show Calls _ _ #[.agg #[.int .i64 x, .int .i64 y, .int .i64 z], .pointer (some ⟨s, 0, none⟩)] w _
  have b1 := Blk.new w 61 #[.int .i64 x, .int .i64 y, .int .i64 z]
  have hB : Below w.heap.size w (w.alloc (.cells #[.int .i64 x, .int .i64 y, .int .i64 z] 61)) := (Below.refl _ _).alloc (Nat.le_refl _) _
  obtain ⟨p0, x0, -, x1, -, x2, -⟩ := b1.three
  have y0 := (hB.cell (p := ⟨s, 0, none⟩) hs).trans h0
  have HF := Lib.hid (fits_any x y z N (w.alloc (.cells #[.int .i64 x, .int .i64 y, .int .i64 z] 61)))
  have HB := Lib.hid hB
  obtain ⟨r, hr⟩ : ∃ r, decide (fitsM (x, y, z) N) = r := ⟨_, rfl⟩
  rw [hr] at HF ⊢
  clear hB b1 hr h0
  go_enter Try.func66, Try.ntmps66
  go_wp2_with (go_at_call 67; refine HF.out.mono ?_; rintro e w' ⟨rfl, hb⟩)
  go_ret
  exact ⟨rfl, HB.out.trans (hb.mono HB.out.size)⟩
set_option maxRecDepth 100000 in
theorem index_none (a : Option Addr) (c : Nat) (f : Value) (w : World) : Calls Try.prog 93 #[.slice a 0 c, f] w fun e w' => e = .returned (.int .i64 (-1)) ∧ w' = w := by
  go_enter Try.func93, Try.ntmps93
  go_wp2
  go_loopw [8] (fun i wx => i = .int .i64 0 ∧ wx = w) (fun _ _ => 0)
  case atStart => exact ⟨rfl, rfl⟩
  case round =>
    obtain ⟨rfl, rfl⟩ := hrel
    go_wp2
    go_ret
    exact ⟨rfl, rfl⟩
set_option maxRecDepth 100000 in
theorem cont_none (a : Option Addr) (c : Nat) (f : Value) (w : World) : Calls Try.prog 65 #[.slice a 0 c, f] w fun e w' => e = .returned (.bool false) ∧ w' = w := by
  have H := Lib.hid (index_none a c f w)
  go_enter Try.func65, Try.ntmps65
  go_wp2_with (go_at_call 93; refine H.out.mono ?_; rintro e w' ⟨rfl, rfl⟩)
  go_ret
  exact ⟨rfl, rfl⟩
theorem isAggTri (w : World) : (isAgg 61).run Try.prog w = .ok true w := by kernel_rfl
theorem sizeTri (w : World) : (Go.sizeOf 61).run Try.prog w = .ok 3 w := by kernel_rfl
/-- slices.ContainsFunc over a list of triangles, empty or not. -/
theorem cont_any (v : Value) (T : List Tr) (p : Tr → Bool) (lb : Array Value) (w : World) (h : TrisRd w v T)
    (hp : PredBelow Try.prog 66 lb (fun x => .agg (triC x).toArray) p w) :
    Calls Try.prog 65 #[v, .func (.func 66) #[] lb] w fun e w' => e = .returned (.bool (T.any p)) ∧ Below w.heap.size w w' := by
  obtain ⟨a, c, rfl, hc1, hc2, hr⟩ := h
  by_cases hT : T = []
  · subst hT
    refine (cont_none a c _ w).mono ?_
    rintro e w' ⟨rfl, rfl⟩
    exact ⟨rfl, Below.refl _ _⟩
  · obtain ⟨⟨x, y, z⟩, hx⟩ : ∃ q, T[0]? = some q := by
      cases T with
      | nil => exact absurd rfl hT
      | cons q r => exact ⟨q, rfl⟩
    obtain ⟨b, o, rfl, hb, -⟩ := hr 0 x y z hx
    have hcells : ∀ j, j < T.length → ∀ i v, (triC T[j]!)[i]? = some v → w.cell? ⟨b, o + j * 3 + i, none⟩ = some v := by
      intro j hj i v hv
      obtain ⟨b', o', e, -, s0, s1, s2⟩ := hr j T[j].1 T[j].2.1 T[j].2.2 (by rw [List.getElem?_eq_getElem hj])
      cases e
      rw [getElem!_pos T j hj] at hv
      have hi : i = 0 ∨ i = 1 ∨ i = 2 ∨ 3 ≤ i := by omega
      rcases hi with rfl | rfl | rfl | hi
      · cases hv; exact s0
      · cases hv; exact s1
      · cases hv; exact s2
      · rw [List.getElem?_eq_none (by simpa [triC] using hi)] at hv
        cases hv
    have := Try.slices_ContainsFunc (α := Tr) 3 isAggTri sizeTri triC (fun _ => rfl) p 66 lb (fun _ _ => by kernel_rfl) b o T.length c T w hp (Nat.le_refl _) (by omega) hb hcells
    rw [List.take_length] at this
    exact this
/-- Does it fit: are there not too many vertices and triangles, and is each triangle of vertices that there are, no two the same. -/
def fitsS (N : Int) (T : List Tr) : Bool := decide (0 ≤ N ∧ N ≤ 4096 ∧ T.length ≤ 8192) && !(T.any fun t => !decide (fitsM t N))
set_option maxRecDepth 100000 in
set_option maxHeartbeats 1000000 in
theorem soupFits_any (N : Int) (v : Value) (T : List Tr) (w : World) (h : TrisRd w v T) (hl : T.length ≤ 100000) :
    Calls Try.prog 29 #[.agg #[.int .i64 N, v]] w fun e w' => e = .returned (.bool (fitsS N T)) ∧ Below w.heap.size w w' := by
  obtain ⟨a, c, rfl, hc1, hc2, -⟩ := id h
  have b1 := Blk.new w 24 #[.int .i64 N, .slice a T.length c]
  have hB : Below w.heap.size w (w.alloc (.cells #[.int .i64 N, .slice a T.length c] 24)) := (Below.refl _ _).alloc (Nat.le_refl _) _
  obtain ⟨p0, x0, -, x1, -⟩ := b1.two
  have HC := Lib.hid (cont_any _ T (fun t => !decide (fitsM t N)) #[.pointer (some ⟨w.heap.size, 0, none⟩)] _ (h.below hB) (fun W t hW => (fitsC_any w.heap.size N t W ((hW.cell (p := ⟨w.heap.size, 0, none⟩) p0).trans x0) (Nat.lt_of_lt_of_le p0 hW.size)).mono (fun _ _ ⟨he, hb⟩ => ⟨he, hW.trans (hb.mono hW.size)⟩)))
  have HB := Lib.hid hB
  have HF : fitsS N T = (decide (0 ≤ N ∧ N ≤ 4096 ∧ T.length ≤ 8192) && !(T.any fun t => !decide (fitsM t N))) := rfl
  rw [HF]
  obtain ⟨q, hq⟩ : ∃ q, (T.any fun t => !decide (fitsM t N)) = q := ⟨_, rfl⟩
  rw [hq] at HC ⊢
  clear HF hq hB b1 h
  by_cases h0 : N < 0
  · have d0 : decide (N < 0) = true := by simpa using h0
    rw [decide_eq_false (show ¬ (0 ≤ N ∧ N ≤ 4096 ∧ T.length ≤ 8192) by omega)]
    clear h0
    go_enter Try.func29, Try.ntmps29
    go_wp2
    go_ret
    exact ⟨rfl, HB.out⟩
  · have d0 : decide (N < 0) = false := by simpa using h0
    by_cases h1 : 4096 < N
    · have d1 : decide (4096 < N) = true := by simpa using h1
      rw [decide_eq_false (show ¬ (0 ≤ N ∧ N ≤ 4096 ∧ T.length ≤ 8192) by omega)]
      clear h0 h1
      go_enter Try.func29, Try.ntmps29
      go_wp2
      go_ret
      exact ⟨rfl, HB.out⟩
    · have d1 : decide (4096 < N) = false := by simpa using h1
      by_cases h2 : 8192 < T.length
      · have d2 : decide (8192 < (T.length : Int)) = true := by simp; omega
        rw [decide_eq_false (show ¬ (0 ≤ N ∧ N ≤ 4096 ∧ T.length ≤ 8192) by omega)]
        clear h0 h1 h2
        go_enter Try.func29, Try.ntmps29
        go_wp2
        go_ret
        exact ⟨rfl, HB.out⟩
      · have d2 : decide (8192 < (T.length : Int)) = false := by simp; omega
        rw [decide_eq_true (show (0 ≤ N ∧ N ≤ 4096 ∧ T.length ≤ 8192) by omega)]
        clear h0 h1 h2
        go_enter Try.func29, Try.ntmps29
        go_wp2_with (go_at_call 65; refine HC.out.mono ?_; rintro e w' ⟨rfl, hb⟩)
        go_ret
        exact ⟨by simp, HB.out.trans (hb.mono HB.out.size)⟩
end Go.Proofs.Ytpnkhgjjlionnaa
namespace Go.Proofs.Ytpnkhgjjlionnaa
open Go.RowKit

/-! Parts have vertices of their own. -/
theorem vert_inr {N : Int} {T : List Tr} (hS : Surf N T) {c : Nat} (hc : c < 3 * T.length) : inR N (vertN T c) := by
  have h := vertN_in (N := N) (fun t ht => by
    obtain ⟨⟨a, b⟩, ⟨c, d⟩, e, f⟩ := hS.inr t ht
    exact ⟨a, b, c, d, e, f⟩) hc
  exact h
theorem shl_vert {N : Int} {T : List Tr} {out : List Int} (hS : Surf N T) (h : Shl T out) {c d : Nat} (hc : c < 3 * T.length) (hd : d < 3 * T.length) (e : vertN T d = vertN T c) : at_ out (d / 3) = at_ out (c / 3) :=
  aroundB hS (v := vertN T c) (vert_inr hS hc) (fun j => at_ out j = at_ out (c / 3)) ⟨c, hc, rfl, rfl⟩
    (fun x hx _ hs => ⟨fun o ho => by
      have := h.adj (Jor.nx x) o (Jor.nx_lt hx) ho
      rw [Jor.nx_div] at this
      exact this.trans hs, fun o ho => by
      have := h.adj (Jor.pv x) o (Jor.pv_lt hx) ho
      rw [Jor.pv_div] at this
      exact this.trans hs⟩) d hd e
theorem vert_own {T : List Tr} (hs : ∀ t ∈ T, simple3 t) {c d : Nat} (hc : c < 3 * T.length) (e3 : c / 3 = d / 3) (e : vertN T c = vertN T d) : c = d := by
  have hk : c / 3 < T.length := by omega
  have ht : T[c / 3]? = some T[c / 3] := List.getElem?_eq_getElem hk
  have h1 : triAt T c = T[c / 3] := by unfold triAt; rw [ht]; rfl
  have h2 : triAt T d = T[c / 3] := by unfold triAt; rw [← e3, ht]; rfl
  have h3 := hs _ (List.getElem_mem hk)
  unfold vertN at e
  rw [h1, h2] at e
  generalize T[c / 3] = t at *
  obtain ⟨x, y, z⟩ := t
  obtain ⟨n1, n2, n3⟩ := h3
  simp only at n1 n2 n3 e
  have hc3 : c % 3 = 0 ∨ c % 3 = 1 ∨ c % 3 = 2 := by omega
  have hd3 : d % 3 = 0 ∨ d % 3 = 1 ∨ d % 3 = 2 := by omega
  rcases hc3 with a | a | a <;> rcases hd3 with b | b | b <;> simp [a, b] at e <;> first | omega | (exfalso; first | exact n1 e | exact n1 e.symm | exact n2 e | exact n2 e.symm | exact n3 e | exact n3 e.symm)
theorem parts_le {N : Int} {T : List Tr} {out : List Int} (hS : Surf N T) (h : Shl T out) {m : Nat} (f : Nat → Nat) (hf : ∀ n, n < m → f n < T.length ∧ at_ out (f n) = (n : Int)) : 3 * m ≤ N.toNat := by
  have hlt : ∀ a, a < 3 * m → 3 * f (a / 3) + a % 3 < 3 * T.length := fun a ha => by
    have := (hf (a / 3) (by omega)).1
    omega
  have hn : ((List.range (3 * m)).map fun a => (vertN T (3 * f (a / 3) + a % 3)).toNat).Nodup := by
    rw [List.nodup_iff_pairwise_ne, List.pairwise_iff_getElem]
    intro i j hi hj hij e
    simp only [List.length_map, List.length_range] at hi hj
    simp only [List.getElem_map, List.getElem_range] at e
    have h1 := vert_inr hS (hlt i hi)
    have h2 := vert_inr hS (hlt j hj)
    have e2 : vertN T (3 * f (i / 3) + i % 3) = vertN T (3 * f (j / 3) + j % 3) := by
      have a1 := h1.1
      have a2 := h2.1
      omega
    have e3 := shl_vert hS h (hlt j hj) (hlt i hi) e2
    rw [show (3 * f (i / 3) + i % 3) / 3 = f (i / 3) from by omega, show (3 * f (j / 3) + j % 3) / 3 = f (j / 3) from by omega, (hf (i / 3) (by omega)).2, (hf (j / 3) (by omega)).2] at e3
    have e4 : i / 3 = j / 3 := by omega
    rw [e4] at e2
    have := vert_own hS.simple (hlt j hj |> fun h => (by rw [← e4]; exact hlt i hi : 3 * f (j / 3) + i % 3 < 3 * T.length)) (by omega) e2
    omega
  have hle := Jor.nodup_le (m := List.range N.toNat) hn (fun x hx => by
    rw [List.mem_map] at hx
    obtain ⟨a, ha, rfl⟩ := hx
    have h1 := vert_inr hS (hlt a (List.mem_range.1 ha))
    rw [List.mem_range]
    have a1 := h1.1
    have a2 := h1.2
    omega)
  simpa using hle

/-! Corners come to are of one part. -/
theorem ovr_part {T : List Tr} {out : List Int} (h : Shl T out) {L : List Nat} {n : Int} (hL : ∀ d ∈ L, at_ out (d / 3) = n) {c : Nat} (hc : c < 3 * T.length) (hcn : at_ out (c / 3) = n) : ∀ d ∈ ovr T L (c : Int), at_ out (d / 3) = n := by
  intro d hd
  unfold ovr at hd
  split at hd
  · rename_i hh
    rcases List.mem_append.1 hd with hd | hd
    · exact hL d hd
    · rw [List.mem_singleton] at hd
      subst hd
      rcases opp_cases T (c : Int) with e | ⟨o, e, -⟩
      · rw [e] at hh
        omega
      · rw [e]
        simp only [Int.toNat_natCast]
        rw [h.adj c o hc e, hcn]
  · exact hL d hd
theorem rtF_part {T : List Tr} {out : List Int} (h : Shl T out) {n : Int} : ∀ (k i : Nat) {L : List Nat}, LOk T L → (∀ d ∈ L, at_ out (d / 3) = n) → ∀ d ∈ rtF T k i L, at_ out (d / 3) = n
  | 0, _, _, _, hL => hL
  | k + 1, i, L, hO, hL => by
    unfold rtF
    cases hd : L[i]? with
    | none => exact hL
    | some d =>
      have hm := List.mem_of_getElem? hd
      have hdl := hO.lt d hm
      have h1 := ovr_part h hL (c := Jor.nx d) (Jor.nx_lt hdl) (by rw [Jor.nx_div]; exact hL d hm)
      have h2 := ovr_part h h1 (c := Jor.pv d) (Jor.pv_lt hdl) (by rw [Jor.pv_div]; exact hL d hm)
      exact rtF_part h k (i + 1) ((hO.ovr _).ovr _) h2
theorem rtL_part {T : List Tr} {out : List Int} (h : Shl T out) {c : Nat} (hc : c < 3 * T.length) : ∀ d ∈ rtL T c, at_ out (d / 3) = at_ out (c / 3) :=
  rtF_part h _ _ ((LOk.one hc).ovr _) (ovr_part h (fun d hd => by rw [List.mem_singleton.1 hd]) hc rfl)
theorem rtL_sum {T : List Tr} {out : List Int} (h : Shl T out) {m : Nat} (f : Nat → Nat) (hf : ∀ n, n < m → f n < 3 * T.length ∧ at_ out (f n / 3) = (n : Int)) : ((List.range m).flatMap fun n => trisOf (rtL T (f n))).length ≤ T.length := by
  have hn : ((List.range m).flatMap fun n => trisOf (rtL T (f n))).Nodup := by
    rw [List.nodup_iff_pairwise_ne, List.pairwise_flatMap]
    refine ⟨fun n hn => List.nodup_iff_pairwise_ne.1 (LOk.rtL (hf n (List.mem_range.1 hn)).1).nd, ?_⟩
    rw [List.pairwise_iff_getElem]
    intro i j hi hj hij x hx y hy e
    simp only [List.length_range] at hi hj
    simp only [List.getElem_range] at hx hy
    unfold trisOf at hx hy
    rw [List.mem_map] at hx hy
    obtain ⟨a, ha, rfl⟩ := hx
    obtain ⟨b, hb, rfl⟩ := hy
    have e1 := rtL_part h (hf i hi).1 a ha
    have e2 := rtL_part h (hf j hj).1 b hb
    rw [e, e2, (hf i hi).2, (hf j hj).2] at e1
    omega
  have := Jor.nodup_le (m := List.range T.length) hn (fun x hx => by
    rw [List.mem_flatMap] at hx
    obtain ⟨n, hn, hx⟩ := hx
    unfold trisOf at hx
    rw [List.mem_map] at hx
    obtain ⟨a, ha, rfl⟩ := hx
    have := (LOk.rtL (hf n (List.mem_range.1 hn)).1).lt a ha
    rw [List.mem_range]
    omega)
  simpa using this

/-! Numbered triangles. -/
theorem spot_at {F : List Int} {v : Int} (h : v ∈ F) : F[spot F v]? = some v := by
  induction F with
  | nil => cases h
  | cons a l ih =>
    simp only [spot]
    by_cases e : a = v
    · rw [if_pos e, e]
      rfl
    · rw [if_neg e, List.getElem?_cons_succ]
      exact ih (by rcases List.mem_cons.1 h with e2 | h; exact absurd e2.symm e; exact h)
theorem spot_inj {F : List Int} {a b : Int} (ha : a ∈ F) (hb : b ∈ F) (e : spot F a = spot F b) : a = b := by
  have h1 := spot_at ha
  rw [e, spot_at hb] at h1
  exact (Option.some.inj h1).symm
theorem addV_ext (old : List Int) (v : Int) : ∃ m, addV old v = old ++ m := by
  unfold addV
  split
  · exact ⟨[], by simp⟩
  · exact ⟨[v], rfl⟩
theorem numT_ext (T : List Tr) (old : List Int) (d : Nat) : ∃ m, numT T old d = old ++ m := by
  obtain ⟨a, ha⟩ := addV_ext old (vertN T d)
  obtain ⟨b, hb⟩ := addV_ext (old ++ a) (vertN T (Jor.nx d))
  obtain ⟨c, hc⟩ := addV_ext (old ++ a ++ b) (vertN T (Jor.pv d))
  exact ⟨a ++ b ++ c, by unfold numT; rw [ha, hb, hc]; simp⟩
theorem numL_ext (T : List Tr) : ∀ (L : List Nat) (s : List Int × List Tr), ∃ m, (numL T L s).1 = s.1 ++ m
  | [], s => ⟨[], by simp [numL]⟩
  | d :: r, s => by
    obtain ⟨a, ha⟩ := numT_ext T s.1 d
    obtain ⟨b, hb⟩ := numL_ext T r (numT T s.1 d, s.2 ++ [triT T s.1 d])
    exact ⟨a ++ b, by unfold numL; rw [hb, ha]; simp⟩
theorem numT_mem (T : List Tr) (old : List Int) (d : Nat) : vertN T d ∈ numT T old d ∧ vertN T (Jor.nx d) ∈ numT T old d ∧ vertN T (Jor.pv d) ∈ numT T old d := by
  obtain ⟨b, hb⟩ := addV_ext (addV old (vertN T d)) (vertN T (Jor.nx d))
  obtain ⟨c, hc⟩ := addV_ext (addV (addV old (vertN T d)) (vertN T (Jor.nx d))) (vertN T (Jor.pv d))
  have h1 : vertN T d ∈ addV old (vertN T d) := addV_mem
  have h2 : vertN T (Jor.nx d) ∈ addV (addV old (vertN T d)) (vertN T (Jor.nx d)) := addV_mem
  refine ⟨?_, ?_, addV_mem⟩
  · unfold numT
    rw [hc, hb]
    simp [h1]
  · unfold numT
    rw [hc]
    simp [h2]
/-- A corner's triangle in the numbers of F. -/
def spotT (F : List Int) (T : List Tr) (d : Nat) : Tr := ((spot F (vertN T d) : Nat), (spot F (vertN T (Jor.nx d)) : Nat), (spot F (vertN T (Jor.pv d)) : Nat))
theorem triT_spot (T : List Tr) (old : List Int) (d : Nat) (m : List Int) : triT T old d = spotT (numT T old d ++ m) T d := by
  obtain ⟨b, hb⟩ := addV_ext (addV old (vertN T d)) (vertN T (Jor.nx d))
  obtain ⟨c, hc⟩ := addV_ext (addV (addV old (vertN T d)) (vertN T (Jor.nx d))) (vertN T (Jor.pv d))
  have h1 : vertN T d ∈ addV old (vertN T d) := addV_mem
  have h2 : vertN T (Jor.nx d) ∈ addV (addV old (vertN T d)) (vertN T (Jor.nx d)) := addV_mem
  have h3 := (numT_mem T old d).2.2
  have e1 : spot (numT T old d ++ m) (vertN T d) = spot (addV old (vertN T d)) (vertN T d) := by
    have : numT T old d ++ m = addV old (vertN T d) ++ (b ++ c ++ m) := by unfold numT; rw [hc, hb]; simp
    rw [this, spot_mem _ h1]
  have e2 : spot (numT T old d ++ m) (vertN T (Jor.nx d)) = spot (addV (addV old (vertN T d)) (vertN T (Jor.nx d))) (vertN T (Jor.nx d)) := by
    have : numT T old d ++ m = addV (addV old (vertN T d)) (vertN T (Jor.nx d)) ++ (c ++ m) := by unfold numT; rw [hc]; simp
    rw [this, spot_mem _ h2]
  have e3 : spot (numT T old d ++ m) (vertN T (Jor.pv d)) = spot (numT T old d) (vertN T (Jor.pv d)) := spot_mem _ h3
  unfold triT spotT
  rw [e1, e2, e3]
theorem numL_spot (T : List Tr) : ∀ (L : List Nat) (s : List Int × List Tr), (numL T L s).2 = s.2 ++ L.map (spotT (numL T L s).1 T)
  | [], s => by simp [numL]
  | d :: r, s => by
    have ih := numL_spot T r (numT T s.1 d, s.2 ++ [triT T s.1 d])
    obtain ⟨m, hm⟩ := numL_ext T r (numT T s.1 d, s.2 ++ [triT T s.1 d])
    simp only at hm
    have e : numL T (d :: r) s = numL T r (numT T s.1 d, s.2 ++ [triT T s.1 d]) := rfl
    have h := triT_spot T s.1 d m
    rw [← hm] at h
    rw [e, ih]
    generalize (numL T r (numT T s.1 d, s.2 ++ [triT T s.1 d])).1 = F at *
    simp [h]
theorem numL_mem (T : List Tr) : ∀ (L : List Nat) (s : List Int × List Tr), ∀ d ∈ L, vertN T d ∈ (numL T L s).1 ∧ vertN T (Jor.nx d) ∈ (numL T L s).1 ∧ vertN T (Jor.pv d) ∈ (numL T L s).1
  | [], _, _, h => by cases h
  | e :: r, s, d, h => by
    have e0 : numL T (e :: r) s = numL T r (numT T s.1 e, s.2 ++ [triT T s.1 e]) := rfl
    rw [e0]
    rcases List.mem_cons.1 h with rfl | h
    · obtain ⟨m, hm⟩ := numL_ext T r (numT T s.1 d, s.2 ++ [triT T s.1 d])
      simp only at hm
      obtain ⟨h1, h2, h3⟩ := numT_mem T s.1 d
      rw [hm]
      exact ⟨List.mem_append_left _ h1, List.mem_append_left _ h2, List.mem_append_left _ h3⟩
    · exact numL_mem T r _ d h
theorem rtN_spot (T : List Tr) (c : Nat) : (rtN T c).2 = (rtL T c).map (spotT (rtN T c).1 T) := by
  have := numL_spot T (rtL T c) ([], [])
  simpa [rtN] using this
theorem rtN_mem {T : List Tr} {c d : Nat} (h : d ∈ rtL T c) : vertN T d ∈ (rtN T c).1 ∧ vertN T (Jor.nx d) ∈ (rtN T c).1 ∧ vertN T (Jor.pv d) ∈ (rtN T c).1 := numL_mem T _ _ d h
theorem rtN_nodup (T : List Tr) (c : Nat) : (rtN T c).1.Nodup := numL_nodup T _ _ List.nodup_nil
theorem rtN_fitsM {T : List Tr} (hs : ∀ t ∈ T, simple3 t) {c : Nat} (hc : c < 3 * T.length) : ∀ t ∈ (rtN T c).2, fitsM t (rtN T c).1.length := by
  intro t ht
  rw [rtN_spot, List.mem_map] at ht
  obtain ⟨d, hd, rfl⟩ := ht
  obtain ⟨m1, m2, m3⟩ := rtN_mem hd
  have hdl := (LOk.rtL hc).lt d hd
  have l1 := spot_lt m1
  have l2 := spot_lt m2
  have l3 := spot_lt m3
  have n1 : d ≠ Jor.nx d := by unfold Jor.nx; omega
  have n2 : Jor.nx d ≠ Jor.pv d := by unfold Jor.nx Jor.pv; omega
  have n3 : Jor.pv d ≠ d := by unfold Jor.pv; omega
  refine ⟨⟨by simp [spotT], by simp only [spotT]; omega⟩, ⟨by simp [spotT], by simp only [spotT]; omega⟩, ⟨by simp [spotT], by simp only [spotT]; omega⟩, ?_, ?_, ?_⟩
  · intro e
    simp only [spotT] at e
    exact n1 (vert_own hs hdl (by rw [Jor.nx_div]) (spot_inj m1 m2 (by omega)))
  · intro e
    simp only [spotT] at e
    exact n2 (vert_own hs (Jor.nx_lt hdl) (by rw [Jor.nx_div, Jor.pv_div]) (spot_inj m2 m3 (by omega)))
  · intro e
    simp only [spotT] at e
    exact n3 (vert_own hs (Jor.pv_lt hdl) (by rw [Jor.pv_div]) (spot_inj m3 m1 (by omega)))
theorem fitsS_of {N : Int} {T : List Tr} (h0 : 0 ≤ N) (h1 : N ≤ 4096) (h2 : T.length ≤ 8192) (h : ∀ t ∈ T, fitsM t N) : fitsS N T = true := by
  unfold fitsS
  rw [decide_eq_true ⟨h0, h1, h2⟩, Bool.true_and, Bool.not_eq_true', List.any_eq_false]
  intro t ht
  simp [h t ht]
theorem rtN_fits {T : List Tr} (hs : ∀ t ∈ T, simple3 t) {c : Nat} (hc : c < 3 * T.length) (hl : T.length ≤ 1000) : fitsS ((rtN T c).1.length : Int) (rtN T c).2 = true := by
  obtain ⟨a, b, d⟩ := rtN_lens hc
  exact fitsS_of (by omega) (by omega) (by omega) (rtN_fitsM hs hc)

/-! Soups, joined. -/
def shT (n : Int) (t : Tr) : Tr := (t.1 + n, t.2.1 + n, t.2.2 + n)
def joinS (s x : Int × List Tr) : Int × List Tr := (s.1 + x.1, s.2 ++ x.2.map (shT s.1))
def joinM (l : List (Int × List Tr)) : Int × List Tr := l.foldl joinS (0, [])
theorem joinM_take {l : List (Int × List Tr)} {k : Nat} {x : Int × List Tr} (h : l[k]? = some x) : joinM (l.take (k + 1)) = joinS (joinM (l.take k)) x := by
  obtain ⟨hk, he⟩ := List.getElem?_eq_some_iff.1 h
  rw [List.take_succ_eq_append_getElem hk, he]
  simp [joinM]
theorem joinF_bd : ∀ (l : List (Int × List Tr)) (s : Int × List Tr), (∀ x ∈ l, 0 ≤ x.1) → s.1 ≤ (l.foldl joinS s).1 ∧ s.2.length ≤ (l.foldl joinS s).2.length
  | [], _, _ => ⟨Int.le_refl _, Nat.le_refl _⟩
  | x :: r, s, h => by
    have ih := joinF_bd r (joinS s x) (fun y hy => h y (List.mem_cons_of_mem _ hy))
    have h0 := h x (List.mem_cons_self ..)
    have e1 : (joinS s x).1 = s.1 + x.1 := rfl
    have e2 : (joinS s x).2.length = s.2.length + x.2.length := by simp [joinS]
    rw [List.foldl_cons]
    omega
theorem joinM_bd {l : List (Int × List Tr)} (h : ∀ x ∈ l, 0 ≤ x.1) (k : Nat) : (joinM (l.take k)).1 ≤ (joinM l).1 ∧ (joinM (l.take k)).2.length ≤ (joinM l).2.length := by
  have e : joinM l = (l.drop k).foldl joinS (joinM (l.take k)) := by
    unfold joinM
    rw [← List.foldl_append, List.take_append_drop]
  rw [e]
  exact joinF_bd _ _ (fun x hx => h x (List.mem_of_mem_drop hx))
theorem joinM_nn {l : List (Int × List Tr)} (h : ∀ x ∈ l, 0 ≤ x.1) : 0 ≤ (joinM l).1 := (joinF_bd l (0, []) h).1
theorem joinF_sum : ∀ (l : List (Int × List Tr)) (s : Int × List Tr), (l.foldl joinS s).1 = s.1 + (l.map (·.1)).sum ∧ (l.foldl joinS s).2.length = s.2.length + (l.map (·.2.length)).sum
  | [], s => by simp
  | x :: r, s => by
    obtain ⟨a, b⟩ := joinF_sum r (joinS s x)
    have e1 : (joinS s x).1 = s.1 + x.1 := rfl
    have e2 : (joinS s x).2.length = s.2.length + x.2.length := by simp [joinS]
    rw [List.foldl_cons, a, b, e1, e2]
    simp only [List.map_cons, List.sum_cons]
    omega
end Go.Proofs.Ytpnkhgjjlionnaa
namespace Go.Proofs.Ytpnkhgjjlionnaa
open Go.RowKit

def rowC (T P : List Tr) (K : List Int) (c : Nat) : List Int := (fromM T P K c).row
def ltR (x y : RecM) : Bool := decide (cmpL x.row y.row < 0)
def bestC (T P : List Tr) (K out : List Int) (n : Nat) : Nat := (bestN (rowC T P K) out n (3 * T.length)).getD 0
def recsM (T P : List Tr) (K out : List Int) (m : Nat) : List RecM := (List.range m).map fun n => fromM T P K (bestC T P K out n)
def sortM (T P : List Tr) (K out : List Int) (m : Nat) : List RecM := sortB ltR (recsM T P K out m)
def soupsM (l : List RecM) : List (Int × List Tr) := l.map fun r => (r.N, r.T)
/-- Each part, up to m, has a triangle. -/
def HasP (T : List Tr) (out : List Int) (m : Nat) : Prop := ∀ n, n < m → ∃ j, j < T.length ∧ at_ out j = (n : Int)
theorem bestC_ok {T P : List Tr} {K out : List Int} {m n : Nat} (h : HasP T out m) (hn : n < m) : bestN (rowC T P K) out n (3 * T.length) = some (bestC T P K out n) ∧ bestC T P K out n < 3 * T.length ∧ at_ out (bestC T P K out n / 3) = (n : Int) := by
  obtain ⟨j, hj, e⟩ := h n hn
  have h1 := bestN_isSome (rw_ := rowC T P K) (out := out) (n := n) (k := 3 * T.length) (c := 3 * j) (by omega) (by rw [show 3 * j / 3 = j from by omega]; exact e)
  obtain ⟨d, hd⟩ := Option.isSome_iff_exists.1 h1
  have h2 := bestN_some hd
  unfold bestC
  rw [hd]
  exact ⟨rfl, h2⟩
theorem Shl.hasP {T : List Tr} {out : List Int} (h : Shl T out) {m : Nat} (hm : (m : Int) = cntL out) : HasP T out m := by
  intro n hn
  obtain ⟨j, hj, hge⟩ : ∃ j, j < T.length ∧ (n : Int) ≤ at_ out j := by
    refine Classical.byContradiction fun hno => ?_
    have h1 := cntL_bd (out := out) (m := (n : Int)) (fun j hj => Int.not_le.1 (fun hge => hno ⟨j, by rw [← h.len]; exact hj, hge⟩)) (by omega) out.length (Nat.le_refl _)
    rw [List.take_length] at h1
    omega
  obtain ⟨i, hi, e⟩ := h.hit hj hge
  exact ⟨i, by omega, e⟩
theorem HasP.le {N : Int} {T : List Tr} {out : List Int} (hS : Surf N T) (h : Shl T out) {m : Nat} (hm : HasP T out m) : 3 * m ≤ N.toNat := by
  refine parts_le hS h (fun n => if hn : n < m then Classical.choose (hm n hn) else 0) (fun n hn => ?_)
  rw [dif_pos hn]
  exact Classical.choose_spec (hm n hn)
theorem from_len (T P : List Tr) (K : List Int) {c : Nat} (_hc : c < 3 * T.length) : (fromM T P K c).T.length = (rtL T c).length ∧ (fromM T P K c).N = ((fromM T P K c).old.length : Int) ∧ (fromM T P K c).old.length ≤ 3 * (rtL T c).length ∧ (fromM T P K c).P.length ≤ (fromM T P K c).old.length ∧ (fromM T P K c).K.length ≤ 3 * (rtL T c).length := by
  have h := numL_len T (rtL T c) ([], [])
  simp only [List.length_nil] at h
  have e : numL T (rtL T c) ([], []) = rtN T c := rfl
  rw [e] at h
  refine ⟨by show (rtN T c).2.length = _; omega, rfl, by show (rtN T c).1.length ≤ _; omega, ?_, ?_⟩
  · show (paintL P (rtN T c).1).length ≤ (rtN T c).1.length
    unfold paintL
    split
    · exact Nat.zero_le _
    · rw [paintF_len]
      exact Nat.le_refl _
  · show (sideL K (rtL T c)).length ≤ _
    unfold sideL
    split
    · exact Nat.zero_le _
    · rw [sideF_len]
      exact Nat.le_refl _
theorem recs_sum {T P : List Tr} {K out : List Int} {m : Nat} (h : Shl T out) (hm : HasP T out m) : ((recsM T P K out m).map fun r => r.T.length).sum ≤ T.length := by
  have h1 := rtL_sum h (m := m) (bestC T P K out) (fun n hn => (bestC_ok hm hn).2)
  rw [List.length_flatMap] at h1
  refine Nat.le_trans (Nat.le_of_eq ?_) h1
  unfold recsM
  rw [List.map_map]
  congr 1
  refine List.map_congr_left (fun n hn => ?_)
  have := (bestC_ok (P := P) (K := K) hm (List.mem_range.1 hn)).2.1
  show (fromM T P K (bestC T P K out n)).T.length = _
  rw [(from_len T P K this).1, trisOf, List.length_map]
theorem sort_sum (T P : List Tr) (K out : List Int) (m : Nat) : ((sortM T P K out m).map fun r => r.T.length).sum = ((recsM T P K out m).map fun r => r.T.length).sum :=
  ((sortB_perm ltR (recsM T P K out m)).map fun r => r.T.length).sum_nat
theorem sort_mem {T P : List Tr} {K out : List Int} {m : Nat} (hm : HasP T out m) {r : RecM} (h : r ∈ sortM T P K out m) : ∃ c, c < 3 * T.length ∧ r = fromM T P K c := by
  have h1 := (sortB_perm ltR (recsM T P K out m)).mem_iff.1 h
  unfold recsM at h1
  rw [List.mem_map] at h1
  obtain ⟨n, hn, rfl⟩ := h1
  exact ⟨_, (bestC_ok hm (List.mem_range.1 hn)).2.1, rfl⟩
theorem sort_len (T P : List Tr) (K out : List Int) (m : Nat) : (sortM T P K out m).length = m := by
  unfold sortM
  rw [sortB_len]
  simp [recsM]
/-- What is joined is not too much. -/
theorem soups_bd {T P : List Tr} {K out : List Int} {m : Nat} (h : Shl T out) (hm : HasP T out m) : (joinM (soupsM (sortM T P K out m))).1 ≤ 3 * T.length ∧ (joinM (soupsM (sortM T P K out m))).2.length ≤ T.length := by
  have hs := sort_sum T P K out m
  have hr := recs_sum (P := P) (K := K) h hm
  have key : ∀ l : List RecM, (∀ r ∈ l, r ∈ sortM T P K out m) → ((soupsM l).map (·.1)).sum ≤ 3 * ((l.map fun r => r.T.length).sum : Nat) ∧ ((soupsM l).map (·.2.length)).sum = (l.map fun r => r.T.length).sum := by
    intro l
    induction l with
    | nil => intro _; simp [soupsM]
    | cons r s ih =>
      intro hl
      obtain ⟨a, b⟩ := ih (fun x hx => hl x (List.mem_cons_of_mem _ hx))
      obtain ⟨c, hc, e⟩ := sort_mem hm (hl r (List.mem_cons_self ..))
      obtain ⟨f1, f2, f3, -⟩ := from_len T P K hc
      rw [← e] at f1 f2 f3
      have e1 : soupsM (r :: s) = (r.N, r.T) :: soupsM s := rfl
      rw [e1]
      simp only [List.map_cons, List.sum_cons]
      omega
  obtain ⟨a, b⟩ := key _ (fun r hr => hr)
  obtain ⟨c, d⟩ := joinF_sum (soupsM (sortM T P K out m)) (0, [])
  unfold joinM
  simp only [List.length_nil] at c d
  omega
theorem sum_take_le (l : List Nat) : ∀ k, (l.take k).sum ≤ l.sum := by
  induction l with
  | nil => intro k; simp
  | cons a r ih =>
    intro k
    cases k with
    | zero => simp
    | succ k =>
      rw [List.take_succ_cons, List.sum_cons, List.sum_cons]
      have := ih k
      omega
theorem flat_le {T P : List Tr} {K out : List Int} {m : Nat} (h : Shl T out) (hm : HasP T out m) {β : Type} (f : RecM → List β) (hf : ∀ c, c < 3 * T.length → (f (fromM T P K c)).length ≤ 3 * (fromM T P K c).T.length) (k : Nat) : (((sortM T P K out m).take k).flatMap f).length ≤ 3 * T.length := by
  have hs := sort_sum T P K out m
  have hr := recs_sum (P := P) (K := K) h hm
  rw [List.length_flatMap]
  have key : ∀ l : List RecM, (∀ r ∈ l, r ∈ sortM T P K out m) → (l.map fun a => (f a).length).sum ≤ 3 * (l.map fun r => r.T.length).sum := by
    intro l
    induction l with
    | nil => intro _; simp
    | cons r s ih =>
      intro hl
      have a := ih (fun x hx => hl x (List.mem_cons_of_mem _ hx))
      obtain ⟨c, hc, e⟩ := sort_mem hm (hl r (List.mem_cons_self ..))
      have b := hf c hc
      rw [← e] at b
      simp only [List.map_cons, List.sum_cons]
      omega
  have h1 := key ((sortM T P K out m).take k) (fun r hr => List.mem_of_mem_take hr)
  have h2 := sum_take_le ((sortM T P K out m).map fun r => r.T.length) k
  rw [← List.map_take] at h2
  omega
theorem flat_P {T P : List Tr} {K out : List Int} {m : Nat} (h : Shl T out) (hm : HasP T out m) (k : Nat) : (((sortM T P K out m).take k).flatMap (·.P)).length ≤ 3 * T.length :=
  flat_le h hm _ (fun c hc => by obtain ⟨a, b, d, e, f⟩ := from_len T P K hc; omega) k
theorem flat_K {T P : List Tr} {K out : List Int} {m : Nat} (h : Shl T out) (hm : HasP T out m) (k : Nat) : (((sortM T P K out m).take k).flatMap (·.K)).length ≤ 3 * T.length :=
  flat_le h hm _ (fun c hc => by obtain ⟨a, b, d, e, f⟩ := from_len T P K hc; omega) k
theorem flat_O {T P : List Tr} {K out : List Int} {m : Nat} (h : Shl T out) (hm : HasP T out m) (k : Nat) : (((sortM T P K out m).take k).flatMap (·.old)).length ≤ 3 * T.length :=
  flat_le h hm _ (fun c hc => by obtain ⟨a, b, d, e, f⟩ := from_len T P K hc; omega) k
theorem flat_snoc {α β : Type} {l : List α} {k : Nat} {r : α} (h : l[k]? = some r) (f : α → List β) : (l.take (k + 1)).flatMap f = (l.take k).flatMap f ++ f r := by
  obtain ⟨hk, he⟩ := List.getElem?_eq_some_iff.1 h
  rw [List.take_succ_eq_append_getElem hk, he]
  simp
theorem sort_fits {T P : List Tr} {K out : List Int} {m : Nat} (hs : ∀ t ∈ T, simple3 t) (hl : T.length ≤ 1000) (hm : HasP T out m) : ∀ x ∈ soupsM (sortM T P K out m), fitsS x.1 x.2 = true := by
  intro x hx
  unfold soupsM at hx
  rw [List.mem_map] at hx
  obtain ⟨r, hr, rfl⟩ := hx
  obtain ⟨c, hc, rfl⟩ := sort_mem hm hr
  exact rtN_fits hs hc hl
end Go.Proofs.Ytpnkhgjjlionnaa
namespace Go.Proofs.Ytpnkhgjjlionnaa
open Go.RowKit

/-- The corners of T are those of T' by φ, the vertices by g. -/
structure Iso (T T' : List Tr) (φ : Nat → Nat) (g : Int → Int) : Prop where
  len : T'.length = T.length
  lt : ∀ c, c < 3 * T.length → φ c < 3 * T.length
  inj : ∀ c d, c < 3 * T.length → d < 3 * T.length → φ c = φ d → c = d
  nx : ∀ c, c < 3 * T.length → φ (Jor.nx c) = Jor.nx (φ c)
  vert : ∀ c, c < 3 * T.length → vertN T' (φ c) = g (vertN T c)
  ginj : ∀ c d, c < 3 * T.length → d < 3 * T.length → g (vertN T c) = g (vertN T d) → vertN T c = vertN T d
section
variable {T T' : List Tr} {φ : Nat → Nat} {g : Int → Int}
theorem Iso.pv (h : Iso T T' φ g) {c : Nat} (hc : c < 3 * T.length) : φ (Jor.pv c) = Jor.pv (φ c) := by
  have h1 := h.nx (Jor.pv c) (Jor.pv_lt hc)
  rw [Jor.nx_pv] at h1
  rw [h1, Jor.pv_nx]
theorem same_tri {c d : Nat} : c / 3 = d / 3 ↔ d = c ∨ d = Jor.nx c ∨ d = Jor.pv c := by
  unfold Jor.nx Jor.pv
  omega
theorem Iso.tri (h : Iso T T' φ g) {c d : Nat} (hc : c < 3 * T.length) (hd : d < 3 * T.length) : φ c / 3 = φ d / 3 ↔ c / 3 = d / 3 := by
  rw [same_tri, same_tri]
  constructor
  · rintro (e | e | e)
    · exact .inl (h.inj _ _ hd hc e)
    · rw [← h.nx c hc] at e
      exact .inr (.inl (h.inj _ _ hd (Jor.nx_lt hc) e))
    · rw [← h.pv hc] at e
      exact .inr (.inr (h.inj _ _ hd (Jor.pv_lt hc) e))
  · rintro (e | e | e)
    · exact .inl (by rw [e])
    · exact .inr (.inl (by rw [e, h.nx c hc]))
    · exact .inr (.inr (by rw [e, h.pv hc]))
/-- Each corner is one's image. -/
theorem Iso.surj (h : Iso T T' φ g) {d : Nat} (hd : d < 3 * T.length) : ∃ c, c < 3 * T.length ∧ φ c = d := by
  have hn : ((List.range (3 * T.length)).map φ).Nodup := by
    rw [List.nodup_iff_pairwise_ne, List.pairwise_map]
    refine List.Pairwise.imp_of_mem ?_ (List.nodup_iff_pairwise_ne.1 List.nodup_range)
    intro a b ha hb hab e
    exact hab (h.inj _ _ (List.mem_range.1 ha) (List.mem_range.1 hb) e)
  have hs : ∀ x ∈ (List.range (3 * T.length)).map φ, x ∈ List.range (3 * T.length) := by
    intro x hx
    obtain ⟨c, hc, rfl⟩ := List.mem_map.1 hx
    exact List.mem_range.2 (h.lt c (List.mem_range.1 hc))
  refine Classical.byContradiction fun hno => ?_
  have h1 : ((d :: (List.range (3 * T.length)).map φ)).Nodup := List.nodup_cons.2 ⟨fun hm => by
    obtain ⟨c, hc, e⟩ := List.mem_map.1 hm
    exact hno ⟨c, List.mem_range.1 hc, e⟩, hn⟩
  have h2 := Jor.nodup_le h1 (m := List.range (3 * T.length)) (fun x hx => by
    rcases List.mem_cons.1 hx with rfl | hx
    · exact List.mem_range.2 hd
    · exact hs x hx)
  simp at h2
  omega
theorem Iso.edge (h : Iso T T' φ g) {c : Nat} (hc : c < 3 * T.length) : edgeN T' (φ c) = (g (edgeN T c).1, g (edgeN T c).2) := by
  unfold edgeN
  rw [← h.nx c hc, ← h.pv hc, h.vert _ (Jor.nx_lt hc), h.vert _ (Jor.pv_lt hc)]
/-- Across from a corner. -/
theorem opp_iff {T : List Tr} (hE : (T.flatMap edges3).Nodup) {c o : Nat} (hc : c < 3 * T.length) : oppI T (c : Int) = (o : Int) ↔ o < 3 * T.length ∧ edgeN T o = ((edgeN T c).2, (edgeN T c).1) := by
  constructor
  · exact opp_some hc
  · rintro ⟨ho, e⟩
    have h1 := facI_of hE ho
    rw [e] at h1
    have h2 : edgeI T (c : Int) = edgeN T c := by
      unfold edgeI edgeN nextI prevI vertI
      have hh : hasC T (c : Int) = true := hasC_true (by omega) (by omega)
      have h3 : hasC T (((Jor.nx c : Nat)) : Int) = true := hasC_true (by omega) (by have := Jor.nx_lt hc; omega)
      have h4 : hasC T (((Jor.pv c : Nat)) : Int) = true := hasC_true (by omega) (by have := Jor.pv_lt hc; omega)
      simp [hh, h3, h4]
    unfold oppI
    rw [h2]
    exact h1
theorem Iso.opp (h : Iso T T' φ g) (hE : (T.flatMap edges3).Nodup) (hE' : (T'.flatMap edges3).Nodup) {c o : Nat} (hc : c < 3 * T.length) (ho : oppI T (c : Int) = (o : Int)) : oppI T' ((φ c : Nat) : Int) = ((φ o : Nat) : Int) := by
  obtain ⟨h1, h2⟩ := (opp_iff hE hc).1 ho
  refine (opp_iff hE' (by rw [h.len]; exact h.lt c hc)).2 ⟨by rw [h.len]; exact h.lt o h1, ?_⟩
  rw [h.edge h1, h.edge hc, h2]
theorem Iso.opp_none (h : Iso T T' φ g) (hE : (T.flatMap edges3).Nodup) {c : Nat} (hc : c < 3 * T.length) (ho : oppI T (c : Int) = -1) : oppI T' ((φ c : Nat) : Int) = -1 := by
  rcases opp_cases T' ((φ c : Nat) : Int) with e | ⟨o', e, ho'⟩
  · exact e
  · exfalso
    obtain ⟨h1, h2⟩ := opp_some (by rw [h.len]; exact h.lt c hc) e
    rw [h.len] at h1
    obtain ⟨o, hol, rfl⟩ := h.surj h1
    rw [h.edge hol, h.edge hc] at h2
    simp only [Prod.mk.injEq] at h2
    have e1 := h.ginj _ _ (Jor.nx_lt hol) (Jor.pv_lt hc) h2.1
    have e2 := h.ginj _ _ (Jor.pv_lt hol) (Jor.nx_lt hc) h2.2
    have := (opp_iff hE hc).2 ⟨hol, by unfold edgeN; rw [e1, e2]⟩
    rw [ho] at this
    omega
theorem Iso.inTris (h : Iso T T' φ g) {L : List Nat} (hL : ∀ d ∈ L, d < 3 * T.length) {o : Nat} (ho : o < 3 * T.length) : φ o / 3 ∈ trisOf (L.map φ) ↔ o / 3 ∈ trisOf L := by
  unfold trisOf
  rw [List.mem_map, List.mem_map]
  constructor
  · rintro ⟨d', hd', e⟩
    obtain ⟨d, hd, rfl⟩ := List.mem_map.1 hd'
    exact ⟨d, hd, (h.tri (hL d hd) ho).1 e⟩
  · rintro ⟨d, hd, e⟩
    exact ⟨φ d, List.mem_map.2 ⟨d, hd, rfl⟩, (h.tri (hL d hd) ho).2 e⟩
theorem Iso.ovr (h : Iso T T' φ g) (hE : (T.flatMap edges3).Nodup) (hE' : (T'.flatMap edges3).Nodup) {L : List Nat} (hL : ∀ d ∈ L, d < 3 * T.length) {c : Nat} (hc : c < 3 * T.length) : ovr T' (L.map φ) ((φ c : Nat) : Int) = (ovr T L (c : Int)).map φ := by
  rcases opp_cases T (c : Int) with e | ⟨o, e, ho⟩
  · rw [ovr_none e, ovr_none (h.opp_none hE hc e)]
  · have e' := h.opp hE hE' hc e
    by_cases hm : o / 3 ∈ trisOf L
    · rw [ovr_had e hm, ovr_had e' ((h.inTris hL ho).2 hm)]
    · rw [ovr_add e hm, ovr_add e' (fun hm' => hm ((h.inTris hL ho).1 hm')), List.map_append]
      rfl
theorem Iso.rtF (h : Iso T T' φ g) (hE : (T.flatMap edges3).Nodup) (hE' : (T'.flatMap edges3).Nodup) : ∀ (n i : Nat) {L : List Nat}, LOk T L → rtF T' n i (L.map φ) = (rtF T n i L).map φ
  | 0, _, _, _ => rfl
  | n + 1, i, L, hL => by
    unfold Proofs.Ytpnkhgjjlionnaa.rtF
    rw [List.getElem?_map]
    cases hd : L[i]? with
    | none => rfl
    | some d =>
      have hdl := hL.lt d (List.mem_of_getElem? hd)
      have h1 := h.ovr hE hE' hL.lt (Jor.nx_lt hdl)
      have h2 := h.ovr hE hE' (hL.ovr (Jor.nx d : Nat)).lt (Jor.pv_lt hdl)
      simp only [Option.map_some]
      rw [← h.nx d hdl, ← h.pv hdl, h1, h2]
      exact Iso.rtF h hE hE' n (i + 1) ((hL.ovr _).ovr _)
theorem Iso.rtL (h : Iso T T' φ g) (hE : (T.flatMap edges3).Nodup) (hE' : (T'.flatMap edges3).Nodup) {c : Nat} (hc : c < 3 * T.length) : rtL T' (φ c) = (rtL T c).map φ := by
  unfold Proofs.Ytpnkhgjjlionnaa.rtL
  have h1 := h.ovr hE hE' (L := [c]) (fun d hd => by rw [List.mem_singleton.1 hd]; exact hc) hc
  rw [h.len]
  have h2 : ([c] : List Nat).map φ = [φ c] := rfl
  rw [← h2, h1]
  exact h.rtF hE hE' _ _ ((LOk.one hc).ovr _)
/-- Old numbers that are a corner's each. -/
def VOk (T : List Tr) (old : List Int) : Prop := ∀ u ∈ old, ∃ d, d < 3 * T.length ∧ u = vertN T d
theorem VOk.add {old : List Int} (hv : VOk T old) {c : Nat} (hc : c < 3 * T.length) : VOk T (addV old (vertN T c)) := fun u hu => by
  rcases addV_in hu with h | h
  · exact hv u h
  · exact ⟨c, hc, h⟩
theorem Iso.addV (h : Iso T T' φ g) {old : List Int} (hv : VOk T old) {c : Nat} (hc : c < 3 * T.length) : addV (old.map g) (g (vertN T c)) = (addV old (vertN T c)).map g := by
  unfold Proofs.Ytpnkhgjjlionnaa.addV
  by_cases hm : vertN T c ∈ old
  · rw [if_pos hm, if_pos (List.mem_map.2 ⟨_, hm, rfl⟩)]
  · rw [if_neg hm, if_neg (fun hm' => by
      obtain ⟨u, hu, e⟩ := List.mem_map.1 hm'
      obtain ⟨d, hd, rfl⟩ := hv u hu
      exact hm (by rw [← h.ginj _ _ hd hc e]; exact hu)), List.map_append]
    rfl
theorem Iso.spot (h : Iso T T' φ g) : ∀ {old : List Int} (_ : VOk T old) {c : Nat} (_ : c < 3 * T.length), spot (old.map g) (g (vertN T c)) = spot old (vertN T c)
  | [], _, _, _ => rfl
  | a :: old, hv, c, hc => by
    simp only [List.map_cons, Proofs.Ytpnkhgjjlionnaa.spot]
    obtain ⟨d, hd, e⟩ := hv a (List.mem_cons_self ..)
    by_cases e2 : a = vertN T c
    · rw [if_pos e2, if_pos (by rw [e2])]
    · rw [if_neg e2, if_neg (fun e3 => e2 (by rw [e] at e3 ⊢; exact h.ginj _ _ hd hc e3)), Iso.spot h (fun u hu => hv u (List.mem_cons_of_mem _ hu)) hc]
theorem Iso.numT (h : Iso T T' φ g) {old : List Int} (hv : VOk T old) {d : Nat} (hd : d < 3 * T.length) : numT T' (old.map g) (φ d) = (numT T old d).map g ∧ triT T' (old.map g) (φ d) = triT T old d ∧ VOk T (numT T old d) := by
  have v1 := hv.add hd
  have v2 := v1.add (Jor.nx_lt hd)
  have v3 := v2.add (Jor.pv_lt hd)
  have a1 := h.addV hv hd
  have a2 := h.addV v1 (Jor.nx_lt hd)
  have a3 := h.addV v2 (Jor.pv_lt hd)
  have e0 := h.vert d hd
  have e1 := h.vert _ (Jor.nx_lt hd)
  have e2 := h.vert _ (Jor.pv_lt hd)
  rw [h.nx d hd] at e1
  rw [h.pv hd] at e2
  have hn : Proofs.Ytpnkhgjjlionnaa.numT T' (old.map g) (φ d) = (Proofs.Ytpnkhgjjlionnaa.numT T old d).map g := by
    unfold Proofs.Ytpnkhgjjlionnaa.numT
    rw [e0, e1, e2, a1, a2, a3]
  refine ⟨hn, ?_, v3⟩
  unfold triT
  rw [hn]
  rw [e0, e1, e2, a1, a2, h.spot v1 hd, h.spot v2 (Jor.nx_lt hd), h.spot (show VOk T (Proofs.Ytpnkhgjjlionnaa.numT T old d) from v3) (Jor.pv_lt hd)]
theorem Iso.numL (h : Iso T T' φ g) : ∀ (L : List Nat) (s : List Int × List Tr), (∀ d ∈ L, d < 3 * T.length) → VOk T s.1 → numL T' (L.map φ) (s.1.map g, s.2) = ((numL T L s).1.map g, (numL T L s).2)
  | [], _, _, _ => rfl
  | d :: r, s, hL, hv => by
    obtain ⟨h1, h2, h3⟩ := h.numT hv (hL d (List.mem_cons_self ..))
    simp only [List.map_cons, Proofs.Ytpnkhgjjlionnaa.numL]
    rw [h1, h2]
    exact Iso.numL h r (Proofs.Ytpnkhgjjlionnaa.numT T s.1 d, s.2 ++ [triT T s.1 d]) (fun x hx => hL x (List.mem_cons_of_mem _ hx)) h3
/-- What a shell is from a corner. -/
theorem Iso.rtN (h : Iso T T' φ g) (hE : (T.flatMap edges3).Nodup) (hE' : (T'.flatMap edges3).Nodup) {c : Nat} (hc : c < 3 * T.length) : rtN T' (φ c) = ((rtN T c).1.map g, (rtN T c).2) := by
  unfold Proofs.Ytpnkhgjjlionnaa.rtN
  rw [h.rtL hE hE' hc]
  exact h.numL (Proofs.Ytpnkhgjjlionnaa.rtL T c) ([], []) (LOk.rtL hc).lt (fun u hu => by cases hu)
theorem Iso.row (h : Iso T T' φ g) (hE : (T.flatMap edges3).Nodup) (hE' : (T'.flatMap edges3).Nodup) {c : Nat} (hc : c < 3 * T.length) : rowC T' [] [] (φ c) = rowC T [] [] c := by
  show rowM ((Proofs.Ytpnkhgjjlionnaa.rtN T' (φ c)).1.length : Int) (Proofs.Ytpnkhgjjlionnaa.rtN T' (φ c)).2 ++ _ = rowM ((Proofs.Ytpnkhgjjlionnaa.rtN T c).1.length : Int) (Proofs.Ytpnkhgjjlionnaa.rtN T c).2 ++ _
  rw [h.rtN hE hE' hc]
  simp only [List.length_map]
  rfl
end
end Go.Proofs.Ytpnkhgjjlionnaa
namespace Go.Proofs.Ytpnkhgjjlionnaa
open Go.RowKit

theorem cmpL_le_trans : ∀ {a b c : List Int}, cmpL a b ≤ 0 → cmpL b c ≤ 0 → cmpL a c ≤ 0
  | [], _, [], _, _ => by simp [cmpL]
  | [], _, _ :: _, _, _ => by simp [cmpL]
  | _ :: _, [], _, h, _ => by simp [cmpL] at h
  | _ :: _, _ :: _, [], _, h => by simp [cmpL] at h
  | x :: xs, y :: ys, z :: zs, h1, h2 => by
    simp only [cmpL] at h1 h2 ⊢
    by_cases a1 : x < y
    · rw [if_pos a1] at h1
      by_cases a2 : y < z
      · rw [if_pos (by omega)]; omega
      · rw [if_neg a2] at h2
        by_cases a3 : z < y
        · rw [if_pos a3] at h2; omega
        · rw [if_pos (by omega)]; omega
    · rw [if_neg a1] at h1
      by_cases a4 : y < x
      · rw [if_pos a4] at h1; omega
      · rw [if_neg a4] at h1
        by_cases a2 : y < z
        · rw [if_pos (by omega)]; omega
        · rw [if_neg a2] at h2
          by_cases a3 : z < y
          · rw [if_pos a3] at h2; omega
          · rw [if_neg a3] at h2
            rw [if_neg (by omega), if_neg (by omega)]
            exact cmpL_le_trans h1 h2
theorem cmpL_eq : ∀ {a b : List Int}, cmpL a b = 0 → a = b
  | [], [], _ => rfl
  | [], _ :: _, h => by simp [cmpL] at h
  | _ :: _, [], h => by simp [cmpL] at h
  | x :: xs, y :: ys, h => by
    simp only [cmpL] at h
    by_cases h1 : x < y
    · rw [if_pos h1] at h
      omega
    · rw [if_neg h1] at h
      by_cases h2 : y < x
      · rw [if_pos h2] at h
        omega
      · rw [if_neg h2] at h
        rw [show x = y from by omega, cmpL_eq h]
theorem cmpL_antisymm {a b : List Int} (h1 : cmpL a b ≤ 0) (h2 : cmpL b a ≤ 0) : a = b := by
  have := cmpL_anti a b
  exact cmpL_eq (by omega)
/-! Parts. -/
theorem Reach.trans {T : List Tr} {i j k : Nat} (h1 : Reach T i j) (h2 : Reach T j k) : Reach T i k := fun S s0 sc => h2 S (h1 S s0 sc) sc
theorem Reach.symm {T : List Tr} (hE : (T.flatMap edges3).Nodup) {i j : Nat} (h : Reach T i j) : Reach T j i :=
  h (fun x => Reach T x i) (Reach.refl T i) (fun c o hc ho hs => by
    have h1 : Reach T (o / 3) (c / 3) := (Reach.refl T (o / 3)).step (opp_some hc ho).1 (opp_back hE hc ho)
    exact h1.trans hs)
theorem Shl.first {T : List Tr} {out : List Int} (h : Shl T out) : ∀ j, j < T.length → ∃ f, f ≤ j ∧ at_ out f = at_ out j ∧ Reach T f j ∧ ∀ i, i < f → at_ out i < at_ out f := by
  intro j
  induction j using Nat.strongRecOn with
  | ind j ih =>
    intro hj
    rcases h.new j hj with ⟨i, hi, e, hr⟩ | ⟨h1, -⟩
    · obtain ⟨f, hf, e2, hr2, h3⟩ := ih i hi (by omega)
      exact ⟨f, by omega, e2.trans e, hr2.trans hr, h3⟩
    · exact ⟨j, Nat.le_refl _, rfl, Reach.refl T j, h1⟩
theorem Shl.iff {T : List Tr} {out : List Int} (h : Shl T out) (hE : (T.flatMap edges3).Nodup) {i j : Nat} (hi : i < T.length) (hj : j < T.length) : at_ out i = at_ out j ↔ Reach T i j := by
  refine ⟨fun e => ?_, h.reach⟩
  obtain ⟨f, -, e1, r1, m1⟩ := h.first i hi
  obtain ⟨f', -, e2, r2, m2⟩ := h.first j hj
  have : f = f' := by
    rcases Nat.lt_trichotomy f f' with hlt | e3 | hlt
    · have := m2 f hlt; omega
    · exact e3
    · have := m1 f' hlt; omega
  subst this
  exact (r1.symm hE).trans r2
section
variable {T T' : List Tr} {φ : Nat → Nat} {g : Int → Int}
theorem Iso.reach (h : Iso T T' φ g) (hE : (T.flatMap edges3).Nodup) (hE' : (T'.flatMap edges3).Nodup) {c d : Nat} (_hc : c < 3 * T.length) (hd : d < 3 * T.length) (hr : Reach T (c / 3) (d / 3)) : Reach T' (φ c / 3) (φ d / 3) := by
  refine hr (fun x => ∀ e, e < 3 * T.length → e / 3 = x → Reach T' (φ c / 3) (φ e / 3)) (fun e he e3 => ?_) (fun e o he ho hs u hu u3 => ?_) d hd rfl
  · rw [(h.tri he _hc).2 e3]
    exact Reach.refl _ _
  · have h1 := hs e he rfl
    have ho' := h.opp hE hE' he ho
    have h2 := h1.step (by rw [h.len]; exact h.lt e he) ho'
    have hol := (opp_some he ho).1
    rw [(h.tri hu hol).2 u3]
    exact h2
theorem Iso.reach_back (h : Iso T T' φ g) (hE : (T.flatMap edges3).Nodup) (hE' : (T'.flatMap edges3).Nodup) {c d : Nat} (hc : c < 3 * T.length) (hd : d < 3 * T.length) (hr : Reach T' (φ c / 3) (φ d / 3)) : Reach T (c / 3) (d / 3) := by
  have hF : T'.length = T.length := h.len
  refine hr (fun x => ∀ u, u < 3 * T.length → φ u / 3 = x → Reach T (c / 3) (u / 3)) (fun u hu u3 => ?_) (fun q o hq ho hS u hu u3 => ?_) d hd rfl
  · rw [(h.tri hu hc).1 u3]
    exact Reach.refl _ _
  · rw [hF] at hq
    obtain ⟨v, hv, rfl⟩ := h.surj hq
    have h1 := hS v hv rfl
    obtain ⟨ho1, ho2⟩ := opp_some (by rw [hF]; exact h.lt v hv) ho
    rw [hF] at ho1
    obtain ⟨o', hol, rfl⟩ := h.surj ho1
    have h2 : oppI T (v : Int) = (o' : Int) := by
      rcases opp_cases T (v : Int) with e9 | ⟨o9, e9, h9⟩
      · have := h.opp_none hE hv e9
        rw [ho] at this
        omega
      · have := h.opp hE hE' hv e9
        rw [ho] at this
        have : o' = o9 := h.inj _ _ hol h9 (by omega)
        rw [e9, this]
    rw [(h.tri hu hol).1 u3]
    exact h1.step hv h2
/-- The inverse. -/
theorem Iso.back (h : Iso T T' φ g) : ∃ ψ : Nat → Nat, (∀ d, d < 3 * T.length → ψ d < 3 * T.length ∧ φ (ψ d) = d) ∧ (∀ c, c < 3 * T.length → ψ (φ c) = c) := by
  have key : ∀ d, ∃ c, d < 3 * T.length → c < 3 * T.length ∧ φ c = d := fun d => by
    by_cases hd : d < 3 * T.length
    · obtain ⟨c, h1, h2⟩ := h.surj hd
      exact ⟨c, fun _ => ⟨h1, h2⟩⟩
    · exact ⟨0, fun hh => absurd hh hd⟩
  obtain ⟨ψ, hψ⟩ := Classical.axiomOfChoice key
  exact ⟨ψ, hψ, fun c hc => h.inj _ _ (hψ _ (h.lt c hc)).1 hc (hψ _ (h.lt c hc)).2⟩
end
/-! The best corner of a part is the least. -/
theorem pickC_le {rw_ : Nat → List Int} {o : Option Nat} {c d : Nat} (h : pickC rw_ o c = some d) : cmpL (rw_ d) (rw_ c) ≤ 0 ∧ ∀ e, o = some e → cmpL (rw_ d) (rw_ e) ≤ 0 := by
  unfold pickC at h
  split at h
  · injection h with h
    subst h
    exact ⟨by rw [cmpL_self]; omega, fun e he => by cases he⟩
  · rename_i d'
    split at h
    · injection h with h
      subst h
      rename_i hlt
      exact ⟨by rw [cmpL_self]; omega, fun e he => by cases he; omega⟩
    · injection h with h
      subst h
      rename_i hlt
      refine ⟨by have := cmpL_anti (rw_ c) (rw_ d'); omega, fun e he => by cases he; rw [cmpL_self]; omega⟩
theorem bestN_le {rw_ : Nat → List Int} {out : List Int} {n : Nat} : ∀ {k d : Nat}, bestN rw_ out n k = some d → ∀ c, c < k → at_ out (c / 3) = (n : Int) → cmpL (rw_ d) (rw_ c) ≤ 0
  | 0, _, _, _, hc, _ => by omega
  | k + 1, d, h, c, hc, hn => by
    rw [bestN_succ] at h
    by_cases e : at_ out (k / 3) = (n : Int)
    · rw [if_pos e] at h
      obtain ⟨h1, h2⟩ := pickC_le h
      by_cases ek : c = k
      · subst ek
        exact h1
      · have hs := bestN_isSome (rw_ := rw_) (out := out) (n := n) (k := k) (c := c) (by omega) hn
        obtain ⟨e', he'⟩ := Option.isSome_iff_exists.1 hs
        exact cmpL_le_trans (h2 e' he') (bestN_le he' c (by omega) hn)
    · rw [if_neg e] at h
      exact bestN_le h c (by rcases Nat.lt_or_ge c k with h1 | h1; exact h1; exact absurd (by rw [show k = c from by omega]; exact hn) e) hn
section
variable {T T' : List Tr} {φ : Nat → Nat} {g : Int → Int} {out out' : List Int} {m m' : Nat}
/-- A part's least row is the other one's. -/
theorem Iso.best (h : Iso T T' φ g) (hE : (T.flatMap edges3).Nodup) (hE' : (T'.flatMap edges3).Nodup) (hs : Shl T out) (hs' : Shl T' out') (hp : HasP T out m) (hp' : HasP T' out' m') {n n' : Nat} (hn : n < m) (hn' : n' < m')
    {c : Nat} (hc : c < 3 * T.length) (e : at_ out (c / 3) = (n : Int)) (e' : at_ out' (φ c / 3) = (n' : Int)) : rowC T [] [] (bestC T [] [] out n) = rowC T' [] [] (bestC T' [] [] out' n') := by
  obtain ⟨b1, b2, b3⟩ := bestC_ok (P := []) (K := []) hp hn
  obtain ⟨d1, d2, d3⟩ := bestC_ok (P := []) (K := []) hp' hn'
  generalize bestC T [] [] out n = b at *
  generalize bestC T' [] [] out' n' = d at *
  rw [h.len] at d2
  obtain ⟨a, ha, hda⟩ := h.surj d2
  have hF : T'.length = T.length := h.len
  refine cmpL_antisymm ?_ ?_
  · -- the corner a of T is of part n
    have r1 : Reach T' (φ c / 3) (φ a / 3) := (hs'.iff hE' (by have := h.lt c hc; omega) (by have := h.lt a ha; omega)).1 (by rw [e', hda, d3])
    have hn1 : at_ out (a / 3) = (n : Int) := by
      rw [← hs.reach (h.reach_back hE hE' hc ha r1)]
      exact e
    have h1 := bestN_le b1 a ha hn1
    have h2 := h.row hE hE' ha
    rw [hda] at h2
    rw [h2]
    exact h1
  · have r1 : Reach T (c / 3) (b / 3) := (hs.iff hE (by omega) (by omega)).1 (by rw [e, b3])
    have r2 := h.reach hE hE' hc b2 r1
    have h3 : at_ out' (φ b / 3) = (n' : Int) := by rw [← hs'.reach r2, e']
    have h1 := bestN_le d1 (φ b) (by rw [hF]; exact h.lt b b2) h3
    rw [h.row hE hE' b2] at h1
    exact h1
end
/-! Sorted lists of rows. -/
theorem insB_sorted {α : Type} {lt : α → α → Bool} (htr : ∀ a b c, lt b a = false → lt c b = false → lt c a = false) (hto : ∀ a b, lt a b = true → lt b a = false) {l : List α} {x : α} (h : l.Pairwise fun a b => lt b a = false) : (insB lt l x).Pairwise fun a b => lt b a = false := by
  unfold insB
  have e : l = (l.reverse.dropWhile (lt x)).reverse ++ (l.reverse.takeWhile (lt x)).reverse := by
    rw [← List.reverse_append, List.takeWhile_append_dropWhile, List.reverse_reverse]
  have h1 : ∀ y ∈ l.reverse.takeWhile (lt x), lt x y = true := fun y hy => by
    have := List.all_takeWhile (p := lt x) (l := l.reverse)
    exact List.all_eq_true.1 this y hy
  generalize hA : (l.reverse.dropWhile (lt x)).reverse = A at *
  generalize hB : (l.reverse.takeWhile (lt x)).reverse = B at *
  have hd : ∀ y ∈ A, lt x y = false := by
    intro y hy
    -- the last of A is not greater; the others are not greater than it
    rcases List.eq_nil_or_concat A with h0 | ⟨A', z, h0⟩
    · rw [h0] at hy; cases hy
    · have hz : lt x z = false := by
        have h2 : l.reverse.dropWhile (lt x) = z :: A'.reverse := by
          rw [← List.reverse_reverse (l.reverse.dropWhile (lt x)), hA, h0]
          simp
        have h3 := List.head?_dropWhile_not (lt x) l.reverse
        rw [h2] at h3
        simpa using h3
      rw [h0] at hy
      rcases List.mem_append.1 (by simpa using hy : y ∈ A' ++ [z]) with hy | hy
      · have hp : (A' ++ [z]).Pairwise fun a b => lt b a = false := by
          have h4 : A.Pairwise fun a b => lt b a = false := by
            rw [e] at h
            exact (List.pairwise_append.1 h).1
          rw [h0] at h4
          simpa using h4
        have h5 := (List.pairwise_append.1 hp).2.2 y hy z (by simp)
        exact htr y z x h5 hz
      · rw [List.mem_singleton.1 hy]
        exact hz
  rw [e] at h
  obtain ⟨pA, pB, pAB⟩ := List.pairwise_append.1 h
  refine List.pairwise_append.2 ⟨pA, List.pairwise_cons.2 ⟨fun y hy => ?_, pB⟩, fun a ha b hb => ?_⟩
  · exact hto x y (h1 y (by rw [← hB] at hy; simpa using hy))
  · rcases List.mem_cons.1 hb with rfl | hb
    · exact hd a ha
    · exact pAB a ha b hb
theorem sortB_sorted {α : Type} {lt : α → α → Bool} (htr : ∀ a b c, lt b a = false → lt c b = false → lt c a = false) (hto : ∀ a b, lt a b = true → lt b a = false) (l : List α) : (sortB lt l).Pairwise fun a b => lt b a = false := by
  have key : ∀ (l m : List α), m.Pairwise (fun a b => lt b a = false) → (l.foldl (insB lt) m).Pairwise fun a b => lt b a = false := by
    intro l
    induction l with
    | nil => intro m hm; exact hm
    | cons a r ih => intro m hm; exact ih _ (insB_sorted htr hto hm)
  exact key l [] List.Pairwise.nil
theorem ltR_false {x y : RecM} : ltR y x = false ↔ cmpL x.row y.row ≤ 0 := by
  unfold ltR
  have := cmpL_anti x.row y.row
  simp only [decide_eq_false_iff_not]
  omega
/-- Two rising lists of rows of one content are one. -/
theorem rows_one : ∀ {a b : List (List Int)}, a.Perm b → a.Pairwise (fun x y => cmpL x y ≤ 0) → b.Pairwise (fun x y => cmpL x y ≤ 0) → a = b
  | [], b, h, _, _ => (List.Perm.nil_eq h)
  | x :: a, [], h, _, _ => by have := h.length_eq; simp at this
  | x :: a, y :: b, h, ha, hb => by
    obtain ⟨a1, a2⟩ := List.pairwise_cons.1 ha
    obtain ⟨b1, b2⟩ := List.pairwise_cons.1 hb
    have hxy : x = y := by
      have hx : x ∈ y :: b := h.mem_iff.1 (List.mem_cons_self ..)
      have hy : y ∈ x :: a := h.mem_iff.2 (List.mem_cons_self ..)
      rcases List.mem_cons.1 hx with e | hx
      · exact e
      · rcases List.mem_cons.1 hy with e | hy
        · exact e.symm
        · exact cmpL_antisymm (a1 y hy) (b1 x hx)
    subst hxy
    rw [rows_one (List.Perm.cons_inv h) a2 b2]
theorem flatT_inj : ∀ {a b : List Tr}, flatT a = flatT b → a = b
  | [], [], _ => rfl
  | [], y :: b, h => by simp [flatT] at h
  | x :: a, [], h => by simp [flatT] at h
  | (x1, x2, x3) :: a, (y1, y2, y3) :: b, h => by
    simp only [flatT, List.flatMap_cons, List.cons_append, List.nil_append, List.cons.injEq] at h
    obtain ⟨rfl, rfl, rfl, h⟩ := h
    rw [flatT_inj (a := a) (b := b) (by simpa [flatT] using h)]
theorem row_inj {T T' : List Tr} {c d : Nat} (h : rowC T [] [] c = rowC T' [] [] d) : (fromM T [] [] c).N = (fromM T' [] [] d).N ∧ (fromM T [] [] c).T = (fromM T' [] [] d).T := by
  have h1 : rowM ((rtN T c).1.length : Int) (rtN T c).2 ++ (flatT [] ++ []) = rowM ((rtN T' d).1.length : Int) (rtN T' d).2 ++ (flatT [] ++ []) := h
  have e0 : flatT ([] : List Tr) ++ ([] : List Int) = [] := rfl
  rw [e0, List.append_nil, List.append_nil] at h1
  simp only [rowM, List.cons.injEq] at h1
  exact ⟨h1.1, flatT_inj h1.2.2⟩
theorem cntI_ge {out : List Int} : ∀ (k : Nat), k ≤ out.length → ∀ j, j < k → at_ out j + 1 ≤ cntL (out.take k)
  | 0, _, j, hj => by omega
  | k + 1, hk, j, hj => by
    rw [cntL_take (j := k) (out := out) (by omega)]
    by_cases e : j = k
    · subst e
      omega
    · have := cntI_ge (out := out) k (by omega) j (by omega)
      omega
theorem cntI_lt {out : List Int} {j : Nat} (hj : j < out.length) : at_ out j < cntL out := by
  have := cntI_ge out.length (Nat.le_refl _) j hj
  rw [List.take_length] at this
  omega
section
variable {T T' : List Tr} {φ : Nat → Nat} {g : Int → Int} {out out' : List Int} {m m' : Nat}
/-- The parts' least rows, as a whole. -/
theorem Iso.rows (h : Iso T T' φ g) (hE : (T.flatMap edges3).Nodup) (hE' : (T'.flatMap edges3).Nodup) (hs : Shl T out) (hs' : Shl T' out') (hm : (m : Int) = cntL out) (hm' : (m' : Int) = cntL out') :
    ((recsM T [] [] out m).map RecM.row).Perm ((recsM T' [] [] out' m').map RecM.row) := by
  have hp := hs.hasP hm
  have hp' := hs'.hasP hm'
  have hF : T'.length = T.length := h.len
  obtain ⟨ψ, p1, p2⟩ := h.back
  -- a corner of each part, and its part over there
  have hc : ∀ n, n < m → bestC T [] [] out n < 3 * T.length ∧ at_ out (bestC T [] [] out n / 3) = (n : Int) := fun n hn => (bestC_ok (P := []) (K := []) hp hn).2
  have hc' : ∀ n, n < m' → bestC T' [] [] out' n < 3 * T.length ∧ at_ out' (bestC T' [] [] out' n / 3) = (n : Int) := fun n hn => by
    have := (bestC_ok (P := []) (K := []) hp' hn).2
    rw [hF] at this
    exact this
  have hσ : ∀ n, n < m → ∃ k : Nat, k < m' ∧ at_ out' (φ (bestC T [] [] out n) / 3) = (k : Int) := fun n hn => by
    have h1 := h.lt _ (hc n hn).1
    have h2 := hs'.nn (φ (bestC T [] [] out n) / 3) (by omega)
    have h3 := cntI_lt (out := out') (j := φ (bestC T [] [] out n) / 3) (by rw [hs'.len]; omega)
    exact ⟨(at_ out' (φ (bestC T [] [] out n) / 3)).toNat, by omega, by omega⟩
  have key : ∀ n, ∃ k : Nat, n < m → k < m' ∧ at_ out' (φ (bestC T [] [] out n) / 3) = (k : Int) := fun n => by
    by_cases hn : n < m
    · obtain ⟨k, h1⟩ := hσ n hn
      exact ⟨k, fun _ => h1⟩
    · exact ⟨0, fun hh => absurd hh hn⟩
  obtain ⟨σ, sσ⟩ := Classical.axiomOfChoice key
  have e1 : (recsM T [] [] out m).map RecM.row = ((List.range m).map σ).map fun k => rowC T' [] [] (bestC T' [] [] out' k) := by
    unfold recsM
    rw [List.map_map, List.map_map]
    refine List.map_congr_left fun n hn => ?_
    have hn' := List.mem_range.1 hn
    exact h.best hE hE' hs hs' hp hp' hn' (sσ n hn').1 (hc n hn').1 (hc n hn').2 (sσ n hn').2
  have e2 : (recsM T' [] [] out' m').map RecM.row = (List.range m').map fun k => rowC T' [] [] (bestC T' [] [] out' k) := by
    unfold recsM
    rw [List.map_map]
    rfl
  rw [e1, e2]
  refine List.Perm.map _ ((List.perm_ext_iff_of_nodup ?_ List.nodup_range).2 fun k => ?_)
  · rw [List.nodup_iff_pairwise_ne, List.pairwise_map]
    refine List.Pairwise.imp_of_mem ?_ (List.nodup_iff_pairwise_ne.1 List.nodup_range)
    intro a b ha hb hab e
    have ha' := List.mem_range.1 ha
    have hb' := List.mem_range.1 hb
    -- same part over there, so the same part here
    have r1 : Reach T' (φ (bestC T [] [] out a) / 3) (φ (bestC T [] [] out b) / 3) := (hs'.iff hE' (by have := h.lt _ (hc a ha').1; omega) (by have := h.lt _ (hc b hb').1; omega)).1 (by rw [(sσ a ha').2, (sσ b hb').2, e])
    have r2 := h.reach_back hE hE' (hc a ha').1 (hc b hb').1 r1
    have := hs.reach r2
    rw [(hc a ha').2, (hc b hb').2] at this
    exact hab (by omega)
  · rw [List.mem_map, List.mem_range]
    constructor
    · rintro ⟨n, hn, rfl⟩
      exact (sσ n (List.mem_range.1 hn)).1
    · intro hk
      obtain ⟨q1, q2⟩ := hc' k hk
      obtain ⟨a1, a2⟩ := p1 _ q1
      have h1 := hs.nn (ψ (bestC T' [] [] out' k) / 3) (by omega)
      have h2 := cntI_lt (out := out) (j := ψ (bestC T' [] [] out' k) / 3) (by rw [hs.len]; omega)
      obtain ⟨n, hn⟩ : ∃ n : Nat, at_ out (ψ (bestC T' [] [] out' k) / 3) = (n : Int) := ⟨(at_ out (ψ (bestC T' [] [] out' k) / 3)).toNat, by omega⟩
      have hnm : n < m := by omega
      refine ⟨n, List.mem_range.2 hnm, ?_⟩
      have r1 : Reach T (bestC T [] [] out n / 3) (ψ (bestC T' [] [] out' k) / 3) := (hs.iff hE (by have := (hc n hnm).1; omega) (by omega)).1 (by rw [(hc n hnm).2, hn])
      have r2 := h.reach hE hE' (hc n hnm).1 a1 r1
      have := hs'.reach r2
      rw [a2, (sσ n hnm).2, q2] at this
      omega
theorem joinRows {l l' : List RecM} (h : l.map (fun r => (r.N, r.T)) = l'.map (fun r => (r.N, r.T))) : joinM (soupsM l) = joinM (soupsM l') := by
  unfold soupsM
  rw [h]
/-- The form does not hang on numbers. -/
theorem Iso.form (h : Iso T T' φ g) (hE : (T.flatMap edges3).Nodup) (hE' : (T'.flatMap edges3).Nodup) (hs : Shl T out) (hs' : Shl T' out') (hm : (m : Int) = cntL out) (hm' : (m' : Int) = cntL out') :
    joinM (soupsM (sortM T [] [] out m)) = joinM (soupsM (sortM T' [] [] out' m')) := by
  have hp := hs.hasP hm
  have hp' := hs'.hasP hm'
  have hr := h.rows hE hE' hs hs' hm hm'
  have srt : ∀ l : List RecM, ((sortB ltR l).map RecM.row).Pairwise (fun x y => cmpL x y ≤ 0) := fun l => by
    rw [List.pairwise_map]
    refine (sortB_sorted (lt := ltR) ?_ ?_ l).imp (fun {a b} hab => ltR_false.1 hab)
    · intro a b c h1 h2
      exact ltR_false.2 (cmpL_le_trans (ltR_false.1 h1) (ltR_false.1 h2))
    · intro a b h1
      unfold ltR at h1
      have h1 := of_decide_eq_true h1
      have h2 := cmpL_anti a.row b.row
      unfold ltR
      exact decide_eq_false (by omega)
  have hrows : (sortM T [] [] out m).map RecM.row = (sortM T' [] [] out' m').map RecM.row := by
    refine rows_one ?_ (srt _) (srt _)
    exact ((sortB_perm ltR (recsM T [] [] out m)).map RecM.row).trans (hr.trans ((sortB_perm ltR (recsM T' [] [] out' m')).map RecM.row).symm)
  refine joinRows ?_
  apply List.ext_getElem?
  intro k
  have hk := congrArg (fun l => l[k]?) hrows
  simp only [List.getElem?_map] at hk ⊢
  cases ha : (sortM T [] [] out m)[k]? with
  | none =>
    rw [ha] at hk
    cases hb : (sortM T' [] [] out' m')[k]? with
    | none => rfl
    | some y => rw [hb] at hk; simp at hk
  | some x =>
    rw [ha] at hk
    cases hb : (sortM T' [] [] out' m')[k]? with
    | none => rw [hb] at hk; simp at hk
    | some y =>
      rw [hb] at hk
      have hk : x.row = y.row := by simpa using hk
      obtain ⟨c, hc, rfl⟩ := sort_mem hp (List.mem_of_getElem? ha)
      obtain ⟨d, hd, rfl⟩ := sort_mem hp' (List.mem_of_getElem? hb)
      obtain ⟨e1, e2⟩ := row_inj (T := T) (T' := T') (c := c) (d := d) hk
      simp only [Option.map_some, e1, e2]
end
end Go.Proofs.Ytpnkhgjjlionnaa
namespace Go.Proofs.Ytpnkhgjjlionnaa
open Go.RowKit

theorem tris_sub {L M : List Nat} {x : Nat} (h : x ∈ trisOf L) : x ∈ trisOf (L ++ M) := by
  unfold trisOf at *
  rw [List.map_append]
  exact List.mem_append_left _ h
theorem ovr_ext (T : List Tr) (L : List Nat) (c : Int) : ∃ M, ovr T L c = L ++ M := by
  unfold ovr
  split
  · exact ⟨_, rfl⟩
  · exact ⟨[], by simp⟩
/-- Behind a step over c who is across is there. -/
theorem ovr_in {T : List Tr} {L : List Nat} {c : Int} {o : Nat} (ho : oppI T c = (o : Int)) : o / 3 ∈ trisOf (ovr T L c) := by
  by_cases hm : o / 3 ∈ trisOf L
  · rw [ovr_had ho hm]
    exact hm
  · rw [ovr_add ho hm]
    unfold trisOf
    simp
theorem ovr_mem {T : List Tr} {L : List Nat} {c : Nat} {d : Nat} (h : d ∈ ovr T L (c : Int)) : d ∈ L ∨ oppI T (c : Int) = (d : Int) := by
  rcases opp_cases T (c : Int) with e | ⟨o, e, ho⟩
  · rw [ovr_none e] at h
    exact .inl h
  · by_cases hm : o / 3 ∈ trisOf L
    · rw [ovr_had e hm] at h
      exact .inl h
    · rw [ovr_add e hm] at h
      rcases List.mem_append.1 h with h | h
      · exact .inl h
      · rw [List.mem_singleton.1 h]
        exact .inr e
structure BfsI (T : List Tr) (c i : Nat) (L : List Nat) : Prop where
  le : i ≤ L.length
  hd : L[0]? = some c
  gate : ∀ o : Nat, oppI T (c : Int) = (o : Int) → o / 3 ∈ trisOf L
  done : ∀ k d, k < i → L[k]? = some d → ∀ o : Nat, oppI T ((Jor.nx d : Nat) : Int) = (o : Int) ∨ oppI T ((Jor.pv d : Nat) : Int) = (o : Int) → o / 3 ∈ trisOf L
  came : ∀ d ∈ L, d = c ∨ ∃ e : Nat, e < 3 * T.length ∧ e / 3 ∈ trisOf L ∧ oppI T (e : Int) = (d : Int)
theorem BfsI.mono {T : List Tr} {c i : Nat} {L : List Nat} (h : BfsI T c i L) {e : Nat} (he : e < 3 * T.length) (he3 : e / 3 ∈ trisOf L) : BfsI T c i (ovr T L (e : Int)) := by
  obtain ⟨M, hM⟩ := ovr_ext T L (e : Int)
  have sub : ∀ x, x ∈ trisOf L → x ∈ trisOf (ovr T L (e : Int)) := fun x hx => by rw [hM]; exact tris_sub hx
  have hlen : 0 < L.length := (List.getElem?_eq_some_iff.1 h.hd).1
  refine ⟨by rw [hM, List.length_append]; have := h.le; omega, ?_, fun o ho => sub _ (h.gate o ho), fun k d hk hd o ho => ?_, fun d hd => ?_⟩
  · rw [hM, List.getElem?_append_left hlen]
    exact h.hd
  · have hkl : k < L.length := Nat.lt_of_lt_of_le hk h.le
    rw [hM, List.getElem?_append_left hkl] at hd
    exact sub _ (h.done k d hk hd o ho)
  · rcases ovr_mem hd with hd | hd
    · rcases h.came d hd with e1 | ⟨e1, e2, e3, e4⟩
      · exact .inl e1
      · exact .inr ⟨e1, e2, sub _ e3, e4⟩
    · exact .inr ⟨e, he, sub _ he3, hd⟩
theorem BfsI.step {T : List Tr} {c i d : Nat} {L : List Nat} (h : BfsI T c i L) (hL : LOk T L) (hd : L[i]? = some d) : BfsI T c (i + 1) (ovr T (ovr T L ((Jor.nx d : Nat) : Int)) ((Jor.pv d : Nat) : Int)) := by
  have hdm := List.mem_of_getElem? hd
  have hdl := hL.lt d hdm
  have h3 : d / 3 ∈ trisOf L := List.mem_map.2 ⟨d, hdm, rfl⟩
  have n3 : Jor.nx d / 3 = d / 3 := by unfold Jor.nx; omega
  have p3 : Jor.pv d / 3 = d / 3 := by unfold Jor.pv; omega
  obtain ⟨M1, hM1⟩ := ovr_ext T L ((Jor.nx d : Nat) : Int)
  have h1 := h.mono (Jor.nx_lt hdl) (by rw [n3]; exact h3)
  have h2 := h1.mono (Jor.pv_lt hdl) (by rw [p3, hM1]; exact tris_sub h3)
  obtain ⟨M2, hM2⟩ := ovr_ext T (ovr T L ((Jor.nx d : Nat) : Int)) ((Jor.pv d : Nat) : Int)
  have hil := (List.getElem?_eq_some_iff.1 hd).1
  have hil2 : i < (ovr T L ((Jor.nx d : Nat) : Int)).length := by rw [hM1, List.length_append]; omega
  refine ⟨by rw [hM2, List.length_append]; omega, h2.hd, h2.gate, fun k d' hk hd' o ho => ?_, h2.came⟩
  by_cases hki : k = i
  · subst hki
    have e1 : d' = d := by
      rw [hM2, List.getElem?_append_left hil2, hM1, List.getElem?_append_left hil, hd] at hd'
      exact (Option.some.inj hd').symm
    subst e1
    rcases ho with ho | ho
    · rw [hM2]
      exact tris_sub (ovr_in ho)
    · exact ovr_in ho
  · exact h2.done k d' (by omega) hd' o ho
theorem BfsI.start {T : List Tr} {c : Nat} (hc : c < 3 * T.length) : BfsI T c 0 (ovr T [c] (c : Int)) := by
  obtain ⟨M, hM⟩ := ovr_ext T [c] (c : Int)
  refine ⟨Nat.zero_le _, by rw [hM]; rfl, fun o ho => ovr_in ho, fun k d hk => by omega, fun d hd => ?_⟩
  rcases ovr_mem hd with hd | hd
  · exact .inl (List.mem_singleton.1 hd)
  · exact .inr ⟨c, hc, by rw [hM]; unfold trisOf; simp, hd⟩
theorem BfsI.rtF {T : List Tr} {c : Nat} : ∀ (n i : Nat) {L : List Nat}, BfsI T c i L → LOk T L → T.length + 1 ≤ n + i → BfsI T c (rtF T n i L).length (rtF T n i L)
  | 0, i, L, h, hL, hn => by
    have h1 := hL.len
    have := h.le
    omega
  | n + 1, i, L, h, hL, hn => by
    cases hd : L[i]? with
    | none =>
      have h1 : L.length ≤ i := List.getElem?_eq_none_iff.1 hd
      rw [rtF_end h1]
      have := h.le
      rw [show L.length = i from by omega]
      exact h
    | some d =>
      rw [rtF_at hd]
      exact BfsI.rtF n (i + 1) (h.step hL hd) ((hL.ovr _).ovr _) (by omega)
/-- The shell of a corner: nobody across from it is left out. -/
theorem rtL_closed {T : List Tr} (hE : (T.flatMap edges3).Nodup) {c : Nat} (hc : c < 3 * T.length) {e o : Nat} (he : e < 3 * T.length) (ho : oppI T (e : Int) = (o : Int)) (h3 : e / 3 ∈ trisOf (rtL T c)) : o / 3 ∈ trisOf (rtL T c) := by
  have hB := BfsI.rtF (T := T) (c := c) (T.length + 1) 0 (BfsI.start hc) ((LOk.one hc).ovr _) (by omega)
  have e0 : rtF T (T.length + 1) 0 (ovr T [c] (c : Int)) = rtL T c := rfl
  rw [e0] at hB
  obtain ⟨d, hd, d3⟩ := List.mem_map.1 h3
  obtain ⟨k, hk, hdk⟩ := List.getElem_of_mem hd
  have hdk' : (rtL T c)[k]? = some d := by rw [List.getElem?_eq_getElem hk, hdk]
  rcases same_tri.1 d3 with e1 | e1 | e1
  · subst e1
    rcases hB.came e hd with e2 | ⟨u, u1, u2, u3⟩
    · subst e2
      exact hB.gate o ho
    · have := opp_back hE u1 u3
      rw [ho] at this
      have : o = u := by omega
      rw [this]
      exact u2
  · subst e1
    exact hB.done k d hk hdk' o (.inl ho)
  · subst e1
    exact hB.done k d hk hdk' o (.inr ho)
theorem rtL_head {T : List Tr} {c : Nat} (hc : c < 3 * T.length) : (rtL T c)[0]? = some c := by
  have hB := BfsI.rtF (T := T) (c := c) (T.length + 1) 0 (BfsI.start hc) ((LOk.one hc).ovr _) (by omega)
  exact hB.hd
/-- .. each triangle of the part is there. -/
theorem rtL_all {T : List Tr} (hE : (T.flatMap edges3).Nodup) {c : Nat} (hc : c < 3 * T.length) {j : Nat} (hr : Reach T (c / 3) j) : j ∈ trisOf (rtL T c) :=
  hr (fun x => x ∈ trisOf (rtL T c)) (List.mem_map.2 ⟨c, List.mem_of_getElem? (rtL_head hc), rfl⟩) (fun _e _o he ho hs => rtL_closed hE hc he ho hs)
end Go.Proofs.Ytpnkhgjjlionnaa
namespace Go.Proofs.Ytpnkhgjjlionnaa
open Go.RowKit

section
variable {T T' T'' : List Tr} {φ φ' : Nat → Nat} {g g' : Int → Int}
theorem Iso.refl (T : List Tr) : Iso T T id id := ⟨rfl, fun _ h => h, fun _ _ _ _ h => h, fun _ _ => rfl, fun _ _ => rfl, fun _ _ _ _ h => h⟩
theorem Iso.trans (h : Iso T T' φ g) (h' : Iso T' T'' φ' g') : Iso T T'' (fun c => φ' (φ c)) (fun v => g' (g v)) := by
  have e := h.len
  refine ⟨h'.len.trans h.len, fun c hc => ?_, fun c d hc hd he => ?_, fun c hc => ?_, fun c hc => ?_, fun c d hc hd he => ?_⟩
  · have := h'.lt (φ c) (by rw [e]; exact h.lt c hc)
    rw [e] at this
    exact this
  · exact h.inj _ _ hc hd (h'.inj _ _ (by rw [e]; exact h.lt c hc) (by rw [e]; exact h.lt d hd) he)
  · show φ' (φ (Jor.nx c)) = Jor.nx (φ' (φ c))
    rw [h.nx c hc, h'.nx _ (by rw [e]; exact h.lt c hc)]
  · show vertN T'' (φ' (φ c)) = g' (g (vertN T c))
    rw [h'.vert _ (by rw [e]; exact h.lt c hc), h.vert c hc]
  · refine h.ginj c d hc hd ?_
    rw [← h.vert c hc, ← h.vert d hd]
    refine h'.ginj _ _ (by rw [e]; exact h.lt c hc) (by rw [e]; exact h.lt d hd) ?_
    rw [h.vert c hc, h.vert d hd]
    exact he
theorem Iso.symm (h : Iso T T' φ g) : ∃ ψ f, Iso T' T ψ f := by
  obtain ⟨ψ, p1, p2⟩ := h.back
  have key : ∀ v : Int, ∃ u : Int, ∀ c, c < 3 * T.length → g (vertN T c) = v → u = vertN T c := fun v => by
    by_cases hv : ∃ c, c < 3 * T.length ∧ g (vertN T c) = v
    · obtain ⟨c, hc, e⟩ := hv
      exact ⟨vertN T c, fun d hd e2 => h.ginj _ _ hc hd (e.trans e2.symm)⟩
    · exact ⟨0, fun c hc e => absurd ⟨c, hc, e⟩ hv⟩
  obtain ⟨f, hf⟩ := Classical.axiomOfChoice key
  have hv : ∀ c, c < 3 * T.length → vertN T (ψ c) = f (vertN T' c) := fun c hc => by
    obtain ⟨a1, a2⟩ := p1 c hc
    refine (hf _ (ψ c) a1 ?_).symm
    rw [← h.vert _ a1, a2]
  have e := h.len
  refine ⟨ψ, f, ⟨e.symm, fun c hc => ?_, fun c d hc hd he => ?_, fun c hc => ?_, fun c hc => ?_, fun c d hc hd he => ?_⟩⟩
  · rw [e] at hc ⊢
    exact (p1 c hc).1
  · rw [e] at hc hd
    rw [← (p1 c hc).2, ← (p1 d hd).2, he]
  · rw [e] at hc
    obtain ⟨a1, a2⟩ := p1 c hc
    obtain ⟨b1, b2⟩ := p1 (Jor.nx c) (Jor.nx_lt hc)
    refine h.inj _ _ b1 (Jor.nx_lt a1) ?_
    rw [b2, h.nx _ a1, a2]
  · rw [e] at hc
    exact hv c hc
  · rw [e] at hc hd
    rw [← hv c hc, ← hv d hd] at he
    obtain ⟨a1, a2⟩ := p1 c hc
    obtain ⟨b1, b2⟩ := p1 d hd
    have h1 := h.vert _ a1
    have h2 := h.vert _ b1
    rw [a2] at h1
    rw [b2] at h2
    rw [h1, h2, he]
end
/-- One but for numbers. -/
def Alike (T T' : List Tr) : Prop := ∃ φ g, Iso T T' φ g
theorem Alike.refl (T : List Tr) : Alike T T := ⟨id, id, Iso.refl T⟩
theorem Alike.symm {T T' : List Tr} (h : Alike T T') : Alike T' T := by
  obtain ⟨φ, g, h⟩ := h
  exact h.symm
theorem Alike.trans {T T' T'' : List Tr} (h : Alike T T') (h' : Alike T' T'') : Alike T T'' := by
  obtain ⟨φ, g, h⟩ := h
  obtain ⟨φ', g', h'⟩ := h'
  exact ⟨_, _, h.trans h'⟩

/-! The form, as one list of corners and one of vertices. -/
/-- One corner of each part. -/
structure Reps (T : List Tr) (out : List Int) (cs : List Nat) : Prop where
  lt : ∀ c ∈ cs, c < 3 * T.length
  nd : cs.Pairwise fun c d => at_ out (c / 3) ≠ at_ out (d / 3)
  all : ∀ j, j < T.length → ∃ c ∈ cs, at_ out (c / 3) = at_ out j
def crnL (T : List Tr) (cs : List Nat) : List Nat := cs.flatMap (rtL T)
def vrtL (T : List Tr) (cs : List Nat) : List Int := cs.flatMap fun c => (rtN T c).1
theorem perm_map_inv {α β : Type} (f : α → β) : ∀ {l l' : List β}, l.Perm l' → ∀ xs : List α, l' = xs.map f → ∃ ys : List α, ys.Perm xs ∧ l = ys.map f := by
  intro l l' h
  induction h with
  | nil => intro xs e; exact ⟨[], by cases xs with | nil => exact List.Perm.refl _ | cons a r => simp at e, rfl⟩
  | cons x _ ih =>
    intro xs e
    cases xs with
    | nil => simp at e
    | cons a r =>
      simp only [List.map_cons, List.cons.injEq] at e
      obtain ⟨ys, h1, h2⟩ := ih r e.2
      exact ⟨a :: ys, h1.cons a, by rw [List.map_cons, ← h2, e.1]⟩
  | swap x y l =>
    intro xs e
    cases xs with
    | nil => simp at e
    | cons a r =>
      cases r with
      | nil => simp at e
      | cons b r =>
        simp only [List.map_cons, List.cons.injEq] at e
        exact ⟨b :: a :: r, List.Perm.swap a b r, by rw [List.map_cons, List.map_cons, ← e.1, ← e.2.1, ← e.2.2]⟩
  | trans _ _ ih1 ih2 =>
    intro xs e
    obtain ⟨ys, h1, h2⟩ := ih2 xs e
    obtain ⟨zs, h3, h4⟩ := ih1 ys h2
    exact ⟨zs, h3.trans h1, h4⟩
theorem sort_reps {T : List Tr} {out : List Int} {m : Nat} (h : Shl T out) (hm : (m : Int) = cntL out) : ∃ cs, sortM T [] [] out m = cs.map (fromM T [] []) ∧ Reps T out cs := by
  have hp := h.hasP hm
  have hb : ∀ n, n < m → bestC T [] [] out n < 3 * T.length ∧ at_ out (bestC T [] [] out n / 3) = (n : Int) := fun n hn => (bestC_ok (P := []) (K := []) hp hn).2
  obtain ⟨cs, h1, h2⟩ := perm_map_inv (fromM T [] []) (sortB_perm ltR (recsM T [] [] out m)) ((List.range m).map (bestC T [] [] out)) (by unfold recsM; rw [List.map_map]; rfl)
  refine ⟨cs, h2, fun c hc => ?_, ?_, fun j hj => ?_⟩
  · obtain ⟨n, hn, rfl⟩ := List.mem_map.1 (h1.mem_iff.1 hc)
    exact (hb n (List.mem_range.1 hn)).1
  · have hq : ((List.range m).map (bestC T [] [] out)).Pairwise fun c d => at_ out (c / 3) ≠ at_ out (d / 3) := by
      rw [List.pairwise_map]
      refine List.Pairwise.imp_of_mem ?_ (List.nodup_iff_pairwise_ne.1 List.nodup_range)
      intro a b ha hb' hab e
      rw [(hb a (List.mem_range.1 ha)).2, (hb b (List.mem_range.1 hb')).2] at e
      exact hab (by omega)
    exact (h1.pairwise_iff (fun {a b} hab => fun e => hab e.symm)).2 hq
  · have h3 := h.nn j hj
    have h4 := cntI_lt (out := out) (j := j) (by rw [h.len]; exact hj)
    obtain ⟨n, hn⟩ : ∃ n : Nat, at_ out j = (n : Int) := ⟨(at_ out j).toNat, by omega⟩
    have hnm : n < m := by omega
    exact ⟨bestC T [] [] out n, h1.mem_iff.2 (List.mem_map.2 ⟨n, List.mem_range.2 hnm, rfl⟩), by rw [(hb n hnm).2, hn]⟩
/-- Who has a vertex, and is of a part: no vertex is of two parts. -/
theorem rtN_part {N : Int} {T : List Tr} {out : List Int} (hS : Surf N T) (h : Shl T out) {c : Nat} (hc : c < 3 * T.length) {u : Int} (hu : u ∈ (rtN T c).1) {d : Nat} (hd : d < 3 * T.length) (e : vertN T d = u) : at_ out (d / 3) = at_ out (c / 3) := by
  rcases numL_in T _ _ u hu with h1 | ⟨q, hq, h1⟩
  · cases h1
  · have hql := (LOk.rtL hc).lt q hq
    have hp := rtL_part h hc q hq
    have n3 : Jor.nx q / 3 = q / 3 := by unfold Jor.nx; omega
    have p3 : Jor.pv q / 3 = q / 3 := by unfold Jor.pv; omega
    rw [← hp]
    rcases h1 with h1 | h1 | h1
    · exact shl_vert hS h hql hd (by rw [e, h1])
    · rw [← n3]
      exact shl_vert hS h (Jor.nx_lt hql) hd (by rw [e, h1])
    · rw [← p3]
      exact shl_vert hS h (Jor.pv_lt hql) hd (by rw [e, h1])
theorem spotT_pre {F : List Int} {T : List Tr} {d : Nat} (M : List Int) (h1 : vertN T d ∈ F) (h2 : vertN T (Jor.nx d) ∈ F) (h3 : vertN T (Jor.pv d) ∈ F) : spotT (F ++ M) T d = spotT F T d := by
  unfold spotT
  rw [spot_mem M h1, spot_mem M h2, spot_mem M h3]
theorem spot_off : ∀ {F : List Int} {v : Int} (_ : v ∉ F) (M : List Int), spot (F ++ M) v = F.length + spot M v
  | [], _, _, _ => by simp
  | a :: F, v, h, M => by
    simp only [List.cons_append, spot, List.length_cons]
    rw [if_neg (fun e => h (by rw [e]; exact List.mem_cons_self ..)), spot_off (fun hm => h (List.mem_cons_of_mem _ hm)) M]
    omega
theorem spotT_off {F M : List Int} {T : List Tr} {d : Nat} (h1 : vertN T d ∉ F) (h2 : vertN T (Jor.nx d) ∉ F) (h3 : vertN T (Jor.pv d) ∉ F) : spotT (F ++ M) T d = shT F.length (spotT M T d) := by
  unfold spotT shT
  rw [spot_off h1, spot_off h2, spot_off h3]
  simp only [Prod.mk.injEq]
  refine ⟨?_, ?_, ?_⟩ <;> omega
/-- The parts, joined: the triangles of the list of corners, in the numbers of the list of vertices. -/
theorem join_reps {N : Int} {T : List Tr} {out : List Int} (hS : Surf N T) (h : Shl T out) : ∀ {cs : List Nat}, (∀ c ∈ cs, c < 3 * T.length) → (cs.Pairwise fun c d => at_ out (c / 3) ≠ at_ out (d / 3)) →
    joinM (soupsM (cs.map (fromM T [] []))) = (((vrtL T cs).length : Int), (crnL T cs).map (spotT (vrtL T cs) T)) ∧ (vrtL T cs).Nodup ∧ (∀ d ∈ crnL T cs, vertN T d ∈ vrtL T cs ∧ vertN T (Jor.nx d) ∈ vrtL T cs ∧ vertN T (Jor.pv d) ∈ vrtL T cs) := by
  intro cs
  -- from the front to the back
  have key : ∀ (n : Nat) (cs : List Nat), cs.length = n → (∀ c ∈ cs, c < 3 * T.length) → (cs.Pairwise fun c d => at_ out (c / 3) ≠ at_ out (d / 3)) →
      joinM (soupsM (cs.map (fromM T [] []))) = (((vrtL T cs).length : Int), (crnL T cs).map (spotT (vrtL T cs) T)) ∧ (vrtL T cs).Nodup ∧ (∀ d ∈ crnL T cs, vertN T d ∈ vrtL T cs ∧ vertN T (Jor.nx d) ∈ vrtL T cs ∧ vertN T (Jor.pv d) ∈ vrtL T cs) := by
    intro n
    induction n with
    | zero =>
      intro cs hn _ _
      rw [List.eq_nil_of_length_eq_zero hn]
      exact ⟨rfl, List.nodup_nil, fun d hd => by cases hd⟩
    | succ n ih =>
      intro cs hn hlt hnd
      rcases List.eq_nil_or_concat cs with h0 | ⟨pre, c, h0⟩
      · rw [h0] at hn; simp at hn
      · have h0 : cs = pre ++ [c] := by simpa using h0
        subst h0
        obtain ⟨p1, p2, p3⟩ := List.pairwise_append.1 hnd
        have hc : c < 3 * T.length := hlt c (by simp)
        have hpl : ∀ x ∈ pre, x < 3 * T.length := fun x hx => hlt x (List.mem_append_left _ hx)
        obtain ⟨i1, i2, i3⟩ := ih pre (by simp at hn; omega) hpl p1
        have ev : vrtL T (pre ++ [c]) = vrtL T pre ++ (rtN T c).1 := by simp [vrtL]
        have ec : crnL T (pre ++ [c]) = crnL T pre ++ rtL T c := by simp [crnL]
        -- no vertex of the new part is among the old ones
        have hdis : ∀ d, d < 3 * T.length → at_ out (d / 3) = at_ out (c / 3) → vertN T d ∉ vrtL T pre := by
          intro d hd hp hm
          obtain ⟨x, hx, hm⟩ := List.mem_flatMap.1 hm
          have := rtN_part hS h (hpl x hx) hm hd rfl
          exact p3 x hx c (by simp) (by rw [← this, hp])
        have hdisN : ∀ d ∈ rtL T c, vertN T d ∉ vrtL T pre ∧ vertN T (Jor.nx d) ∉ vrtL T pre ∧ vertN T (Jor.pv d) ∉ vrtL T pre := by
          intro d hd
          have hdl := (LOk.rtL hc).lt d hd
          have hp := rtL_part h hc d hd
          have n3 : Jor.nx d / 3 = d / 3 := by unfold Jor.nx; omega
          have q3 : Jor.pv d / 3 = d / 3 := by unfold Jor.pv; omega
          exact ⟨hdis d hdl hp, hdis _ (Jor.nx_lt hdl) (by rw [n3]; exact hp), hdis _ (Jor.pv_lt hdl) (by rw [q3]; exact hp)⟩
        rw [ev, ec]
        refine ⟨?_, ?_, ?_⟩
        · have e1 : soupsM ((pre ++ [c]).map (fromM T [] [])) = soupsM (pre.map (fromM T [] [])) ++ [(((rtN T c).1.length : Int), (rtN T c).2)] := by
            unfold soupsM
            rw [List.map_append, List.map_append]
            rfl
          have e2 : ∀ (l : List (Int × List Tr)) x, joinM (l ++ [x]) = joinS (joinM l) x := fun l x => by unfold joinM; rw [List.foldl_append]; rfl
          rw [e1, e2, i1]
          unfold joinS
          simp only [List.length_append, List.map_append, Prod.mk.injEq]
          refine ⟨by omega, ?_⟩
          congr 1
          · refine List.map_congr_left fun d hd => ?_
            obtain ⟨a1, a2, a3⟩ := i3 d hd
            exact (spotT_pre _ a1 a2 a3).symm
          · rw [rtN_spot, List.map_map]
            refine List.map_congr_left fun d hd => ?_
            obtain ⟨a1, a2, a3⟩ := hdisN d hd
            exact (spotT_off a1 a2 a3).symm
        · rw [List.nodup_append]
          refine ⟨i2, rtN_nodup T c, fun a ha b hb e => ?_⟩
          subst e
          obtain ⟨d, hd, e⟩ := rtN_in hc hb
          have := rtN_part hS h hc hb hd e.symm
          exact hdis d hd this (by rw [← e]; exact ha)
        · intro d hd
          rcases List.mem_append.1 hd with hd | hd
          · obtain ⟨a1, a2, a3⟩ := i3 d hd
            exact ⟨List.mem_append_left _ a1, List.mem_append_left _ a2, List.mem_append_left _ a3⟩
          · obtain ⟨a1, a2, a3⟩ := rtN_mem hd
            exact ⟨List.mem_append_right _ a1, List.mem_append_right _ a2, List.mem_append_right _ a3⟩
  exact fun hlt hnd => key cs.length cs rfl hlt hnd
/-- Each triangle has one corner in the list. -/
theorem crn_tris {T : List Tr} (hE : (T.flatMap edges3).Nodup) {out : List Int} (h : Shl T out) {cs : List Nat} (hr : Reps T out cs) : (trisOf (crnL T cs)).Nodup ∧ (∀ j, j ∈ trisOf (crnL T cs) ↔ j < T.length) ∧ ∀ d ∈ crnL T cs, d < 3 * T.length := by
  have hlt : ∀ d ∈ crnL T cs, d < 3 * T.length := fun d hd => by
    obtain ⟨c, hc, hd⟩ := List.mem_flatMap.1 hd
    exact (LOk.rtL (hr.lt c hc)).lt d hd
  refine ⟨?_, fun j => ⟨fun hj => ?_, fun hj => ?_⟩, hlt⟩
  · obtain ⟨h1, h2, -⟩ := hr
    clear hlt
    induction cs with
    | nil => exact List.nodup_nil
    | cons c cs ih =>
      obtain ⟨q1, q2⟩ := List.pairwise_cons.1 h2
      have e : crnL T (c :: cs) = rtL T c ++ crnL T cs := by simp [crnL]
      rw [e]
      unfold trisOf at ih ⊢
      rw [List.map_append, List.nodup_append]
      refine ⟨(LOk.rtL (h1 c (List.mem_cons_self ..))).nd, ih (fun x hx => h1 x (List.mem_cons_of_mem _ hx)) q2, fun a ha b hb e2 => ?_⟩
      subst e2
      obtain ⟨d, hd, rfl⟩ := List.mem_map.1 ha
      obtain ⟨d', hd', e3⟩ := List.mem_map.1 hb
      obtain ⟨x, hx, hd'⟩ := List.mem_flatMap.1 hd'
      have r1 := rtL_part h (h1 c (List.mem_cons_self ..)) d hd
      have r2 := rtL_part h (h1 x (List.mem_cons_of_mem _ hx)) d' hd'
      rw [e3, r1] at r2
      exact q1 x hx r2
  · obtain ⟨d, hd, rfl⟩ := List.mem_map.1 hj
    have := hlt d hd
    omega
  · obtain ⟨c, hc, e⟩ := hr.all j hj
    have hcl := hr.lt c hc
    have h1 := rtL_all hE hcl ((h.iff hE (by omega) hj).1 e)
    obtain ⟨d, hd, e2⟩ := List.mem_map.1 h1
    exact List.mem_map.2 ⟨d, List.mem_flatMap.2 ⟨c, hc, hd⟩, e2⟩
theorem nodup_idx {l : List Nat} (h : l.Nodup) {i j x : Nat} (hi : l[i]? = some x) (hj : l[j]? = some x) : i = j := by
  obtain ⟨q1, q2⟩ := List.getElem?_eq_some_iff.1 hi
  obtain ⟨q3, q4⟩ := List.getElem?_eq_some_iff.1 hj
  have hp := List.pairwise_iff_getElem.1 (List.nodup_iff_pairwise_ne.1 h)
  rcases Nat.lt_trichotomy i j with h1 | h1 | h1
  · exact absurd (q2.trans q4.symm) (hp i j q1 q3 h1)
  · exact h1
  · exact absurd (q4.trans q2.symm) (hp j i q3 q1 h1)
/-- The k-th corner of a triangle, from one of its corners on. -/
def turnN (k d : Nat) : Nat := if k = 0 then d else if k = 1 then Jor.nx d else Jor.pv d
theorem turnN_tri (k d : Nat) : turnN k d / 3 = d / 3 := by
  unfold turnN Jor.nx Jor.pv
  split
  · rfl
  · split <;> omega
theorem turnN_inj {k j d : Nat} (hk : k < 3) (hj : j < 3) (h : turnN k d = turnN j d) : k = j := by
  unfold turnN Jor.nx Jor.pv at h
  split at h <;> split at h <;> (try split at h) <;> (try split at h) <;> omega
/-- A surface and its form are one but for numbers. -/
theorem form_iso {N : Int} {T : List Tr} {out : List Int} (hS : Surf N T) (h : Shl T out) {cs : List Nat} (hr : Reps T out cs) :
    Iso ((crnL T cs).map (spotT (vrtL T cs) T)) T (fun i => turnN (i % 3) ((crnL T cs).getD (i / 3) 0)) (fun v => (vrtL T cs).getD v.toNat 0) := by
  obtain ⟨c1, c2, c3⟩ := crn_tris hS.twice h hr
  obtain ⟨-, -, j3⟩ := join_reps hS h (cs := cs) hr.lt hr.nd
  have hlen : (crnL T cs).length = T.length := by
    have hp : (trisOf (crnL T cs)).Perm (List.range T.length) := (List.perm_ext_iff_of_nodup c1 List.nodup_range).2 (fun j => by rw [c2 j, List.mem_range])
    have := hp.length_eq
    simpa [trisOf] using this
  obtain ⟨D, hD⟩ : ∃ D, crnL T cs = D := ⟨_, rfl⟩
  obtain ⟨O, hO⟩ : ∃ O, vrtL T cs = O := ⟨_, rfl⟩
  rw [hD] at c1 c2 c3 j3 hlen ⊢
  rw [hO] at j3 ⊢
  have hml : (D.map (spotT O T)).length = T.length := by rw [List.length_map, hlen]
  have hgt : ∀ i, i < 3 * T.length → ∃ d, D[i / 3]? = some d ∧ D.getD (i / 3) 0 = d ∧ d < 3 * T.length ∧ d ∈ D := fun i hi => by
    have hl : i / 3 < D.length := by omega
    refine ⟨D[i / 3], List.getElem?_eq_getElem hl, by simp [List.getD, List.getElem?_eq_getElem hl], c3 _ (List.getElem_mem hl), List.getElem_mem hl⟩
  -- the vertices of the form's corners
  have hv : ∀ i, i < 3 * T.length → ∃ u, u ∈ O ∧ vertN T (turnN (i % 3) (D.getD (i / 3) 0)) = u ∧ vertN (D.map (spotT O T)) i = ((spot O u : Nat) : Int) := fun i hi => by
    obtain ⟨d, e1, e2, e3, e4⟩ := hgt i hi
    obtain ⟨a1, a2, a3⟩ := j3 d e4
    have ht : triAt (D.map (spotT O T)) i = spotT O T d := by
      unfold triAt
      simp [e1]
    rw [e2]
    rcases (by omega : i % 3 = 0 ∨ i % 3 = 1 ∨ i % 3 = 2) with hm | hm | hm
    · refine ⟨vertN T d, a1, by rw [hm]; rfl, ?_⟩
      unfold vertN
      rw [if_pos hm, ht]
      rfl
    · refine ⟨vertN T (Jor.nx d), a2, by rw [hm]; rfl, ?_⟩
      unfold vertN
      rw [if_neg (by omega), if_pos hm, ht]
      rfl
    · refine ⟨vertN T (Jor.pv d), a3, by rw [hm]; rfl, ?_⟩
      unfold vertN
      rw [if_neg (by omega), if_neg (by omega), ht]
      rfl
  have hgv : ∀ i, i < 3 * T.length → O.getD (vertN (D.map (spotT O T)) i).toNat 0 = vertN T (turnN (i % 3) (D.getD (i / 3) 0)) := fun i hi => by
    obtain ⟨u, h1, h2, h3⟩ := hv i hi
    rw [h2, h3, Int.toNat_natCast]
    have := spot_at h1
    simp [List.getD, this]
  refine ⟨hml.symm, fun i hi => ?_, fun i j hi hj e => ?_, fun i hi => ?_, fun i hi => ?_, fun i j hi hj e => ?_⟩
  · rw [hml] at hi ⊢
    obtain ⟨d, -, e2, e3, -⟩ := hgt i hi
    have := turnN_tri (i % 3) (D.getD (i / 3) 0)
    rw [e2] at this ⊢
    omega
  · rw [hml] at hi hj
    obtain ⟨d, d1, d2, d3, -⟩ := hgt i hi
    obtain ⟨b, b1, b2, b3, -⟩ := hgt j hj
    simp only [d2, b2] at e
    have h3 : d / 3 = b / 3 := by rw [← turnN_tri (i % 3) d, e, turnN_tri]
    have hij : i / 3 = j / 3 := by
      have e1 : (trisOf D)[i / 3]? = some (d / 3) := by unfold trisOf; rw [List.getElem?_map, d1]; rfl
      have e2 : (trisOf D)[j / 3]? = some (d / 3) := by unfold trisOf; rw [List.getElem?_map, b1, h3]; rfl
      exact nodup_idx c1 e1 e2
    have hdb : d = b := by
      rw [hij, b1] at d1
      exact (Option.some.inj d1).symm
    subst hdb
    have := turnN_inj (Nat.mod_lt _ (by decide)) (Nat.mod_lt _ (by decide)) e
    omega
  · rw [hml] at hi
    obtain ⟨d, d1, d2, d3, -⟩ := hgt i hi
    have n3 : Jor.nx i / 3 = i / 3 := by unfold Jor.nx; omega
    simp only [n3, d2]
    rcases (by omega : i % 3 = 0 ∨ i % 3 = 1 ∨ i % 3 = 2) with hm | hm | hm
    · have e : Jor.nx i % 3 = 1 := by unfold Jor.nx; omega
      rw [hm, e]
      rfl
    · have e : Jor.nx i % 3 = 2 := by unfold Jor.nx; omega
      rw [hm, e]
      exact (Jor.nx_nx d).symm
    · have e : Jor.nx i % 3 = 0 := by unfold Jor.nx; omega
      rw [hm, e]
      exact (Jor.nx_pv d).symm
  · rw [hml] at hi
    exact (hgv i hi).symm
  · rw [hml] at hi hj
    have e' : O.getD (vertN (D.map (spotT O T)) i).toNat 0 = O.getD (vertN (D.map (spotT O T)) j).toNat 0 := e
    rw [hgv i hi, hgv j hj] at e'
    obtain ⟨u, u1, u2, u3⟩ := hv i hi
    obtain ⟨v, v1, v2, v3⟩ := hv j hj
    rw [u3, v3, ← u2, ← v2, e']
/-- Two surfaces have one form just if they are one but for numbers. -/
theorem form_iff {N N' : Int} {T T' : List Tr} {out out' : List Int} {m m' : Nat} (hS : Surf N T) (hS' : Surf N' T') (hs : Shl T out) (hs' : Shl T' out') (hm : (m : Int) = cntL out) (hm' : (m' : Int) = cntL out') :
    joinM (soupsM (sortM T [] [] out m)) = joinM (soupsM (sortM T' [] [] out' m')) ↔ Alike T T' := by
  constructor
  · intro e
    obtain ⟨cs, e1, r1⟩ := sort_reps hs hm
    obtain ⟨cs', e1', r1'⟩ := sort_reps hs' hm'
    have i1 := form_iso hS hs r1
    have i1' := form_iso hS' hs' r1'
    have j1 := (join_reps hS hs (cs := cs) r1.lt r1.nd).1
    have j1' := (join_reps hS' hs' (cs := cs') r1'.lt r1'.nd).1
    rw [e1, e1', j1, j1'] at e
    simp only [Prod.mk.injEq] at e
    rw [e.2] at i1
    exact (Alike.symm ⟨_, _, i1⟩).trans ⟨_, _, i1'⟩
  · rintro ⟨φ, g, h⟩
    exact h.form hS.twice hS'.twice hs hs' hm hm'
end Go.Proofs.Ytpnkhgjjlionnaa
