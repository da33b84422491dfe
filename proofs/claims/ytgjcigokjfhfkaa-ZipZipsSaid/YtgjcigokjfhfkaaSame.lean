/-
  gypsumref23.Same, by walking its text.
-/
import Derived.Test.YtgjcigokjfhfkaaZipIs
namespace Go.Proofs.Ytgjcigokjfhfkaa
open Go.RowKit Go.Maps

theorem triCells_get {T : List Tr} : ∀ {k : Nat} (hk : k < T.length), (triCells T)[k * 3]? = some (.int .i64 T[k].1) ∧ (triCells T)[k * 3 + 1]? = some (.int .i64 T[k].2.1) ∧ (triCells T)[k * 3 + 2]? = some (.int .i64 T[k].2.2) := by
  induction T with
  | nil => intro k hk; simp at hk
  | cons t r ih =>
    intro k hk
    have e : triCells (t :: r) = [.int .i64 t.1, .int .i64 t.2.1, .int .i64 t.2.2] ++ triCells r := by simp [triCells]
    rw [e]
    cases k with
    | zero => simp
    | succ k =>
      have := ih (k := k) (by simpa using hk)
      rw [List.getElem?_append_right (by simp; omega), List.getElem?_append_right (by simp; omega), List.getElem?_append_right (by simp; omega)]
      simp only [List.length_cons, List.length_nil, List.getElem_cons_succ]
      rw [show (k + 1) * 3 - (0 + 1 + 1 + 1) = k * 3 from by omega, show (k + 1) * 3 + 1 - (0 + 1 + 1 + 1) = k * 3 + 1 from by omega, show (k + 1) * 3 + 2 - (0 + 1 + 1 + 1) = k * 3 + 2 from by omega]
      exact this
/-- Triangles lie at v. -/
def TrisAt (w : World) (v : Value) (T : List Tr) : Prop := ∃ base, w.ownsRow base 57 3 v T.length (triCells T)
theorem TrisAt.below {w w' : World} {v : Value} {T : List Tr} (h : TrisAt w v T) (hb : Below w.heap.size w w') : TrisAt w' v T := by
  obtain ⟨base, h⟩ := h
  refine ⟨base, h.kept (grown_of_below hb none) ?_⟩
  cases v.ownBlock <;> simp
theorem TrisAt.alloc {w : World} {v : Value} {T : List Tr} (h : TrisAt w v T) (o : Obj) : TrisAt (w.alloc o) v T := by
  obtain ⟨base, h⟩ := h
  exact ⟨base, h.alloc o⟩
theorem TrisAt.nil (w : World) : TrisAt w (.slice none 0 0) [] := ⟨0, World.ownsRow_nil _ _ _ _⟩
theorem TrisAt.form {w : World} {v : Value} {T : List Tr} (h : TrisAt w v T) : ∃ a c, v = .slice a T.length c ∧ T.length ≤ c ∧ c ≤ 9223372036854775807 := by
  obtain ⟨base, h⟩ := h
  exact row_form h
theorem TrisAt.cell {w : World} {a : Option Addr} {n c : Nat} {T : List Tr} (h : TrisAt w (.slice a n c) T) (hn : T.length = n) {k : Nat} (hk : k < n) :
    ∃ g x y z, a = some ⟨g, 0, none⟩ ∧ g < w.heap.size ∧ T[k]? = some (x, y, z) ∧ w.cell? ⟨g, k * 3, none⟩ = some (.int .i64 x) ∧ w.cell? ⟨g, k * 3 + 1, none⟩ = some (.int .i64 y) ∧ w.cell? ⟨g, k * 3 + 2, none⟩ = some (.int .i64 z) := by
  obtain ⟨base, h⟩ := h
  subst hn
  obtain ⟨n, hn⟩ : ∃ n, T.length = n + 1 := ⟨T.length - 1, by omega⟩
  have h' := h
  rw [hn] at h'
  obtain ⟨g, c', e⟩ := ownsRow_succ h'
  cases e
  obtain ⟨t1, t2, t3⟩ := triCells_get hk
  rw [← hn] at h'
  have hl : ∀ j, j < T.length * 3 → w.cell? ⟨g, j, none⟩ = (triCells T)[j]? := fun j hj => h'.cellAt j hj
  exact ⟨g, T[k].1, T[k].2.1, T[k].2.2, rfl, (h.lt g rfl).2, List.getElem?_eq_getElem hk, by rw [hl _ (by omega), t1], by rw [hl _ (by omega), t2], by rw [hl _ (by omega), t3]⟩

set_option maxRecDepth 100000 in
set_option maxHeartbeats 2000000 in
theorem same_any (N1 N2 : Int) (v1 v2 : Value) (T1 T2 : List Tr) (w : World) (h1 : TrisAt w v1 T1) (h2 : TrisAt w v2 T2) (hl1 : T1.length ≤ 1000000) (hl2 : T2.length ≤ 1000000) (B : Bool) (hB0 : B = true ↔ N1 = N2 ∧ T1 = T2) :
    Calls Try.prog 26 #[.agg #[.int .i64 N1, v1], .agg #[.int .i64 N2, v2]] w fun e w' => e = .returned (.bool B) ∧ Below w.heap.size w w' := by
  obtain ⟨a1, c1, rfl, k1, l1⟩ := h1.form
  obtain ⟨a2, c2, rfl, k2, l2⟩ := h2.form
  have b1 := (Blk.new w 42 #[.int .i64 N1, .slice a1 T1.length c1]).alloc (.cells #[.int .i64 N2, .slice a2 T2.length c2] 42)
  have b2 := Blk.new (w.alloc (.cells #[.int .i64 N1, .slice a1 T1.length c1] 42)) 42 #[.int .i64 N2, .slice a2 T2.length c2]
  rw [size_alloc'] at b2
  have hB : Below w.heap.size w ((w.alloc (.cells #[.int .i64 N1, .slice a1 T1.length c1] 42)).alloc (.cells #[.int .i64 N2, .slice a2 T2.length c2] 42)) := ((Below.refl _ _).alloc (Nat.le_refl _) _).alloc (by simp) _
  have t1 := (h1.alloc (.cells #[.int .i64 N1, .slice a1 T1.length c1] 42)).alloc (.cells #[.int .i64 N2, .slice a2 T2.length c2] 42)
  have t2 := (h2.alloc (.cells #[.int .i64 N1, .slice a1 T1.length c1] 42)).alloc (.cells #[.int .i64 N2, .slice a2 T2.length c2] 42)
  have B1 := Lib.hid b1
  have B2 := Lib.hid b2
  have HB := Lib.hid hB
  have E1 := Lib.hid t1
  have E2 := Lib.hid t2
  have q3 := @eq3
  clear b1 b2 hB t1 t2 h1 h2
  by_cases hN : N1 = N2
  · subst hN
    by_cases hL : T1.length = T2.length
    · obtain ⟨n, hn2⟩ : ∃ n, T2.length = n := ⟨_, rfl⟩
      rw [hn2] at hL
      rw [hn2] at B1 B2 HB k2 hl2 E1 E2 ⊢
      rw [hL] at B1 B2 HB k1 hl1 E1 E2 ⊢
      have HB0 := Lib.hid hB0
      have HL1 := Lib.hid hL
      have HL2 := Lib.hid hn2
      clear hB0 hL hn2
      obtain ⟨-, x0, -, x1, -⟩ := B1.out.two
      obtain ⟨-, y0, -, y1, -⟩ := B2.out.two
      go_enter Try.func26, Try.ntmps26
      go_wp2
      clear x0 x1 y0 y1
      generalize hW : (w.alloc (.cells #[.int .i64 N1, .slice a1 n c1] 42)).alloc (.cells #[.int .i64 N1, .slice a2 n c2] 42) = W at *
      clear hW
      go_loopw [5] (fun i wr => ∃ k : Nat, k ≤ n ∧ i = .int .i64 k ∧ (∀ j, j < k → T1[j]? = T2[j]?) ∧ Below W.heap.size W wr) (fun i _ => n - (intOf i).toNat)
      case atStart => exact ⟨0, by omega, rfl, fun j hj => by omega, Below.refl _ _⟩
      case round =>
        obtain ⟨k, hk, rfl, heq, hb⟩ := hrel
        obtain ⟨-, x0, -, x1, -⟩ := (B1.out.below hb B1.out.lt).two
        obtain ⟨-, y0, -, y1, -⟩ := (B2.out.below hb B2.out.lt).two
        by_cases hlt : k < n
        · obtain ⟨g1, p1, p2, p3, rfl, m1, s0, s1, s2, s3⟩ := (E1.out.below hb).cell HL1.out hlt
          obtain ⟨g2, r1, r2, r3, rfl, m2, u0, u1, u2, u3⟩ := (E2.out.below hb).cell HL2.out hlt
          have hk3 : (k : Int) < (n : Int) := by omega
          have hk0 : (0 : Int) ≤ (k : Int) := by omega
          have S0 := Lib.hid s0
          have U0 := Lib.hid u0
          have Heq := Lib.hid heq
          have HBb := Lib.hid hb
          clear s0 u0 heq hb
          by_cases hp : p1 = r1 ∧ p2 = r2 ∧ p3 = r3
          · obtain ⟨rfl, rfl, rfl⟩ := hp
            go_wp2
            go_region
            go_wp2
            go_roundw
            case measure => simp [intOf]; omega
            case rel =>
              refine ⟨k + 1, by omega, by go_num, fun j hj => ?_, HBb.out.drew⟩
              rcases Nat.lt_or_ge j k with h | h
              · exact Heq.out j h
              · obtain rfl : j = k := by omega
                rw [S0.out, U0.out]
          · have hpb : (p1 == r1 && (p2 == r2 && p3 == r3)) = false := by
              rw [Bool.eq_false_iff]
              intro h
              simp only [Bool.and_eq_true, beq_iff_eq] at h
              exact hp h
            have Hp := Lib.hid hp
            clear hp
            go_wp2
            go_region
            go_wp2
            go_ret
            have : B = false := by
              cases hb : B with
              | false => rfl
              | true =>
                exfalso
                obtain ⟨-, rfl⟩ := HB0.out.1 hb
                have h0 := S0.out
                rw [U0.out] at h0
                simp only [Option.some.injEq, Prod.mk.injEq] at h0
                exact Hp.out ⟨h0.1.symm, h0.2.1.symm, h0.2.2.symm⟩
            rw [this]
            exact ⟨rfl, below_on HB.out HB.out.size HBb.out.drew⟩
        · obtain rfl : k = n := by omega
          have HBb := Lib.hid hb
          have Heq := Lib.hid heq
          clear hb heq
          go_wp2
          go_ret
          have : B = true := by
            rw [HB0.out]
            refine ⟨trivial, List.ext_getElem? fun j => ?_⟩
            rcases Nat.lt_or_ge j k with h | h
            · exact Heq.out j h
            · rw [List.getElem?_eq_none (by have := HL1.out; omega), List.getElem?_eq_none (by have := HL2.out; omega)]
          rw [this]
          exact ⟨rfl, below_on HB.out HB.out.size HBb.out⟩
    · obtain rfl : B = false := by
        cases B
        · rfl
        · exact absurd (hB0.1 rfl).2 (fun e => hL (by rw [e]))
      have hlb : (((T1.length : Nat) : Int) == (T2.length : Int)) = false := by simp; omega
      generalize T1.length = n1 at *
      generalize T2.length = n2 at *
      clear hL hB0
      go_enter Try.func26, Try.ntmps26
      go_wp2
      go_ret
      exact ⟨rfl, HB.out⟩
  · obtain rfl : B = false := by
      cases B
      · rfl
      · exact absurd (hB0.1 rfl).1 hN
    have hnb : (N1 == N2) = false := by simpa using hN
    clear hN hB0
    go_enter Try.func26, Try.ntmps26
    go_wp2
    go_ret
    exact ⟨rfl, HB.out⟩
end Go.Proofs.Ytgjcigokjfhfkaa
