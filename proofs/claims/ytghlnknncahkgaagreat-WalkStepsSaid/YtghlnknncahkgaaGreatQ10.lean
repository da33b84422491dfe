/-
  Texts joined by program: WkOnM WkLpM QuR SimL ArgS.
-/
import Derived.Test.YtghlnknncahkgaaGreatQ7
import Derived.Sort.QuietThIn
import Derived.Sort.BigQuietIn
import Derived.RangeFuncCalls
import Derived.AtR
import Derived.Test.YtghlnknncahkgaaGreatQ9
import Derived.Test.YtghlnknncahkgaaGreatQ8
import Derived.Test.YtghlnknncahkgaaGreatQ1
import Derived.ProofKit
import Derived.WideShapes
import Derived.OpenShut
import Derived.Deep.Slices
import Derived.Lib.SmallJoins
/-
  A walk of a simple surface, in plain words: each vertex once, each triangle once, each next to one gone over; which letters how often; the loops.
-/
namespace Go.Proofs.YtghlnknncahkgaaGreat
open Go.RowKit Go.Maps

variable {n c : Nat} {T : List Tr}
/-- The corners that a walk comes to. -/
def walkC (T : List Tr) (c : Nat) : List Int := (c : Int) :: (stepsM T c).map (·.corner)
def walkV (T : List Tr) (c : Nat) : List Int := (beginS T c).come ++ newV T (stepsM T c)
theorem walk_end (h : Simp n T) (hc : c < 3 * T.length) : ∃ s Xs, Ran T (beginS T c) (stepsM T c) s ∧ s.loop = [] ∧ Gone n T c (stepsM T c) s Xs ∧ Xs = [] := by
  obtain ⟨L, s, R, e⟩ := ends h hc
  have hL := R.steps h hc e
  subst hL
  obtain ⟨Xs, G⟩ := R.gone h hc
  refine ⟨s, Xs, R, e, G, ?_⟩
  cases Xs with
  | nil => rfl
  | cons X W =>
    have h1 := G.rel.loop
    rw [e] at h1
    have h3 := G.inv.len X (List.mem_cons_self ..)
    simp at h1
    rw [h1] at h3
    simp at h3
theorem walk_len (h : Simp n T) (hc : c < 3 * T.length) : (stepsM T c).length + 1 = T.length := by
  obtain ⟨s, Xs, R, e, G, -⟩ := walk_end h hc
  exact (G.lt h).2.1 e
theorem walkV_nodup (h : Simp n T) (hc : c < 3 * T.length) : (walkV T c).Nodup := by
  obtain ⟨s, Xs, R, e, G, -⟩ := walk_end h hc
  have := G.rel.nd
  rw [G.come] at this
  exact this
theorem walkV_rng (h : Simp n T) (hc : c < 3 * T.length) : ∀ v ∈ walkV T c, 0 ≤ v ∧ v < n := by
  obtain ⟨s, Xs, R, e, G, -⟩ := walk_end h hc
  intro v hv
  have hv' : v ∈ s.come := by rw [G.come]; exact hv
  obtain ⟨d, hd, rfl⟩ := G.rel.rng v hv'
  exact vert_rng h.surf hd
theorem walkV_all (h : Simp n T) (hc : c < 3 * T.length) {v : Nat} (hv : v < n) : (v : Int) ∈ walkV T c := by
  obtain ⟨s, Xs, R, e, G, rfl⟩ := walk_end h hc
  obtain ⟨d, h1, h2, h3⟩ := Jor.come_all h.K G.inv (v := v) (by simpa using hv)
  have hr := vert_rng h.surf h1
  have e1 : vertN T d = (v : Int) := by unfold verN at h3; omega
  have := (G.rel.come d h1).2 ⟨d, h1, h2, rfl⟩
  rw [e1, G.come] at this
  exact this
theorem walkV_len (h : Simp n T) (hc : c < 3 * T.length) : (walkV T c).length = n := by
  have h1 := walkV_nodup h hc
  have h2 := walkV_rng h hc
  have hm : ((walkV T c).map Int.toNat).Nodup := by
    refine List.pairwise_map.2 (List.Pairwise.imp_of_mem (fun {a b} ha hb hab => ?_) h1)
    have := h2 a ha
    have := h2 b hb
    omega
  have a := Jor.nodup_le (m := List.range n) hm (fun x hx => by
    obtain ⟨y, hy, rfl⟩ := List.mem_map.1 hx
    have := h2 y hy
    exact List.mem_range.2 (by omega))
  have b := Jor.nodup_le (l := List.range n) (m := (walkV T c).map Int.toNat) List.nodup_range (fun x hx => List.mem_map.2 ⟨x, walkV_all h hc (List.mem_range.1 hx), by simp⟩)
  simp at a b
  omega
theorem dOf_rev (_T : List Tr) (c : Nat) (L : List WStep) : dOf c L = (((c : Int) :: L.map (·.corner)).map fun x => x.toNat / 3).reverse := by
  unfold dOf
  simp [List.map_map, Function.comp_def]
theorem walkC_len (h : Simp n T) (hc : c < 3 * T.length) : (walkC T c).length = T.length := by
  have := walk_len h hc
  simp [walkC]
  exact this
/-- Each corner: of a triangle that is new; across from one gone over. -/
theorem walkC_at (h : Simp n T) (hc : c < 3 * T.length) {i : Nat} (hi : i < T.length) : ∃ d : Nat, (walkC T c)[i]? = some (d : Int) ∧ d < 3 * T.length ∧ d / 3 ∉ ((walkC T c).take i).map (fun x => x.toNat / 3) ∧ (0 < i → oppN T d / 3 ∈ ((walkC T c).take i).map (fun x => x.toNat / 3)) := by
  obtain ⟨s, Xs, R, e, G, -⟩ := walk_end h hc
  have hl := walkC_len h hc
  have hnd : ((walkC T c).map (fun x => x.toNat / 3)).Nodup := by
    have := G.inv.dnd
    rw [dOf_rev T] at this
    exact (List.pairwise_reverse.1 this).imp (fun h e => h e.symm)
  have hd : ∃ d : Nat, (walkC T c)[i]? = some (d : Int) ∧ d < 3 * T.length := by
    cases i with
    | zero => exact ⟨c, rfl, hc⟩
    | succ j =>
      have hj : j < (stepsM T c).length := by have := walk_len h hc; omega
      obtain ⟨d, h1, h2, -⟩ := G.each _ (List.getElem_mem hj)
      exact ⟨d, by simp [walkC, List.getElem?_eq_getElem hj, h1], h2⟩
  obtain ⟨d, h1, h2⟩ := hd
  refine ⟨d, h1, h2, ?_, ?_⟩
  · have hi' : i < (walkC T c).length := by omega
    have e1 : (walkC T c)[i] = (d : Int) := by
      have := List.getElem?_eq_getElem hi'
      rw [h1] at this
      exact (Option.some.inj this).symm
    have e2 : (walkC T c).map (fun x => x.toNat / 3) = ((walkC T c).take i).map (fun x => x.toNat / 3) ++ d / 3 :: ((walkC T c).drop (i + 1)).map (fun x => x.toNat / 3) := by
      have e3 : walkC T c = (walkC T c).take i ++ (walkC T c)[i] :: (walkC T c).drop (i + 1) := by
        rw [← List.drop_eq_getElem_cons hi', List.take_append_drop]
      rw [e1] at e3
      generalize (walkC T c).take i = A at e3
      generalize (walkC T c).drop (i + 1) = B at e3
      rw [e3]
      simp
    rw [e2] at hnd
    have := (List.nodup_append.1 hnd).2.2
    exact fun hm => this _ hm _ (List.mem_cons_self ..) rfl
  · intro h0
    obtain ⟨j, rfl⟩ : ∃ j, i = j + 1 := ⟨i - 1, by omega⟩
    have hj : j < (stepsM T c).length := by have := walk_len h hc; omega
    have hx := List.getElem?_eq_getElem hj
    have e1 : ((stepsM T c)[j]).corner = (d : Int) := by
      simp [walkC, hx] at h1
      exact h1
    have := G.over j _ hx
    rw [e1, dOf_rev T] at this
    simp only [Int.toNat_natCast, List.mem_reverse] at this
    have e4 : (walkC T c).take (j + 1) = (c : Int) :: ((stepsM T c).take j).map (·.corner) := by simp [walkC, List.map_take]
    rw [e4]
    exact this
end Go.Proofs.YtghlnknncahkgaaGreat
/-
  What a walk's loops do, step by step, in plain words.
-/
namespace Go.Proofs.YtghlnknncahkgaaGreat
open Go.RowKit Go.Maps

variable {n c : Nat} {T : List Tr}
theorem ran_inv {s0 s' : WSt} {pre : List WStep} {x : WStep} (R : Ran T s0 (pre ++ [x]) s') : ∃ s, Ran T s0 pre s ∧ stepM T s = some (x, s') := by
  generalize hL : pre ++ [x] = L at R
  cases R with
  | nil => simp at hL
  | @snoc L0 s s' y h1 h2 =>
    obtain ⟨rfl, e⟩ := List.append_inj' hL rfl
    cases e
    exact ⟨s, h1, h2⟩
theorem gone_shape (_h : Simp n T) {L : List WStep} {s : WSt} {Xs : List (List Nat)} (G : Gone n T c L s Xs) : (Xs = [] → s.loop = []) ∧ (Xs ≠ [] → s.loop ≠ [] ∧ s.wait.length + 1 = Xs.length) := by
  cases Xs with
  | nil => exact ⟨fun _ => by simpa using G.rel.loop, fun h => absurd rfl h⟩
  | cons X W =>
    refine ⟨fun h => (by cases h), fun _ => ⟨fun e => ?_, ?_⟩⟩
    · have h1 := G.rel.loop
      rw [e] at h1
      have h3 := G.inv.len X (List.mem_cons_self ..)
      simp at h1
      rw [h1] at h3
      simp at h3
    · rw [G.rel.wait]; simp
theorem loop_next (h : Simp n T) (hc : c < 3 * T.length) {pre : List WStep} {x : WStep} {s' : WSt} (R' : Ran T (beginS T c) (pre ++ [x]) s') :
    ∃ s, Ran T (beginS T c) pre s ∧ s.loop ≠ [] ∧ x.length = s.loop.length ∧ 3 ≤ x.length ∧ x.length ≤ 3 * T.length ∧ x.loops = s.wait.length ∧ x.loops ≤ 3 * T.length ∧ pre.length + 1 ≤ T.length ∧
      ((x.letter = 67 ∧ s'.loop.length = x.length + 1 ∧ s'.wait.length = x.loops ∧ s'.loop ≠ []) ∨ ((x.letter = 76 ∨ x.letter = 82) ∧ s'.loop.length + 1 = x.length ∧ s'.wait.length = x.loops ∧ s'.loop ≠ []) ∨
       (x.letter = 69 ∧ x.length = 3 ∧ (x.loops = 0 → s'.loop = []) ∧ (x.loops ≠ 0 → s'.loop ≠ [] ∧ s'.wait.length + 1 = x.loops)) ∨ (x.letter = 83 ∧ s'.loop ≠ [] ∧ s'.wait.length = x.loops + 1)) := by
  obtain ⟨s, R, hst⟩ := ran_inv R'
  obtain ⟨Xs, G⟩ := R.gone h hc
  have hl : s.loop ≠ [] := by
    intro e
    unfold stepM at hst
    rw [e] at hst
    cases hst
  obtain ⟨y, s2, Xs', h1, G', h2, h3, h4⟩ := G.next h hl
  rw [hst] at h1
  cases h1
  obtain ⟨d, -, -, e1, e2, e3, -⟩ := G'.each x (by simp)
  have g0 := gone_shape h G
  have g1 := gone_shape h G'
  have hX : Xs ≠ [] := fun e => hl (g0.1 e)
  have hX1 := (g0.2 hX).2
  have hlt := (G.lt h).1
  have nonempty : Xs'.length ≠ 0 → Xs' ≠ [] := fun h e => h (by rw [e]; rfl)
  refine ⟨s, R, hl, h3, e1, e2, h2, e3, hlt, ?_⟩
  rcases h4 with ⟨a, b, d⟩ | ⟨a, b, d⟩ | ⟨a, b, d⟩ | ⟨a, b⟩
  · have := g1.2 (nonempty (by omega))
    exact .inl ⟨a, by omega, by omega, this.1⟩
  · refine .inr (.inr (.inl ⟨a, by omega, fun e => ?_, fun e => ?_⟩))
    · exact g1.1 (List.eq_nil_of_length_eq_zero (by omega))
    · have := g1.2 (nonempty (by omega))
      exact ⟨this.1, by omega⟩
  · have := g1.2 (nonempty (by omega))
    exact .inr (.inl ⟨a, by omega, by omega, this.1⟩)
  · have := g1.2 (nonempty (by omega))
    exact .inr (.inr (.inr ⟨a, this.1, by omega⟩))
/-- The law's own tallies fit the walk. -/
def LpSt (T : List Tr) (c : Nat) (pre : List WStep) (len loops : Int) (over : Bool) : Prop :=
  ∀ s, Ran T (beginS T c) pre s → (over = true ↔ s.loop = []) ∧ (over = false → loops = s.wait.length) ∧ (len = 0 ∨ len = s.loop.length)
theorem LpSt.begin_ (T : List Tr) (c : Nat) : LpSt T c [] 3 0 false := by
  intro s R
  obtain ⟨-, rfl⟩ := R.one Ran.nil rfl
  exact ⟨⟨fun h => (by cases h), fun h => (by cases h)⟩, fun _ => rfl, .inr rfl⟩
theorem LpSt.of {pre : List WStep} {len loops : Int} {over : Bool} {s : WSt} (R : Ran T (beginS T c) pre s) (h : (over = true ↔ s.loop = []) ∧ (over = false → loops = s.wait.length) ∧ (len = 0 ∨ len = s.loop.length)) : LpSt T c pre len loops over := by
  intro s2 R2
  obtain ⟨-, rfl⟩ := R2.one R rfl
  exact h
end Go.Proofs.YtghlnknncahkgaaGreat
/-
  A region that only reads, inside a round of a range over a function: one walk of the text's order serves every order.
-/
namespace Go.Proofs.YtghlnknncahkgaaGreat
open Go

/-- Whatever is no defer runs in a round as elsewhere. -/
def plainOp (o : Oper) : Bool := match o.op with
  | .defer _ => false
  | _ => true
theorem plainOp_sem {o : Oper} (h : plainOp o = true) (ro : Option Nat) (ρ : Operand → Value) : o.semAt ro ρ = execOp ρ o :=
  Oper.semAt_eq ro ρ o (fun c e => by unfold plainOp at h; rw [e] at h; cases h)
section
variable {F : Fence} {n : Nat} {P : Program} {ops : Array Oper} {md : Region.Mode}
theorem wpIn_round {o : Oper} {a : Act} {w : World} {K : Act → World → Prop} {Q : Exit → Act → World → Prop} {r : Nat} (hp : plainOp o = true) (h : o.wpIn F n P a w K Q) : o.wpIn (F.inRound r) n P a w K Q := by
  unfold Oper.wpIn at h ⊢
  rw [plainOp_sem hp] at h ⊢
  refine ⟨h.1, ?_⟩
  have h2 := h.2
  generalize (execOp a.eval o).run P w = x at *
  exact h2
theorem wpAnyIn_round {Q : Exit → Act → World → Prop} {r : Nat} (hp : ∀ (i : Nat) (o : Oper), ops[i]? = some o → plainOp o = true) : ∀ (fuel : Nat) (listed : Array Bool) (a : Act) (w : World), wpAnyIn F n P md ops Q fuel listed a w → wpAnyIn (F.inRound r) n P md ops Q fuel listed a w
  | 0, _, _, _, h => h
  | fuel + 1, listed, a, w, h => by
    refine ⟨h.1, fun i hi => ?_⟩
    have h2 := h.2 i hi
    unfold wpOpIn at h2 ⊢
    split
    · rename_i ho
      simp only [ho] at h2
      exact wpAnyIn_round hp fuel _ _ _ h2
    · rename_i o ho
      simp only [ho] at h2
      split
      · rename_i hw
        simp only [hw, if_true] at h2
        exact Oper.wpIn_mono (fun a' w' h3 => wpAnyIn_round hp fuel _ _ _ h3) (wpIn_round (hp i o ho) h2)
      · rename_i hw
        simp only [hw] at h2
        exact ⟨h2.1, wpAnyIn_round hp fuel _ _ _ h2.2⟩
theorem wpIn_round_quiet {id : Nat} {Q : Exit → Act → World → Prop} {a : Act} {w : World} {l : List Oper} {r : Nat} (hro : F.round = none) (hp : l.all plainOp = true) (hm : P.follows .mixedOrders = true) (hB : Region.lexB .any l.toArray = true)
    (h : wpQuietIn F n P l.toArray (fun w' => ∃ n, w' = w.drewN n) (fun a' => ∀ w', (∃ n, w' = w.drewN n) → Q .normal a' w') l a) : (Code.region id l.toArray true).wpIn (F.inRound r) n P Q a w := by
  simp only [Region.lexB, Bool.and_eq_true] at hB
  refine wpIn_region_any hm (wpAnyIn_round (fun i o ho => ?_) _ _ _ _ (wpAnyIn_of_quiet (C := fun w' => ∃ n, w' = w.drewN n) (Q := fun a' => ∀ w', (∃ n, w' = w.drewN n) → Q .normal a' w') hro (fun _ w' hw' h => h w' hw') _ _ _ _ ⟨1, rfl⟩ ?_))
  · have : o ∈ l := by
      rw [List.getElem?_toArray] at ho
      exact List.mem_of_getElem? ho
    exact List.all_eq_true.1 hp o this
  · have := wpAnyQIn_lex (F := F) (n := n) (C := fun w' => ∃ n, w' = w.drewN n) (md := .any) hB.1 l.toArray.toList 0 (Array.replicate l.toArray.size false) a (by simp) (by simpa using hB.2) (by simpa using h)
    simpa using this
end
end Go.Proofs.YtghlnknncahkgaaGreat
/-
  gypsumlaw21.simple: a simple surface's table and a corner.
-/
namespace Go.Proofs.YtghlnknncahkgaaGreat
open Go.RowKit Go.Maps

theorem u8_has {n : Int} (h : (Lit.int .u8 n).wf = true) : 0 ≤ n ∧ n ≤ 255 := by
  have h3 : IntKind.u8.min = 0 := by decide
  have h4 : IntKind.u8.max = 255 := by decide
  simp [Lit.wf, h3, h4] at h
  omega
/-- A simple surface of few triangles, and a corner of it; else no matter what. -/
def SimL (N : Int) (T : List Tr) (_r : Int) (w : World) (e : Ending) (w' : World) : Prop :=
  ∃ p c b, e = .returned (.tuple #[.pointer p, .int .i64 c, .bool b]) ∧ (b = true → ∃ g n k : Nat, N = n ∧ p = some ⟨g, 0, none⟩ ∧ c = k ∧ Tab w' g n T ∧ Simp n T ∧ T.length ≤ 40 ∧ k < 3 * T.length) ∧ Below w.heap.size w w'
set_option maxRecDepth 100000 in
set_option maxHeartbeats 2000000 in
theorem simpleL_any (N : Int) (v : Value) (T : List Tr) (r : Int) (w : World) (h : TrisRd w v T) (hr : 0 ≤ r ∧ r ≤ 255) : Calls Tryz.prog 28 #[.agg #[.int .i64 N, v], .int .u8 r] w (SimL N T r w) := by
  have b1 := Blk.new w 24 #[.int .i64 N, v]
  have hB0 : Below w.heap.size w (w.alloc (.cells #[.int .i64 N, v] 24)) := (Below.refl _ _).alloc (Nat.le_refl _) _
  have HF := Lib.hid (fits21_any N v T _ (h.below hB0))
  have HS := Lib.hid (fun (W : World) (n : Nat) (hW : Below w.heap.size w W) (hl : T.length ≤ 40) (hn : n ≤ 4096) => simple21_any n v T W (h.below hW) hl hn)
  obtain ⟨a, c, rfl, -, -, -⟩ := h
  have HB0 := Lib.hid hB0
  have Hb1 := Lib.hid b1
  obtain ⟨l0, x0, -, x1, -⟩ := b1.two
  clear b1 hB0
  go_enter Tryz.func28, Tryz.ntmps28
  go_wp2_with fail
  refine HF.out.mono ?_
  rintro e w1 ⟨p, b, rfl, hfit, hb1⟩
  have HS1 := Lib.hid (Hb1.out.below hb1 l0)
  have HB1 := Lib.hid (HB0.out.trans (hb1.mono HB0.out.size))
  clear x0 x1 l0
  cases b
  · clear hfit hb1
    go_wp2
    go_ret3
    exact ⟨_, _, _, rfl, fun h => (by cases h), HB1.out⟩
  · obtain ⟨g, n, rfl, rfl, hT, hSu, hl⟩ := hfit rfl
    obtain ⟨l0, x0, -, x1, -⟩ := HS1.out.two
    have HTab := Lib.hid hT
    have HSu := Lib.hid hSu
    have HQ := Lib.hid (HS.out w1 n HB1.out hl (by have := hSu.n1; omega))
    clear hfit hb1 hT hSu
    obtain ⟨F, hF⟩ : ∃ F, T.length = F := ⟨_, rfl⟩
    rw [hF] at x1 HQ hl
    rw [hF]
    have HFl := Lib.hid hF
    clear hF
    go_wp2_with fail
    refine HQ.out.mono ?_
    rintro e w2 ⟨b2, rfl, hiff, hb2⟩
    have HI := Lib.hid hiff
    have HB2 := Lib.hid (HB1.out.trans (hb2.mono HB1.out.size))
    have HT2 := Lib.hid (HTab.out.below hb2)
    have HS2 := Lib.hid (HS1.out.below hb2 l0)
    clear hiff hb2 x0 x1 l0
    obtain ⟨l0, x0, -, x1, -⟩ := HS2.out.two
    rw [HFl.out] at x1
    cases b2
    · go_wp2
      go_ret3
      exact ⟨_, _, _, rfl, fun h => (by cases h), HB2.out⟩
    · have hSi : Simp n T := (simR_iff HSu.out).1 (HI.out.1 rfl)
      have hpos := hSi.pos
      rw [HFl.out] at hpos
      have HSi := Lib.hid hSi
      have hz : ((3 * F : Nat) : Int) ≠ 0 := by omega
      obtain ⟨rn, rfl⟩ : ∃ rn : Nat, r = rn := ⟨r.toNat, by omega⟩
      have nz : ((3 : Int) * (F : Int) == 0) = false := by simp; omega
      have hm : ((rn : Int)).tmod (3 * (F : Int)) = ((rn % (3 * F) : Nat) : Int) := by
        rw [Int.tmod_eq_emod_of_nonneg (by omega)]
        push_cast
        rfl
      have hlt : rn % (3 * F) < 3 * F := Nat.mod_lt _ (by omega)
      clear hSi
      go_wp2
      go_region
      all_goals
        go_wp2
        go_ret3
        exact ⟨_, _, _, rfl, fun _ => ⟨g, n, rn % (3 * F), rfl, rfl, by first | rfl | (push_cast; rfl), HT2.out.below (below_d (Below.refl _ _)), HSi.out, by rw [HFl.out]; exact hl, by rw [HFl.out]; exact hlt⟩, below_d HB2.out⟩
end Go.Proofs.YtghlnknncahkgaaGreat
/-
  A list of triangles, as an argument: its numbers can be read.
-/
namespace Go.Proofs.YtghlnknncahkgaaGreat
open Go.RowKit

theorem three_cells {P : Program} {H : Type} {enc : TypeId × Value → H} {w : World} {base : Nat} {spare : Nat → Bool} {held : Bool} {t u : TypeId} {m : Nat} {cs : List Value} {x : DataW H × List MemPlace}
    (ht : P.underlying t = some (.array 3 u)) (hu : P.underlying u = some (.int .i64)) (hc : P.cellsOf u = 1) (hl : cs.length = 3) (h : DataW.trod enc P w base spare held m t cs = some x) :
    ∃ a b c : Int, cs = [.int .i64 a, .int .i64 b, .int .i64 c] := by
  obtain ⟨xs, n, -, -, -, hx, hel⟩ := DataW.trod_array ht h
  rw [hc] at hel
  match cs, hl with
  | [v0, v1, v2], _ =>
    have key : ∀ i v, i < 3 → ([v0, v1, v2].drop (i * 1)).take 1 = [v] → ∃ z : Int, v = .int .i64 z := by
      intro i v hi hv
      have e := hel i hi
      rw [hv] at e
      obtain ⟨y, hy⟩ : ∃ y, xs[i]? = some y := ⟨xs[i]'(by omega), List.getElem?_eq_getElem _⟩
      rw [hy] at e
      obtain ⟨z, hz, -, -⟩ := DataW.trod_int hu e
      exact ⟨z, by simpa using hz⟩
    obtain ⟨a, rfl⟩ := key 0 v0 (by omega) rfl
    obtain ⟨b, rfl⟩ := key 1 v1 (by omega) rfl
    obtain ⟨c, rfl⟩ := key 2 v2 (by omega) rfl
    exact ⟨a, b, c, rfl⟩
theorem tris_open {H : Type} {enc : TypeId × Value → H} {w : World} {base : Nat} {spare : Nat → Bool} {held : Bool} {m : Nat} {v : Value} {x : DataW H × List MemPlace}
    (h : DataW.trod enc Tryz.prog w base spare held m 22 [v] = some x) : ∃ T, TrisRd w v T := by
  rcases Go.Deep.open_slice Tryz.underlying22 h with ⟨e1, -⟩ | ⟨a, len, cap, q, n, D, Pl, e1, hb, hl, hm, hq, -, hall⟩
  · have e : v = .slice none 0 0 := by simpa using e1
    subst e
    exact ⟨[], none, 0, rfl, by simp, by decide, fun k x y z hk => by simp at hk⟩
  · have e : v = .slice (some a) len cap := by simpa using e1
    subst e
    have h3 : Tryz.prog.cellsOf 72 = 3 := by kernel_rfl
    have hlq : len ≤ q := by rw [hq]; split <;> omega
    have key : ∀ i, ∃ t : Tr, i < len → w.cell? (a.add (i * 3)) = some (.int .i64 t.1) ∧ w.cell? ((a.add (i * 3)).add 1) = some (.int .i64 t.2.1) ∧ w.cell? ((a.add (i * 3)).add 2) = some (.int .i64 t.2.2) := by
      intro i
      by_cases hi : i < len
      · obtain ⟨cs, hcs, htr⟩ := hall i (by omega)
        rw [h3] at hcs
        obtain ⟨-, hcl, hce⟩ := World.cells?_some hcs
        obtain ⟨x, y, z, rfl⟩ := three_cells Tryz.underlying72 Tryz.underlying3 (by kernel_rfl) hcl htr
        refine ⟨(x, y, z), fun _ => ⟨?_, hce 1 (by omega), hce 2 (by omega)⟩⟩
        have := hce 0 (by omega)
        have e0 : (a.add (i * 3)).add 0 = a.add (i * 3) := by simp [Addr.add]
        rw [e0] at this
        exact this
      · exact ⟨(0, 0, 0), fun h => absurd h hi⟩
    obtain ⟨f, hf⟩ := Classical.axiomOfChoice key
    refine ⟨(List.range len).map f, some a, cap, by simp, by simpa using hl, by unfold maxLen at hm; omega, fun k x y z hk => ?_⟩
    have hk' : k < len := by
      have := (List.getElem?_eq_some_iff.1 hk).1
      simpa using this
    rw [List.getElem?_map, List.getElem?_range hk'] at hk
    have hfk : f k = (x, y, z) := by simpa using hk
    obtain ⟨c0, c1, c2⟩ := hf k hk'
    rw [hfk] at c0 c1 c2
    obtain ⟨b, off, spot⟩ := a
    have hspot : spot = none := by simpa [Addr.add] using World.cell?_spot (hf 0 (by omega)).1
    subst hspot
    rw [Addr.add_lit] at c0
    rw [Addr.add_lit, Addr.add_lit] at c1 c2
    refine ⟨b, off, rfl, ?_, c0, c1, c2⟩
    rcases Nat.lt_or_ge b w.heap.size with hlt | hge
    · exact hlt
    · exfalso
      unfold World.cell? at c0
      simp [Array.getElem?_eq_none hge] at c0
set_option maxRecDepth 100000 in
theorem soup_open {H : Type} {enc : TypeId × Value → H} {w : World} {base : Nat} {spare : Nat → Bool} {held : Bool} {r : Go.Reach} {b0 : Nat} {v : Value} {d : DataW H} {p : List MemPlace}
    (hv : Value.okWide Tryz.prog w r b0 24 v) (h : DataW.Trod enc Tryz.prog w base spare held 24 v d p) :
    ∃ (N : Int) (vT : Value) (T : List Tr), v = .agg #[.int .i64 N, vT] ∧ TrisRd w vT T ∧ (Lit.int .i64 N).wf = true := by
  obtain ⟨v0, v1, y0, y1, n, rfl, -, -, h0, h1⟩ := Go.Joins.open_agg2 Tryz.underlying24 (by kernel_rfl) (by kernel_rfl) hv h
  obtain ⟨N, e0, -, hw⟩ := DataW.trod_int Tryz.underlying3 h0
  obtain ⟨T, hT⟩ := tris_open h1
  exact ⟨N, v1, T, by simpa using e0, hT, hw⟩
end Go.Proofs.YtghlnknncahkgaaGreat
