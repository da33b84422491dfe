/-
  Texts joined by program, what the law uses alone: HeldU Cov Ren EachR Rnm Gen Awk46 CnMp Bru CnBr ArgS.
-/
import Derived.OrdersHeld
import Derived.StillTail
import Derived.Deep.RegionHeld3
import Derived.Deep.DeepCutAuto
import Derived.BigQuiet
import Derived.BigRegion
import Derived.Lib.QuietBelow
import Derived.RegionTactic
import Derived.Deep.QuietTactic
import Derived.Lib.Hide
import Derived.Lib.Slices
import Derived.LoopIn
import Derived.LoopNIn
import Derived.OwnWalkIn
import Derived.RangeFuncBound
import Derived.RangeFuncCalls
import Derived.RangeFuncLeaves
import Derived.RangeFuncNested
import Derived.Shelf.Abstract
import Derived.TacticsInMore
import Derived.Deep.RegionLawGrows
import Derived.ProofKit
import Derived.WideShapes
import Derived.OpenShut
import Derived.Deep.Slices
import Derived.Lib.SmallJoins
import Derived.Test.YtpnkhgjjlionnaaD1
import Derived.Test.YtpnkhgjjlionnaaD6
import Derived.Test.YtpnkhgjjlionnaaD5
import Derived.Test.YtpnkhgjjlionnaaD4
import Derived.Test.YtpnkhgjjlionnaaD3
import Derived.Test.YtpnkhgjjlionnaaD2
namespace Go.Proofs.Ytpnkhgjjlionnaa
open Go.RowKit

section
variable {P : Program} {l : List Oper} {Q : Exit → Act → World → Prop} {md : Region.Mode} {S : World → Prop} {n : Nat}

/-- Whatever order is picked from here on; behind each operation but the last one S holds. -/
def wpAnyU (P : Program) (md : Region.Mode) (l : List Oper) (Q : Exit → Act → World → Prop) (S : World → Prop) (n : Nat) : Nat → Array Bool → Act → World → Prop
  | 0, listed, a, w => Region.ready md l.toArray listed = [] ∧ Q .normal a w
  | f + 1, listed, a, w => (Region.ready md l.toArray listed = [] → Q .normal a w) ∧
    ∀ i ∈ Region.ready md l.toArray listed, wpOp P l.toArray Q i (fun a' w' => (i ≠ n → S w') ∧ wpAnyU P md l Q S n f (listed.setIfInBounds i true) a' w') a w
theorem wpAny_of_U : ∀ (f : Nat) (listed : Array Bool) (a : Act) (w : World), wpAnyU P md l Q S n f listed a w → wpAny P md l.toArray Q f listed a w
  | 0, _, _, _, h => h
  | f + 1, _, _, _, h => ⟨h.1, fun i hi => wpOp_mono (fun a' w' h' => wpAny_of_U f _ a' w' h'.2) (h.2 i hi)⟩
/-- Who waits for all is behind who has not come up. -/
theorem last_waits {listed : Array Bool} (hs : Region.sinkB md l.toArray n = true) (hc : Region.chainB md l.toArray n = true) (hn : n + 1 = l.length) (inv : HeadInv md l.toArray n listed) {i : Nat} (hi : i < n) (hun : listed.getD i true = false) : ∀ j ∈ Region.ready md l.toArray listed, j < n := fun j hj => by
  rcases Nat.lt_or_ge j n with h | h
  · exact h
  · exact absurd hj (tail_waits hs hc (by simp; omega) inv _ i rfl hi hun j h)
theorem wpAnyU_first {i : Nat} {oi : Oper} {v : Value} (hi : l[i]? = some oi) (hsel : ∀ (j : Nat) (o : Oper) cs b, l.toArray[j]? = some o → o.op ≠ .select cs b)
    (hs : Region.sinkB md l.toArray n = true) (hc : Region.chainB md l.toArray n = true) (hn : n + 1 = l.length) (hin : i < n)
    (hQ : ∀ c a w, Q (.panic c) (a.put oi.dst v) w → Q (.panic c) a w) :
    ∀ (f : Nat) (listed : Array Bool) (a : Act) (w : World), HeadInv md l.toArray n listed →
      (∀ j oj, l.toArray[j]? = some oj → j ≠ i → listed.getD j true = false → (∀ e ∈ oj.after, Region.binds md e = true → e.on ≠ i) → oi.apart l.toArray oj = true) →
      i ∈ Region.ready md l.toArray listed → YieldsIf P l.toArray S oi v a → S w →
      wpAnyU P md l Q S n f (listed.setIfInBounds i true) (a.put oi.dst v) w → wpAnyU P md l Q S n (f + 1) listed a w := by
  have hi' : l.toArray[i]? = some oi := by simpa using hi
  intro f
  induction f with
  | zero =>
    intro listed a w inv _ hr hy hS H
    refine ⟨fun h => (by rw [h] at hr; cases hr), fun j hj => ?_⟩
    by_cases hji : j = i
    · subst hji
      exact hy.wpOp hi' hS ⟨fun _ => hS, H⟩
    · have := ready_mono hj hji
      rw [H.1] at this
      cases this
  | succ f ih =>
    intro listed a w inv hfree hr hy hS H
    have hun := (mem_ready.1 hr).1
    refine ⟨fun h => (by rw [h] at hr; cases hr), fun j hj => ?_⟩
    by_cases hji : j = i
    · subst hji
      exact hy.wpOp hi' hS ⟨fun _ => hS, H⟩
    · have hjn := last_waits hs hc hn inv hin hun j hj
      have h1 := H.2 j (ready_mono hj hji)
      obtain ⟨hjun, oj, hoj, hall⟩ := mem_ready.1 hj
      have hnot : ∀ e ∈ oj.after, Region.binds md e = true → e.on ≠ i := fun e he hb heq => by
        have h3 := hall e he hb
        rw [heq, getD_both hun] at h3
        cases h3
      have h2 := wpOp_putIf hoj (hfree j oj hoj hji hjun hnot) (fun cs b => hsel i oi cs b hi') (fun cs b => hsel j oj cs b hoj) hQ hy h1
      refine wpOp_mono (fun a' w' h3 => ⟨h3.2.1, ih (listed.setIfInBounds j true) a' w' (inv.set hj hjn) ?_ (ready_mono hr (Ne.symm hji)) h3.1 (h3.2.1 (by omega)) ?_⟩) h2
      · intro k ok hk hki hu hno
        refine hfree k ok hk hki ?_ hno
        by_cases hjk : j = k
        · subst hjk
          exact hjun
        · rw [getD_set_ne true hjk] at hu
          exact hu
      · rw [Array.setIfInBounds_comm _ _ hji]
        exact h3.2.2
/-- The state of a walk through the region: who has come up, and what holds. -/
structure AtU (P : Program) (md : Region.Mode) (l : List Oper) (Q : Exit → Act → World → Prop) (S : World → Prop) (n f : Nat) (listed : Array Bool) (a : Act) (w : World) : Prop where
  go : HeadInv md l.toArray n listed → S w → wpAnyU P md l Q S n f listed a w
/-- What the region is, once. -/
def okU (md : Region.Mode) (l : List Oper) (n : Nat) : Bool := Region.noSelect l.toArray && Region.sinkB md l.toArray n && Region.chainB md l.toArray n && decide (n + 1 = l.length)
theorem AtU.take {i f : Nat} {oi : Oper} {v : Value} {listed : Array Bool} {a : Act} {w : World} (hi : l[i]? = some oi) (hok : okU md l n = true) (hf : (decide (i < n) && Region.free md l.toArray listed i && (Region.ready md l.toArray listed).contains i) = true)
    (hQ : ∀ c a w, Q (.panic c) (a.put oi.dst v) w → Q (.panic c) a w) (hw : Region.wanted oi (yielded l.toArray a.tmps) = true) (hy : ∀ w, S w → (execOp a.eval oi).run P w = .ok (.value v) w)
    (h : AtU P md l Q S n f (listed.setIfInBounds i true) (a.put oi.dst v) w) : AtU P md l Q S n (f + 1) listed a w := by
  simp only [okU, Bool.and_eq_true, decide_eq_true_eq] at hok hf
  obtain ⟨⟨⟨h1, h2⟩, h3⟩, h4⟩ := hok
  obtain ⟨⟨h5, h6⟩, h7⟩ := hf
  have hr : i ∈ Region.ready md l.toArray listed := by simpa using h7
  exact ⟨fun inv hS => wpAnyU_first hi (Region.noSelect_spec h1) h2 h3 h4 h5 hQ f listed a w inv (Region.free_spec (by simpa using hi) h6) hr (.inl ⟨hw, hy⟩) hS (h.go (inv.set hr h5) hS)⟩
/-- One alone may come up. -/
theorem AtU.step {i f : Nat} {o : Oper} {listed : Array Bool} {a : Act} {w : World} (hi : l[i]? = some o) (hr : (decide (Region.ready md l.toArray listed = [i]) && decide (i < n)) = true)
    (h : ∀ K' : Act → World → Prop, Shut (∀ a' w', S w' → AtU P md l Q S n f (listed.setIfInBounds i true) a' w' → K' a' w') → if Region.wanted o (yielded l.toArray a.tmps) = true then Oper.wp P o a w K' Q else K' (a.put o.dst undef) w) : AtU P md l Q S n (f + 1) listed a w := by
  simp only [Bool.and_eq_true, decide_eq_true_eq] at hr
  refine ⟨fun inv hS => ⟨fun h0 => (by rw [hr.1] at h0; cases h0), fun j hj => ?_⟩⟩
  have hjr := hj
  rw [hr.1] at hj
  have : j = i := by simpa using hj
  subst this
  exact wpOp_step (o := o) (by simpa using hi) (fun K' hK => h K' (fun a' w' hS' hA => hK a' w' ⟨fun _ => hS', hA.go (inv.set hjr hr.2) hS'⟩))
/-- The last one. -/
theorem AtU.last {i : Nat} {o : Oper} {listed : Array Bool} {a : Act} {w : World} (hi : l[i]? = some o) (hr : (decide (Region.ready md l.toArray listed = [i]) && (Region.ready md l.toArray (listed.setIfInBounds i true)).isEmpty && decide (i = n)) = true)
    (h : ∀ K' : Act → World → Prop, Shut (∀ a' w', Q .normal a' w' → K' a' w') → if Region.wanted o (yielded l.toArray a.tmps) = true then Oper.wp P o a w K' Q else K' (a.put o.dst undef) w) : AtU P md l Q S n 1 listed a w := by
  simp only [Bool.and_eq_true, decide_eq_true_eq, List.isEmpty_iff] at hr
  refine ⟨fun inv hS => ⟨fun h0 => (by rw [hr.1.1] at h0; cases h0), fun j hj => ?_⟩⟩
  rw [hr.1.1] at hj
  have : j = i := by simpa using hj
  subst this
  exact wpOp_step (o := o) (by simpa using hi) (fun K' hK => h K' (fun a' w' hq => hK a' w' ⟨fun hne => absurd hr.2 hne, hr.1.2, hq⟩))
/-- The beginning. -/
theorem wp_region_U {id : Nat} {a : Act} {w : World} (n : Nat) (S : World → Prop) (hm : P.follows .mixedOrders = true) (hS : S w.drew) (h : AtU P .any l Q S n l.length (Array.replicate l.length false) a w.drew) : (Code.region id l.toArray true).wp P Q a w := by
  refine wp_region_any hm (wpAny_of_U (n := n) (S := S) _ _ _ _ ?_)
  have := h.go ⟨by simp, fun j oj _ hl => (by rw [getD_replicate_false] at hl; cases hl), fun t _ ht => getD_in (by simpa using ht) (getD_replicate_false _ _)⟩ hS
  simpa using this
end
end Go.Proofs.Ytpnkhgjjlionnaa
namespace Go.Proofs.Ytpnkhgjjlionnaa
open Go.RowKit Go.Maps

theorem arrTri : WideMaps.ArrKey Try.prog 61 3 3 := ⟨Try.underlying61, by kernel_rfl, by kernel_rfl, by kernel_rfl⟩
theorem step_storeB {P : Program} {k e : TypeId} {w : World} {b n : Nat} {seen : List Value} {ops : Array Oper} {o : Oper} {a : Act} {K : Act → World → Prop} {Q : Exit → Act → World → Prop} {E : Prop} (h : MapB P k e w b n seen)
    (hgd : o.guard = none) (m x v : Operand) (t : TypeId) (hop : o.op = Op.mapUpdate t m x v) (Ky : Keyed P k) (ht : P.underlying t = some (.map k e)) (he : P.underlying e = some .bool) (hn : n < maxLen)
    (hm : a.eval m = .map (some b)) (key : Value) (hx : a.eval x = key) (hv : a.eval v = .bool true) {kl : Lit} (hkey : keyOf P k key = some kl)
    (hK : ∀ w', MapB P k e w' b (n + 1) (key :: seen) → w.grownBy w' (some b) → K (a.put o.dst undef) w') :
    if Region.wanted o (yielded ops a.tmps) = true then Oper.wp P o a w K Q else E := by
  have hw : Region.wanted o (yielded ops a.tmps) = true := by simp [Region.wanted, hgd]
  rw [if_pos hw]
  obtain ⟨w', hrun, r1, r2⟩ := h.store Ky ht he hn hkey
  unfold Oper.wp
  simp [execOp, hop, hm, hx, hv, hrun, Result.andThen]
  exact hK w' r1 r2
/-- Numbers that are ints. -/
def Wf3 (t : Tr) : Prop := (Lit.int .i64 t.1).wf = true ∧ (Lit.int .i64 t.2.1).wf = true ∧ (Lit.int .i64 t.2.2).wf = true
theorem tri_key {x y z : Int} (h : Wf3 (x, y, z)) : keyOf Try.prog 61 (.agg #[.int .i64 x, .int .i64 y, .int .i64 z]) = some (.string (keyBytes [.int .i64 x, .int .i64 y, .int .i64 z])) :=
  keyOf_three arrTri Try.underlying3 types_succ h.1 h.2.1 h.2.2
/-- The keys marked: all turns of the triangles so far. -/
def SeenT (B : List Tr) (seen : List Value) : Prop := ∀ t : Tr, triV t ∈ seen ↔ ∃ s ∈ B, Turn s t
theorem SeenT.snoc {B : List Tr} {seen : List Value} (h : SeenT B seen) (x y z : Int) : SeenT (B ++ [(x, y, z)]) (triV (z, x, y) :: triV (y, z, x) :: triV (x, y, z) :: seen) := by
  intro t
  have inj : ∀ s : Tr, triV t = triV s ↔ t = s := fun s => ⟨triV_inj, fun e => by rw [e]⟩
  rw [List.mem_cons, List.mem_cons, List.mem_cons, inj, inj, inj, h t]
  constructor
  · rintro (e | e | e | ⟨s, hs, e⟩)
    · exact ⟨(x, y, z), by simp, .inr (.inr e)⟩
    · exact ⟨(x, y, z), by simp, .inr (.inl e)⟩
    · exact ⟨(x, y, z), by simp, .inl e⟩
    · exact ⟨s, List.mem_append_left _ hs, e⟩
  · rintro ⟨s, hs, e⟩
    rcases List.mem_append.1 hs with hs | hs
    · exact .inr (.inr (.inr ⟨s, hs, e⟩))
    · rw [List.mem_singleton.1 hs] at e
      rcases e with e | e | e
      · exact .inr (.inr (.inl e))
      · exact .inr (.inl e)
      · exact .inl e
/-- What covers tells. -/
def CovPost (N1 N2 : Int) (A B : List Tr) (w : World) (e : Ending) (w' : World) : Prop := ∃ b : Bool, e = .returned (.bool b) ∧ (b = true ↔ CovT A B ∧ N1 = N2 ∧ A.length = B.length) ∧ Below w.heap.size w w'
structure CvSt (w W : World) (N1 N2 : Int) (v1 v2 : Value) (c : Nat) (seen : List Value) : Prop where
  k0 : Blk W w.heap.size 24 #[.int .i64 N1, v1]
  k1 : Blk W (w.heap.size + 1) 24 #[.int .i64 N2, v2]
  m : MapB Try.prog 61 4 W (w.heap.size + 1 + 1) c seen
  bel : Below w.heap.size w W
theorem blk_map_ne {w : World} {b g n : Nat} {P : Program} {k e t : TypeId} {cs : Array Value} {seen : List Value} (hm : MapB P k e w b n seen) (hb : Blk w g t cs) : some g ≠ some b := by
  obtain ⟨es, clock, h⟩ := hm.obj
  intro e0
  rw [← Option.some.inj e0, show w.heap[g]? = _ from hb] at h
  cases h
theorem CvSt.alloc {w W : World} {N1 N2 : Int} {v1 v2 : Value} {c : Nat} {seen : List Value} (h : CvSt w W N1 N2 v1 v2 c seen) (o : Obj) : CvSt w (W.alloc o) N1 N2 v1 v2 c seen :=
  ⟨h.k0.alloc o, h.k1.alloc o, h.m.kept (World.grownBy_alloc W o none) (by simp), h.bel.alloc h.bel.size o⟩
theorem CvSt.drew {w W : World} {N1 N2 : Int} {v1 v2 : Value} {c : Nat} {seen : List Value} (h : CvSt w W N1 N2 v1 v2 c seen) : CvSt w W.drew N1 N2 v1 v2 c seen :=
  ⟨h.k0.drew, h.k1.drew, h.m.drew, below_d h.bel⟩
theorem CvSt.store {w W W' : World} {N1 N2 : Int} {v1 v2 : Value} {c c' : Nat} {seen seen' : List Value} (h : CvSt w W N1 N2 v1 v2 c seen) (hm : MapB Try.prog 61 4 W' (w.heap.size + 1 + 1) c' seen') (hg : W.grownBy W' (some (w.heap.size + 1 + 1))) : CvSt w W' N1 N2 v1 v2 c' seen' :=
  ⟨h.k0.grown hg (blk_map_ne h.m h.k0), h.k1.grown hg (blk_map_ne h.m h.k1), hm, h.bel.grown hg h.bel.size (fun j e => by cases e; omega)⟩
set_option maxRecDepth 100000 in
set_option maxHeartbeats 4000000 in
theorem covers_any (N1 N2 : Int) (v1 v2 : Value) (A B : List Tr) (w : World) (h1 : TrisRd w v1 A) (h2 : TrisRd w v2 B) (lA : A.length ≤ 1000) (lB : B.length ≤ 1000) (wA : ∀ t ∈ A, Wf3 t) (wB : ∀ t ∈ B, Wf3 t) :
    Calls Try.prog 16 #[.agg #[.int .i64 N1, v1], .agg #[.int .i64 N2, v2]] w (CovPost N1 N2 A B w) := by
  have HR1 := Lib.hid (fun (W : World) (hW : Below w.heap.size w W) => h1.below hW)
  have HR2 := Lib.hid (fun (W : World) (hW : Below w.heap.size w W) => h2.below hW)
  obtain ⟨a1, c1, rfl, -⟩ := h1
  obtain ⟨a2, c2, rfl, -⟩ := h2
  obtain ⟨F1, hF1⟩ : ∃ F, A.length = F := ⟨_, rfl⟩
  obtain ⟨F2, hF2⟩ : ∃ F, B.length = F := ⟨_, rfl⟩
  have hb0 := ((Blk.new w 24 #[.int .i64 N1, .slice a1 A.length c1]).alloc (.cells #[.int .i64 N2, .slice a2 B.length c2] 24)).alloc (.map #[] 0)
  have hb1 : Blk (((w.alloc (.cells #[.int .i64 N1, .slice a1 A.length c1] 24)).alloc (.cells #[.int .i64 N2, .slice a2 B.length c2] 24)).alloc (.map #[] 0)) (w.heap.size + 1) 24 #[.int .i64 N2, .slice a2 B.length c2] := (blk_new_at (by simp)).alloc _
  have hm := MapB.made ((w.alloc (.cells #[.int .i64 N1, .slice a1 A.length c1] 24)).alloc (.cells #[.int .i64 N2, .slice a2 B.length c2] 24)) Try.prog 61 4
  rw [size_alloc', size_alloc'] at hm
  have hB0 : Below w.heap.size w (((w.alloc (.cells #[.int .i64 N1, .slice a1 A.length c1] 24)).alloc (.cells #[.int .i64 N2, .slice a2 B.length c2] 24)).alloc (.map #[] 0)) := (((Below.refl _ _).alloc (Nat.le_refl _) _).alloc (by simp) _).alloc (by simp; omega) _
  have HI0 := Lib.hid (show CvSt w _ N1 N2 (.slice a1 A.length c1) (.slice a2 B.length c2) 0 [] from ⟨hb0, hb1, hm, hB0⟩)
  have hmm := @run_makeMap Try.prog
  have HW := Lib.hid (And.intro wA wB)
  rw [hF1] at HR1 HI0 lA ⊢
  rw [hF2] at HR2 HI0 lB ⊢
  have HL := Lib.hid (And.intro hF1 hF2)
  obtain ⟨l1, x0, -, x1, -⟩ := HI0.out.k1.two
  clear hb0 hb1 hm hB0 wA wB hF1 hF2
  go_enter Try.func16, Try.ntmps16
  go_upto_region 2 with fail
  generalize hW2 : ((w.alloc (.cells #[.int .i64 N1, .slice a1 F1 c1] 24)).alloc (.cells #[.int .i64 N2, .slice a2 F2 c2] 24)).alloc (.map #[] 0) = w2 at *
  go_wp2
  clear x0 x1 l1
  go_loopw [14] (fun i wr => ∃ (k : Nat) (seen : List Value), k ≤ F2 ∧ i = .int .i64 k ∧ SeenT (B.take k) seen ∧ CvSt w wr N1 N2 (.slice a1 F1 c1) (.slice a2 F2 c2) (3 * k) seen) (fun i _ => F2 - (intOf i).toNat)
  case atStart => exact ⟨0, [], Nat.zero_le _, rfl, fun t => by simp, HI0.out⟩
  case round =>
    rename World => wr
    obtain ⟨k, seen, hk, rfl, hs, hI⟩ := hrel
    by_cases hlt : k < F2
    · have hkl : k < B.length := by rw [HL.out.2]; exact hlt
      obtain ⟨⟨px, py, pz⟩, hp⟩ : ∃ t, B[k]? = some t := ⟨B[k], List.getElem?_eq_getElem hkl⟩
      obtain ⟨a', c', e', -, -, hr⟩ := HR2.out wr hI.bel
      rw [HL.out.2] at e'
      cases e'
      obtain ⟨bT, oT, rfl, hbT, s0, s1, s2⟩ := hr k px py pz hp
      have hki : (k : Int) < (F2 : Int) := by omega
      have HI := Lib.hid hI
      have bq := Blk.new wr 61 #[.int .i64 px, .int .i64 py, .int .i64 pz]
      have hI' := hI.alloc (.cells #[.int .i64 px, .int .i64 py, .int .i64 pz] 61)
      have hwf : Wf3 (px, py, pz) := HW.out.2 _ (List.mem_of_getElem? hp)
      have HSn := Lib.hid (show SeenT (B.take (k + 1)) (triV (pz, px, py) :: triV (py, pz, px) :: triV (px, py, pz) :: seen) from by
        have : B.take (k + 1) = B.take k ++ [(px, py, pz)] := by
          rw [List.take_succ_eq_append_getElem hkl]
          congr 1
          rw [List.getElem?_eq_getElem hkl] at hp
          rw [Option.some.inj hp]
        rw [this]
        exact hs.snoc px py pz)
      clear hI hs hr hp
      go_upto_region 5 with fail
      refine wp_region_U 20 (fun w' => w'.cell? ⟨wr.heap.size, 0, none⟩ = some (.int .i64 px) ∧ w'.cell? ⟨wr.heap.size, 1, none⟩ = some (.int .i64 py) ∧ w'.cell? ⟨wr.heap.size, 2, none⟩ = some (.int .i64 pz)) (by kernel_rfl) ⟨bq.drew.cell 0, bq.drew.cell 1, bq.drew.cell 2⟩ ?_
      change AtU _ _ _ _ _ _ 21 (Array.replicate 21 false) _ _
      refine AtU.take (i := 0) (v := ?_) rfl (by kernel_rfl) (by kernel_rfl) (fun _ _ _ h => h) (by rfl) ?_ ?_
      rotate_left 1
      · intro w9 hSw; (try dsimp only at hSw); go_simp; try with_reducible rfl
      try simp only [Act.put, List.setIfInBounds_toArray, List.set_cons_zero, List.set_cons_succ]
      refine AtU.take (i := 1) (v := ?_) rfl (by kernel_rfl) (by kernel_rfl) (fun _ _ _ h => h) (by rfl) ?_ ?_
      rotate_left 1
      · intro w9 hSw; (try dsimp only at hSw); go_simp; try with_reducible rfl
      try simp only [Act.put, List.setIfInBounds_toArray, List.set_cons_zero, List.set_cons_succ]
      refine AtU.take (i := 2) (v := ?_) rfl (by kernel_rfl) (by kernel_rfl) (fun _ _ _ h => h) (by rfl) ?_ ?_
      rotate_left 1
      · intro w9 hSw; (try dsimp only at hSw); go_simp; try with_reducible rfl
      try simp only [Act.put, List.setIfInBounds_toArray, List.set_cons_zero, List.set_cons_succ]
      refine AtU.take (i := 3) (v := ?_) rfl (by kernel_rfl) (by kernel_rfl) (fun _ _ _ h => h) (by rfl) ?_ ?_
      rotate_left 1
      · intro w9 hSw; (try dsimp only at hSw); go_simp; try with_reducible rfl
      try simp only [Act.put, List.setIfInBounds_toArray, List.set_cons_zero, List.set_cons_succ]
      refine AtU.take (i := 4) (v := ?_) rfl (by kernel_rfl) (by kernel_rfl) (fun _ _ _ h => h) (by rfl) ?_ ?_
      rotate_left 1
      · intro w9 hSw; (try dsimp only at hSw); go_simp; try with_reducible rfl
      try simp only [Act.put, List.setIfInBounds_toArray, List.set_cons_zero, List.set_cons_succ]
      refine AtU.take (i := 5) (v := ?_) rfl (by kernel_rfl) (by kernel_rfl) (fun _ _ _ h => h) (by rfl) ?_ ?_
      rotate_left 1
      · intro w9 hSw; (try dsimp only at hSw); go_simp; try with_reducible rfl
      try simp only [Act.put, List.setIfInBounds_toArray, List.set_cons_zero, List.set_cons_succ]
      refine AtU.take (i := 6) (v := ?_) rfl (by kernel_rfl) (by kernel_rfl) (fun _ _ _ h => h) (by rfl) ?_ ?_
      rotate_left 1
      · intro w9 hSw; (try dsimp only at hSw); go_simp; try with_reducible rfl
      try simp only [Act.put, List.setIfInBounds_toArray, List.set_cons_zero, List.set_cons_succ]
      refine AtU.take (i := 7) (v := ?_) rfl (by kernel_rfl) (by kernel_rfl) (fun _ _ _ h => h) (by rfl) ?_ ?_
      rotate_left 1
      · intro w9 hSw; (try dsimp only at hSw); go_simp; try with_reducible rfl
      try simp only [Act.put, List.setIfInBounds_toArray, List.set_cons_zero, List.set_cons_succ]
      refine AtU.take (i := 8) (v := ?_) rfl (by kernel_rfl) (by kernel_rfl) (fun _ _ _ h => h) (by rfl) ?_ ?_
      rotate_left 1
      · intro w9 hSw; (try dsimp only at hSw); go_simp; try with_reducible rfl
      try simp only [Act.put, List.setIfInBounds_toArray, List.set_cons_zero, List.set_cons_succ]
      refine AtU.take (i := 9) (v := ?_) rfl (by kernel_rfl) (by kernel_rfl) (fun _ _ _ h => h) (by rfl) ?_ ?_
      rotate_left 1
      · intro w9 hSw; (try dsimp only at hSw); go_simp; try with_reducible rfl
      try simp only [Act.put, List.setIfInBounds_toArray, List.set_cons_zero, List.set_cons_succ]
      refine AtU.take (i := 10) (v := ?_) rfl (by kernel_rfl) (by kernel_rfl) (fun _ _ _ h => h) (by rfl) ?_ ?_
      rotate_left 1
      · intro w9 hSw; (try dsimp only at hSw); go_simp; try with_reducible rfl
      try simp only [Act.put, List.setIfInBounds_toArray, List.set_cons_zero, List.set_cons_succ]
      refine AtU.take (i := 11) (v := ?_) rfl (by kernel_rfl) (by kernel_rfl) (fun _ _ _ h => h) (by rfl) ?_ ?_
      rotate_left 1
      · intro w9 hSw; (try dsimp only at hSw); go_simp; try with_reducible rfl
      try simp only [Act.put, List.setIfInBounds_toArray, List.set_cons_zero, List.set_cons_succ]
      refine AtU.take (i := 12) (v := ?_) rfl (by kernel_rfl) (by kernel_rfl) (fun _ _ _ h => h) (by rfl) ?_ ?_
      rotate_left 1
      · intro w9 hSw; (try dsimp only at hSw); go_simp; try with_reducible rfl
      try simp only [Act.put, List.setIfInBounds_toArray, List.set_cons_zero, List.set_cons_succ]
      refine AtU.take (i := 13) (v := ?_) rfl (by kernel_rfl) (by kernel_rfl) (fun _ _ _ h => h) (by rfl) ?_ ?_
      rotate_left 1
      · intro w9 hSw; (try dsimp only at hSw); go_simp; try with_reducible rfl
      try simp only [Act.put, List.setIfInBounds_toArray, List.set_cons_zero, List.set_cons_succ]
      refine AtU.take (i := 14) (v := ?_) rfl (by kernel_rfl) (by kernel_rfl) (fun _ _ _ h => h) (by rfl) ?_ ?_
      rotate_left 1
      · intro w9 hSw; (try dsimp only at hSw); go_simp; try with_reducible rfl
      try simp only [Act.put, List.setIfInBounds_toArray, List.set_cons_zero, List.set_cons_succ]
      refine AtU.take (i := 15) (v := ?_) rfl (by kernel_rfl) (by kernel_rfl) (fun _ _ _ h => h) (by rfl) ?_ ?_
      rotate_left 1
      · intro w9 hSw; (try dsimp only at hSw); go_simp; try with_reducible rfl
      try simp only [Act.put, List.setIfInBounds_toArray, List.set_cons_zero, List.set_cons_succ]
      refine AtU.take (i := 16) (v := ?_) rfl (by kernel_rfl) (by kernel_rfl) (fun _ _ _ h => h) (by rfl) ?_ ?_
      rotate_left 1
      · intro w9 hSw; (try dsimp only at hSw); go_simp; try with_reducible rfl
      try simp only [Act.put, List.setIfInBounds_toArray, List.set_cons_zero, List.set_cons_succ]
      refine AtU.take (i := 17) (v := ?_) rfl (by kernel_rfl) (by kernel_rfl) (fun _ _ _ h => h) (by rfl) ?_ ?_
      rotate_left 1
      · intro w9 hSw; (try dsimp only at hSw); go_simp; try with_reducible rfl
      try simp only [Act.put, List.setIfInBounds_toArray, List.set_cons_zero, List.set_cons_succ]
      have c5 : 3 * k < maxLen := by unfold maxLen; omega
      have c6 : 3 * k + 1 < maxLen := by unfold maxLen; omega
      have c7 : 3 * k + 1 + 1 < maxLen := by unfold maxLen; omega
      refine AtU.step (i := 18) rfl (by kernel_rfl) (fun K hK => ?_)
      refine step_storeB hI'.drew.m (by rfl) (.tmp 18) (.tmp 19) _ 67 (by rfl) (Keyed.of_law arrTri.law) Try.underlying67 Try.underlying4 c5 (by rfl) (triV (px, py, pz)) (by rfl) (by rfl) (tri_key hwf) ?_
      intro w5 hm5 hg5
      have h5 := hI'.drew.store hm5 hg5
      have b5 := bq.drew.grown hg5 (blk_map_ne hI'.drew.m bq.drew)
      refine hK.out _ _ ⟨b5.cell 0, b5.cell 1, b5.cell 2⟩ ?_
      clear hK K
      try simp only [Act.put]
      refine AtU.step (i := 19) rfl (by kernel_rfl) (fun K hK => ?_)
      refine step_storeB h5.m (by rfl) (.tmp 20) (.tmp 27) _ 67 (by rfl) (Keyed.of_law arrTri.law) Try.underlying67 Try.underlying4 c6 (by rfl) (triV (py, pz, px)) (by rfl) (by rfl) (tri_key ⟨hwf.2.1, hwf.2.2, hwf.1⟩) ?_
      intro w6 hm6 hg6
      have h6 := h5.store hm6 hg6
      have b6 := b5.grown hg6 (blk_map_ne h5.m b5)
      refine hK.out _ _ ⟨b6.cell 0, b6.cell 1, b6.cell 2⟩ ?_
      clear hK K
      try simp only [Act.put]
      refine AtU.last (i := 20) rfl (by kernel_rfl) (fun K hK => ?_)
      refine step_storeB h6.m (by rfl) (.tmp 28) (.tmp 35) _ 67 (by rfl) (Keyed.of_law arrTri.law) Try.underlying67 Try.underlying4 c7 (by rfl) (triV (pz, px, py)) (by rfl) (by rfl) (tri_key ⟨hwf.2.2, hwf.1, hwf.2.1⟩) ?_
      intro w7 hm7 hg7
      have H7 := Lib.hid (h6.store hm7 hg7)
      refine hK.out _ _ ?_
      clear hK K
      clear h5 h6 b5 b6 hm5 hg5 hm6 hg6 hm7 hg7 bq hI' hwf
      go_wp2
      go_roundw
      case measure => simp [intOf]; omega
      case rel => exact ⟨k + 1, _, by omega, by go_num, HSn.out, H7.out⟩
    · obtain rfl : k = F2 := by omega
      rw [List.take_of_length_le (by rw [HL.out.2]; exact Nat.le_refl _)] at hs
      have HSn := Lib.hid hs
      have HI := Lib.hid hI
      obtain ⟨l0, x0, -, x1, -⟩ := hI.k0.two
      clear hs hI
      go_wp2
      clear l0 x0 x1
      go_loopw [40] (fun i wr => ∃ j : Nat, j ≤ F1 ∧ i = .int .i64 j ∧ CovT (A.take j) B ∧ CvSt w wr N1 N2 (.slice a1 F1 c1) (.slice a2 k c2) (3 * k) seen) (fun i _ => F1 - (intOf i).toNat)
      case atStart => exact ⟨0, Nat.zero_le _, rfl, fun t ht => by simp at ht, HI.out⟩
      case round =>
        rename World => wx
        obtain ⟨j, hj, rfl, hcv, hI⟩ := hrel
        by_cases hlj : j < F1
        · have hjl : j < A.length := by rw [HL.out.1]; exact hlj
          obtain ⟨⟨px, py, pz⟩, hp⟩ : ∃ t, A[j]? = some t := ⟨A[j], List.getElem?_eq_getElem hjl⟩
          obtain ⟨a', c', e', -, -, hr⟩ := HR1.out wx hI.bel
          rw [HL.out.1] at e'
          cases e'
          obtain ⟨bT, oT, rfl, hbT, s0, s1, s2⟩ := hr j px py pz hp
          have hki : (j : Int) < (F1 : Int) := by omega
          have hwf : Wf3 (px, py, pz) := HW.out.1 _ (List.mem_of_getElem? hp)
          have hI' := hI.alloc (.cells #[.int .i64 px, .int .i64 py, .int .i64 pz] 61)
          have HI' := Lib.hid hI'
          have htk : A.take (j + 1) = A.take j ++ [(px, py, pz)] := by
            rw [List.take_succ_eq_append_getElem hjl]
            congr 1
            rw [List.getElem?_eq_getElem hjl] at hp
            rw [Option.some.inj hp]
          have Htk := Lib.hid htk
          have HCv := Lib.hid hcv
          have hmem : (px, py, pz) ∈ A := List.mem_of_getElem? hp
          have HMem := Lib.hid hmem
          clear hI hr hp hcv htk hmem
          by_cases hM : triV (px, py, pz) ∈ seen
          · have HYes := Lib.hid ((HSn.out (px, py, pz)).1 hM)
            have HMm := Lib.hid hM
            clear hI' hM
            go_wp2_with (at_lookup; refine wpList_lookupB HI'.out.m rfl _ _ 67 rfl (Keyed.of_law arrTri.law) Try.underlying67 Try.underlying4 (zero_bool _) rfl (triV (px, py, pz)) rfl (tri_key hwf) ?_; intro r hir; obtain rfl : r = true := hir.2 HMm.out)
            go_roundw
            case measure => simp [intOf]; omega
            case rel =>
              refine ⟨j + 1, by omega, by go_num, ?_, HI'.out⟩
              rw [Htk.out]
              intro t ht
              rcases List.mem_append.1 ht with ht | ht
              · exact HCv.out t ht
              · rw [List.mem_singleton.1 ht]
                exact HYes.out
          · have HNo := Lib.hid (show ¬ CovT A B from fun h => hM ((HSn.out (px, py, pz)).2 (h _ HMem.out)))
            have HMm := Lib.hid hM
            clear hI' hM
            go_wp2_with (at_lookup; refine wpList_lookupB HI'.out.m rfl _ _ 67 rfl (Keyed.of_law arrTri.law) Try.underlying67 Try.underlying4 (zero_bool _) rfl (triV (px, py, pz)) rfl (tri_key hwf) ?_; intro r hir; obtain rfl : r = false := (by cases r; rfl; exact absurd (hir.1 rfl) HMm.out))
            go_ret
            exact ⟨false, rfl, ⟨fun h => (by cases h), fun h => absurd h.1 HNo.out⟩, HI'.out.bel⟩
        · obtain rfl : j = F1 := by omega
          rw [List.take_of_length_le (by rw [HL.out.1]; exact Nat.le_refl _)] at hcv
          have HCv := Lib.hid hcv
          have HI2 := Lib.hid hI
          obtain ⟨l0, x0, -, x1, -⟩ := hI.k0.two
          obtain ⟨l1, y0, -, y1, -⟩ := hI.k1.two
          clear hcv hI
          by_cases hN : N1 = N2
          · subst hN
            have bN : (N1 == N1) = true := by simp
            by_cases hjk : j = k
            · have bJ : ((j : Int) == (k : Int)) = true := by simp [hjk]
              have HJ := Lib.hid hjk
              clear hjk
              go_wp2
              go_ret
              refine ⟨true, rfl, ?_, HI2.out.bel⟩
              rw [HL.out.1, HL.out.2]
              exact ⟨fun _ => ⟨HCv.out, rfl, HJ.out⟩, fun _ => rfl⟩
            · have bJ : ((j : Int) == (k : Int)) = false := by simp; omega
              have HJ := Lib.hid hjk
              clear hjk
              go_wp2
              go_ret
              refine ⟨false, rfl, ?_, HI2.out.bel⟩
              rw [HL.out.1, HL.out.2]
              exact ⟨fun h => (by cases h), fun h => absurd h.2.2 HJ.out⟩
          · have bN : (N1 == N2) = false := by simpa using hN
            have HN := Lib.hid hN
            clear hN
            go_wp2
            go_ret
            exact ⟨false, rfl, ⟨fun h => (by cases h), fun h => absurd h.2.1 HN.out⟩, HI2.out.bel⟩
end Go.Proofs.Ytpnkhgjjlionnaa
namespace Go.Proofs.Ytpnkhgjjlionnaa
open Go.RowKit Go.Maps

set_option maxRecDepth 100000 in
set_option maxHeartbeats 4000000 in
theorem ren1_any (q n : Nat) (vO : Value) (tw : List Int) (t : Tr) (W : World) (hO : IntsRd W vO tw) (hn : tw.length = n) (hq : W.cell? ⟨q, 0, none⟩ = some vO) (hql : q < W.heap.size) (ht : in3 n t) (_hn9 : n ≤ 1000000) :
    Calls Try.prog 34 #[.agg #[.int .i64 t.1, .int .i64 t.2.1, .int .i64 t.2.2], .pointer (some ⟨q, 0, none⟩)] W fun e W' => e = .returned (.agg #[.int .i64 (renT (toF tw) t).1, .int .i64 (renT (toF tw) t).2.1, .int .i64 (renT (toF tw) t).2.2]) ∧ Below W.heap.size W W' := by
  obtain ⟨x, y, z⟩ := t
  obtain ⟨⟨x0, x1⟩, ⟨y0, y1⟩, ⟨z0, z1⟩⟩ := ht
  simp only at x0 x1 y0 y1 z0 z1 ⊢
  unfold renT toF
  obtain ⟨x, rfl⟩ : ∃ k : Nat, x = k := ⟨x.toNat, by omega⟩
  obtain ⟨y, rfl⟩ : ∃ k : Nat, y = k := ⟨y.toNat, by omega⟩
  obtain ⟨z, rfl⟩ : ∃ k : Nat, z = k := ⟨z.toNat, by omega⟩
  simp only [Int.toNat_natCast]
  obtain ⟨aO, cO, rfl, hlO, hrO⟩ := hO
  rw [hn] at hlO hq
  have hx : x < tw.length := by omega
  have hy : y < tw.length := by omega
  have hz : z < tw.length := by omega
  obtain ⟨gO, oO, rfl, hg, cx⟩ := hrO x _ (List.getElem?_eq_getElem hx)
  obtain ⟨gO', oO', e', -, cy⟩ := hrO y _ (List.getElem?_eq_getElem hy)
  cases e'
  obtain ⟨gO', oO', e', -, cz⟩ := hrO z _ (List.getElem?_eq_getElem hz)
  cases e'
  rw [← at_get hx] at cx
  rw [← at_get hy] at cy
  rw [← at_get hz] at cz
  have b0 := (Blk.new W 61 #[.int .i64 (x : Int), .int .i64 (y : Int), .int .i64 (z : Int)]).alloc (.cells #[.int .i64 0, .int .i64 0, .int .i64 0] 61)
  have b1 : Blk ((W.alloc (.cells #[.int .i64 (x : Int), .int .i64 (y : Int), .int .i64 (z : Int)] 61)).alloc (.cells #[.int .i64 0, .int .i64 0, .int .i64 0] 61)) (W.heap.size + 1) 61 #[.int .i64 0, .int .i64 0, .int .i64 0] := blk_new_at (by simp)
  have hB : Below W.heap.size W ((W.alloc (.cells #[.int .i64 (x : Int), .int .i64 (y : Int), .int .i64 (z : Int)] 61)).alloc (.cells #[.int .i64 0, .int .i64 0, .int .i64 0] 61)) := ((Below.refl _ _).alloc (Nat.le_refl _) _).alloc (by simp) _
  have dq := (hB.cell (p := ⟨q, 0, none⟩) hql).trans hq
  have dx := (hB.cell (p := ⟨gO, oO + x, none⟩) hg).trans cx
  have dy := (hB.cell (p := ⟨gO, oO + y, none⟩) hg).trans cy
  have dz := (hB.cell (p := ⟨gO, oO + z, none⟩) hg).trans cz
  have HB := Lib.hid hB
  have HB1 := Lib.hid b1
  obtain ⟨l0, s0, f0, s1, f1, s2, f2⟩ := b0.three
  obtain ⟨l1, u0, g0, u1, g1, u2, g2⟩ := b1.three
  generalize at_ tw x = X at *
  generalize at_ tw y = Y at *
  generalize at_ tw z = Z at *
  have kx : (x : Int) < (n : Int) := by omega
  have ky : (y : Int) < (n : Int) := by omega
  have kz : (z : Int) < (n : Int) := by omega
  have ix0 := @index_t0
  have ix1 := @index_t1
  have ix2 := @index_t2
  clear hB b0 b1 cx cy cz hrO hq hx hy hz
  go_enter Try.func34, Try.ntmps34
  go_upto_region 1 with fail
  refine wp_region_U 16 (fun w' => w'.cell? ⟨q, 0, none⟩ = some (.slice (some ⟨gO, oO, none⟩) n cO) ∧ w'.cell? ⟨W.heap.size, 0, none⟩ = some (.int .i64 (x : Int)) ∧ w'.cell? ⟨W.heap.size, 1, none⟩ = some (.int .i64 (y : Int)) ∧ w'.cell? ⟨W.heap.size, 2, none⟩ = some (.int .i64 (z : Int)) ∧ w'.cell? ⟨gO, oO + x, none⟩ = some (.int .i64 X) ∧ w'.cell? ⟨gO, oO + y, none⟩ = some (.int .i64 Y) ∧ w'.cell? ⟨gO, oO + z, none⟩ = some (.int .i64 Z)) (by kernel_rfl) ⟨dq, s0, s1, s2, dx, dy, dz⟩ ?_
  change AtU _ _ _ _ _ _ 17 (Array.replicate 17 false) _ _
  refine AtU.take (i := 0) (v := ?_) rfl (by kernel_rfl) (by kernel_rfl) (fun _ _ _ h => h) (by rfl) ?_ ?_
  rotate_left 1
  · intro w9 hSw; (try dsimp only at hSw); go_simp; try with_reducible rfl
  try simp only [Act.put, List.setIfInBounds_toArray, List.set_cons_zero, List.set_cons_succ]
  refine AtU.take (i := 1) (v := ?_) rfl (by kernel_rfl) (by kernel_rfl) (fun _ _ _ h => h) (by rfl) ?_ ?_
  rotate_left 1
  · intro w9 hSw; (try dsimp only at hSw); go_simp; try with_reducible rfl
  try simp only [Act.put, List.setIfInBounds_toArray, List.set_cons_zero, List.set_cons_succ]
  refine AtU.take (i := 2) (v := ?_) rfl (by kernel_rfl) (by kernel_rfl) (fun _ _ _ h => h) (by rfl) ?_ ?_
  rotate_left 1
  · intro w9 hSw; (try dsimp only at hSw); go_simp; try with_reducible rfl
  try simp only [Act.put, List.setIfInBounds_toArray, List.set_cons_zero, List.set_cons_succ]
  refine AtU.take (i := 3) (v := ?_) rfl (by kernel_rfl) (by kernel_rfl) (fun _ _ _ h => h) (by rfl) ?_ ?_
  rotate_left 1
  · intro w9 hSw; (try dsimp only at hSw); go_simp; try with_reducible rfl
  try simp only [Act.put, List.setIfInBounds_toArray, List.set_cons_zero, List.set_cons_succ]
  refine AtU.take (i := 4) (v := ?_) rfl (by kernel_rfl) (by kernel_rfl) (fun _ _ _ h => h) (by rfl) ?_ ?_
  rotate_left 1
  · intro w9 hSw; (try dsimp only at hSw); go_simp; try with_reducible rfl
  try simp only [Act.put, List.setIfInBounds_toArray, List.set_cons_zero, List.set_cons_succ]
  refine AtU.take (i := 5) (v := ?_) rfl (by kernel_rfl) (by kernel_rfl) (fun _ _ _ h => h) (by rfl) ?_ ?_
  rotate_left 1
  · intro w9 hSw; (try dsimp only at hSw); go_simp; try with_reducible rfl
  try simp only [Act.put, List.setIfInBounds_toArray, List.set_cons_zero, List.set_cons_succ]
  refine AtU.take (i := 6) (v := ?_) rfl (by kernel_rfl) (by kernel_rfl) (fun _ _ _ h => h) (by rfl) ?_ ?_
  rotate_left 1
  · intro w9 hSw; (try dsimp only at hSw); go_simp; try with_reducible rfl
  try simp only [Act.put, List.setIfInBounds_toArray, List.set_cons_zero, List.set_cons_succ]
  refine AtU.take (i := 7) (v := ?_) rfl (by kernel_rfl) (by kernel_rfl) (fun _ _ _ h => h) (by rfl) ?_ ?_
  rotate_left 1
  · intro w9 hSw; (try dsimp only at hSw); go_simp; try with_reducible rfl
  try simp only [Act.put, List.setIfInBounds_toArray, List.set_cons_zero, List.set_cons_succ]
  refine AtU.take (i := 8) (v := ?_) rfl (by kernel_rfl) (by kernel_rfl) (fun _ _ _ h => h) (by rfl) ?_ ?_
  rotate_left 1
  · intro w9 hSw; (try dsimp only at hSw); go_simp; try with_reducible rfl
  try simp only [Act.put, List.setIfInBounds_toArray, List.set_cons_zero, List.set_cons_succ]
  refine AtU.take (i := 9) (v := ?_) rfl (by kernel_rfl) (by kernel_rfl) (fun _ _ _ h => h) (by rfl) ?_ ?_
  rotate_left 1
  · intro w9 hSw; (try dsimp only at hSw); go_simp; try with_reducible rfl
  try simp only [Act.put, List.setIfInBounds_toArray, List.set_cons_zero, List.set_cons_succ]
  refine AtU.take (i := 10) (v := ?_) rfl (by kernel_rfl) (by kernel_rfl) (fun _ _ _ h => h) (by rfl) ?_ ?_
  rotate_left 1
  · intro w9 hSw; (try dsimp only at hSw); go_simp; try with_reducible rfl
  try simp only [Act.put, List.setIfInBounds_toArray, List.set_cons_zero, List.set_cons_succ]
  refine AtU.take (i := 11) (v := ?_) rfl (by kernel_rfl) (by kernel_rfl) (fun _ _ _ h => h) (by rfl) ?_ ?_
  rotate_left 1
  · intro w9 hSw; (try dsimp only at hSw); go_simp; try with_reducible rfl
  try simp only [Act.put, List.setIfInBounds_toArray, List.set_cons_zero, List.set_cons_succ]
  refine AtU.take (i := 12) (v := ?_) rfl (by kernel_rfl) (by kernel_rfl) (fun _ _ _ h => h) (by rfl) ?_ ?_
  rotate_left 1
  · intro w9 hSw; (try dsimp only at hSw); go_simp; try with_reducible rfl
  try simp only [Act.put, List.setIfInBounds_toArray, List.set_cons_zero, List.set_cons_succ]
  refine AtU.take (i := 13) (v := ?_) rfl (by kernel_rfl) (by kernel_rfl) (fun _ _ _ h => h) (by rfl) ?_ ?_
  rotate_left 1
  · intro w9 hSw; (try dsimp only at hSw); go_simp; try with_reducible rfl
  try simp only [Act.put, List.setIfInBounds_toArray, List.set_cons_zero, List.set_cons_succ]
  refine AtU.take (i := 14) (v := ?_) rfl (by kernel_rfl) (by kernel_rfl) (fun _ _ _ h => h) (by rfl) ?_ ?_
  rotate_left 1
  · intro w9 hSw; (try dsimp only at hSw); go_simp; try with_reducible rfl
  try simp only [Act.put, List.setIfInBounds_toArray, List.set_cons_zero, List.set_cons_succ]
  refine AtU.take (i := 15) (v := ?_) rfl (by kernel_rfl) (by kernel_rfl) (fun _ _ _ h => h) (by rfl) ?_ ?_
  rotate_left 1
  · intro w9 hSw; (try dsimp only at hSw); go_simp; try with_reducible rfl
  try simp only [Act.put, List.setIfInBounds_toArray, List.set_cons_zero, List.set_cons_succ]
  refine AtU.last (i := 16) rfl (by kernel_rfl) (fun K hK => ?_)
  go_simp
  refine hK.out _ _ ?_
  clear hK K
  go_wp2
  have hF2 : Blk ((W.alloc (.cells #[.int .i64 (x : Int), .int .i64 (y : Int), .int .i64 (z : Int)] 61)).alloc (.cells #[.int .i64 X, .int .i64 Y, .int .i64 Z] 61)) (W.heap.size + 1) 61 #[.int .i64 X, .int .i64 Y, .int .i64 Z] := blk_new_at (by simp)
  obtain ⟨-, p0, -, p1, -, p2, -⟩ := hF2.drew.three
  refine bodyPost_ret (v := .agg #[.int .i64 X, .int .i64 Y, .int .i64 Z]) (by simp [results, Try.results34, go_sem, p0, p1, p2]) rfl ?_
  exact ⟨rfl, below_d (((Below.refl _ _).alloc (Nat.le_refl _) _).alloc (by simp) _)⟩
end Go.Proofs.Ytpnkhgjjlionnaa
namespace Go.Proofs.Ytpnkhgjjlionnaa
open Go.RowKit Go.Maps

theorem infoTriER : (Try.prog.info? 61).map (fun i => (i.zero, i.size, i.bytes)) = some (some (.agg #[.int .i64 0, .int .i64 0, .int .i64 0]), 3, 24) := by kernel_rfl
theorem own_one_tri {W : World} {base g : Nat} {a b c : Value} (h : Blk W g 61 #[a, b, c]) (hb : base ≤ g) : W.ownsRow base 61 3 (.slice (some ⟨g, 0, none⟩) 1 1) 1 [a, b, c] := ⟨rfl, .inr ⟨g, 1, #[a, b, c], rfl, hb, h, Nat.le_refl _, by decide, rfl, rfl⟩⟩
/-- What is made so far: the soup at b4, the results' cells at b2. -/
structure EaStR (w W : World) (b2 b4 : Nat) (N : Int) (T : List Tr) (vT : Value) : Prop where
  k2 : Blk W b2 24 #[.int .i64 0, .slice none 0 0]
  k4 : Blk W b4 24 #[.int .i64 N, vT]
  rT : W.ownsRow w.heap.size 61 3 vT T.length (ws3 T)
  bel : Below w.heap.size w W
  l2 : w.heap.size ≤ b2
  l4 : w.heap.size ≤ b4
  ne : b2 ≠ b4
section
variable {w W W' w4 : World} {b2 b4 : Nat} {N N' : Int} {T : List Tr} {vT : Value}
theorem EaStR.below (h : EaStR w W b2 b4 N T vT) (hb : Below W.heap.size W W') : EaStR w W' b2 b4 N T vT :=
  ⟨h.k2.below hb h.k2.lt, h.k4.below hb h.k4.lt, own_below h.rT hb, h.bel.trans (hb.mono h.bel.size), h.l2, h.l4, h.ne⟩
theorem EaStR.alloc (h : EaStR w W b2 b4 N T vT) (o : Obj) : EaStR w (W.alloc o) b2 b4 N T vT := h.below ((Below.refl _ _).alloc (Nat.le_refl _) _)
theorem EaStR.drew (h : EaStR w W b2 b4 N T vT) : EaStR w W.drew b2 b4 N T vT := h.below (below_d (Below.refl _ _))
theorem EaStR.app (h : EaStR w W b2 b4 N T vT) (hg : W.grownBy w4 vT.ownBlock) {v4 : Value} {T4 : List Tr} (hr : w4.ownsRow w.heap.size 61 3 v4 T4.length (ws3 T4)) :
    Blk w4 b4 24 #[.int .i64 N, vT] ∧ EaStR w (w4.setCell ⟨b4, 1, none⟩ v4) b2 b4 N T4 v4 := by
  have c4 := h.k4.grown hg (fun e => own_blk_ne h.rT h.k4 (by decide) e.symm)
  have c2 := h.k2.grown hg (fun e => own_blk_ne h.rT h.k2 (by decide) e.symm)
  have hS : w4.grownBy (w4.setCell ⟨b4, 1, none⟩ v4) (some b4) := gStR (World.grownBy.refl _ _)
  exact ⟨c4, ⟨c2.far (p := ⟨b4, 1, none⟩) h.ne v4, by simpa using c4.set_ 1 v4, hr.kept hS (.inr (own_blk_ne hr c4 (by decide))), (h.bel.grown hg h.bel.size (fun j e => (h.rT.lt j e).1)).setCell h.l4 _, h.l2, h.l4, h.ne⟩⟩
end
set_option maxRecDepth 100000 in
set_option maxHeartbeats 4000000 in
theorem eachR_any (N : Int) (v : Value) (T : List Tr) (lb : Array Value) (F : Tr → Tr) (w : World) (h : TrisRd w v T) (hl : T.length ≤ 8192)
    (hp : ∀ (W : World) (t : Tr), t ∈ T → Below w.heap.size w W → Calls Try.prog 34 (#[.agg #[.int .i64 t.1, .int .i64 t.2.1, .int .i64 t.2.2]] ++ lb) W fun e W' => e = .returned (.agg #[.int .i64 (F t).1, .int .i64 (F t).2.1, .int .i64 (F t).2.2]) ∧ Below W.heap.size W W') :
    Calls Try.prog 31 #[.agg #[.int .i64 N, v], .func (.func 34) #[] lb] w fun e w' => ∃ vT, e = .returned (.agg #[.int .i64 N, vT]) ∧ w'.ownsRow w.heap.size 61 3 vT T.length (ws3 (T.map F)) ∧ Below w.heap.size w w' := by
  have HV := Lib.hid (fun (W : World) (hW : Below w.heap.size w W) => h.below hW)
  obtain ⟨aL, cL, rfl, -, -, hrd⟩ := h
  obtain ⟨n, hn⟩ : ∃ n, T.length = n := ⟨_, rfl⟩
  obtain ⟨i0, hi, hz0, hz1, hz2⟩ := info_parts infoTriER
  have HP := Lib.hid hp
  rw [hn] at hl ⊢
  have b0 := (((Blk.new w 24 #[.int .i64 N, .slice aL n cL]).alloc (.cells #[.int .i64 0, .slice none 0 0] 24)).alloc (.cells #[.int .i64 N, .slice none 0 0] 24))
  have hI0 : EaStR w (((w.alloc (.cells #[.int .i64 N, .slice aL n cL] 24)).alloc (.cells #[.int .i64 0, .slice none 0 0] 24)).alloc (.cells #[.int .i64 N, .slice none 0 0] 24)) (w.heap.size + 1) (w.heap.size + 1 + 1) N [] (.slice none 0 0) :=
    ⟨(blk_new_at (by simp)).alloc _, blk_new_at (by simp), World.ownsRow_nil _ _ _ _, (((Below.refl _ _).alloc (Nat.le_refl _) _).alloc (by simp) _).alloc (by simp; omega) _, by omega, by omega, by omega⟩
  have HI0 := Lib.hid hI0
  have HB0 := Lib.hid b0
  have Hn := Lib.hid hn
  clear hI0 hrd hn hp b0
  go_enter Try.func31, Try.ntmps31
  go_wp2
  go_loopw [14] (fun i wr => ∃ k : Nat, k ≤ n ∧ i = .int .i64 k ∧ ∃ vS, EaStR w wr (w.heap.size + 1) (w.heap.size + 1 + 1) N ((T.take k).map F) vS) (fun i _ => n - (intOf i).toNat)
  case atStart => exact ⟨0, Nat.zero_le _, rfl, _, HI0.out⟩
  case round =>
    rename World => wr
    obtain ⟨k, hk, rfl, vS, hI⟩ := hrel
    by_cases hlt : k < n
    · have hkl : k < T.length := by rw [Hn.out]; exact hlt
      obtain ⟨⟨px, py, pz⟩, hp⟩ : ∃ t, T[k]? = some t := ⟨T[k], List.getElem?_eq_getElem hkl⟩
      obtain ⟨a', c', e', -, -, hr⟩ := HV.out wr hI.bel
      rw [Hn.out] at e'
      cases e'
      obtain ⟨bT, oT, rfl, hbT, s0, s1, s2⟩ := hr k px py pz hp
      have hki : (k : Int) < (n : Int) := by omega
      have HI := Lib.hid hI
      have bq := Blk.new wr 61 #[.int .i64 px, .int .i64 py, .int .i64 pz]
      have hI' := hI.alloc (.cells #[.int .i64 px, .int .i64 py, .int .i64 pz] 61)
      have HPc := Lib.hid (HP.out (wr.alloc (.cells #[.int .i64 px, .int .i64 py, .int .i64 pz] 61)).drew (px, py, pz) (List.mem_of_getElem? hp) (below_d (hI.bel.alloc hI.bel.size _)))
      clear hI
      go_upto_region 5 with fail
      refine wp_region_U 8 (fun w' => w'.cell? ⟨w.heap.size + 1 + 1, 1, none⟩ = some vS ∧ w'.cell? ⟨wr.heap.size, 0, none⟩ = some (.int .i64 px) ∧ w'.cell? ⟨wr.heap.size, 1, none⟩ = some (.int .i64 py) ∧ w'.cell? ⟨wr.heap.size, 2, none⟩ = some (.int .i64 pz)) (by kernel_rfl) ⟨hI'.drew.k4.cell 1, bq.drew.cell 0, bq.drew.cell 1, bq.drew.cell 2⟩ ?_
      change AtU _ _ _ _ _ _ 9 (Array.replicate 9 false) _ _
      refine AtU.take (i := 0) (v := ?_) rfl (by kernel_rfl) (by kernel_rfl) (fun _ _ _ h => h) (by rfl) ?_ ?_
      rotate_left 1
      · intro w9 hSw; (try dsimp only at hSw); go_simp; try with_reducible rfl
      try simp only [Act.put, List.setIfInBounds_toArray, List.set_cons_zero, List.set_cons_succ]
      refine AtU.take (i := 1) (v := ?_) rfl (by kernel_rfl) (by kernel_rfl) (fun _ _ _ h => h) (by rfl) ?_ ?_
      rotate_left 1
      · intro w9 hSw; (try dsimp only at hSw); go_simp; try with_reducible rfl
      try simp only [Act.put, List.setIfInBounds_toArray, List.set_cons_zero, List.set_cons_succ]
      refine AtU.take (i := 2) (v := ?_) rfl (by kernel_rfl) (by kernel_rfl) (fun _ _ _ h => h) (by rfl) ?_ ?_
      rotate_left 1
      · intro w9 hSw; (try dsimp only at hSw); go_simp; try with_reducible rfl
      try simp only [Act.put, List.setIfInBounds_toArray, List.set_cons_zero, List.set_cons_succ]
      refine AtU.take (i := 3) (v := ?_) rfl (by kernel_rfl) (by kernel_rfl) (fun _ _ _ h => h) (by rfl) ?_ ?_
      rotate_left 1
      · intro w9 hSw; (try dsimp only at hSw); go_simp; try with_reducible rfl
      try simp only [Act.put, List.setIfInBounds_toArray, List.set_cons_zero, List.set_cons_succ]
      refine AtU.step (i := 4) rfl (by kernel_rfl) (fun K hK => ?_)
      go_wp2_with (go_at_call 34; go_loud (refine (HPc.out).mono ?_; rintro e w5 ⟨rfl, hb5⟩))
      have H5 := (hI'.drew.below hb5)
      have B5 := bq.drew.below hb5 (by simp)
      refine hK.out _ _ ⟨H5.k4.cell 1, B5.cell 0, B5.cell 1, B5.cell 2⟩ ?_
      clear hK K
      try simp only [Act.put, List.setIfInBounds_toArray, List.set_cons_zero, List.set_cons_succ]
      refine AtU.step (i := 5) rfl (by kernel_rfl) (fun K hK => ?_)
      go_simp
      have H6 := H5.alloc (.cells #[.int .i64 (F (px, py, pz)).1, .int .i64 (F (px, py, pz)).2.1, .int .i64 (F (px, py, pz)).2.2] 61)
      have B6 := B5.alloc (.cells #[.int .i64 (F (px, py, pz)).1, .int .i64 (F (px, py, pz)).2.1, .int .i64 (F (px, py, pz)).2.2] 61)
      have N6 := own_one_tri (Blk.new w5 61 #[.int .i64 (F (px, py, pz)).1, .int .i64 (F (px, py, pz)).2.1, .int .i64 (F (px, py, pz)).2.2]) (Nat.le_refl _)
      refine hK.out _ _ ⟨H6.k4.cell 1, B6.cell 0, B6.cell 1, B6.cell 2⟩ ?_
      clear hK K
      try simp only [Act.put, List.setIfInBounds_toArray, List.set_cons_zero, List.set_cons_succ]
      refine AtU.step (i := 6) rfl (by kernel_rfl) (fun K hK => ?_)
      obtain ⟨S9, hS9⟩ : ∃ S9, (T.take k).map F = S9 := ⟨_, rfl⟩
      have hl9 : S9.length ≤ 8192 := by rw [← hS9, List.length_map, List.length_take]; have := Hn.out; omega
      have HS9 := Lib.hid (show (T.take (k + 1)).map F = S9 ++ [F (px, py, pz)] from by
        rw [List.take_succ_eq_append_getElem hkl, List.map_append, hS9]
        have : T[k] = (px, py, pz) := by rw [List.getElem?_eq_getElem hkl] at hp; exact Option.some.inj hp
        rw [this]
        rfl)
      rw [hS9] at H6
      refine step_append_any _ (by rfl) (.tmp 19) (.tmp 23) 22 (by rfl) w.heap.size 61 i0 _ 3 24 Try.underlying22 hi hz0 hz1 hz2 (by rfl) (by decide) vS S9.length (ws3 S9) (by rfl) H6.rT w5.heap.size (.slice (some ⟨w5.heap.size, 0, none⟩) 1 1) 1 _ (by rfl) N6 (by simp [Value.oneCell']) (by unfold maxLen; omega) (by omega) H6.bel.size ?_
      intro v8 W8 hr8 hg8 hat8
      obtain ⟨a8, c8, rfl⟩ := ownsRow_slice hr8
      have h9 := H6.app hg8 (T4 := S9 ++ [F (px, py, pz)]) (v4 := .slice a8 (S9.length + 1) c8) (by rw [ws3_snoc, List.length_append]; exact hr8)
      obtain ⟨lx8, y0, r0, y1, r1⟩ := h9.1.two
      have B9 := B6.grown hg8 (fun e => absurd (HI.out.rT.lt _ e.symm).2 (Nat.lt_irrefl _))
      refine hK.out _ _ ⟨h9.1.cell 1, B9.cell 0, B9.cell 1, B9.cell 2⟩ ?_
      clear hK K
      try simp only [Act.put, List.setIfInBounds_toArray, List.set_cons_zero, List.set_cons_succ]
      refine AtU.take (i := 7) (v := ?_) rfl (by kernel_rfl) (by kernel_rfl) (fun _ _ _ h => h) (by rfl) ?_ ?_
      rotate_left 1
      · intro w9 hSw; (try dsimp only at hSw); go_simp; try with_reducible rfl
      try simp only [Act.put, List.setIfInBounds_toArray, List.set_cons_zero, List.set_cons_succ]
      refine AtU.last (i := 8) rfl (by kernel_rfl) (fun K hK => ?_)
      go_simp
      refine hK.out _ _ ?_
      clear hK K
      have HF9 := Lib.hid h9.2
      generalize W8.setCell ⟨w.heap.size + 1 + 1, 1, none⟩ _ = W9 at *
      clear y0 r0 y1 r1 lx8 hr8 hg8 hat8 h9 B9 H6 B6 N6 H5 B5 hI' bq hb5
      go_wp2
      go_roundw
      case measure => simp [intOf]; omega
      case rel => exact ⟨k + 1, by omega, by go_num, _, by rw [HS9.out]; exact HF9.out⟩
    · obtain rfl : k = n := by omega
      rw [List.take_of_length_le (by rw [Hn.out]; exact Nat.le_refl _)] at hI
      obtain ⟨aS, cS, hvS⟩ := ownsRow_slice hI.rT
      subst hvS
      have hln : (T.map F).length = k := by rw [List.length_map, Hn.out]
      rw [hln] at hI
      have HI := Lib.hid hI
      obtain ⟨l4, y0, f0, y1, f1⟩ := hI.k4.two
      obtain ⟨l2, z0, q0, z1, q1⟩ := hI.k2.two
      have hB2 := (hI.k2.set_ 0 (.int .i64 N)).set_ 1 (.slice aS k cS)
      have HF := Lib.hid (And.intro (show Blk _ (w.heap.size + 1) 24 #[.int .i64 N, .slice aS k cS] from by simpa using hB2) (And.intro (own_alloc_st (i := 1) (u := .slice aS k cS) (own_alloc_st (i := 0) (u := .int .i64 N) (hln ▸ hI.rT) hI.k2 (by decide)) (hI.k2.set_ 0 (.int .i64 N)) (by decide)) ((hI.bel.setCell (p := ⟨w.heap.size + 1, 0, none⟩) (by simp) (.int .i64 N)).setCell (p := ⟨w.heap.size + 1, 1, none⟩) (by simp) (.slice aS k cS))))
      clear hI hB2
      go_wp2
      obtain ⟨hb2, hr2, hbel⟩ := HF.out
      obtain ⟨-, p0, -, p1, -⟩ := hb2.two
      refine bodyPost_ret (v := .agg #[.int .i64 N, .slice aS k cS]) (by simp [results, Try.results31, go_sem, p0, p1]) rfl ?_
      exact ⟨_, rfl, hr2, hbel⟩
end Go.Proofs.Ytpnkhgjjlionnaa
namespace Go.Proofs.Ytpnkhgjjlionnaa
open Go.RowKit Go.Maps

theorem own_lower9 {w : World} {base base' : Nat} {e : TypeId} {size n : Nat} {v : Value} {xs : List Value} (h : w.ownsRow base e size v n xs) (hb : base' ≤ base) : w.ownsRow base' e size v n xs := by
  refine ⟨h.1, ?_⟩
  rcases h.2 with hn | ⟨g, cap, cur, rfl, hb1, rest⟩
  · exact .inl hn
  · exact .inr ⟨g, cap, cur, rfl, Nat.le_trans hb hb1, rest⟩
/-- Where things lie in soup.Rename. -/
structure RnSt (w W : World) (q n F : Nat) (aT : Option Addr) (cT : Nat) (aO : Option Addr) (cO : Nat) (bs : List Bool) : Prop where
  k0 : Blk W w.heap.size 24 #[.int .i64 (n : Int), .slice aT F cT]
  k1 : Blk W (w.heap.size + 1) 35 #[.slice aO n cO]
  k2 : Blk W (w.heap.size + 1 + 1) 24 #[.int .i64 0, .slice none 0 0]
  row : W.ownsRow w.heap.size 4 1 (.slice (some ⟨q, 0, none⟩) n n) n (bools bs)
  bel : Below w.heap.size w W
theorem RnSt.mark {w W : World} {q n F : Nat} {aT : Option Addr} {cT : Nat} {aO : Option Addr} {cO : Nat} {bs : List Bool} (h : RnSt w W q n F aT cT aO cO bs) (hq : w.heap.size + 3 ≤ q) (u : Nat) : RnSt w (W.setCell ⟨q, u, none⟩ (.bool true)) q n F aT cT aO cO (bs.set u true) where
  k0 := h.k0.far (p := ⟨q, u, none⟩) (by simp only; omega) _
  k1 := h.k1.far (p := ⟨q, u, none⟩) (by simp only; omega) _
  k2 := h.k2.far (p := ⟨q, u, none⟩) (by simp only; omega) _
  row := by rw [← bools_set]; exact (h.row.stored u _).1
  bel := h.bel.setCell (p := ⟨q, u, none⟩) (by simp only; omega) _
set_option maxRecDepth 100000 in
set_option maxHeartbeats 4000000 in
theorem rename_any (n : Nat) (v vO : Value) (T : List Tr) (tw : List Int) (w : World) (hT : TrisRd w v T) (hO : IntsRd w vO tw) (hf : fitsS (n : Int) T = true) (hto : AllN n tw) :
    Calls Try.prog 15 #[.agg #[.int .i64 (n : Int), v], vO] w fun e w' => ∃ vT, e = .returned (.tuple #[.agg #[.int .i64 (n : Int), vT], .int .i64 0]) ∧ w'.ownsRow w.heap.size 61 3 vT T.length (ws3 (T.map (renT (toF tw)))) ∧ Below w.heap.size w w' := by
  obtain ⟨i2, hj', hz0, hz1, hz2⟩ := info_parts infoBool
  have hfn := fitsS_n hf
  have HIN := Lib.hid (show ∀ t ∈ T, in3 n t from fun t ht => by
    have := fitsS_t hf t ht
    exact ⟨this.1, this.2.1, this.2.2.1⟩)
  have HRT := Lib.hid (fun (W : World) (hW : Below w.heap.size w W) => hT.below hW)
  have HRO := Lib.hid (fun (W : World) (hW : Below w.heap.size w W) => hO.below hW)
  have HFt := Lib.hid (fun (W : World) (hW : Below w.heap.size w W) => (soupFits_any (n : Int) v T W (hT.below hW) (by omega)).mono (fun e w' h => by rw [hf] at h; exact h))
  have HTo := Lib.hid hto
  obtain ⟨aT, cT, rfl, -⟩ := hT
  obtain ⟨aO, cO, rfl, -, hrO⟩ := hO
  have hml := hto.len
  rw [hml] at HRO ⊢
  obtain ⟨F, hF⟩ : ∃ F, T.length = F := ⟨_, rfl⟩
  have HFl := Lib.hid hF
  rw [hF] at HRT HFt hfn ⊢
  have hB0 : Below w.heap.size w (((w.alloc (.cells #[.int .i64 (n : Int), .slice aT F cT] 24)).alloc (.cells #[.slice aO n cO] 35)).alloc (.cells #[.int .i64 0, .slice none 0 0] 24)) := (((Below.refl _ _).alloc (Nat.le_refl _) _).alloc (by simp) _).alloc (by simp; omega) _
  have b0 := ((Blk.new w 24 #[.int .i64 (n : Int), .slice aT F cT]).alloc (.cells #[.slice aO n cO] 35)).alloc (.cells #[.int .i64 0, .slice none 0 0] 24)
  have b1 : Blk (((w.alloc (.cells #[.int .i64 (n : Int), .slice aT F cT] 24)).alloc (.cells #[.slice aO n cO] 35)).alloc (.cells #[.int .i64 0, .slice none 0 0] 24)) (w.heap.size + 1) 35 #[.slice aO n cO] := (blk_new_at (by simp)).alloc _
  have b2 : Blk (((w.alloc (.cells #[.int .i64 (n : Int), .slice aT F cT] 24)).alloc (.cells #[.slice aO n cO] 35)).alloc (.cells #[.int .i64 0, .slice none 0 0] 24)) (w.heap.size + 1 + 1) 24 #[.int .i64 0, .slice none 0 0] := blk_new_at (by simp)
  have HB0 := Lib.hid hB0
  have HB := Lib.hid (And.intro b0 (And.intro b1 b2))
  obtain ⟨l0, x0, -, x1, -⟩ := b0.two
  clear hB0 b0 b1 b2 hF hml
  go_enter Try.func15, Try.ntmps15
  go_wp2_with fail
  refine (HFt.out _ HB0.out).mono ?_
  rintro e w1 ⟨rfl, hb1⟩
  have hBW := HB0.out.trans (hb1.mono HB0.out.size)
  have k0 := HB.out.1.below hb1 HB.out.1.lt
  have k1 := HB.out.2.1.below hb1 HB.out.2.1.lt
  have k2 := HB.out.2.2.below hb1 HB.out.2.2.lt
  have hs1 := hb1.size
  simp only [size_alloc'] at hs1
  clear x0 x1 l0 HFt hb1
  obtain ⟨l0, x0, -, x1, -⟩ := k0.two
  obtain ⟨l1, y0, f0⟩ := k1.one
  go_upto_region 4 with (at_make; refine wpList_make_full _ rfl (.tmp 14) (.tmp 14) 66 rfl w.heap.size 4 i2 _ 1 Try.underlying66 hj' hz0 hz1 .i64 .i64 _ _ n rfl rfl rfl rfl (by rw [hz2]; omega) (by unfold maxLen; omega) (by omega) ?_; intro w2 hr2 hg2)
  rw [made_bools] at hr2
  have hI0 : RnSt w w2 w1.heap.size n F aT cT aO cO (List.replicate n false) :=
    ⟨k0.grown hg2 (by simp), k1.grown hg2 (by simp), k2.grown hg2 (by simp), hr2, hBW.grown hg2 (by omega) (fun j e => by cases e)⟩
  have HI0 := Lib.hid hI0
  have hq3 : w.heap.size + 3 ≤ w1.heap.size := by omega
  have k1' := hI0.k1
  obtain ⟨l1', y0', f0'⟩ := k1'.one
  clear hI0 hr2 hg2 hBW k0 k1 k2 k1' x0 x1 l0 l1 y0 f0 hs1 HB HB0 hrO
  generalize w1.heap.size = q at *
  go_wp2
  clear l1' y0' f0'
  go_loopw [18] (fun i wr => ∃ (k : Nat) (bs : List Bool), k ≤ n ∧ i = .int .i64 k ∧ RnSt w wr q n F aT cT aO cO bs ∧ BitsOf bs n (tw.take k)) (fun i _ => n - (intOf i).toNat)
  case atStart => exact ⟨0, _, Nat.zero_le _, rfl, HI0.out, BitsOf.none_ n⟩
  case round =>
    rename World => wr
    obtain ⟨k, bs, hk, rfl, hI, hbs⟩ := hrel
    by_cases hlt : k < n
    · have hkl : k < tw.length := by rw [HTo.out.len]; exact hlt
      obtain ⟨a', c', e', -, hr⟩ := HRO.out wr hI.bel
      rw [HTo.out.len] at e'
      cases e'
      obtain ⟨b, o, rfl, hbl, cv⟩ := hr k _ (List.getElem?_eq_getElem hkl)
      obtain ⟨x, hx⟩ : ∃ x, tw[k] = x := ⟨_, rfl⟩
      rw [hx] at cv
      have hxr := HTo.out.rng x (by rw [← hx]; exact List.getElem_mem hkl)
      have htk : tw.take (k + 1) = tw.take k ++ [x] := by rw [List.take_succ_eq_append_getElem hkl, hx]
      have hnd : x ∉ tw.take k := by
        have h2 := (List.nodup_append.1 (by rw [List.take_append_drop]; exact HTo.out.nd : (tw.take (k + 1) ++ tw.drop (k + 1)).Nodup)).1
        rw [htk] at h2
        exact fun hm => (List.nodup_append.1 h2).2.2 _ hm _ (List.mem_singleton_self _) rfl
      obtain ⟨x, rfl⟩ : ∃ u : Nat, x = u := ⟨x.toNat, by omega⟩
      have hcb : bs[x]? = some false := by
        obtain ⟨cb, hcb⟩ : ∃ cb, bs[x]? = some cb := ⟨bs[x]'(by rw [hbs.1]; omega), List.getElem?_eq_getElem _⟩
        cases cb with
        | false => exact hcb
        | true => exact absurd ((hbs.2 x (by omega)).1 hcb) hnd
      have hc : wr.cell? ⟨q, x, none⟩ = some (.bool false) := by rw [hI.row.cellAt x (by omega), bools, List.getElem?_map, hcb]; rfl
      have hfz := hI.row.frozenAt x
      have hlq := (hI.row.lt q rfl).2
      have hk3 : (k : Int) < (n : Int) := by omega
      have hk0 : (0 : Int) ≤ (k : Int) := by omega
      have hx3 : (x : Int) < (n : Int) := by omega
      have hx1 : ¬ (n : Int) ≤ (x : Int) := by omega
      have hx0 : ¬ (x : Int) < 0 := by omega
      obtain ⟨l0, x0, -, x1, -⟩ := hI.k0.two
      have HI := Lib.hid (hI.mark hq3 x)
      have HBs := Lib.hid (show BitsOf (bs.set x true) n (tw.take (k + 1)) from by rw [htk]; exact hbs.mark (by omega))
      clear hI hbs hr hx hxr htk hnd hcb hkl
      go_wp2
      go_roundw
      case measure => simp [intOf]; omega
      case rel => exact ⟨k + 1, _, by omega, by go_num, HI.out, HBs.out⟩
    · obtain rfl : k = n := by omega
      obtain ⟨l0, x0, -, x1, -⟩ := hI.k0.two
      obtain ⟨l1, y0, f0⟩ := hI.k1.one
      have HE := Lib.hid (eachR_any (k : Int) (.slice aT F cT) T #[.pointer (some ⟨w.heap.size + 1, 0, none⟩)] (renT (toF tw)) wr (HRT.out _ hI.bel) (by rw [HFl.out]; omega) (fun W t ht hW => ren1_any (w.heap.size + 1) k (.slice aO k cO) tw t W (HRO.out W (hI.bel.trans (hW.mono hI.bel.size))) HTo.out.len ((hW.cell (p := ⟨w.heap.size + 1, 0, none⟩) l1).trans y0) (Nat.lt_of_lt_of_le l1 hW.size) (HIN.out t ht) (by omega)))
      have HI := Lib.hid hI
      clear hI hbs
      go_wp2_with (go_at_call 31; refine HE.out.mono ?_; rintro e w3 ⟨vT, rfl, hrT, hb3⟩; obtain ⟨a9, c9, rfl⟩ := ownsRow_slice hrT; obtain ⟨l2, z0, g0, z1, g1⟩ := (HI.out.k2.below hb3 HI.out.k2.lt).two)
      have h2 := HI.out.k2.below hb3 HI.out.k2.lt
      have hK := (h2.set_ 0 (.int .i64 (k : Int))).set_ 1 (.slice a9 T.length c9)
      have hK2 : Blk ((w3.setCell ⟨w.heap.size + 1 + 1, 0, none⟩ (.int .i64 (k : Int))).setCell ⟨w.heap.size + 1 + 1, 1, none⟩ (.slice a9 T.length c9)) (w.heap.size + 1 + 1) 24 #[.int .i64 (k : Int), .slice a9 T.length c9] := by simpa using hK
      obtain ⟨-, p0, -, p1, -⟩ := hK2.two
      refine bodyPost_ret (v := .tuple #[.agg #[.int .i64 (k : Int), .slice a9 T.length c9], .int .i64 0]) (by simp [results, Try.results15, go_sem, p0, p1]) rfl ?_
      have hsz := HI.out.bel.size
      rw [← HFl.out]
      exact ⟨_, rfl, own_lower9 (own_alloc_st (i := 1) (u := .slice a9 T.length c9) (own_alloc_st (i := 0) (u := .int .i64 (k : Int)) hrT h2 (by decide)) (h2.set_ 0 (.int .i64 (k : Int))) (by decide)) hsz, ((HI.out.bel.trans (hb3.mono hsz)).setCell (p := ⟨w.heap.size + 1 + 1, 0, none⟩) (by simp only; omega) _).setCell (p := ⟨w.heap.size + 1 + 1, 1, none⟩) (by simp only; omega) _⟩
end Go.Proofs.Ytpnkhgjjlionnaa
namespace Go.Proofs.Ytpnkhgjjlionnaa
open Go.RowKit Go.Maps

theorem own_base {w : World} {base base' n s : Nat} {e : TypeId} {v : Value} {xs : List Value} (h : w.ownsRow base e s v n xs) (hb : base' ≤ base) : w.ownsRow base' e s v n xs := by
  obtain ⟨h1, h2 | ⟨g, cap, cur, rfl, a1, a2⟩⟩ := h
  · exact ⟨h1, .inl h2⟩
  · exact ⟨h1, .inr ⟨g, cap, cur, rfl, Nat.le_trans hb a1, a2⟩⟩
section
variable {W2 W W' : World} {T : List Tr} {m i : Nat} {vO vT : Value} {cs tw : List Int}
end

end Go.Proofs.Ytpnkhgjjlionnaa
namespace Go.Proofs.Ytpnkhgjjlionnaa
open Go.RowKit Go.Maps

def adjB (T : List Tr) (v : Int) (i k : Nat) : Bool := match T[i]?, T[k]? with
  | some a, some b => [a.1, a.2.1, a.2.2].any fun x => decide (x ≠ v) && (decide (x = b.1) || decide (x = b.2.1) || decide (x = b.2.2))
  | _, _ => false
theorem adjB_ok {T : List Tr} {v : Int} {i k : Nat} (h : adjB T v i k = true) : adjV T v i k := by
  unfold adjB at h
  split at h
  · rename_i a b ha hb
    rw [List.any_eq_true] at h
    obtain ⟨x, hx, h⟩ := h
    simp only [Bool.and_eq_true, Bool.or_eq_true, decide_eq_true_eq] at h
    refine ⟨a, b, x, ha, hb, h.1, ?_, ?_⟩
    · simp only [List.mem_cons, List.not_mem_nil, or_false] at hx
      unfold hasV
      rcases hx with rfl | rfl | rfl
      · exact .inl rfl
      · exact .inr (.inl rfl)
      · exact .inr (.inr rfl)
    · unfold hasV
      rcases h.2 with (h2 | h2) | h2
      · exact .inl h2
      · exact .inr (.inl h2)
      · exact .inr (.inr h2)
  · cases h
theorem connB {T : List Tr} {u : Int} (h : ((atV T u).all fun k => adjB T u ((atV T u).headD 0) k) = true) : ConnV T u (atV T u) := by
  intro S h0 hs k hk
  cases hl : atV T u with
  | nil => rw [hl] at hk; cases hk
  | cons a r =>
    rw [List.all_eq_true] at h
    have h1 := h k hk
    rw [hl] at h0 h1
    exact hs a (by rw [hl]; exact List.mem_cons_self ..) k hk (h0 a rfl) (adjB_ok h1)
def T46 : List Tr := [(0, 1, 2), (0, 2, 3), (0, 3, 1), (1, 3, 2)]
def W46 : List Tr := [(0, 1, 2), (3, 2, 1), (3, 0, 2), (3, 1, 0)]
theorem keysT46 : T46.flatMap key3 = [(0, 1, 2), (0, 2, 3), (0, 1, 3), (1, 2, 3)] := by
  simp [T46, key3, sort3, sortL, List.mergeSort, List.MergeSort.Internal.splitInTwo]
theorem keysW46 : W46.flatMap key3 = [(0, 1, 2), (1, 2, 3), (0, 2, 3), (0, 1, 3)] := by
  simp [W46, key3, sort3, sortL, List.mergeSort, List.MergeSort.Internal.splitInTwo]
theorem surfT46 : Surf 4 T46 where
  n0 := by decide
  n1 := by decide
  len := by decide
  inr := by unfold in3 inR; decide
  simple := by unfold simple3; decide
  twice := by decide
  mirrored := by rw [keysT46]; decide
  lonely := by
    intro u hu
    have h : u = 0 ∨ u = 1 ∨ u = 2 ∨ u = 3 := by unfold inR at hu; omega
    rcases h with rfl | rfl | rfl | rfl <;> decide
  pinch := by
    intro u hu
    have h : u = 0 ∨ u = 1 ∨ u = 2 ∨ u = 3 := by unfold inR at hu; omega
    rcases h with rfl | rfl | rfl | rfl <;> exact connB (by decide)
theorem surfW46 : Surf 4 W46 where
  n0 := by decide
  n1 := by decide
  len := by decide
  inr := by unfold in3 inR; decide
  simple := by unfold simple3; decide
  twice := by decide
  mirrored := by rw [keysW46]; decide
  lonely := by
    intro u hu
    have h : u = 0 ∨ u = 1 ∨ u = 2 ∨ u = 3 := by unfold inR at hu; omega
    rcases h with rfl | rfl | rfl | rfl <;> decide
  pinch := by
    intro u hu
    have h : u = 0 ∨ u = 1 ∨ u = 2 ∨ u = 3 := by unfold inR at hu; omega
    rcases h with rfl | rfl | rfl | rfl <;> exact connB (by decide)
/-- Four triangles, each across the first one. -/
theorem shl_four {T : List Tr} {out : List Int} (h : Shl T out) (hl : T.length = 4) {a b c : Nat} (h1 : oppI T 0 = (a : Int)) (h2 : oppI T 1 = (b : Int)) (h3 : oppI T 2 = (c : Int)) (ha : a / 3 = 1 ∨ b / 3 = 1 ∨ c / 3 = 1) (hb : a / 3 = 2 ∨ b / 3 = 2 ∨ c / 3 = 2) (hc : a / 3 = 3 ∨ b / 3 = 3 ∨ c / 3 = 3) : out = [0, 0, 0, 0] := by
  have e1 := h.adj 0 a (by omega) h1
  have e2 := h.adj 1 b (by omega) h2
  have e3 := h.adj 2 c (by omega) h3
  have e0 : at_ out 0 = 0 := by
    rcases h.new 0 (by omega) with ⟨i, hi, -⟩ | ⟨-, h0 | ⟨i, hi, -⟩⟩
    · omega
    · exact h0
    · omega
  have k1 : at_ out 1 = 0 := by
    rcases ha with e | e | e
    · rw [e] at e1; exact e1.trans e0
    · rw [e] at e2; exact e2.trans e0
    · rw [e] at e3; exact e3.trans e0
  have k2 : at_ out 2 = 0 := by
    rcases hb with e | e | e
    · rw [e] at e1; exact e1.trans e0
    · rw [e] at e2; exact e2.trans e0
    · rw [e] at e3; exact e3.trans e0
  have k3 : at_ out 3 = 0 := by
    rcases hc with e | e | e
    · rw [e] at e1; exact e1.trans e0
    · rw [e] at e2; exact e2.trans e0
    · rw [e] at e3; exact e3.trans e0
  have hlo := h.len
  rw [hl] at hlo
  match out, hlo with
  | [w, x, y, z], _ =>
    simp only [at_, List.getD] at e0 k1 k2 k3
    simp at e0 k1 k2 k3
    rw [e0, k1, k2, k3]
theorem shlT46 {out : List Int} (h : Shl T46 out) : out = [0, 0, 0, 0] := shl_four h rfl (a := 10) (b := 5) (c := 7) (by decide) (by decide) (by decide) (by decide) (by decide) (by decide)
theorem rtT46 : rtL T46 4 = [4, 8, 1, 9] := by decide
theorem rnT46 : rtN T46 4 = ([2, 3, 0, 1], W46) := by decide
theorem cnt46 {m : Nat} (h : (m : Int) = cntL [0, 0, 0, 0]) : m = 1 := by
  have : cntL [0, 0, 0, 0] = 1 := by decide
  omega
theorem frmT46 : frmS T46 [0, 0, 0, 0] 1 = (4, W46) := by decide
theorem frmW46 : frmS W46 [0, 0, 0, 0] 1 = (4, W46) := by decide
theorem formT46 {S : Int × List Tr} {O : List Int} (h : FormIs T46 S O) : S = (4, W46) := by
  obtain ⟨out, m, h1, h2, rfl, -⟩ := h
  rw [shlT46 h1] at h2 ⊢
  rw [cnt46 h2, frmT46]
theorem shl_make {T : List Tr} (hl : T.length = 4) (hr : ∀ j, j < 4 → Reach T 0 j) : Shl T [0, 0, 0, 0] := by
  have hat : ∀ j, j < 4 → at_ [0, 0, 0, 0] j = 0 := by
    intro j hj
    rcases (by omega : j = 0 ∨ j = 1 ∨ j = 2 ∨ j = 3) with rfl | rfl | rfl | rfl <;> rfl
  refine ⟨by rw [hl]; rfl, fun j hj => by rw [hat j (by omega)]; exact Int.le_refl _, fun c o hc ho => ?_, fun j hj => ?_⟩
  · have := (opp_some hc ho).1
    rw [hat _ (by omega), hat _ (by omega)]
  · by_cases h0 : j = 0
    · subst h0
      exact .inr ⟨fun i hi => absurd hi (Nat.not_lt_zero _), .inl rfl⟩
    · exact .inl ⟨0, by omega, by rw [hat 0 (by decide), hat j (by omega)], hr j (by omega)⟩
theorem reach_four {T : List Tr} (hl : T.length = 4) {a b c : Nat} (h1 : oppI T 0 = (a : Int)) (h2 : oppI T 1 = (b : Int)) (h3 : oppI T 2 = (c : Int)) (ha : a / 3 = 1 ∨ b / 3 = 1 ∨ c / 3 = 1) (hb : a / 3 = 2 ∨ b / 3 = 2 ∨ c / 3 = 2) (hc : a / 3 = 3 ∨ b / 3 = 3 ∨ c / 3 = 3) : ∀ j, j < 4 → Reach T 0 j := by
  have e1 : Reach T 0 (a / 3) := (Reach.refl T 0).step (c := 0) (by omega) h1
  have e2 : Reach T 0 (b / 3) := (Reach.refl T 0).step (c := 1) (by omega) h2
  have e3 : Reach T 0 (c / 3) := (Reach.refl T 0).step (c := 2) (by omega) h3
  intro j hj
  rcases (by omega : j = 0 ∨ j = 1 ∨ j = 2 ∨ j = 3) with rfl | rfl | rfl | rfl
  · exact Reach.refl T 0
  · rcases ha with e | e | e <;> rw [← e] <;> assumption
  · rcases hb with e | e | e <;> rw [← e] <;> assumption
  · rcases hc with e | e | e <;> rw [← e] <;> assumption
theorem formeq46 : FormEq 4 4 T46 W46 :=
  ⟨surfT46, surfW46, (4, W46), _, _,
    ⟨[0, 0, 0, 0], 1, shl_make rfl (reach_four rfl (a := 10) (b := 5) (c := 7) (by decide) (by decide) (by decide) (by decide) (by decide) (by decide)), by decide, frmT46.symm, rfl⟩,
    ⟨[0, 0, 0, 0], 1, shl_make rfl (reach_four rfl (a := 3) (b := 6) (c := 9) (by decide) (by decide) (by decide) (by decide) (by decide) (by decide)), by decide, frmW46.symm, rfl⟩⟩
theorem tris_blk {w : World} {g : Nat} {T : List Tr} (h : Blk w g 61 (ws3 T).toArray) (hT : T.length ≤ maxLen) : TrisRd w (.slice (some ⟨g, 0, none⟩) T.length T.length) T :=
  TrisRd.of_row (base := 0) ⟨ws3_len T, .inr ⟨g, T.length, (ws3 T).toArray, rfl, Nat.zero_le _, h, Nat.le_refl _, hT, by simp [ws3_len], by rw [← ws3_len]; simp⟩⟩
set_option maxRecDepth 100000 in
set_option maxHeartbeats 4000000 in
theorem awake46_any (w : World) : Calls Try.prog 8 #[] w fun e w' => e = .returned (.bool true) ∧ Below w.heap.size w w' := by
  have HNew := Lib.hid (fun (W : World) (v : Value) (hv : TrisRd W v T46) => (new_any 4 v T46 W hv (by decide)).mono (R' := fun e w' => ∃ g, e = .returned (.tuple #[.pointer (some ⟨g, 0, none⟩), .agg #[.int .i64 0, .int .i64 0, .int .i64 0]]) ∧ Tab w' g 4 T46 ∧ Below W.heap.size W w') (by
    rintro e w' ⟨⟨-, g, he, ht, -⟩ | ⟨hn, -⟩, hb⟩
    · exact ⟨g, he, ht, hb⟩
    · exact absurd surfT46 hn))
  have HFm := Lib.hid (fun (W : World) (v : Value) (hv : TrisRd W v T46) => (cform_two 4 v T46 W hv (by decide) (by decide)).mono (R' := fun e w' => ∃ aT cT aO nO cO, e = .returned (.tuple #[.agg #[.int .i64 4, .slice aT 4 cT], .slice aO nO cO, .int .i64 0]) ∧ TrisRd w' (.slice aT 4 cT) W46 ∧ Below W.heap.size W w') (by
    rintro e w' ⟨S, O, aT, cT, aO, cO, er, he, hT, -, -, ⟨rfl, -, hF⟩ | ⟨-, hn, -⟩, hb⟩
    · rw [formT46 hF] at he hT
      exact ⟨aT, cT, aO, _, cO, he, hT, hb⟩
    · exact absurd surfT46 hn))
  have HRt := Lib.hid (fun (W : World) (g : Nat) (ht : Tab W g 4 T46) => (rooted_any g 4 T46 W 4 ht (by decide)).mono (R' := fun e w' => ∃ aT cT gO cO gC cC, e = .returned (.tuple #[.agg #[.int .i64 4, .slice aT 4 cT], .slice (some ⟨gO, 0, none⟩) 4 cO, .slice (some ⟨gC, 0, none⟩) 4 cC]) ∧ TrisRd w' (.slice aT 4 cT) W46 ∧ gO < w'.heap.size ∧ w'.cell? ⟨gO, 0, none⟩ = some (.int .i64 2) ∧ gC < w'.heap.size ∧ w'.cell? ⟨gC, 0, none⟩ = some (.int .i64 4) ∧ Below W.heap.size W w') (by
    rintro e w' ⟨vT, vO, vC, he, hT, hO, hC, hb⟩
    rw [rnT46] at he hT hO
    rw [rtT46] at hC
    obtain ⟨aT, cT, rfl⟩ := ownsRow_slice hT
    obtain ⟨gO, cO, rfl, -, lO⟩ := hO.form (by decide)
    obtain ⟨gC, cC, rfl, -, lC⟩ := hC.form (by decide)
    have c0 := hO.cellAt 0 (by decide)
    have c1 := hC.cellAt 0 (by decide)
    exact ⟨aT, cT, gO, cO, gC, cC, he, TrisRd.of_row hT, lO, c0, lC, c1, hb⟩))
  have HSm := Lib.hid (fun (W : World) (v1 v2 : Value) (h1 : TrisRd W v1 W46) (h2 : TrisRd W v2 W46) => (same_any 4 4 v1 v2 W46 W46 W h1 h2 (by decide) (by decide)).mono (R' := fun e w' => e = .returned (.bool true) ∧ Below W.heap.size W w') (by
    rintro e w' ⟨he, hb⟩
    exact ⟨by simpa using he, hb⟩))
  have HEq := Lib.hid (fun (W : World) (v1 v2 : Value) (h1 : TrisRd W v1 T46) (h2 : TrisRd W v2 W46) => (equal_any 4 4 v1 v2 T46 W46 W h1 h2 (by decide) (by decide) (by decide) (by decide)).mono (R' := fun e w' => e = .returned (.bool true) ∧ Below W.heap.size W w') (by
    rintro e w' ⟨b, he, hb1, hb⟩
    rw [hb1.2 formeq46] at he
    exact ⟨he, hb⟩))
  have HLs := Lib.hid (fun (W : World) (v : Value) (h1 : TrisRd W v T46) => (less_any 4 4 v v T46 T46 W h1 h1 (by decide) (by decide)).mono (R' := fun e w' => e = .returned (.bool false) ∧ Below W.heap.size W w') (by
    rintro e w' ⟨he, hb⟩
    rw [ordM_self] at he
    exact ⟨by simpa using he, hb⟩))
  have hb1 := (Blk.new w 61 (ws3 T46).toArray).alloc (.cells #[.int .i64 4, .slice (some ⟨w.heap.size, 0, none⟩) 4 4] 24)
  have hb2 : Blk ((w.alloc (.cells (ws3 T46).toArray 61)).alloc (.cells #[.int .i64 4, .slice (some ⟨w.heap.size, 0, none⟩) 4 4] 24)) (w.heap.size + 1) 24 #[.int .i64 4, .slice (some ⟨w.heap.size, 0, none⟩) 4 4] := blk_new_at (by simp)
  have hB0 : Below w.heap.size w ((w.alloc (.cells (ws3 T46).toArray 61)).alloc (.cells #[.int .i64 4, .slice (some ⟨w.heap.size, 0, none⟩) 4 4] 24)) := ((Below.refl _ _).alloc (Nat.le_refl _) _).alloc (by simp) _
  have hT0 : TrisRd _ (.slice (some ⟨w.heap.size, 0, none⟩) 4 4) T46 := tris_blk hb1 (by decide)
  have e46 : (ws3 T46).toArray = #[.int .i64 0, .int .i64 1, .int .i64 2, .int .i64 0, .int .i64 2, .int .i64 3, .int .i64 0, .int .i64 3, .int .i64 1, .int .i64 1, .int .i64 3, .int .i64 2] := rfl
  rw [e46] at hb1 hb2 hB0 hT0
  have HB0 := Lib.hid hB0
  have HB2 := Lib.hid hb2
  have HT0 := Lib.hid hT0
  obtain ⟨l2, x0, -, x1, -⟩ := hb2.two
  clear hb1 hb2 hB0 hT0 e46
  go_enter Try.func8, Try.ntmps8
  go_upto_region 2 with fail
  generalize (w.alloc (.cells #[.int .i64 0, .int .i64 1, .int .i64 2, .int .i64 0, .int .i64 2, .int .i64 3, .int .i64 0, .int .i64 3, .int .i64 1, .int .i64 1, .int .i64 3, .int .i64 2] 61)).alloc (.cells #[.int .i64 4, .slice (some ⟨w.heap.size, 0, none⟩) 4 4] 24) = W0 at *
  go_upto_region 3 with (go_at_call 22; go_loud (refine (HNew.out _ _ HT0.out).mono ?_; rintro e w1 ⟨g, rfl, hg, hb1⟩))
  have hA1 := (Below.refl w1.heap.size w1).alloc (Nat.le_refl _) (.cells #[.int .i64 0, .int .i64 0, .int .i64 0] 44)
  have hBw := HB0.out.trans ((hb1.trans (hA1.mono hb1.size)).mono HB0.out.size)
  have hK := (HB2.out.below hb1 l2).below hA1 (Nat.lt_of_lt_of_le l2 hb1.size)
  have HT1 := Lib.hid ((HT0.out.below hb1).below hA1)
  have Hg1 := Lib.hid (hg.below hA1)
  clear hA1 hb1 hg x0 x1
  generalize w1.alloc (.cells #[.int .i64 0, .int .i64 0, .int .i64 0] 44) = W1 at *
  have HK1 := Lib.hid hK
  have HB1 := Lib.hid hBw
  obtain ⟨l3, x0, -, x1, -⟩ := hK.two
  clear hK hBw
  go_upto_region 4 with (go_at_call 24; go_loud (refine (HFm.out _ _ HT1.out).mono ?_; rintro e w2 ⟨aF, cF, aO0, nO0, cO0, rfl, hF2, hb2⟩))
  have hA2 := (Below.refl w2.heap.size w2).alloc (Nat.le_refl _) (.cells #[.int .i64 4, .slice aF 4 cF] 24)
  have hBw := HB1.out.trans ((hb2.trans (hA2.mono hb2.size)).mono HB1.out.size)
  have hK := (HK1.out.below hb2 l3).below hA2 (Nat.lt_of_lt_of_le l3 hb2.size)
  have hKf := Blk.new w2 24 #[.int .i64 4, .slice aF 4 cF]
  have HT2 := Lib.hid ((HT1.out.below hb2).below hA2)
  have Hg2 := Lib.hid ((Hg1.out.below hb2).below hA2)
  have HF2 := Lib.hid (hF2.below hA2)
  clear hA2 hb2 hF2 x0 x1
  generalize w2.alloc (.cells #[.int .i64 4, .slice aF 4 cF] 24) = W2 at *
  generalize w2.heap.size = qf at *
  have HK2 := Lib.hid hK
  have HKf2 := Lib.hid hKf
  have HB2 := Lib.hid hBw
  have l4 := hK.lt
  clear hK hBw hKf l2 l3
  go_upto_region 5 with (go_at_call 28; go_loud (refine (HRt.out _ _ Hg2.out).mono ?_; rintro e w3 ⟨aR, cR, gO, cO, gC, cC, rfl, hR3, lO, o3, lC, c3, hb3⟩))
  have hA3 := (Below.refl w3.heap.size w3).alloc (Nat.le_refl _) (.cells #[.int .i64 4, .slice aR 4 cR] 24)
  have hBw := HB2.out.trans ((hb3.trans (hA3.mono hb3.size)).mono HB2.out.size)
  have hK := (HK2.out.below hb3 l4).below hA3 (Nat.lt_of_lt_of_le l4 hb3.size)
  have hKf := (HKf2.out.below hb3 HKf2.out.lt).below hA3 (Nat.lt_of_lt_of_le HKf2.out.lt hb3.size)
  have hKr := Blk.new w3 24 #[.int .i64 4, .slice aR 4 cR]
  have hT3 := (HT2.out.below hb3).below hA3
  have hF3 := (HF2.out.below hb3).below hA3
  have hR3 := hR3.below hA3
  have o4 := (hA3.cell (p := ⟨gO, 0, none⟩) lO).trans o3
  have c4 := (hA3.cell (p := ⟨gC, 0, none⟩) lC).trans c3
  have lO4 := Nat.lt_of_lt_of_le lO hA3.size
  have lC4 := Nat.lt_of_lt_of_le lC hA3.size
  clear hA3 hb3 lO lC o3 c3
  generalize w3.alloc (.cells #[.int .i64 4, .slice aR 4 cR] 24) = W3 at *
  generalize w3.heap.size = qr at *
  obtain ⟨Wt, hWt⟩ : ∃ Wt, (W3.alloc (.cells #[.int .i64 0, .int .i64 1, .int .i64 2, .int .i64 3, .int .i64 2, .int .i64 1, .int .i64 3, .int .i64 0, .int .i64 2, .int .i64 3, .int .i64 1, .int .i64 0] 61)).alloc (.cells #[.int .i64 4, .slice (some ⟨W3.heap.size, 0, none⟩) 4 4] 24) = Wt := ⟨_, rfl⟩
  have hA4 : Below W3.heap.size W3 Wt := by rw [← hWt]; exact ((Below.refl _ _).alloc (Nat.le_refl _) _).alloc (by simp) _
  have hBl : Blk Wt W3.heap.size 61 (ws3 W46).toArray := by rw [← hWt]; exact (Blk.new W3 _ _).alloc _
  have hKw : Blk Wt (W3.heap.size + 1) 24 #[.int .i64 4, .slice (some ⟨W3.heap.size, 0, none⟩) 4 4] := by rw [← hWt]; exact blk_new_at (by simp)
  have hW4 : TrisRd Wt (.slice (some ⟨W3.heap.size, 0, none⟩) 4 4) W46 := tris_blk hBl (by decide)
  have HT4 := Lib.hid (fun (W : World) (hW : Below Wt.heap.size Wt W) => (hT3.below hA4).below hW)
  have HF4 := Lib.hid (fun (W : World) (hW : Below Wt.heap.size Wt W) => (hF3.below hA4).below hW)
  have HR4 := Lib.hid (fun (W : World) (hW : Below Wt.heap.size Wt W) => (hR3.below hA4).below hW)
  have HW4 := Lib.hid (fun (W : World) (hW : Below Wt.heap.size Wt W) => hW4.below hW)
  have k1 := hK.below hA4 hK.lt
  have k2 := hKf.below hA4 hKf.lt
  have k3 := hKr.below hA4 hKr.lt
  have o5 := (hA4.cell (p := ⟨gO, 0, none⟩) lO4).trans o4
  have c5 := (hA4.cell (p := ⟨gC, 0, none⟩) lC4).trans c4
  have lO5 := Nat.lt_of_lt_of_le lO4 hA4.size
  have lC5 := Nat.lt_of_lt_of_le lC4 hA4.size
  have HCs := Lib.hid (fun (W : World) (hW : Below Wt.heap.size Wt W) => And.intro (k1.below hW k1.lt).two (And.intro (k2.below hW k2.lt).two (And.intro (k3.below hW k3.lt).two (And.intro (hKw.below hW hKw.lt).two (And.intro ((hW.cell (p := ⟨gO, 0, none⟩) lO5).trans o5) ((hW.cell (p := ⟨gC, 0, none⟩) lC5).trans c5))))))
  have HBw4 := Lib.hid (hBw.trans (hA4.mono hBw.size))
  obtain ⟨l5, x0, -, x1, -⟩ := hK.two
  clear k1 k2 k3 o5 c5 lO5 lC5 hKw hW4 hBl hA4 hBw hK hKf hKr hT3 hF3 hR3 o4 c4 lO4 lC4
  go_upto_region 6 with fail
  try rw [hWt]
  have hcur : Below Wt.heap.size Wt Wt := Below.refl _ _
  obtain ⟨⟨a0, a1, -, a2, -⟩, ⟨b0, b1, -, b2, -⟩, ⟨d0, d1, -, d2, -⟩, ⟨e0, e1, -, e2, -⟩, g0, h0⟩ := HCs.out _ hcur
  generalize W3.heap.size = qw at *
  clear x0 x1 l5 hWt
  go_wp2_with (first
    | (go_at_call 25; go_loud (refine (HSm.out _ _ _ (by first | exact HF4.out _ hcur | exact HR4.out _ hcur) (HW4.out _ hcur)).mono ?_); rintro e w9 ⟨rfl, hb9⟩; have hcur9 := hcur.trans (hb9.mono hcur.size); clear hb9 a0 a1 a2 b0 b1 b2 d0 d1 d2 e0 e1 e2 g0 h0 hcur; have hcur := hcur9; clear hcur9; obtain ⟨⟨a0, a1, -, a2, -⟩, ⟨b0, b1, -, b2, -⟩, ⟨d0, d1, -, d2, -⟩, ⟨e0, e1, -, e2, -⟩, g0, h0⟩ := HCs.out _ hcur)
    | (go_at_call 11; go_loud (refine (HEq.out _ _ _ (HT4.out _ hcur) (HW4.out _ hcur)).mono ?_); rintro e w9 ⟨rfl, hb9⟩; have hcur9 := hcur.trans (hb9.mono hcur.size); clear hb9 a0 a1 a2 b0 b1 b2 d0 d1 d2 e0 e1 e2 g0 h0 hcur; have hcur := hcur9; clear hcur9; obtain ⟨⟨a0, a1, -, a2, -⟩, ⟨b0, b1, -, b2, -⟩, ⟨d0, d1, -, d2, -⟩, ⟨e0, e1, -, e2, -⟩, g0, h0⟩ := HCs.out _ hcur)
    | (go_at_call 27; go_loud (refine (HLs.out _ _ (HT4.out _ hcur)).mono ?_); rintro e w9 ⟨rfl, hb9⟩; have hcur9 := hcur.trans (hb9.mono hcur.size)))
  go_ret
  exact ⟨by simp, HBw4.out.trans (hcur9.mono HBw4.out.size)⟩
end Go.Proofs.Ytpnkhgjjlionnaa
namespace Go.Proofs.Ytpnkhgjjlionnaa
open Go.RowKit Go.Maps

theorem wf_in {n : Nat} {t : Tr} (hn : n ≤ 60) (h : in3 n t) : Wf3 t := by
  obtain ⟨⟨a1, a2⟩, ⟨b1, b2⟩, c1, c2⟩ := h
  exact ⟨WalkArith.wf_i64 (by omega), WalkArith.wf_i64 (by omega), WalkArith.wf_i64 (by omega)⟩
theorem ren_in {n : Nat} {tw : List Int} {t : Tr} (h : AllN n tw) (ht : in3 n t) : in3 n (renT (toF tw) t) := ⟨h.in_ ht.1, h.in_ ht.2.1, h.in_ ht.2.2⟩
end Go.Proofs.Ytpnkhgjjlionnaa
namespace Go.Proofs.Ytpnkhgjjlionnaa
open Go.RowKit Go.Maps

/-- Some numbers below n, none twice. -/
structure PartN (n : Nat) (tl : List Int) : Prop where
  nd : tl.Nodup
  rng : ∀ x ∈ tl, 0 ≤ x ∧ x < n
/-- What begins so can be gone on to a map. -/
def GoodT (n : Nat) (A B : List Tr) (tl : List Int) : Prop := ∃ r, AllN n (tl ++ r) ∧ CovT (A.map (renT (toF (tl ++ r)))) B ∧ A.length = B.length
theorem PartN.snoc {n : Nat} {tl : List Int} (h : PartN n tl) {v : Nat} (hv : v < n) (hno : (v : Int) ∉ tl) : PartN n (tl ++ [(v : Int)]) := by
  refine ⟨?_, fun x hx => ?_⟩
  · rw [List.nodup_append]
    refine ⟨h.nd, by simp, fun a ha b hb e => ?_⟩
    rw [List.mem_singleton.1 hb] at e
    exact hno (e ▸ ha)
  · rcases List.mem_append.1 hx with hx | hx
    · exact h.rng x hx
    · rw [List.mem_singleton.1 hx]
      omega
theorem PartN.all {n : Nat} {tl : List Int} (h : PartN n tl) (hl : tl.length = n) : AllN n tl := ⟨hl, h.nd, h.rng⟩
theorem good_full {n : Nat} {A B : List Tr} {tl : List Int} (h : PartN n tl) (hl : tl.length = n) : GoodT n A B tl ↔ CovT (A.map (renT (toF tl))) B ∧ A.length = B.length := by
  constructor
  · rintro ⟨r, h1, h2, h3⟩
    have hr : r = [] := List.eq_nil_of_length_eq_zero (by have := h1.len; simp at this; omega)
    subst hr
    rw [List.append_nil] at h2
    exact ⟨h2, h3⟩
  · rintro ⟨h1, h2⟩
    exact ⟨[], by rw [List.append_nil]; exact h.all hl, by rw [List.append_nil]; exact h1, h2⟩
theorem good_step {n : Nat} {A B : List Tr} {tl : List Int} (hl : tl.length < n) : GoodT n A B tl ↔ ∃ v : Nat, v < n ∧ (v : Int) ∉ tl ∧ GoodT n A B (tl ++ [(v : Int)]) := by
  constructor
  · rintro ⟨r, h1, h2, h3⟩
    cases r with
    | nil =>
      have := h1.len
      simp at this
      omega
    | cons x r =>
      have hx := h1.rng x (by simp)
      refine ⟨x.toNat, by omega, ?_, r, ?_, ?_, h3⟩
      · have := h1.nd
        rw [List.nodup_append] at this
        intro hm
        exact this.2.2 _ hm x (List.mem_cons_self ..) (by omega)
      · have e : ((x.toNat : Nat) : Int) = x := by omega
        rw [e, List.append_assoc]
        exact h1
      · have e : ((x.toNat : Nat) : Int) = x := by omega
        rw [e, List.append_assoc]
        exact h2
  · rintro ⟨v, -, -, r, h1, h2, h3⟩
    exact ⟨(v : Int) :: r, by rw [List.append_assoc] at h1; exact h1, by rw [List.append_assoc] at h2; exact h2, h3⟩
/-- The function's memory: both soups, whether a way was found, the function itself. -/
structure BrSt (w W : World) (n : Nat) (vA vB : Value) (q5 q2 q3 q6 : Nat) (f : Bool) : Prop where
  k5 : Blk W q5 4 #[.bool f]
  k2 : Blk W q2 24 #[.int .i64 (n : Int), vA]
  k3 : Blk W q3 24 #[.int .i64 (n : Int), vB]
  k6 : Blk W q6 34 #[.func (.func 14) #[] #[.pointer (some ⟨q5, 0, none⟩), .pointer (some ⟨q2, 0, none⟩), .pointer (some ⟨q3, 0, none⟩), .pointer (some ⟨q6, 0, none⟩)]]
  bel : Below w.heap.size w W
section
variable {w W W' : World} {n : Nat} {vA vB : Value} {q5 q2 q3 q6 : Nat} {f : Bool}
theorem BrSt.below (h : BrSt w W n vA vB q5 q2 q3 q6 f) (hb : Below W.heap.size W W') : BrSt w W' n vA vB q5 q2 q3 q6 f :=
  ⟨h.k5.below hb h.k5.lt, h.k2.below hb h.k2.lt, h.k3.below hb h.k3.lt, h.k6.below hb h.k6.lt, h.bel.trans (hb.mono h.bel.size)⟩
theorem BrSt.set (h : BrSt w W n vA vB q5 q2 q3 q6 f) (hq : w.heap.size ≤ q5) (b : Bool) : BrSt w (W.setCell ⟨q5, 0, none⟩ (.bool b)) n vA vB q5 q2 q3 q6 b :=
  ⟨h.k5.set1 _, h.k2.far (Blk.ne_ h.k2 h.k5 (by decide)) _, h.k3.far (Blk.ne_ h.k3 h.k5 (by decide)) _, h.k6.far (Blk.ne_ h.k6 h.k5 (by decide)) _, h.bel.setCell (p := ⟨q5, 0, none⟩) hq _⟩
end
theorem grown_below {W W' : World} (h : Below W.heap.size W W') (row : Option Nat) : W.grownBy W' row := ⟨h.os, h.tape, h.output, h.size, fun k hk _ => h.block k hk⟩
theorem grown_trans {W W' W2 : World} {row : Option Nat} (h : W.grownBy W' row) (h2 : W'.grownBy W2 row) : W.grownBy W2 row := ⟨h2.os.trans h.os, h2.tape.trans h.tape, h2.output.trans h.output, Nat.le_trans h.size h2.size, fun k hk hr => (h2.block k (Nat.lt_of_lt_of_le hk h.size) hr).trans (h.block k hk hr)⟩
theorem grown_set {W : World} {q i : Nat} (v : Value) : W.grownBy (W.setCell ⟨q, i, none⟩ v) (some q) := ⟨rfl, rfl, rfl, by simp, fun k _ hr => Below.heap_setCell W ⟨q, i, none⟩ v k (fun e => hr (by rw [e]))⟩
theorem own_at9 {w : World} {base m cap j : Nat} {ao : Option Addr} {xs : List Int} {x : Int} (h : w.ownsRow base 3 1 (.slice ao m cap) m (intsV xs)) (hx : xs[j]? = some x) : ∃ b, ao = some ⟨b, 0, none⟩ ∧ w.cell? ⟨b, j, none⟩ = some (.int .i64 x) := by
  have hj : j < xs.length := (List.getElem?_eq_some_iff.1 hx).1
  have hl : (intsV xs).length = m * 1 := h.1
  rcases h.2 with ⟨e1, h0⟩ | ⟨g, c, cur, e1, _⟩
  · simp [intsV] at hl
    omega
  · cases e1
    refine ⟨g, rfl, ?_⟩
    rw [h.cellAt j (by simp [intsV] at hl; omega)]
    simp [intsV, List.getElem?_map, hx]
theorem own_capO {w : World} {base n s cap m : Nat} {e : TypeId} {ao : Option Addr} {xs : List Value} (h : w.ownsRow base e s (.slice ao m cap) n xs) : m ≤ cap ∧ (ao = none → m = 0 ∧ cap = 0) ∧ m ≤ maxLen := by
  rcases h.2 with ⟨e1, _⟩ | ⟨g, c, cur, e1, _, _, k1, k2, _⟩
  · cases e1
    exact ⟨Nat.le_refl _, fun _ => ⟨rfl, rfl⟩, Nat.zero_le _⟩
  · cases e1
    exact ⟨k1, fun e => (by cases e), Nat.le_trans k1 k2⟩
theorem own_cells9 {w : World} {base m cap j : Nat} {ao : Option Addr} {b : Addr} {xs : List Int} {u : Value} (h : w.ownsRow base 3 1 (.slice ao m cap) m (intsV xs)) (e : ao = some b) (hu : (intsV xs)[j]? = some u) : w.cell? (b.add j) = some u := by
  have hj : j < xs.length := by
    have := (List.getElem?_eq_some_iff.1 hu).1
    simpa [intsV] using this
  obtain ⟨x, hx⟩ : ∃ x, xs[j]? = some x := ⟨_, List.getElem?_eq_getElem hj⟩
  obtain ⟨b', e', hc⟩ := own_at9 h hx
  rw [e] at e'
  cases e'
  rw [Addr.add_lit, show (0 : Nat) + j = j from by omega, hc]
  simp [intsV, List.getElem?_map, hx] at hu
  rw [hu]
theorem grown_none {W W' : World} (h : W.grownBy W' none) : Below W.heap.size W W' := ⟨h.os, h.tape, h.output, h.size, fun k hk => h.block k hk (by simp)⟩
/-- What the inner function does. -/
def BruPost (w W : World) (n : Nat) (A B : List Tr) (vA vB : Value) (q5 q2 q3 q6 : Nat) (tl : List Int) (f : Bool) (e : Ending) (W' : World) : Prop :=
  e = .returned (.tuple #[]) ∧ ∃ f' : Bool, (f' = true ↔ f = true ∨ GoodT n A B tl) ∧ BrSt w W' n vA vB q5 q2 q3 q6 f' ∧ W.grownBy W' (some q5)
set_option maxRecDepth 100000 in
set_option maxHeartbeats 8000000 in
theorem bru_any {w : World} {n FA FB : Nat} {A B : List Tr} {aA aB : Option Addr} {cA cB : Nat} {q5 q2 q3 q6 : Nat} (hn : n ≤ 5) (hA : Surf (n : Int) A) (hB : Surf (n : Int) B) (lA : A.length = FA) (lB : B.length = FB) (h20 : FA ≤ 20) (h20' : FB ≤ 20)
    (rA : TrisRd w (.slice aA FA cA) A) (rB : TrisRd w (.slice aB FB cB) B) (g5 : w.heap.size ≤ q5) :
    ∀ (d m : Nat) (tl : List Int) (aO : Option Addr) (cO : Nat) (W : World) (f : Bool), m + d = n → tl.length = m → PartN n tl → W.ownsRow w.heap.size 3 1 (.slice aO m cO) m (intsV tl) → BrSt w W n (.slice aA FA cA) (.slice aB FB cB) q5 q2 q3 q6 f →
    Calls Try.prog 14 #[.slice aO m cO, .pointer (some ⟨q5, 0, none⟩), .pointer (some ⟨q2, 0, none⟩), .pointer (some ⟨q3, 0, none⟩), .pointer (some ⟨q6, 0, none⟩)] W (BruPost w W n A B (.slice aA FA cA) (.slice aB FB cB) q5 q2 q3 q6 tl f) := by
  have HAB := Lib.hid (And.intro hA (And.intro hB (And.intro lA lB)))
  have HRA := Lib.hid (fun (V : World) (hV : Below w.heap.size w V) => rA.below hV)
  have HRB := Lib.hid (fun (V : World) (hV : Below w.heap.size w V) => rB.below hV)
  obtain ⟨i2, hj', hz0, hz1, hz2⟩ := info_parts infoInt
  clear hA hB lA lB rA rB
  intro d
  induction d with
  | zero =>
    intro m tl aO cO W f hmd hml hP hO hI
    obtain rfl : m = n := by omega
    have HP := Lib.hid hP
    have HI := Lib.hid hI
    have HML := Lib.hid hml
    have HO := Lib.hid (IntsRd.of_row hO hml)
    have l5 := hI.k5.one
    obtain ⟨l5, x5, f5⟩ := l5
    obtain ⟨l2, y0, -, y1, -⟩ := hI.k2.two
    obtain ⟨l3, z0, -, z1, -⟩ := hI.k3.two
    clear hP hI hml hO hmd
    go_enter Try.func14, Try.ntmps14
    cases f with
    | true =>
      go_wp2
      refine bodyPost_ret (v := .tuple #[]) (results_none rfl _ _ _) rfl ?_
      exact ⟨rfl, true, by simp, HI.out, World.grownBy.refl _ _⟩
    | false =>
      have HRn := Lib.hid (rename_any m (.slice aA FA cA) (.slice aO m cO) A tl W (HRA.out _ HI.out.bel) (by have := HO.out; exact this) (surf_fits HAB.out.1) (HP.out.all HML.out))
      go_wp2_with fail
      refine HRn.out.mono ?_
      rintro en w7 ⟨vT, rfl, hrT, hb⟩
      obtain ⟨aR, cR, rfl⟩ := ownsRow_slice hrT
      rw [HAB.out.2.2.1] at hrT ⊢
      have hA7 := (Below.refl w7.heap.size w7).alloc (Nat.le_refl _) (.cells #[.int .i64 (m : Int), .slice aR FA cR] 24)
      have kr := Blk.new w7 24 #[.int .i64 (m : Int), .slice aR FA cR]
      have HI7 := Lib.hid ((HI.out.below hb).below hA7)
      have HT8 := Lib.hid ((show TrisRd w7 (.slice aR FA cR) (A.map (renT (toF tl))) from TrisRd.of_row (base := W.heap.size) (by rw [List.length_map, HAB.out.2.2.1]; exact hrT)).below hA7)
      have HG8 := Lib.hid (grown_trans (grown_below hb (some q5)) (grown_below hA7 (some q5)))
      have KR := Lib.hid kr
      clear hb hA7 kr hrT x5 f5 l5 l2 y0 y1 l3 z0 z1
      go_upto_region 3 with fail
      generalize (w7.alloc (.cells #[.int .i64 (m : Int), .slice aR FA cR] 24)) = w8 at *
      obtain ⟨l0, u0, -, u1, -⟩ := KR.out.two
      obtain ⟨l5, x5, f5⟩ := HI7.out.k5.one
      obtain ⟨l3, z0, -, z1, -⟩ := HI7.out.k3.two
      have hw1 : ∀ t ∈ A.map (renT (toF tl)), Wf3 t := fun t ht => by
        obtain ⟨s, hs, rfl⟩ := List.mem_map.1 ht
        exact wf_in (by omega) (ren_in (HP.out.all HML.out) (HAB.out.1.inr s hs))
      have hw2 : ∀ t ∈ B, Wf3 t := fun t ht => wf_in (by omega) (HAB.out.2.1.inr t ht)
      have HC1 := Lib.hid (covers_any (m : Int) (m : Int) _ _ _ _ w8 HT8.out (HRB.out _ HI7.out.bel) (by rw [List.length_map, HAB.out.2.2.1]; omega) (by rw [HAB.out.2.2.2]; omega) hw1 hw2)
      clear hw1 hw2
      go_wp2_with fail
      refine HC1.out.mono ?_
      rintro en w9 ⟨b9, rfl, hi9, hb9⟩
      have HI9 := Lib.hid (HI7.out.below hb9)
      have HG9 := Lib.hid (grown_trans HG8.out (grown_below hb9 (some q5)))
      have Hi9 := Lib.hid hi9
      clear hb9 hi9 l0 u0 u1 l5 x5 f5 l3 z0 z1
      obtain ⟨l5, x5, f5⟩ := HI9.out.k5.one
      go_wp2
      refine bodyPost_ret (v := .tuple #[]) (results_none rfl _ _ _) rfl ?_
      refine ⟨rfl, b9, ?_, HI9.out.set g5 b9, grown_trans HG9.out (grown_set _)⟩
      rw [Hi9.out, good_full HP.out HML.out]
      simp [HAB.out.2.2.1, HAB.out.2.2.2]
  | succ d ih =>
    intro m tl aO cO W f hmd hml hP hO hI
    have hmn : m < n := by omega
    have hmc : m ≤ cO := (own_capO hO).1
    have HP := Lib.hid hP
    have HI := Lib.hid hI
    have HML := Lib.hid hml
    have HO := Lib.hid hO
    have IH := Lib.hid ih
    obtain ⟨l5, x5, f5⟩ := hI.k5.one
    obtain ⟨l2, y0, -, y1, -⟩ := hI.k2.two
    clear hP hI hml hO ih
    go_enter Try.func14, Try.ntmps14
    cases f with
    | true =>
      go_wp2
      refine bodyPost_ret (v := .tuple #[]) (results_none rfl _ _ _) rfl ?_
      exact ⟨rfl, true, by simp, HI.out, World.grownBy.refl _ _⟩
    | false =>
      have bmn : ((m : Int) == (n : Int)) = false := by simp; omega
      go_wp2
      clear x5 f5 l5 y0 y1 l2
      go_loopw [33] (fun i wr => ∃ (k : Nat) (f' : Bool), k ≤ n ∧ i = .int .i64 k ∧ (f' = true ↔ ∃ v : Nat, v < k ∧ (v : Int) ∉ tl ∧ GoodT n A B (tl ++ [(v : Int)])) ∧ BrSt w wr n (.slice aA FA cA) (.slice aB FB cB) q5 q2 q3 q6 f' ∧ W.grownBy wr (some q5)) (fun i _ => n - (intOf i).toNat)
      case atStart => exact ⟨0, false, Nat.zero_le _, rfl, by simp, HI.out, World.grownBy.refl _ _⟩
      case round =>
        rename World => wr
        obtain ⟨k, f', hk, rfl, hf', hI', hg⟩ := hrel
        have HF := Lib.hid hf'
        have HIr := Lib.hid hI'
        have HG := Lib.hid hg
        have HOr := Lib.hid (HO.out.kept hg (.inr (own_blk_ne HO.out HI.out.k5 (by decide))))
        clear hf' hI' hg
        by_cases hkn : k < n
        · have hki : (k : Int) < (n : Int) := by omega
          go_upto_region 9 with fail
          go_loopw [9, 38] (fun b i wx => ∃ j : Nat, j ≤ m ∧ i = .int .i64 j ∧ b = .bool (decide ((k : Int) ∈ tl.take j)) ∧ wx = wr) (fun _ i _ => m - (intOf i).toNat)
          case atStart => exact ⟨0, Nat.zero_le _, rfl, by simp, rfl⟩
          case round =>
            obtain ⟨j, hj, rfl, rfl, hw⟩ := hrel
            subst hw
            by_cases hjm : j < m
            · have hji : (j : Int) < (m : Int) := by omega
              obtain ⟨x, hx⟩ : ∃ x, tl[j]? = some x := ⟨tl[j]'(by rw [HML.out]; exact hjm), List.getElem?_eq_getElem (by rw [HML.out]; exact hjm)⟩
              have hcell := own_at9 HOr.out hx
              obtain ⟨bO, rfl, hcj⟩ := hcell
              have Htk := Lib.hid (show decide ((k : Int) ∈ tl.take (j + 1)) = (decide ((k : Int) ∈ tl.take j) || (x == (k : Int))) from by
                rw [List.take_succ_eq_append_getElem (by rw [HML.out]; exact hjm)]
                have e : tl[j]'(by rw [HML.out]; exact hjm) = x := by
                  rw [List.getElem?_eq_getElem (by rw [HML.out]; exact hjm)] at hx
                  exact Option.some.inj hx
                rw [e]
                by_cases h1 : (k : Int) ∈ tl.take j
                · simp [h1]
                · by_cases h2 : x = (k : Int)
                  · simp [h2]
                  · have h3 : ¬ (k : Int) = x := fun e => h2 e.symm
                    simp [h1, h2, h3])
              clear hx
              cases hb : decide ((k : Int) ∈ tl.take j) with
              | true =>
                rw [hb] at Htk
                clear hb
                go_wp2
                go_roundw
                case measure => simp [intOf]; omega
                case rel => exact ⟨j + 1, by omega, by go_num, by rw [Htk.out]; rfl, by first | rfl | trivial⟩
              | false =>
                rw [hb] at Htk
                clear hb
                go_wp2
                go_roundw
                case measure => simp [intOf]; omega
                case rel => exact ⟨j + 1, by omega, by go_num, by rw [Htk.out]; rfl, by first | rfl | trivial⟩
            · obtain rfl : m = j := by omega
              have etk : tl.take m = tl := List.take_of_length_le (by rw [HML.out]; exact Nat.le_refl _)
              rw [etk]
              by_cases hin : (k : Int) ∈ tl
              · have hdt : decide ((k : Int) ∈ tl) = true := decide_eq_true hin
                rw [hdt]
                have Hin := Lib.hid hin
                clear hdt hin etk
                go_wp2
                go_roundw
                case measure => simp [intOf]; omega
                case rel =>
                  refine ⟨k + 1, f', by omega, by go_num, ?_, HIr.out, HG.out⟩
                  rw [HF.out]
                  constructor
                  · rintro ⟨v, h1, h2⟩
                    exact ⟨v, by omega, h2⟩
                  · rintro ⟨v, h1, h2, h3⟩
                    refine ⟨v, ?_, h2, h3⟩
                    rcases Nat.lt_or_ge v k with h4 | h4
                    · exact h4
                    · obtain rfl : v = k := by omega
                      exact absurd Hin.out h2
              · have hdt : decide ((k : Int) ∈ tl) = false := decide_eq_false hin
                rw [hdt]
                have Hin := Lib.hid hin
                clear hdt hin etk
                obtain ⟨l6, x6, -⟩ := HIr.out.k6.one
                go_upto_region 14 with fail
                have bk := (Blk.new wr.drew 3 #[.int .i64 (k : Int)])
                have hI2 := (HIr.out.below (below_d (Below.refl wr.heap.size wr))).below ((Below.refl wr.drew.heap.size wr.drew).alloc (Nat.le_refl _) (.cells #[.int .i64 (k : Int)] 3))
                have hB2 := (below_d (Below.refl wr.heap.size wr)).alloc (Nat.le_refl _) (.cells #[.int .i64 (k : Int)] 3)
                have hO2 := own_below HOr.out hB2
                have x62 := hI2.k6.cell 0
                refine wp_region_U 10 (fun w' => w'.cell? ⟨q6, 0, none⟩ = some (.func (.func 14) #[] #[.pointer (some ⟨q5, 0, none⟩), .pointer (some ⟨q2, 0, none⟩), .pointer (some ⟨q3, 0, none⟩), .pointer (some ⟨q6, 0, none⟩)])) (by kernel_rfl) x6 ?_
                change AtU _ _ _ _ _ _ 11 (Array.replicate 11 false) _ _
                refine AtU.take (i := 0) (v := ?_) rfl (by kernel_rfl) (by kernel_rfl) (fun _ _ _ h => h) (by rfl) ?_ ?_
                rotate_left 1
                · intro w9 hSw; (try dsimp only at hSw); go_simp; try with_reducible rfl
                try simp only [Act.put, List.setIfInBounds_toArray, List.set_cons_zero, List.set_cons_succ]
                refine AtU.take (i := 1) (v := ?_) rfl (by kernel_rfl) (by kernel_rfl) (fun _ _ _ h => h) (by rfl) ?_ ?_
                rotate_left 1
                · intro w9 hSw; (try dsimp only at hSw); go_simp; try with_reducible rfl
                try simp only [Act.put, List.setIfInBounds_toArray, List.set_cons_zero, List.set_cons_succ]
                refine AtU.take (i := 2) (v := ?_) rfl (by kernel_rfl) (by kernel_rfl) (fun _ _ _ h => h) (by rfl) ?_ ?_
                rotate_left 1
                · intro w9 hSw; (try dsimp only at hSw); go_simp; try with_reducible rfl
                try simp only [Act.put, List.setIfInBounds_toArray, List.set_cons_zero, List.set_cons_succ]
                refine AtU.take (i := 3) (v := ?_) rfl (by kernel_rfl) (by kernel_rfl) (fun _ _ _ h => h) (by rfl) ?_ ?_
                rotate_left 1
                · intro w9 hSw; (try dsimp only at hSw); go_simp; try with_reducible rfl
                try simp only [Act.put, List.setIfInBounds_toArray, List.set_cons_zero, List.set_cons_succ]
                refine AtU.take (i := 4) (v := ?_) rfl (by kernel_rfl) (by kernel_rfl) (fun _ _ _ h => h) (by rfl) ?_ ?_
                rotate_left 1
                · intro w9 hSw; (try dsimp only at hSw); go_simp; try with_reducible rfl
                try simp only [Act.put, List.setIfInBounds_toArray, List.set_cons_zero, List.set_cons_succ]
                refine AtU.take (i := 5) (v := ?_) rfl (by kernel_rfl) (by kernel_rfl) (fun _ _ _ h => h) (by rfl) ?_ ?_
                rotate_left 1
                · intro w9 hSw; (try dsimp only at hSw); go_simp; try with_reducible rfl
                try simp only [Act.put, List.setIfInBounds_toArray, List.set_cons_zero, List.set_cons_succ]
                refine AtU.take (i := 6) (v := ?_) rfl (by kernel_rfl) (by kernel_rfl) (fun _ _ _ h => h) (by rfl) ?_ ?_
                rotate_left 1
                · intro w9 hSw; (try dsimp only at hSw); go_simp; try with_reducible rfl
                try simp only [Act.put, List.setIfInBounds_toArray, List.set_cons_zero, List.set_cons_succ]
                refine AtU.take (i := 7) (v := ?_) rfl (by kernel_rfl) (by kernel_rfl) (fun _ _ _ h => h) (by rfl) ?_ ?_
                rotate_left 1
                · intro w9 hSw; (try dsimp only at hSw); go_simp; try with_reducible rfl
                try simp only [Act.put, List.setIfInBounds_toArray, List.set_cons_zero, List.set_cons_succ]
                refine AtU.step (i := 8) rfl (by kernel_rfl) (fun K hK => ?_)
                go_simp
                refine hK.out _ _ x62 ?_
                clear hK K
                try simp only [Act.put, List.setIfInBounds_toArray, List.set_cons_zero, List.set_cons_succ]
                refine AtU.step (i := 9) rfl (by kernel_rfl) (fun K hK => ?_)
                refine step_append_grows rfl (.tmp 57) (.tmp 59) 35 rfl 3 i2 _ 1 8 Try.underlying35 hj' hz0 hz1 hz2 rfl (by decide) aO m m (intsV tl) (by rfl) (fun e => ⟨((own_capO hO2).2.1 e).1, ((own_capO hO2).2.1 e).1⟩) (by simp [intsV, HML.out]) (fun b e jj u hu => own_cells9 hO2 e hu) ⟨wr.heap.size, 0, none⟩ 1 1 [.int .i64 (k : Int)] (by rfl) rfl (fun jj u hu => by rw [Addr.add_lit]; rw [show (0 : Nat) + jj = jj from by omega]; exact (bk.cell jj).trans (by simpa using hu)) (by simp [Value.oneCell']) (by omega) (by unfold maxLen; omega) (by omega) ?_
                intro v5 W5 hr5 hg5
                obtain ⟨a5, c5, rfl⟩ := ownsRow_slice hr5
                have x65 := (hI2.below (grown_none hg5)).k6.cell 0
                refine hK.out _ _ x65 ?_
                clear hK K
                try simp only [Act.put, List.setIfInBounds_toArray, List.set_cons_zero, List.set_cons_succ]
                refine AtU.last (i := 10) rfl (by kernel_rfl) (fun K hK => ?_)
                have HIH := Lib.hid (IH.out (m + 1) (tl ++ [(k : Int)]) a5 c5 W5 f' (by omega) (by simp [HML.out]) (HP.out.snoc hkn Hin.out) (own_base (by have := hr5; rw [intsV] at this ⊢; simpa using this) hI2.bel.size) (hI2.below (grown_none hg5)))
                go_wp2_with (go_at_call 14; refine HIH.out.mono ?_; rintro e9 w9 ⟨rfl, f9, hf9, hI9, hg9⟩)
                refine hK.out _ _ ?_
                clear hK K
                have HI9 := Lib.hid hI9
                have HG9 := Lib.hid (grown_trans HG.out (grown_trans (grown_below hB2 (some q5)) (grown_trans (grown_below (grown_none hg5) (some q5)) hg9)))
                have HF9 := Lib.hid hf9
                clear hI9 hg9 hf9 hg5 hr5 x65 hO2 hB2 hI2 bk x62 x6 l6
                go_wp2
                go_roundw
                case measure => simp [intOf]; omega
                case rel =>
                  refine ⟨k + 1, f9, by omega, by go_num, ?_, HI9.out, HG9.out⟩
                  rw [HF9.out, HF.out]
                  constructor
                  · rintro (⟨v, h1, h2⟩ | h)
                    · exact ⟨v, by omega, h2⟩
                    · exact ⟨k, by omega, Hin.out, h⟩
                  · rintro ⟨v, h1, h2, h3⟩
                    rcases Nat.lt_or_ge v k with h4 | h4
                    · exact .inl ⟨v, h4, h2, h3⟩
                    · obtain rfl : v = k := by omega
                      exact .inr h3
        · obtain rfl : k = n := by omega
          go_wp2
          refine bodyPost_end (results_none rfl _ _ _) rfl ?_
          refine ⟨rfl, f', ?_, HIr.out, HG.out⟩
          rw [HF.out, good_step (by rw [HML.out]; exact hmn)]
          simp
end Go.Proofs.Ytpnkhgjjlionnaa
namespace Go.Proofs.Ytpnkhgjjlionnaa
open Go.RowKit Go.Maps

theorem run_store_fn {P : Program} {w : World} (a : Addr) (m : Mode) (f : Fn) (c1 c2 : Array Value) : (store a (.func f c1 c2) m).run P w = stored P w a (.func f c1 c2) m := run_store P w a _ m rfl
attribute [local go_sem] run_store_fn
set_option maxRecDepth 100000 in
set_option maxHeartbeats 8000000 in
theorem canonBrute_walk (N1 : Int) (v1 : Value) (T1 : List Tr) (N2 : Int) (v2 : Value) (T2 : List Tr) (w : World) (h1 : TrisRd w v1 T1) (h2 : TrisRd w v2 T2) :
    Calls Try.prog 4 #[.agg #[.int .i64 N1, v1], .agg #[.int .i64 N2, v2]] w fun en w' => en = .returned (.bool true) ∧ Below w.heap.size w w' := by
  have hb1 := (Blk.new w 24 #[.int .i64 N1, v1]).alloc (.cells #[.int .i64 N2, v2] 24)
  have hb2 : Blk ((w.alloc (.cells #[.int .i64 N1, v1] 24)).alloc (.cells #[.int .i64 N2, v2] 24)) (w.heap.size + 1) 24 #[.int .i64 N2, v2] := blk_new_at (by simp)
  have hB0 : Below w.heap.size w ((w.alloc (.cells #[.int .i64 N1, v1] 24)).alloc (.cells #[.int .i64 N2, v2] 24)) := ((Below.refl _ _).alloc (Nat.le_refl _) _).alloc (by simp) _
  have HR1 := Lib.hid h1
  have HR2 := Lib.hid h2
  have HI1 := Lib.hid (fun (W : World) (hW : Below w.heap.size w W) (l : T1.length ≤ 20) => is_any N1 v1 T1 W (h1.below hW) (by omega))
  have HI2 := Lib.hid (fun (W : World) (hW : Below w.heap.size w W) (l : T2.length ≤ 20) => is_any N2 v2 T2 W (h2.below hW) (by omega))
  have HE1 := Lib.hid (fun (W : World) (hW : Below w.heap.size w W) (l1 : T1.length ≤ 20) (l2 : T2.length ≤ 20) (n1 : N1 ≤ 60) (n2 : N2 ≤ 60) => equal_any N1 N2 v1 v2 T1 T2 W (h1.below hW) (h2.below hW) (by omega) (by omega) n1 n2)
  obtain ⟨a1, c1, rfl, -⟩ := h1
  obtain ⟨a2, c2, rfl, -⟩ := h2
  obtain ⟨F1, hF1⟩ : ∃ F, T1.length = F := ⟨_, rfl⟩
  obtain ⟨F2, hF2⟩ : ∃ F, T2.length = F := ⟨_, rfl⟩
  have HL := Lib.hid (And.intro hF1 hF2)
  rw [hF1] at HI1 HE1 hB0 hb1 hb2 HR1 ⊢
  rw [hF2] at HI2 HE1 hB0 hb1 hb2 HR2 ⊢
  have HB0 := Lib.hid hB0
  have K0 := Lib.hid hb1
  have K1 := Lib.hid hb2
  clear hB0 hb1 hb2 hF1 hF2
  go_enter Try.func4, Try.ntmps4
  go_wp2_with fail
  refine (awake46_any _).mono ?_
  rintro en w1 ⟨rfl, hb⟩
  have HB1 := Lib.hid (HB0.out.trans (hb.mono HB0.out.size))
  have K01 := Lib.hid (K0.out.below hb K0.out.lt)
  have K11 := Lib.hid (K1.out.below hb K1.out.lt)
  clear hb K0 K1 HB0
  obtain ⟨l0, x0, -, x1, -⟩ := K01.out.two
  obtain ⟨l1, y0, -, y1, -⟩ := K11.out.two
  by_cases f0 : 5 < N1
  · go_wp2
    go_ret
    exact ⟨rfl, HB1.out⟩
  by_cases f3 : N2 = N1
  rotate_left 1
  · have bne : (N2 != N1) = true := by simpa using f3
    go_wp2
    go_ret
    exact ⟨rfl, HB1.out⟩
  subst f3
  have bne : (N2 != N2) = false := by simp
  by_cases f1 : 20 < F1
  · have d1 : (20 : Int) < (F1 : Int) := by omega
    go_wp2
    go_ret
    exact ⟨rfl, HB1.out⟩
  by_cases f2 : 20 < F2
  · have d1 : ¬ (20 : Int) < (F1 : Int) := by omega
    have d2 : (20 : Int) < (F2 : Int) := by omega
    go_wp2
    go_ret
    exact ⟨rfl, HB1.out⟩
  have d1 : ¬ (20 : Int) < (F1 : Int) := by omega
  have d2 : ¬ (20 : Int) < (F2 : Int) := by omega
  have u1 : F1 ≤ 20 := by omega
  have u2 : F2 ≤ 20 := by omega
  have HI1' := Lib.hid (HI1.out _ HB1.out u1)
  go_wp2_with fail
  refine HI1'.out.mono ?_
  rintro en w2 ⟨s1, rfl, hs1, hb⟩
  have HS1 := Lib.hid hs1
  have HB2 := Lib.hid (HB1.out.trans (hb.mono HB1.out.size))
  have K02 := Lib.hid (K01.out.below hb K01.out.lt)
  have K12 := Lib.hid (K11.out.below hb K11.out.lt)
  clear hs1 hb K01 K11 HB1 x0 x1 l0 y0 y1 l1 HI1'
  obtain ⟨l0, x0, -, x1, -⟩ := K02.out.two
  obtain ⟨l1, y0, -, y1, -⟩ := K12.out.two
  cases s1 with
  | false =>
    go_wp2
    go_ret
    exact ⟨rfl, HB2.out⟩
  | true =>
  have HI2' := Lib.hid (HI2.out _ HB2.out u2)
  go_wp2_with fail
  refine HI2'.out.mono ?_
  rintro en w3 ⟨s2, rfl, hs2, hb⟩
  have HS2 := Lib.hid hs2
  have HB3 := Lib.hid (HB2.out.trans (hb.mono HB2.out.size))
  have K03 := Lib.hid (K02.out.below hb K02.out.lt)
  have K13 := Lib.hid (K12.out.below hb K12.out.lt)
  clear hs2 hb K02 K12 HB2 x0 x1 l0 y0 y1 l1 HI2'
  cases s2 with
  | false =>
    go_wp2
    go_ret
    exact ⟨rfl, HB3.out⟩
  | true =>
  have hS1 := HS1.out.1 (by first | rfl | trivial)
  have hS2 := HS2.out.1 (by first | rfl | trivial)
  obtain ⟨n, rfl⟩ : ∃ n : Nat, N2 = n := ⟨N2.toNat, by have := hS1.n0; omega⟩
  have HSS := Lib.hid (And.intro hS1 hS2)
  have hn5 : n ≤ 5 := by omega
  clear hS1 hS2 HS1 HS2 HI1 HI2
  go_upto_region 8 with fail
  have k5 := (Blk.new w3 4 #[.bool false]).alloc (.cells #[.func (.func 14) #[] #[.pointer (some ⟨w3.heap.size, 0, none⟩), .pointer (some ⟨w.heap.size, 0, none⟩), .pointer (some ⟨w.heap.size + 1, 0, none⟩), .pointer (some ⟨w3.heap.size + 1, 0, none⟩)]] 34)
  have k6 : Blk ((w3.alloc (.cells #[.bool false] 4)).alloc (.cells #[.func (.func 14) #[] #[.pointer (some ⟨w3.heap.size, 0, none⟩), .pointer (some ⟨w.heap.size, 0, none⟩), .pointer (some ⟨w.heap.size + 1, 0, none⟩), .pointer (some ⟨w3.heap.size + 1, 0, none⟩)]] 34)) (w3.heap.size + 1) 34 #[.func (.func 14) #[] #[.pointer (some ⟨w3.heap.size, 0, none⟩), .pointer (some ⟨w.heap.size, 0, none⟩), .pointer (some ⟨w.heap.size + 1, 0, none⟩), .pointer (some ⟨w3.heap.size + 1, 0, none⟩)]] := blk_new_at (by simp)
  have hB8 : Below w.heap.size w ((w3.alloc (.cells #[.bool false] 4)).alloc (.cells #[.func (.func 14) #[] #[.pointer (some ⟨w3.heap.size, 0, none⟩), .pointer (some ⟨w.heap.size, 0, none⟩), .pointer (some ⟨w.heap.size + 1, 0, none⟩), .pointer (some ⟨w3.heap.size + 1, 0, none⟩)]] 34)) := (HB3.out.alloc HB3.out.size _).alloc (by have := HB3.out.size; simp; omega) _
  have HI8 := Lib.hid (show BrSt w _ n (.slice a1 F1 c1) (.slice a2 F2 c2) w3.heap.size w.heap.size (w.heap.size + 1) (w3.heap.size + 1) false from ⟨k5, (K03.out.alloc _).alloc _, (K13.out.alloc _).alloc _, k6, hB8⟩)
  have g5 := HB3.out.size
  clear k5 k6 hB8 K03 K13 HB3
  generalize (w3.alloc (.cells #[.bool false] 4)).alloc (.cells #[.func (.func 14) #[] #[.pointer (some ⟨w3.heap.size, 0, none⟩), .pointer (some ⟨w.heap.size, 0, none⟩), .pointer (some ⟨w.heap.size + 1, 0, none⟩), .pointer (some ⟨w3.heap.size + 1, 0, none⟩)]] 34) = w8 at *
  generalize w3.heap.size = q5 at *
  have HBr := Lib.hid (bru_any hn5 HSS.out.1 HSS.out.2 HL.out.1 HL.out.2 u1 u2 HR1.out HR2.out g5 n 0 [] none 0 w8 false (by omega) rfl ⟨List.nodup_nil, fun x hx => (by cases hx)⟩ (World.ownsRow_nil _ _ _ _) HI8.out)
  obtain ⟨l6, x6, -⟩ := HI8.out.k6.one
  go_upto_region 9 with (go_at_call 14; go_loud (refine HBr.out.mono ?_; rintro en w9 ⟨rfl, f9, hf9, hI9, hg9⟩))
  have HF9 := Lib.hid (show f9 = true ↔ FormEq (n : Int) (n : Int) T1 T2 from by
    rw [hf9, brute_iff HSS.out.1 HSS.out.2]
    constructor
    · rintro (h | ⟨r, h1, h2, h3⟩)
      · cases h
      · exact ⟨h3, r, h1, h2⟩
    · rintro ⟨h1, r, h2, h3⟩
      exact .inr ⟨r, h2, h3, h1⟩)
  have HI9 := Lib.hid hI9
  have HE9 := Lib.hid (fun (W : World) (hW : Below w.heap.size w W) => HE1.out W hW u1 u2 (by omega) (by omega))
  clear hf9 hI9 hg9 HBr HI8 x6 l6 HE1
  obtain ⟨l0, x0, -, x1, -⟩ := HI9.out.k2.two
  obtain ⟨l1, y0, -, y1, -⟩ := HI9.out.k3.two
  obtain ⟨l5, z0, -⟩ := HI9.out.k5.one
  refine wp_region_U 5 (fun w' => w'.cell? ⟨w.heap.size, 0, none⟩ = some (.int .i64 (n : Int)) ∧ w'.cell? ⟨w.heap.size, 1, none⟩ = some (.slice a1 F1 c1) ∧ w'.cell? ⟨w.heap.size + 1, 0, none⟩ = some (.int .i64 (n : Int)) ∧ w'.cell? ⟨w.heap.size + 1, 1, none⟩ = some (.slice a2 F2 c2) ∧ w'.cell? ⟨q5, 0, none⟩ = some (.bool f9)) (by kernel_rfl) ⟨x0, x1, y0, y1, z0⟩ ?_
  change AtU _ _ _ _ _ _ 6 (Array.replicate 6 false) _ _
  refine AtU.take (i := 0) (v := ?_) rfl (by kernel_rfl) (by kernel_rfl) (fun _ _ _ h => h) (by rfl) ?_ ?_
  rotate_left 1
  · intro w9 hSw; (try dsimp only at hSw); go_simp; try with_reducible rfl
  try simp only [Act.put, List.setIfInBounds_toArray, List.set_cons_zero, List.set_cons_succ]
  refine AtU.take (i := 1) (v := ?_) rfl (by kernel_rfl) (by kernel_rfl) (fun _ _ _ h => h) (by rfl) ?_ ?_
  rotate_left 1
  · intro w9 hSw; (try dsimp only at hSw); go_simp; try with_reducible rfl
  try simp only [Act.put, List.setIfInBounds_toArray, List.set_cons_zero, List.set_cons_succ]
  refine AtU.take (i := 3) (v := ?_) rfl (by kernel_rfl) (by kernel_rfl) (fun _ _ _ h => h) (by rfl) ?_ ?_
  rotate_left 1
  · intro w9 hSw; (try dsimp only at hSw); go_simp; try with_reducible rfl
  try simp only [Act.put, List.setIfInBounds_toArray, List.set_cons_zero, List.set_cons_succ]
  refine AtU.step (i := 2) rfl (by kernel_rfl) (fun K hK => ?_)
  have HE := Lib.hid (HE9.out _ (below_d HI9.out.bel))
  go_wp2_with (go_at_call 11; refine HE.out.mono ?_; rintro e9 w10 ⟨b10, rfl, hb10, hw10⟩)
  have x0_ := (hw10.cell (p := ⟨w.heap.size, 0, none⟩) l0).trans x0
  have x1_ := (hw10.cell (p := ⟨w.heap.size, 1, none⟩) l0).trans x1
  have y0_ := (hw10.cell (p := ⟨w.heap.size + 1, 0, none⟩) l1).trans y0
  have y1_ := (hw10.cell (p := ⟨w.heap.size + 1, 1, none⟩) l1).trans y1
  have z0_ := (hw10.cell (p := ⟨q5, 0, none⟩) l5).trans z0
  refine hK.out _ _ ⟨x0_, x1_, y0_, y1_, z0_⟩ ?_
  clear hK K
  try simp only [Act.put, List.setIfInBounds_toArray, List.set_cons_zero, List.set_cons_succ]
  obtain rfl : b10 = f9 := by
    cases b10 <;> cases f9
    · rfl
    · exact absurd (hb10.2 (HF9.out.1 rfl)) (by decide)
    · exact absurd (HF9.out.2 (hb10.1 rfl)) (by decide)
    · rfl
  refine AtU.take (i := 4) (v := ?_) rfl (by kernel_rfl) (by kernel_rfl) (fun _ _ _ h => h) (by rfl) ?_ ?_
  rotate_left 1
  · intro w9 hSw; (try dsimp only at hSw); go_simp; try with_reducible rfl
  try simp only [Act.put, List.setIfInBounds_toArray, List.set_cons_zero, List.set_cons_succ]
  refine AtU.last (i := 5) rfl (by kernel_rfl) (fun K hK => ?_)
  go_simp
  refine hK.out _ _ ?_
  clear hK K
  have HBz := Lib.hid ((below_d HI9.out.bel).trans (hw10.mono (below_d HI9.out.bel).size))
  clear x0_ x1_ y0_ y1_ z0_ hw10
  go_wp2
  go_ret
  exact ⟨by simp, HBz.out⟩
end Go.Proofs.Ytpnkhgjjlionnaa
namespace Go.Proofs.Ytpnkhgjjlionnaa
open Go.RowKit

theorem three_cells {P : Program} {H : Type} {enc : TypeId × Value → H} {w : World} {base : Nat} {spare : Nat → Bool} {held : Bool} {t u : TypeId} {m : Nat} {cs : List Value} {x : DataW H × List MemPlace}
    (ht : P.underlying t = some (.array 3 u)) (hu : P.underlying u = some (.int .i64)) (hc : P.cellsOf u = 1) (hl : cs.length = 3) (h : DataW.trod enc P w base spare held m t cs = some x) :
    ∃ a b c : Int, cs = [.int .i64 a, .int .i64 b, .int .i64 c] := by
  obtain ⟨xs, n, -, -, -, hx, hel⟩ := DataW.trod_array ht h
  rw [hc] at hel
  match cs, hl with
  | [v0, v1, v2], _ =>
    have key : ∀ i v, i < 3 → ([v0, v1, v2].drop (i * 1)).take 1 = [v] → ∃ z : Int, v = .int .i64 z := by
      intro i v hi hv
      have e := hel i hi
      rw [hv] at e
      obtain ⟨y, hy⟩ : ∃ y, xs[i]? = some y := ⟨xs[i]'(by omega), List.getElem?_eq_getElem _⟩
      rw [hy] at e
      obtain ⟨z, hz, -, -⟩ := DataW.trod_int hu e
      exact ⟨z, by simpa using hz⟩
    obtain ⟨a, rfl⟩ := key 0 v0 (by omega) rfl
    obtain ⟨b, rfl⟩ := key 1 v1 (by omega) rfl
    obtain ⟨c, rfl⟩ := key 2 v2 (by omega) rfl
    exact ⟨a, b, c, rfl⟩
theorem tris_open {H : Type} {enc : TypeId × Value → H} {w : World} {base : Nat} {spare : Nat → Bool} {held : Bool} {m : Nat} {v : Value} {x : DataW H × List MemPlace}
    (h : DataW.trod enc Try.prog w base spare held m 22 [v] = some x) : ∃ T, TrisRd w v T := by
  rcases Go.Deep.open_slice Try.underlying22 h with ⟨e1, -⟩ | ⟨a, len, cap, q, n, D, Pl, e1, hb, hl, hm, hq, -, hall⟩
  · have e : v = .slice none 0 0 := by simpa using e1
    subst e
    exact ⟨[], none, 0, rfl, by simp, by decide, fun k x y z hk => by simp at hk⟩
  · have e : v = .slice (some a) len cap := by simpa using e1
    subst e
    have h3 : Try.prog.cellsOf 61 = 3 := by kernel_rfl
    have hlq : len ≤ q := by rw [hq]; split <;> omega
    have key : ∀ i, ∃ t : Tr, i < len → w.cell? (a.add (i * 3)) = some (.int .i64 t.1) ∧ w.cell? ((a.add (i * 3)).add 1) = some (.int .i64 t.2.1) ∧ w.cell? ((a.add (i * 3)).add 2) = some (.int .i64 t.2.2) := by
      intro i
      by_cases hi : i < len
      · obtain ⟨cs, hcs, htr⟩ := hall i (by omega)
        rw [h3] at hcs
        obtain ⟨-, hcl, hce⟩ := World.cells?_some hcs
        obtain ⟨x, y, z, rfl⟩ := three_cells Try.underlying61 Try.underlying3 (by kernel_rfl) hcl htr
        refine ⟨(x, y, z), fun _ => ⟨?_, hce 1 (by omega), hce 2 (by omega)⟩⟩
        have := hce 0 (by omega)
        have e0 : (a.add (i * 3)).add 0 = a.add (i * 3) := by simp [Addr.add]
        rw [e0] at this
        exact this
      · exact ⟨(0, 0, 0), fun h => absurd h hi⟩
    obtain ⟨f, hf⟩ := Classical.axiomOfChoice key
    refine ⟨(List.range len).map f, some a, cap, by simp, by simpa using hl, by unfold maxLen at hm; omega, fun k x y z hk => ?_⟩
    have hk' : k < len := by
      have := (List.getElem?_eq_some_iff.1 hk).1
      simpa using this
    rw [List.getElem?_map, List.getElem?_range hk'] at hk
    have hfk : f k = (x, y, z) := by simpa using hk
    obtain ⟨c0, c1, c2⟩ := hf k hk'
    rw [hfk] at c0 c1 c2
    obtain ⟨b, off, spot⟩ := a
    have hspot : spot = none := by simpa [Addr.add] using World.cell?_spot (hf 0 (by omega)).1
    subst hspot
    rw [Addr.add_lit] at c0
    rw [Addr.add_lit, Addr.add_lit] at c1 c2
    refine ⟨b, off, rfl, ?_, c0, c1, c2⟩
    rcases Nat.lt_or_ge b w.heap.size with hlt | hge
    · exact hlt
    · exfalso
      unfold World.cell? at c0
      simp [Array.getElem?_eq_none hge] at c0
set_option maxRecDepth 100000 in
theorem soup_open {H : Type} {enc : TypeId × Value → H} {w : World} {base : Nat} {spare : Nat → Bool} {held : Bool} {r : Go.Reach} {b0 : Nat} {v : Value} {d : DataW H} {p : List MemPlace}
    (hv : Value.okWide Try.prog w r b0 24 v) (h : DataW.Trod enc Try.prog w base spare held 24 v d p) :
    ∃ (N : Int) (vT : Value) (T : List Tr), v = .agg #[.int .i64 N, vT] ∧ TrisRd w vT T ∧ (Lit.int .i64 N).wf = true := by
  obtain ⟨v0, v1, y0, y1, n, rfl, -, -, h0, h1⟩ := Go.Joins.open_agg2 Try.underlying24 (by kernel_rfl) (by kernel_rfl) hv h
  obtain ⟨N, e0, -, hw⟩ := DataW.trod_int Try.underlying3 h0
  obtain ⟨T, hT⟩ := tris_open h1
  exact ⟨N, v1, T, by simpa using e0, hT, hw⟩
end Go.Proofs.Ytpnkhgjjlionnaa
