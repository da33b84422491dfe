/-
  Texts joined by program, what the law uses alone: Simp Ste Reg Apn Wlk WkOnM WkLpM WkZ ZpAcc ZpAwake24 SurA Fit21.
-/
import Derived.Sort.LoopGhostIn
import Derived.OrdersIn
import Derived.TacticsIn
import Derived.Deep.AppendLies
import Derived.OwnWalkIn
import Derived.Lib.ConvBytes
import Derived.Laws.IdiomStrings
import Derived.Stop.RegionWithIn
import Derived.Sort.CutIn
import Derived.WalkHide
import Derived.Deep.RegionHeld3
import Derived.Deep.RegionLaw
import Derived.Lib.AppendZerosOnto
import Derived.Lib.Hide
import Derived.Lib.SmallJoins
import Derived.Sort.Defs
import Derived.RegionTactic
import Derived.BigRegion
import Derived.BigQuiet
import Derived.Deep.QuietTactic
import Derived.Deep.DeepCutAuto
import Derived.Test.YtpnkhgjjlionnaaGreatW6
import Derived.Test.YtpnkhgjjlionnaaGreatW1
import Derived.Test.YtpnkhgjjlionnaaGreatW5
import Derived.Test.YtpnkhgjjlionnaaGreatShelf
import Derived.Test.YtpnkhgjjlionnaaGreatW3
import Derived.Test.YtpnkhgjjlionnaaGreatW4
import Derived.Test.YtpnkhgjjlionnaaGreatW2
namespace Go.Proofs.YtpnkhgjjlionnaaGreat
open Go.RowKit Go.Maps

theorem cnt_rep : ∀ (k : Nat), cntL (List.replicate (k + 1) 0) = 1
  | 0 => rfl
  | k + 1 => by
    have := cnt_rep k
    unfold cntL at this ⊢
    rw [List.replicate_succ', List.foldl_append, this]
    rfl
theorem chk_simp {n : Nat} {T : List Tr} (hS : Surf n T) : ChkOk n T ↔ Simp n T := by
  constructor
  · rintro ⟨out, h1, h2, h3, h4⟩
    have h0 : ∀ j, j < T.length → at_ out j = 0 := fun j hj => by
      have a := h1.nn j hj
      have b := at_lt (out := out) (j := j) (by rw [h1.len]; exact hj)
      omega
    have hpos : 0 < T.length := by
      rcases Nat.eq_zero_or_pos T.length with e | e
      · have : out = [] := List.eq_nil_of_length_eq_zero (by rw [h1.len, e])
        rw [this] at h2
        cases h2
      · exact e
    have hc := conn_of h1 h3 h0
    obtain ⟨m, e1, e2⟩ := even_of hS h3 hc
    refine ⟨hS, h3, hc, hpos, ?_⟩
    have e3 : 3 * (T.length : Int) / 2 = 3 * (m : Int) := by rw [e1]; push_cast; omega
    rw [e3, e1] at h4
    have h5 : -1 ≤ 2 - 0 - ((n : Int) - 3 * (m : Int) + ((2 * m : Nat) : Int)) ∧ 2 - 0 - ((n : Int) - 3 * (m : Int) + ((2 * m : Nat) : Int)) ≤ 1 := by
      generalize 2 - 0 - ((n : Int) - 3 * (m : Int) + ((2 * m : Nat) : Int)) = x at h4
      rcases Int.le_total 0 x with h | h
      · rw [Int.tdiv_eq_ediv_of_nonneg h] at h4
        omega
      · have h5 : (-x).tdiv 2 = 0 := by rw [Int.neg_tdiv, h4]; rfl
        rw [Int.tdiv_eq_ediv_of_nonneg (by omega)] at h5
        omega
    have e4 : ((n : Int)).toNat = n := Int.toNat_natCast n
    rw [e4] at e2
    omega
  · intro h
    obtain ⟨k, hk⟩ : ∃ k, T.length = k + 1 := ⟨T.length - 1, by have := h.pos; omega⟩
    have hat : ∀ j, j < T.length → at_ (List.replicate T.length 0) j = 0 := fun j hj => by
      unfold at_
      simp [List.getD_eq_getElem?_getD, hj]
    refine ⟨List.replicate T.length 0, ⟨by simp, fun j hj => by rw [hat j hj]; omega, fun c o hc ho => ?_, fun j hj => ?_⟩, by rw [hk]; exact cnt_rep k, h.closed, ?_⟩
    · have h1 := oppI_bd T (c : Int)
      rw [hat _ (by omega), hat _ (by omega)]
    · rcases Nat.eq_zero_or_pos j with e | e
      · subst e
        exact .inr ⟨fun i hi => by omega, .inl (hat 0 hj)⟩
      · refine .inl ⟨0, e, by rw [hat 0 (by omega), hat j hj], fun S s0 hs => h.conn S s0 (fun c hc hSc => hs c (oppN T c) hc (h.closed.opp hc) hSc) j hj⟩
    · have := h.euler
      obtain ⟨m, hm⟩ : ∃ m : Nat, T.length = 2 * m := ⟨T.length / 2, by omega⟩
      have e3 : 3 * (T.length : Int) / 2 = 3 * (m : Int) := by rw [hm]; push_cast; omega
      rw [e3, hm]
      have e5 : 2 - 0 - ((n : Int) - 3 * (m : Int) + ((2 * m : Nat) : Int)) = 0 := by omega
      rw [e5]
      rfl
end Go.Proofs.YtpnkhgjjlionnaaGreat
namespace Go.Proofs.YtpnkhgjjlionnaaGreat
open Go.RowKit Go.Maps Go.Shelf
attribute [local go_sem] Oper.semAt_some

/-- walk.Steps: the function value holds the table and the corner in boxes. -/
theorem wsteps_any (F : Fence) (n : Nat) (h6 : F.fn 35) (hro : F.round = none) (a : Option Addr) (r : Int) (w : World) :
    CallsIn F n Tryz.prog 35 #[.pointer a, .int .i64 r] w fun e w' => e = .returned (.func (.func 64) #[] #[.pointer (some ⟨w.heap.size, 0, none⟩), .pointer (some ⟨w.heap.size + 1, 0, none⟩)]) ∧ w' = (w.alloc (.cells #[.pointer a] 26)).alloc (.cells #[.int .i64 r] 3) := by
  refine callsIn_of_wp Tryz.func35 rfl h6 ?_ hro
  simp only [Tryz.ntmps35, List.size_toArray, List.length_cons, List.length_nil, Nat.reduceAdd, Nat.reduceSub, Array.replicate_succ, Array.replicate_zero, List.push_toArray, List.append_toArray, List.nil_append, List.cons_append]
  gi_wp2
  go_ret
  exact ⟨rfl, rfl⟩
/-- A step as it is yielded. -/
def encS (x : WStep) : Array Value := #[.agg #[.int .u8 x.letter, .int .i64 x.corner, .int .i64 x.loops, .int .i64 x.length]]
/-- The iterator's state between two rounds. -/
structure SteI (w : World) (g n : Nat) (T : List Tr) (c b : Nat) (base : Nat) (J : List WStep → (Nat → Prop) → World → Prop) (k : Nat) (W : World) : Prop where
  st : ∃ L s S C, Ran T (beginS T c) L s ∧ WayS W base g b n S s ∧ J L C W ∧ (∀ j, C j → w.heap.size ≤ j ∧ j < W.heap.size ∧ ¬ S j) ∧ k + L.length = T.length
  below : Below w.heap.size w W
set_option maxRecDepth 100000 in
set_option maxHeartbeats 4000000 in
theorem steps1_sep {w : World} {m Bt Bc g n c : Nat} {T : List Tr} (hs : Simp n T) (hT : Tab w g n T) (hc : c < 3 * T.length) :
    SeqSep Fence.wide m Tryz.prog 64 #[.pointer (some ⟨Bt, 0, none⟩), .pointer (some ⟨Bc, 0, none⟩)] encS (fun xs => xs = stepsM T c) (fun pre => ∃ s, Ran T (beginS T c) pre s) T.length w (fun _ => False) (fun W => W.cell? ⟨Bt, 0, none⟩ = some (.pointer (some ⟨g, 0, none⟩)) ∧ W.cell? ⟨Bc, 0, none⟩ = some (.int .i64 c) ∧ Bt < W.heap.size ∧ Bc < W.heap.size) := by
  rintro l J Jx W C hW ⟨t0, c0, lt, lc⟩ - hJ hJx hY h0 hC
  have hTl := hT.len
  have hn : n ≤ 4096 := by have := hs.surf.n1; omega
  have hz := hW.size
  have HCk := Lib.hid (check_walk g n T W (c : Int) (hT.below hW) hs.surf (by omega) (fun W' hW' => loopsPost_closed ((hT.below hW).below hW') hs.closed hn))
  rw [if_neg (by omega), if_pos ((chk_simp hs.surf).2 hs)] at HCk
  have HT := Lib.hid (fun (W' : World) (hW' : Below w.heap.size w W') => hT.below hW')
  have HS := Lib.hid hs
  have HJ := Lib.hid hJ
  have HY := Lib.hid hY
  have HJ0 := Lib.hid h0
  have HC := Lib.hid hC
  have HW := Lib.hid hW
  clear hs hT hJ hJx hY h0 hC hW
  refine callsIn_of_wp Tryz.func64 rfl trivial ?_ rfl
  simp only [Tryz.ntmps64, List.size_toArray, List.length_cons, List.length_nil, Nat.reduceAdd, Nat.reduceSub, Array.replicate_succ, Array.replicate_zero, List.push_toArray, List.append_toArray, List.nil_append, List.cons_append]
  gi_wp2_with fail
  refine ⟨trivial, fun h => (by simp [Fence.wide] at h), (callsIn_wide.2 HCk.out).mono ?_⟩
  rintro e w1 ⟨rfl, hb1⟩
  have t1 := (hb1.cell (p := ⟨Bt, 0, none⟩) (by simp only; omega)).trans t0
  have c1 := (hb1.cell (p := ⟨Bc, 0, none⟩) (by simp only; omega)).trans c0
  have HW1 := Lib.hid (HW.out.trans (hb1.mono hz))
  have HB1 := Lib.hid hb1
  clear hb1 HCk t0 c0
  gi_wp2_with fail
  refine ⟨trivial, fun h => (by simp [Fence.wide] at h), (callsIn_wide.2 (begin_any (HT.out w1 HW1.out) HS.out.surf hc)).mono ?_⟩
  rintro e w2 ⟨b, vC, vL, vW, vs, rfl, hA, hb2⟩
  have hb12 := HB1.out.trans (hb2.mono HB1.out.size)
  have HI := Lib.hid (show SteI w g n T c b w1.heap.size J T.length w2 from ⟨⟨[], beginS T c, OwnA b vC vL vW vs, C, .nil, ⟨fun j hj => hA.own_ge hj, .inl ⟨vC, vL, vW, vs, hA, fun _ h => h⟩⟩, HJ.out _ _ _ _ HJ0.out (hb12.mono hz) (fun j hj => hb12.block j (HC.out j hj).2.1),
    fun j hj => by
      have h1 := HC.out j hj
      have h2 := hb12.size
      have h3 := HB1.out.size
      exact ⟨h1.1, by omega, fun h => by have := (hA.own_ge h).1; omega⟩, by simp⟩, HW1.out.trans (hb2.mono HW1.out.size)⟩)
  have hz1 := HW1.out.size
  clear hA hb2 hb12 t1 c1 HB1
  gi_wp2
  gi_loopg [] T.length (fun k wr => SteI w g n T c b w1.heap.size J k wr)
  case atStart => exact HI.out
  case round =>
    clear HI HJ0 HC
    rename World => wr
    obtain ⟨⟨L, s, S, C1, R, hWs, hJL, hC1, hk⟩, hB⟩ := hrel
    obtain ⟨Xs, G⟩ := R.gone HS.out hc
    have hzr := hB.size
    have hbw1 : w.heap.size ≤ w1.heap.size := hz1
    have stab : ∀ (A : World), Kept S wr A → J L C1 A := fun A hK => HJ.out _ _ _ _ hJL (hK.below (fun j hj => by have := (hWs.1 j hj).1; omega) hzr) (fun j hj => hK.block j (hC1 j hj).2.1 (hC1 j hj).2.2)
    have HST := Lib.hid stab
    by_cases hl : s.loop = []
    · have HE := Lib.hid (step_end hWs hl (by
        obtain ⟨h1, ⟨vC, vL, vW, vs, h2, h3⟩ | ⟨h2, h3, h4⟩⟩ := hWs
        · exact h2.ble
        · have := h1 b h3
          omega))
      have HR := Lib.hid (R.steps HS.out hc hl)
      clear hWs hJL hC1 hB G R stab
      gi_wp2_with fail
      refine ⟨trivial, fun h => (by simp [Fence.wide] at h), (callsIn_wide.2 HE.out).mono ?_⟩
      rintro e w3 ⟨rfl, hK⟩
      have HJ3 := Lib.hid (HST.out _ (hK.alloc (.cells #[.int .u8 0, .int .i64 0, .int .i64 0, .int .i64 0] 82)))
      clear hK HE
      gi_wp2
      refine ⟨fun f h => (by cases h), ?_⟩
      gi_wp2
      refine bodyPost_ret (results_none rfl _ _ _) rfl ?_
      exact ⟨⟨_, rfl⟩, .inl ⟨L, C1, HR.out, HJ3.out⟩⟩
    · obtain ⟨x, s', Xs', hst, G', -⟩ := G.next HS.out hl
      obtain ⟨q1, q2, q3, q4, q5⟩ := G.wants HS.out
      have hlt := (G'.lt HS.out).1
      have HE := Lib.hid (step_any (HT.out wr hB) hWs hst q1 hn (by omega) (by omega) (q4 hl) q5)
      have HR := Lib.hid (Ran.snoc R hst)
      have HWs := Lib.hid hWs.1
      have HC1 := Lib.hid hC1
      have HBr := Lib.hid hB
      have hLx : (L ++ [x]).length = L.length + 1 := by simp
      clear hWs hJL hC1 hB G G' R stab q1 q2 q3 q4 q5 hst
      gi_wp2_with fail
      refine ⟨trivial, fun h => (by simp [Fence.wide] at h), (callsIn_wide.2 HE.out).mono ?_⟩
      rintro e w3 ⟨rfl, S', hWs', hS', hK⟩
      obtain ⟨xl, xc, xo, xn⟩ := x
      have hK4 := hK.alloc (.cells #[.int .u8 xl, .int .i64 xc, .int .i64 xo, .int .i64 xn] 82)
      have hJ4 := HST.out _ hK4
      have hz3 := hK.size
      have bs := Blk.new w3 82 #[.int .u8 xl, .int .i64 xc, .int .i64 xo, .int .i64 xn]
      obtain ⟨fn, tmps, assign, body, hy, hR⟩ := HY.out L ⟨xl, xc, xo, xn⟩ C1 _ hJ4 (by omega)
      have hz4 : (w3.alloc (.cells #[.int .u8 xl, .int .i64 xc, .int .i64 xo, .int .i64 xn] 82)).heap.size = w3.heap.size + 1 := World.size_alloc _ _
      have hWs4 := hWs'.same (w' := w3.alloc (.cells #[.int .u8 xl, .int .i64 xc, .int .i64 xo, .int .i64 xn] 82)) (by omega) (fun j hj => Below.heap_alloc _ _ _ (hWs'.1 j hj).2)
      have hB4 := HBr.out.trans ((hK4.below (fun j hj => by have := (HWs.out j hj).1; omega) hzr))
      have Hz4 := Lib.hid hz4
      have HWs4 := Lib.hid hWs4
      have HWb := Lib.hid hWs'.1
      have HS' := Lib.hid hS'
      have HB4 := Lib.hid hB4
      unfold encS at hy
      dsimp only at hy
      obtain ⟨-, b0, b1, b2, b3, -⟩ := four bs
      clear hWs' hS' hK hK4 hJ4 hWs4 hB4 HE bs hz4
      gi_wp2
      refine ⟨fun h => (by simp [Fence.wide] at h), hR.mono ?_⟩
      rintro e w5 ⟨hK5, C', hC', ⟨rfl, hJ5⟩ | ⟨rfl, hJ5⟩⟩
      · have hz5 := hK5.size
        have hSd : ∀ j, S' j → ¬ C1 j := fun j hj hc1 => by
          have h1 := HC1.out j hc1
          rcases HS'.out j hj with h | h
          · exact h1.2.2 h
          · omega
        have hWs5 := HWs4.out.same hz5 (fun j hj => hK5.block j (HWs4.out.1 j hj).2 (hSd j hj))
        have hB5 := HB4.out.trans (hK5.below (fun j hj => (HC1.out j hj).1) HB4.out.size)
        have HI5 := Lib.hid (show SteI w g n T c b w1.heap.size J (T.length - (L.length + 1)) w5 from ⟨⟨L ++ [⟨xl, xc, xo, xn⟩], s', S', C', HR.out, hWs5, hJ5, fun j hj => by
          rcases hC' j hj with h | h
          · have h1 := HC1.out j h
            exact ⟨h1.1, by have := Hz4.out; omega, fun h2 => hSd j h2 h⟩
          · have := Hz4.out
            have := HB4.out.size
            exact ⟨by omega, h.2, fun h2 => by have := (HWb.out j h2).2; omega⟩, by simp; omega⟩, hB5⟩)
        clear hK5 hC' hJ5 hWs5 hB5 hR hSd
        gi_wp2
        gi_roundg (T.length - (L.length + 1))
        case measure => omega
        case rel => exact HI5.out
      · have HJ5 := Lib.hid hJ5
        clear hJ5 hK5 hC' hR
        gi_wp2
        refine bodyPost_ret (results_none rfl _ _ _) rfl ?_
        exact ⟨⟨_, rfl⟩, .inr ⟨_, C', ⟨s', HR.out⟩, HJ5.out⟩⟩
set_option maxHeartbeats 1000000 in
theorem check_nil (r : Int) (w : World) : Calls Tryz.prog 34 #[.pointer none, .int .i64 r] w fun e w' => e = .returned (.int .i64 1) ∧ Below w.heap.size w w' := by
  go_enter Tryz.func34, Tryz.ntmps34
  go_wp2
  go_ret
  exact ⟨rfl, Below.refl _ _⟩
end Go.Proofs.YtpnkhgjjlionnaaGreat
namespace Go.Proofs.YtpnkhgjjlionnaaGreat
open Go.RowKit

theorem countP_lt {p q : Nat → Bool} : ∀ {l : List Nat}, (∀ j, q j = true → p j = true) → ∀ i, i ∈ l → p i = true → q i = false → l.countP q < l.countP p
  | [], _, _, h, _, _ => (List.not_mem_nil h).elim
  | x :: l, hs, i, h, h1, h2 => by
    have hle : l.countP q ≤ l.countP p := List.countP_mono_left (fun j _ hj => hs j hj)
    rcases List.mem_cons.1 h with rfl | h
    · rw [List.countP_cons_of_neg (by rw [h2]; decide), List.countP_cons_of_pos h1]
      omega
    · have ih := countP_lt hs i h h1 h2
      rw [List.countP_cons, List.countP_cons]
      have : (if q x = true then 1 else 0) ≤ (if p x = true then 1 else 0) := by
        by_cases hq : q x = true
        · rw [if_pos hq, if_pos (hs x hq)]
          exact Nat.le_refl _
        · rw [if_neg hq]
          exact Nat.zero_le _
      omega
theorem all_listed {md : Region.Mode} {ops : Array Oper} {listed : Array Bool} (hord : ∀ (i : Nat) (o : Oper), ops[i]? = some o → ∀ e ∈ o.after, e.on < i) (hs : listed.size = ops.size) (hr : Region.ready md ops listed = []) : ∀ i, i < ops.size → listed.getD i false = true := by
  intro i
  induction i using Nat.strongRecOn with
  | _ i ih =>
    intro hi
    by_cases hl : listed.getD i true = false
    · have ho : ops[i]? = some ops[i] := Array.getElem?_eq_getElem hi
      have : i ∈ Region.ready md ops listed := mem_ready.2 ⟨hl, _, ho, fun e he _ => ih e.on (hord i _ ho e he) (by have := hord i _ ho e he; omega)⟩
      rw [hr] at this
      exact (List.not_mem_nil this).elim
    · have hi' : i < listed.size := by omega
      rw [Array.getD_eq_getD_getElem?, Array.getElem?_eq_getElem hi'] at hl ⊢
      simpa using hl
/-- The law. -/
theorem wpAnyIn_state {F : Fence} {n : Nat} {P : Program} {md : Region.Mode} {ops : Array Oper} {Q : Exit → Act → World → Prop} {I : Array Bool → Act → World → Prop} (hord : ∀ (i : Nat) (o : Oper), ops[i]? = some o → ∀ e ∈ o.after, e.on < i)
    (step : ∀ (i : Nat) (o : Oper) (listed : Array Bool) (a : Act) (w : World), ops[i]? = some o → listed.size = ops.size → listed.getD i true = false → (∀ e ∈ o.after, Region.binds md e = true → listed.getD e.on false = true) → I listed a w →
      ∀ K : Act → World → Prop, (∀ a' w', I (listed.setIfInBounds i true) a' w' → K a' w') → if Region.wanted o (yielded ops a.tmps) = true then o.wpIn F n P a w K Q else ((∀ f, o.about P w a.eval = some f → F.fn f) ∧ K (a.put o.dst undef) w))
    (done : ∀ (listed : Array Bool) (a : Act) (w : World), (∀ i, i < ops.size → listed.getD i false = true) → I listed a w → Q .normal a w) :
    ∀ (fuel : Nat) (listed : Array Bool) (a : Act) (w : World), listed.size = ops.size → (List.range ops.size).countP (fun i => !listed.getD i true) ≤ fuel → I listed a w → wpAnyIn F n P md ops Q fuel listed a w
  | 0, listed, a, w, hs, hc, hI => by
    have hr : Region.ready md ops listed = [] := by
      apply List.eq_nil_iff_forall_not_mem.2
      intro i hi
      obtain ⟨h1, o, ho, -⟩ := mem_ready.1 hi
      have hi' : i < ops.size := (Array.getElem?_eq_some_iff.1 ho).1
      have := List.countP_pos_iff (p := fun i => !listed.getD i true).2 ⟨i, List.mem_range.2 hi', by simp only [h1]; rfl⟩
      omega
    exact ⟨hr, done _ _ _ (all_listed hord hs hr) hI⟩
  | fuel + 1, listed, a, w, hs, hc, hI => by
    refine ⟨fun hr => done _ _ _ (all_listed hord hs hr) hI, fun i hi => ?_⟩
    obtain ⟨h1, o, ho, hd⟩ := mem_ready.1 hi
    have hi' : i < ops.size := (Array.getElem?_eq_some_iff.1 ho).1
    have hs' : (listed.setIfInBounds i true).size = ops.size := by rw [Array.size_setIfInBounds]; exact hs
    have hlt : (List.range ops.size).countP (fun j => !(listed.setIfInBounds i true).getD j true) < (List.range ops.size).countP (fun j => !listed.getD j true) :=
      countP_lt (fun j hj => by
        by_cases hij : i = j
        · subst hij
          simp [Array.getD_eq_getD_getElem?, hs, hi'] at hj
        · rw [getD_set_ne true hij] at hj
          exact hj) i (List.mem_range.2 hi') (by rw [h1]; rfl) (by simp [Array.getD_eq_getD_getElem?, hs, hi'])
    unfold wpOpIn
    rw [ho]
    exact step i o listed a w ho hs h1 hd hI _ (fun a' w' h => wpAnyIn_state hord step done fuel _ a' w' hs' (by omega) h)
theorem wpIn_region_state {F : Fence} {n : Nat} {P : Program} {id : Nat} {ops : Array Oper} {Q : Exit → Act → World → Prop} {a : Act} {w : World} (hm : P.follows .mixedOrders = true) (I : Array Bool → Act → World → Prop) (hord : ∀ (i : Nat) (o : Oper), ops[i]? = some o → ∀ e ∈ o.after, e.on < i)
    (h0 : I (Array.replicate ops.size false) a w.drew)
    (step : ∀ (i : Nat) (o : Oper) (listed : Array Bool) (a : Act) (w : World), ops[i]? = some o → listed.size = ops.size → listed.getD i true = false → (∀ e ∈ o.after, Region.binds .any e = true → listed.getD e.on false = true) → I listed a w →
      ∀ K : Act → World → Prop, (∀ a' w', I (listed.setIfInBounds i true) a' w' → K a' w') → if Region.wanted o (yielded ops a.tmps) = true then o.wpIn F n P a w K Q else ((∀ f, o.about P w a.eval = some f → F.fn f) ∧ K (a.put o.dst undef) w))
    (done : ∀ (listed : Array Bool) (a : Act) (w : World), (∀ i, i < ops.size → listed.getD i false = true) → I listed a w → Q .normal a w) : (Code.region id ops true).wpIn F n P Q a w := by
  refine wpIn_region_any hm (wpAnyIn_state hord step done ops.size _ _ _ (by simp) ?_ h0)
  have := List.countP_le_length (p := fun i => !(Array.replicate ops.size false).getD i true) (l := List.range ops.size)
  rwa [List.length_range] at this
end Go.Proofs.YtpnkhgjjlionnaaGreat
namespace Go.Proofs.YtpnkhgjjlionnaaGreat
open Go.RowKit

theorem operIn_append_lies {F : Fence} {n : Nat} {P : Program} {w : World} {o : Oper} {a : Act} {K : Act → World → Prop} {Q : Exit → Act → World → Prop} (s x : Operand) (t : TypeId)
    (hop : o.op = .call { callee := .builtin .append, args := #[s, x], argTypes := #[t, t] })
    (base : Nat) (e : TypeId) (i : TypeInfo) (z : Value) (size bytes : Nat) (ht : P.underlying t = some (.slice e)) (hi : P.info? e = some i) (hz : i.zero = some z)
    (hsize : i.size = size) (hby : i.bytes = bytes) (hzs : z.cells.size = size) (hsz : 0 < size)
    (v : Value) (k : Nat) (xs : List Value) (hs : a.eval s = v) (hown : w.ownsRow base e size v k xs)
    (ad : Addr) (m c : Nat) (news : List Value) (hx : a.eval x = .slice (some ad) m c) (hl : news.length = m * size) (hnews : ∀ j u, news[j]? = some u → w.cell? (ad.add j) = some u) (h1 : ∀ u ∈ news, u.oneCell' = true)
    (hm : 0 < m) (h63 : k + m ≤ maxLen) (hbytes : (k + m) * bytes ≤ 140737488355328) (hbase : base ≤ w.heap.size)
    (h : ∀ g cap w', w'.ownsRow base e size (.slice (some ⟨g, 0, none⟩) (k + m) cap) (k + m) (xs ++ news) → w.grownBy w' v.ownBlock → (v.ownBlock = some g ∨ g = w.heap.size) → g < w'.heap.size → K (a.put o.dst (.slice (some ⟨g, 0, none⟩) (k + m) cap)) w') :
    o.wpIn F n P a w K Q := by
  obtain ⟨g, cap, w', hrun, r1, r2, r3, r4⟩ := run_append_lies (P := P) (w := w) t o.type base e i z size bytes ht hi hz hsize hby hzs hsz v k xs hown ad m c news hl hnews h1 hm h63 hbytes hbase _ rfl
  unfold Oper.wpIn
  refine ⟨?_, ?_⟩
  · simp [Oper.about, hop, resolve, Target.leads, Sem.run_pure]
  · rw [Oper.semAt_plain F _ _ (by rw [hop]; intro c hc'; cases hc')]
    simp [execOp, hop, resolve, invoke, builtin, hs, hx, hrun, Result.andThen]
    exact h g cap w' r1 r2 r3 r4
theorem wpListIn_append_lies {F : Fence} {n : Nat} {P : Program} {w : World} {ops : Array Oper} {rest : List Oper} {o : Oper} {a : Act} {Q : Exit → Act → World → Prop} (hg : o.guard = none) (s x : Operand) (t : TypeId)
    (hop : o.op = .call { callee := .builtin .append, args := #[s, x], argTypes := #[t, t] })
    (base : Nat) (e : TypeId) (i : TypeInfo) (z : Value) (size bytes : Nat) (ht : P.underlying t = some (.slice e)) (hi : P.info? e = some i) (hz : i.zero = some z)
    (hsize : i.size = size) (hby : i.bytes = bytes) (hzs : z.cells.size = size) (hsz : 0 < size)
    (v : Value) (k : Nat) (xs : List Value) (hs : a.eval s = v) (hown : w.ownsRow base e size v k xs)
    (ad : Addr) (m c : Nat) (news : List Value) (hx : a.eval x = .slice (some ad) m c) (hl : news.length = m * size) (hnews : ∀ j u, news[j]? = some u → w.cell? (ad.add j) = some u) (h1 : ∀ u ∈ news, u.oneCell' = true)
    (hm : 0 < m) (h63 : k + m ≤ maxLen) (hbytes : (k + m) * bytes ≤ 140737488355328) (hbase : base ≤ w.heap.size)
    (h : ∀ g cap w', w'.ownsRow base e size (.slice (some ⟨g, 0, none⟩) (k + m) cap) (k + m) (xs ++ news) → w.grownBy w' v.ownBlock → (v.ownBlock = some g ∨ g = w.heap.size) → g < w'.heap.size → wpListIn F n P ops Q rest (a.put o.dst (.slice (some ⟨g, 0, none⟩) (k + m) cap)) w') :
    wpListIn F n P ops Q (o :: rest) a w :=
  wpListIn_plain hg fun _K hK' => operIn_append_lies s x t hop base e i z size bytes ht hi hz hsize hby hzs hsz v k xs hs hown ad m c news hx hl hnews h1 hm h63 hbytes hbase (fun g cap w' r1 r2 r3 r4 => hK' _ _ (h g cap w' r1 r2 r3 r4))

/-- What walk.Walk keeps while it ranges over the steps. -/
structure WkS (w : World) (base q bw g : Nat) (lV lC lB : List Value) (vV vC vB : Value) (W : World) : Prop where
  t : Blk W w.heap.size 26 #[.pointer (some ⟨g, 0, none⟩)]
  r : Blk W (w.heap.size + 1) 39 #[.string ByteArray.empty, .slice none 0 0, .slice none 0 0]
  tr : Blk W q 39 #[.string ByteArray.empty, vV, vC]
  bx : Blk W bw 25 #[vB]
  rV : W.ownsRow base 3 1 vV lV.length lV
  rC : W.ownsRow base 3 1 vC lC.length lC
  rB : W.ownsRow base 5 1 vB lB.length lB
  ne : vV.ownBlock ≠ vC.ownBlock
  below : Below w.heap.size w W
  hq : base ≤ q
  hbw : base ≤ bw
  hw : w.heap.size + 1 < base
/-- Its blocks. -/
def OwnW (w : World) (q bw : Nat) (vV vC vB : Value) (k : Nat) : Prop := k = w.heap.size ∨ k = w.heap.size + 1 ∨ k = q ∨ k = bw ∨ vV.ownBlock = some k ∨ vC.ownBlock = some k ∨ vB.ownBlock = some k
section
variable {w W W' : World} {base q bw g : Nat} {lV lC lB : List Value} {vV vC vB v' : Value}
theorem WkS.rng (h : WkS w base q bw g lV lC lB vV vC vB W) {k : Nat} (hk : OwnW w q bw vV vC vB k) : w.heap.size ≤ k ∧ k < W.heap.size := by
  have := h.hw
  have := h.hq
  have := h.hbw
  rcases hk with rfl | rfl | rfl | rfl | e | e | e
  · exact ⟨Nat.le_refl _, h.t.lt⟩
  · exact ⟨by omega, h.r.lt⟩
  · exact ⟨by omega, h.tr.lt⟩
  · exact ⟨by omega, h.bx.lt⟩
  · have := h.rV.lt k e; omega
  · have := h.rC.lt k e; omega
  · have := h.rB.lt k e; omega
theorem WkS.same (h : WkS w base q bw g lV lC lB vV vC vB W) (hb : Below w.heap.size W W') (hs : ∀ k, OwnW w q bw vV vC vB k → W'.heap[k]? = W.heap[k]?) : WkS w base q bw g lV lC lB vV vC vB W' :=
  ⟨blk_same h.t (hs _ (.inl rfl)), blk_same h.r (hs _ (.inr (.inl rfl))), blk_same h.tr (hs _ (.inr (.inr (.inl rfl)))), blk_same h.bx (hs _ (.inr (.inr (.inr (.inl rfl))))),
    own_same h.rV (fun k e => hs k (.inr (.inr (.inr (.inr (.inl e)))))), own_same h.rC (fun k e => hs k (.inr (.inr (.inr (.inr (.inr (.inl e))))))), own_same h.rB (fun k e => hs k (.inr (.inr (.inr (.inr (.inr (.inr e))))))), h.ne, h.below.trans hb, h.hq, h.hbw, h.hw⟩
theorem WkS.alloc (h : WkS w base q bw g lV lC lB vV vC vB W) (o : Obj) : WkS w base q bw g lV lC lB vV vC vB (W.alloc o) :=
  h.same ((Below.refl _ _).alloc h.below.size _) (fun _k hk => Below.heap_alloc _ _ _ (h.rng hk).2)
theorem WkS.drew (h : WkS w base q bw g lV lC lB vV vC vB W) : WkS w base q bw g lV lC lB vV vC vB W.drew := h.same (Below.refl _ _).drew (fun _ _ => rfl)
theorem WkS.bs (h : WkS w base q bw g lV lC lB vV vC vB W) : base ≤ W.heap.size := Nat.le_trans h.hq (Nat.le_of_lt h.tr.lt)
theorem own_blk_far {p : Nat} {t : TypeId} {cs : Array Value} {e : TypeId} {s k : Nat} {v u : Value} {xs : List Value} {b j : Nat} (h : W.ownsRow b e s v k xs) (hb : Blk W p t cs) (hne : e ≠ t) : (W.setCell ⟨p, j, none⟩ u).ownsRow b e s v k xs := own_alloc_st h hb hne
/-- The word is longer by a letter. -/
theorem WkS.appB (h : WkS w base q bw g lV lC lB vV vC vB W) {u : Value} {g' cap : Nat} {k : Nat} (hg : W.grownBy W' vB.ownBlock) (hr : W'.ownsRow base 5 1 (.slice (some ⟨g', 0, none⟩) k cap) k (lB ++ [u])) (hk : k = lB.length + 1) (hat : vB.ownBlock = some g' ∨ g' = W.heap.size) :
    WkS w base q bw g lV lC (lB ++ [u]) vV vC (.slice (some ⟨g', 0, none⟩) k cap) (W'.setCell ⟨bw, 0, none⟩ (.slice (some ⟨g', 0, none⟩) k cap)) ∧ Kept (OwnW w q bw vV vC vB) W (W'.setCell ⟨bw, 0, none⟩ (.slice (some ⟨g', 0, none⟩) k cap)) ∧
      Anew (OwnW w q bw vV vC vB) (OwnW w q bw vV vC (.slice (some ⟨g', 0, none⟩) k cap)) W (W'.setCell ⟨bw, 0, none⟩ (.slice (some ⟨g', 0, none⟩) k cap)) := by
  subst hk
  have nB : ∀ {p : Nat} {t : TypeId} {cs : Array Value}, Blk W p t cs → t ≠ 5 → some p ≠ vB.ownBlock := fun hb hne e => own_blk_ne h.rB hb (Ne.symm hne) e.symm
  have hx := h.bx.grown hg (nB h.bx (by decide))
  have hh := h.hw
  have hbw := h.hbw
  refine ⟨⟨(h.t.grown hg (nB h.t (by decide))).far (by simp only; omega) _, (h.r.grown hg (nB h.r (by decide))).far (by simp only; omega) _, ?_, hx.set1 _, own_blk_far (h.rV.kept hg (own_own_ne h.rV h.rB (by decide))) hx (by decide), own_blk_far (h.rC.kept hg (own_own_ne h.rC h.rB (by decide))) hx (by decide),
    by rw [List.length_append]; exact own_blk_far hr hx (by decide), h.ne, ?_, h.hq, h.hbw, h.hw⟩, ?_, ?_⟩
  · exact (h.tr.grown hg (nB h.tr (by decide))).far (fun e => Blk.ne_ h.bx h.tr (by decide) e.symm) _
  · exact (h.below.grown hg h.below.size (fun j e => by have := h.rB.lt j e; omega)).setCell (p := ⟨bw, 0, none⟩) (by simp only; omega) _
  · exact ((Kept.refl _ _).grown hg (fun j e => .inl (.inr (.inr (.inr (.inr (.inr (.inr e)))))))).setCell (p := ⟨bw, 0, none⟩) (.inl (.inr (.inr (.inr (.inl rfl))))) _
  · intro k hk
    rcases hk with e | e | e | e | e | e | e
    · exact .inl (.inl e)
    · exact .inl (.inr (.inl e))
    · exact .inl (.inr (.inr (.inl e)))
    · exact .inl (.inr (.inr (.inr (.inl e))))
    · exact .inl (.inr (.inr (.inr (.inr (.inl e)))))
    · exact .inl (.inr (.inr (.inr (.inr (.inr (.inl e))))))
    · have e' : g' = k := Option.some.inj e
      rcases hat with hat | hat
      · exact .inl (.inr (.inr (.inr (.inr (.inr (.inr (by rw [hat, e'])))))))
      · have := (own_blk_far (j := 0) (u := .slice (some ⟨g', 0, none⟩) (lB.length + 1) cap) hr hx (by decide)).lt g' rfl
        exact .inr (by omega)
/-- The row of corners is longer by one. -/
theorem WkS.appC (h : WkS w base q bw g lV lC lB vV vC vB W) {u : Value} {g' cap : Nat} {k : Nat} (hg : W.grownBy W' vC.ownBlock) (hr : W'.ownsRow base 3 1 (.slice (some ⟨g', 0, none⟩) k cap) k (lC ++ [u])) (hk : k = lC.length + 1) (hat : vC.ownBlock = some g' ∨ g' = W.heap.size) :
    WkS w base q bw g lV (lC ++ [u]) lB vV (.slice (some ⟨g', 0, none⟩) k cap) vB (W'.setCell ⟨q, 2, none⟩ (.slice (some ⟨g', 0, none⟩) k cap)) ∧ Kept (OwnW w q bw vV vC vB) W (W'.setCell ⟨q, 2, none⟩ (.slice (some ⟨g', 0, none⟩) k cap)) ∧
      Anew (OwnW w q bw vV vC vB) (OwnW w q bw vV (.slice (some ⟨g', 0, none⟩) k cap) vB) W (W'.setCell ⟨q, 2, none⟩ (.slice (some ⟨g', 0, none⟩) k cap)) := by
  subst hk
  have nB : ∀ {p : Nat} {t : TypeId} {cs : Array Value}, Blk W p t cs → t ≠ 3 → some p ≠ vC.ownBlock := fun hb hne e => own_blk_ne h.rC hb (Ne.symm hne) e.symm
  have hx := h.tr.grown hg (nB h.tr (by decide))
  have hh := h.hw
  have hq := h.hq
  refine ⟨⟨(h.t.grown hg (nB h.t (by decide))).far (by simp only; omega) _, (h.r.grown hg (nB h.r (by decide))).far (by simp only; omega) _, by simpa using hx.set_ 2 (.slice (some ⟨g', 0, none⟩) (lC.length + 1) cap), (h.bx.grown hg (nB h.bx (by decide))).far (fun e => Blk.ne_ h.bx h.tr (by decide) e) _, own_blk_far (h.rV.kept hg (.inr h.ne)) hx (by decide),
    by rw [List.length_append]; exact own_blk_far hr hx (by decide), own_blk_far (h.rB.kept hg (own_own_ne h.rB h.rC (by decide))) hx (by decide), ?_, ?_, h.hq, h.hbw, h.hw⟩, ?_, ?_⟩
  · intro e
    rcases hat with hat | hat
    · exact h.ne (by rw [e, hat]; rfl)
    · have := (h.rV.lt g' (by rw [e]; rfl)).2
      omega
  · exact (h.below.grown hg h.below.size (fun j e => by have := h.rC.lt j e; omega)).setCell (p := ⟨q, 2, none⟩) (by simp only; omega) _
  · exact ((Kept.refl _ _).grown hg (fun j e => .inl (.inr (.inr (.inr (.inr (.inr (.inl e)))))))).setCell (p := ⟨q, 2, none⟩) (.inl (.inr (.inr (.inl rfl)))) _
  · intro k hk
    rcases hk with e | e | e | e | e | e | e
    · exact .inl (.inl e)
    · exact .inl (.inr (.inl e))
    · exact .inl (.inr (.inr (.inl e)))
    · exact .inl (.inr (.inr (.inr (.inl e))))
    · exact .inl (.inr (.inr (.inr (.inr (.inl e)))))
    · have e' : g' = k := Option.some.inj e
      rcases hat with hat | hat
      · exact .inl (.inr (.inr (.inr (.inr (.inr (.inl (by rw [hat, e'])))))))
      · have := (own_blk_far (j := 2) (u := .slice (some ⟨g', 0, none⟩) (lC.length + 1) cap) hr hx (by decide)).lt g' rfl
        exact .inr (by omega)
    · exact .inl (.inr (.inr (.inr (.inr (.inr (.inr e))))))
/-- The row of vertices is longer by one. -/
theorem WkS.appV (h : WkS w base q bw g lV lC lB vV vC vB W) {u : Value} {g' cap : Nat} {k : Nat} (hg : W.grownBy W' vV.ownBlock) (hr : W'.ownsRow base 3 1 (.slice (some ⟨g', 0, none⟩) k cap) k (lV ++ [u])) (hk : k = lV.length + 1) (hat : vV.ownBlock = some g' ∨ g' = W.heap.size) :
    WkS w base q bw g (lV ++ [u]) lC lB (.slice (some ⟨g', 0, none⟩) k cap) vC vB (W'.setCell ⟨q, 1, none⟩ (.slice (some ⟨g', 0, none⟩) k cap)) ∧ Kept (OwnW w q bw vV vC vB) W (W'.setCell ⟨q, 1, none⟩ (.slice (some ⟨g', 0, none⟩) k cap)) ∧
      Anew (OwnW w q bw vV vC vB) (OwnW w q bw (.slice (some ⟨g', 0, none⟩) k cap) vC vB) W (W'.setCell ⟨q, 1, none⟩ (.slice (some ⟨g', 0, none⟩) k cap)) := by
  subst hk
  have nB : ∀ {p : Nat} {t : TypeId} {cs : Array Value}, Blk W p t cs → t ≠ 3 → some p ≠ vV.ownBlock := fun hb hne e => own_blk_ne h.rV hb (Ne.symm hne) e.symm
  have hx := h.tr.grown hg (nB h.tr (by decide))
  have hh := h.hw
  have hq := h.hq
  refine ⟨⟨(h.t.grown hg (nB h.t (by decide))).far (by simp only; omega) _, (h.r.grown hg (nB h.r (by decide))).far (by simp only; omega) _, by simpa using hx.set_ 1 (.slice (some ⟨g', 0, none⟩) (lV.length + 1) cap), (h.bx.grown hg (nB h.bx (by decide))).far (fun e => Blk.ne_ h.bx h.tr (by decide) e) _,
    by rw [List.length_append]; exact own_blk_far hr hx (by decide), own_blk_far (h.rC.kept hg (.inr (Ne.symm h.ne))) hx (by decide), own_blk_far (h.rB.kept hg (own_own_ne h.rB h.rV (by decide))) hx (by decide), ?_, ?_, h.hq, h.hbw, h.hw⟩, ?_, ?_⟩
  · intro e
    rcases hat with hat | hat
    · exact h.ne (by rw [← e, hat]; rfl)
    · have := (h.rC.lt g' (by rw [← e]; rfl)).2
      omega
  · exact (h.below.grown hg h.below.size (fun j e => by have := h.rV.lt j e; omega)).setCell (p := ⟨q, 1, none⟩) (by simp only; omega) _
  · exact ((Kept.refl _ _).grown hg (fun j e => .inl (.inr (.inr (.inr (.inr (.inl e))))))).setCell (p := ⟨q, 1, none⟩) (.inl (.inr (.inr (.inl rfl)))) _
  · intro k hk
    rcases hk with e | e | e | e | e | e | e
    · exact .inl (.inl e)
    · exact .inl (.inr (.inl e))
    · exact .inl (.inr (.inr (.inl e)))
    · exact .inl (.inr (.inr (.inr (.inl e))))
    · have e' : g' = k := Option.some.inj e
      rcases hat with hat | hat
      · exact .inl (.inr (.inr (.inr (.inr (.inl (by rw [hat, e']))))))
      · have := (own_blk_far (j := 1) (u := .slice (some ⟨g', 0, none⟩) (lV.length + 1) cap) hr hx (by decide)).lt g' rfl
        exact .inr (by omega)
    · exact .inl (.inr (.inr (.inr (.inr (.inr (.inl e))))))
    · exact .inl (.inr (.inr (.inr (.inr (.inr (.inr e))))))
theorem Anew.trans {A B C : Nat → Prop} {w1 w2 w3 : World} (h : Anew A B w1 w2) (k : Anew B C w2 w3) (h1 : w1.heap.size ≤ w2.heap.size) (h2 : w2.heap.size ≤ w3.heap.size) : Anew A C w1 w3 := fun j hj => by
  rcases k j hj with e | e
  · rcases h j e with e | e
    · exact .inl e
    · exact .inr (by omega)
  · exact .inr (by omega)
theorem Kept.then {A B : Nat → Prop} {w1 w2 w3 : World} (h : Kept A w1 w2) (k : Kept B w2 w3) (hn : Anew A B w1 w2) : Kept A w1 w3 := h.frown k (fun j hj => (hn j hj).imp id (fun e => e.1))
end
end Go.Proofs.YtpnkhgjjlionnaaGreat
namespace Go.Proofs.YtpnkhgjjlionnaaGreat
open Go.RowKit Go.Maps Go.Shelf
attribute [local go_sem] Oper.semAt_some

/-- The letters, as a text. -/
def wordS (L : List WStep) : ByteArray := ⟨(L.map fun x => UInt8.ofNat x.letter.toNat).toArray⟩
/-- What a walk answers. -/
def WalkPost (w : World) (T : List Tr) (c : Nat) (e : Ending) (w' : World) : Prop :=
  ∃ vV vC, e = .returned (.tuple #[.agg #[.string (wordS (stepsM T c)), vV, vC], .int .i64 0]) ∧ w'.ownsRow w.heap.size 3 1 vV ((beginS T c).come ++ newV T (stepsM T c)).length (intsV ((beginS T c).come ++ newV T (stepsM T c))) ∧
    w'.ownsRow w.heap.size 3 1 vC (stepsM T c).length.succ (intsV ((c : Int) :: (stepsM T c).map (·.corner))) ∧ Below w.heap.size w w'
theorem infoU8W : (Tryz.prog.info? 5).map (fun i => (i.zero, i.size, i.bytes)) = some (some (.int .u8 0), 1, 1) := by kernel_rfl
theorem intsV_snoc (l : List Int) (x : Int) : intsV (l ++ [x]) = intsV l ++ [.int .i64 x] := by simp [intsV]
/-- What holds behind the steps so far. -/
def WkI (w : World) (base q bw g c : Nat) (T : List Tr) (L : List WStep) (C : Nat → Prop) (W : World) : Prop :=
  ∃ vV vC vB, (∀ k, C k ↔ OwnW w q bw vV vC vB k) ∧ WkS w base q bw g (intsV ((beginS T c).come ++ newV T L)) (intsV ((c : Int) :: L.map (·.corner))) (L.map fun x => Value.int .u8 x.letter) vV vC vB W
theorem wkI_stable {w : World} {base q bw g c : Nat} {T : List Tr} : Stable w.heap.size (WkI w base q bw g c T) := by
  rintro L C A B ⟨vV, vC, vB, hC, h⟩ hb hs
  exact ⟨vV, vC, vB, hC, h.same hb (fun k hk => hs k ((hC k).2 hk))⟩
theorem Anew.of_alloc {A B : Nat → Prop} {W W' : World} {o : Obj} (h : Anew A B (W.alloc o) W') : Anew A B W W' := fun j hj => (h j hj).imp id (fun e => ⟨by have := e.1; simp at this; omega, e.2⟩)
theorem stepsM_facts {n c : Nat} {T : List Tr} (h : Simp n T) (hc : c < 3 * T.length) : 0 < (stepsM T c).length ∧ ∀ x ∈ stepsM T c, 0 ≤ x.letter ∧ x.letter < 256 := by
  obtain ⟨L, s, R, e⟩ := ends h hc
  have hL := R.steps h hc e
  obtain ⟨Xs, G⟩ := R.gone h hc
  have h1 := (G.lt h).2.1 e
  have h2 := h.euler
  have h3 := h.pos
  rw [← hL]
  refine ⟨by omega, fun x hx => ?_⟩
  obtain ⟨d, _, _, _, _, _, h4⟩ := G.each x hx
  omega
theorem word_conv {P : Program} {W : World} {src dst e : TypeId} {base : Nat} {v : Value} {L : List WStep} (hs : P.underlying src = some (.slice e)) (he : P.underlying e = some (.int .u8)) (hd : P.underlying dst = some .string)
    (hr : W.ownsRow base e 1 v (L.map fun x => Value.int .u8 x.letter).length (L.map fun x => Value.int .u8 x.letter)) (hl : 0 < L.length) (hb : ∀ x ∈ L, 0 ≤ x.letter ∧ x.letter < 256) :
    (convert src dst v).run P W = .ok (.string (wordS L)) W := by
  rw [List.length_map] at hr
  obtain ⟨g, cap, rfl, -, -⟩ := hr.form hl
  have := run_convert_bytes_back (P := P) W src dst e ⟨g, 0, none⟩ cap (L.map fun x => UInt8.ofNat x.letter.toNat) hs he hd (fun j hj => by
    have hj' : j < L.length := by simpa using hj
    rw [Addr.add_lit]
    show W.cell? ⟨g, 0 + j, none⟩ = _
    rw [Nat.zero_add, hr.cellAt j (by omega)]
    obtain ⟨h1, h2⟩ := hb L[j] (List.getElem_mem hj')
    have h3 : ((UInt8.ofNat (L[j]).letter.toNat).toNat : Int) = (L[j]).letter := by
      rw [UInt8.toNat_ofNat']
      omega
    rw [List.getElem_map, h3, List.getElem?_map, List.getElem?_eq_getElem hj']
    rfl)
  rw [List.length_map] at this
  exact this
theorem own_three {w : World} {base q : Nat} {a b c : Int} (h : Blk w q 3 #[.int .i64 a, .int .i64 b, .int .i64 c]) (hb : base ≤ q) : w.ownsRow base 3 1 (.slice (some ⟨q, 0, none⟩) 3 3) 3 [.int .i64 a, .int .i64 b, .int .i64 c] :=
  ⟨rfl, .inr ⟨q, 3, _, rfl, hb, h, Nat.le_refl _, by decide, rfl, rfl⟩⟩
set_option maxRecDepth 100000 in
set_option maxHeartbeats 4000000 in
theorem walk_any {w : World} {g n c : Nat} {T : List Tr} (hs : Simp n T) (hT : Tab w g n T) (hc : c < 3 * T.length) :
    Calls Tryz.prog 13 #[.pointer (some ⟨g, 0, none⟩), .int .i64 c] w (WalkPost w T c) := by
  have hTl := hT.len
  have hn : n ≤ 4096 := by have := hs.surf.n1; omega
  have hnx := Jor.nx_lt hc
  have hpv := Jor.pv_lt hc
  have hB0 : Below w.heap.size w ((w.alloc (.cells #[.pointer (some ⟨g, 0, none⟩)] 26)).alloc (.cells #[.string ByteArray.empty, .slice none 0 0, .slice none 0 0] 39)) := ((Below.refl _ _).alloc (Nat.le_refl _) _).alloc (by simp) _
  have bt := (Blk.new w 26 #[.pointer (some ⟨g, 0, none⟩)]).alloc (.cells #[.string ByteArray.empty, .slice none 0 0, .slice none 0 0] 39)
  have br : Blk ((w.alloc (.cells #[.pointer (some ⟨g, 0, none⟩)] 26)).alloc (.cells #[.string ByteArray.empty, .slice none 0 0, .slice none 0 0] 39)) (w.heap.size + 1) 39 #[.string ByteArray.empty, .slice none 0 0, .slice none 0 0] := blk_new_at (by simp)
  have HCk := Lib.hid (fun (W : World) (hW : Below w.heap.size w W) => (show Calls Tryz.prog 34 #[.pointer (some ⟨g, 0, none⟩), .int .i64 (c : Int)] W fun e w' => e = .returned (.int .i64 0) ∧ Below W.heap.size W w' from by
    have := check_walk g n T W (c : Int) (hT.below hW) hs.surf (by omega) (fun W' hW' => loopsPost_closed ((hT.below hW).below hW') hs.closed hn)
    rwa [if_neg (by omega), if_pos ((chk_simp hs.surf).2 hs)] at this))
  have HV := Lib.hid (fun (W : World) (d : Nat) (hd : d < 3 * T.length) (hW : Below w.heap.size w W) => (show Calls Tryz.prog 22 #[.pointer (some ⟨g, 0, none⟩), .int .i64 (d : Int)] W fun e w' => e = .returned (.int .i64 (vertN T d)) ∧ W = w' from by
    have := vertex_any g n (d : Int) T W (hT.below hW).toTabS
    rw [vertI_nat hd] at this
    exact this))
  have HN := Lib.hid (fun (W : World) (hW : Below w.heap.size w W) => (show Calls Tryz.prog 23 #[.pointer (some ⟨g, 0, none⟩), .int .i64 (c : Int)] W fun e w' => e = .returned (.int .i64 ((Jor.nx c : Nat) : Int)) ∧ W = w' from by
    have := next_any g n (c : Int) T W (hT.below hW).toTabS
    unfold nextI at this
    rw [hasC_true (by omega) (by omega), if_pos rfl, Int.toNat_natCast] at this
    exact this))
  have HP := Lib.hid (fun (W : World) (hW : Below w.heap.size w W) => (show Calls Tryz.prog 24 #[.pointer (some ⟨g, 0, none⟩), .int .i64 (c : Int)] W fun e w' => e = .returned (.int .i64 ((Jor.pv c : Nat) : Int)) ∧ W = w' from by
    have := prev_any g n (c : Int) T W (hT.below hW).toTabS
    unfold prevI at this
    rw [hasC_true (by omega) (by omega), if_pos rfl, Int.toNat_natCast] at this
    exact this))
  have HT := Lib.hid (fun (W : World) (hW : Below w.heap.size w W) => hT.below hW)
  have HS := Lib.hid hs
  have HB0 := Lib.hid hB0
  have HBt := Lib.hid bt
  have HBr := Lib.hid br
  clear hB0 bt br hs hT
  refine (callsIn_wide (n := 9)).1 ?_
  refine callsIn_of_wp_marks Tryz.func13 rfl trivial ?_ rfl
  simp only [Tryz.ntmps13, List.size_toArray, List.length_cons, List.length_nil, Nat.reduceAdd, Nat.reduceSub, Array.replicate_succ, Array.replicate_zero, List.push_toArray, List.append_toArray, List.nil_append, List.cons_append]
  gi_hideQ
  gi_wp2_with fail
  refine ⟨trivial, (callsIn_wide.2 (HCk.out _ HB0.out)).mono ?_⟩
  rintro e w1 ⟨rfl, hb1⟩
  have HBt1 := Lib.hid (HBt.out.below hb1 HBt.out.lt)
  have HBr1 := Lib.hid (HBr.out.below hb1 HBr.out.lt)
  have HB1 := Lib.hid (HB0.out.trans (hb1.mono HB0.out.size))
  clear HB0 HBt HBr hb1
  obtain ⟨lt1, x1, fx1⟩ := HBt1.out.one
  have hz1 := HB1.out.size
  obtain ⟨va, hva⟩ : ∃ v, vertN T c = v := ⟨_, rfl⟩
  obtain ⟨vb, hvb⟩ : ∃ v, vertN T (Jor.nx c) = v := ⟨_, rfl⟩
  obtain ⟨vd, hvd⟩ : ∃ v, vertN T (Jor.pv c) = v := ⟨_, rfl⟩
  have HVa := Lib.hid (fun (W : World) (hW : Below w.heap.size w W) => HV.out W c hc hW)
  have HVb := Lib.hid (fun (W : World) (hW : Below w.heap.size w W) => HV.out W _ hnx hW)
  have HVd := Lib.hid (fun (W : World) (hW : Below w.heap.size w W) => HV.out W _ hpv hW)
  have hcome : (beginS T c).come = [va, vb, vd] := by unfold beginS; rw [hva, hvb, hvd]
  have HCm := Lib.hid hcome
  rw [hva] at HVa
  rw [hvb] at HVb
  rw [hvd] at HVd
  clear hva hvb hvd hcome
  obtain ⟨nb, hnb⟩ : ∃ k, Jor.nx c = k := ⟨_, rfl⟩
  obtain ⟨nd, hnd⟩ : ∃ k, Jor.pv c = k := ⟨_, rfl⟩
  rw [hnb] at HVb HN
  rw [hnd] at HVd HP
  clear hnb hnd hnx hpv
  gi_upto_region 4 with fail
  gi_cut [7] from 66 (fun v7 W => ∃ q vV vC, v7 = .pointer (some ⟨q, 0, none⟩) ∧ Below w1.heap.size w1 W ∧ w1.heap.size ≤ q ∧ Blk W q 39 #[.string ByteArray.empty, vV, vC] ∧ W.ownsRow w1.heap.size 3 1 vV 3 [.int .i64 va, .int .i64 vb, .int .i64 vd] ∧ W.ownsRow w1.heap.size 3 1 vC 1 [.int .i64 c] ∧ vV.ownBlock ≠ vC.ownBlock)
  case first =>
    refine wpIn_region_state (by kernel_rfl) (fun listed a W => ∃ u7 u17 u18 u19 u20 u21 u22 u23 u24 u25 u26 u27 u28 u29 u30 u31 u32 u33 : Value, a = { tmps := List.toArray (.pointer (some ⟨g, 0, none⟩) :: .int .i64 (c : Int) :: .pointer (some ⟨w.heap.size, 0, none⟩) :: undef :: .pointer (some ⟨w.heap.size + 1, 0, none⟩) :: .int .i64 0 :: .int .i64 0 :: u7 :: undef :: undef :: .pointer (some ⟨g, 0, none⟩) :: .int .i64 (c : Int) :: .int .i64 0 :: .int .i64 0 :: .bool false :: undef :: undef :: u17 :: u18 :: u19 :: u20 :: u21 :: u22 :: u23 :: u24 :: u25 :: u26 :: u27 :: u28 :: u29 :: u30 :: u31 :: u32 :: u33 :: undef :: undef :: undef :: undef :: undef :: undef :: undef :: undef :: undef :: undef :: undef :: undef :: undef :: undef :: undef :: undef :: undef :: undef :: undef :: undef :: undef :: undef :: undef :: undef :: undef :: undef :: undef :: undef :: undef :: undef :: undef :: undef :: []), defers := [] } ∧ Below w1.heap.size w1 W ∧ (listed.getD 0 false = true → u17 = .pointer (some ⟨g, 0, none⟩)) ∧ (listed.getD 1 false = true → u18 = .int .i64 (c : Int)) ∧ (listed.getD 2 false = true → u19 = .int .i64 va) ∧ (listed.getD 3 false = true → u20 = .pointer (some ⟨g, 0, none⟩)) ∧ (listed.getD 4 false = true → u21 = .pointer (some ⟨g, 0, none⟩)) ∧ (listed.getD 5 false = true → u22 = .int .i64 (c : Int)) ∧ (listed.getD 6 false = true → u23 = .int .i64 (nb : Int)) ∧ (listed.getD 7 false = true → u24 = .int .i64 vb) ∧ (listed.getD 8 false = true → u25 = .pointer (some ⟨g, 0, none⟩)) ∧ (listed.getD 9 false = true → u26 = .pointer (some ⟨g, 0, none⟩)) ∧ (listed.getD 10 false = true → u27 = .int .i64 (c : Int)) ∧ (listed.getD 11 false = true → u28 = .int .i64 (nd : Int)) ∧ (listed.getD 12 false = true → u29 = .int .i64 vd) ∧ (listed.getD 13 false = true → ∃ q, u30 = .slice (some ⟨q, 0, none⟩) 3 3 ∧ w1.heap.size ≤ q ∧ Blk W q 3 #[.int .i64 va, .int .i64 vb, .int .i64 vd]) ∧ (listed.getD 14 false = true → u31 = .int .i64 (c : Int)) ∧ (listed.getD 15 false = true → ∃ q, u32 = .slice (some ⟨q, 0, none⟩) 1 1 ∧ w1.heap.size ≤ q ∧ Blk W q 3 #[.int .i64 c]) ∧ (listed.getD 16 false = true → u33 = .agg #[.string ByteArray.empty, u30, u32]) ∧ (listed.getD 17 false = true → ∃ q, u7 = .pointer (some ⟨q, 0, none⟩) ∧ w1.heap.size ≤ q ∧ ∃ x y z, Blk W q 39 #[x, y, z]) ∧ (listed.getD 18 false = true → ∃ q, u7 = .pointer (some ⟨q, 0, none⟩) ∧ w1.heap.size ≤ q ∧ Blk W q 39 #[.string ByteArray.empty, u30, u32]) ∧ (listed.getD 13 false = true → listed.getD 15 false = true → u30.ownBlock ≠ u32.ownBlock) ∧ (listed.getD 16 false = true → listed.getD 13 false = true ∧ listed.getD 15 false = true) ∧ (listed.getD 18 false = true → listed.getD 17 false = true ∧ listed.getD 16 false = true)) ?_ ?_ ?_ ?_
    · intro i o ho e he
      have hi : i < 19 := (Array.getElem?_eq_some_iff.1 ho).1
      rcases (by omega : i = 0 ∨ i = 1 ∨ i = 2 ∨ i = 3 ∨ i = 4 ∨ i = 5 ∨ i = 6 ∨ i = 7 ∨ i = 8 ∨ i = 9 ∨ i = 10 ∨ i = 11 ∨ i = 12 ∨ i = 13 ∨ i = 14 ∨ i = 15 ∨ i = 16 ∨ i = 17 ∨ i = 18) with rfl | rfl | rfl | rfl | rfl | rfl | rfl | rfl | rfl | rfl | rfl | rfl | rfl | rfl | rfl | rfl | rfl | rfl | rfl <;> (obtain rfl := Option.some.inj ho; revert e; decide)
    · refine ⟨_, _, _, _, _, _, _, _, _, _, _, _, _, _, _, _, _, _, rfl, (Below.refl _ _).drew, fun h => absurd h (by decide), fun h => absurd h (by decide), fun h => absurd h (by decide), fun h => absurd h (by decide), fun h => absurd h (by decide), fun h => absurd h (by decide), fun h => absurd h (by decide), fun h => absurd h (by decide), fun h => absurd h (by decide), fun h => absurd h (by decide), fun h => absurd h (by decide), fun h => absurd h (by decide), fun h => absurd h (by decide), fun h => absurd h (by decide), fun h => absurd h (by decide), fun h => absurd h (by decide), fun h => absurd h (by decide), fun h => absurd h (by decide), fun h => absurd h (by decide), fun h => absurd h (by decide), fun h => absurd h (by decide), fun h => absurd h (by decide)⟩
    · intro i o listed a W ho hsz hun hd hI K hK
      have hi : i < 19 := (Array.getElem?_eq_some_iff.1 ho).1
      have hsz' : listed.size = 19 := hsz
      obtain ⟨u7, u17, u18, u19, u20, u21, u22, u23, u24, u25, u26, u27, u28, u29, u30, u31, u32, u33, rfl, hB, p0, p1, p2, p3, p4, p5, p6, p7, p8, p9, p10, p11, p12, p13, p14, p15, p16, p17, p18, pa, z16, z18⟩ := hI
      have xB := (hB.cell (p := ⟨w.heap.size, 0, none⟩) lt1).trans x1
      have hzB := hB.size
      have hBW := HB1.out.trans (hB.mono hz1)
      have st : ∀ j k, j ≠ k → (listed.setIfInBounds j true).getD k false = true → listed.getD k false = true := fun j k h e => by rw [getD_set_ne false h] at e; exact e
      have nl : listed.getD i false = true → False := fun h => by
        have h2 : i < listed.size := by omega
        simp only [Array.getD_eq_getD_getElem?, Array.getElem?_eq_getElem h2, Option.getD_some] at h hun
        rw [h] at hun
        cases hun
      rcases (by omega : i = 0 ∨ i = 1 ∨ i = 2 ∨ i = 3 ∨ i = 4 ∨ i = 5 ∨ i = 6 ∨ i = 7 ∨ i = 8 ∨ i = 9 ∨ i = 10 ∨ i = 11 ∨ i = 12 ∨ i = 13 ∨ i = 14 ∨ i = 15 ∨ i = 16 ∨ i = 17 ∨ i = 18) with rfl | rfl | rfl | rfl | rfl | rfl | rfl | rfl | rfl | rfl | rfl | rfl | rfl | rfl | rfl | rfl | rfl | rfl | rfl
      · obtain rfl := Option.some.inj ho
        go_simp
        exact hK _ _ ⟨_, _, _, _, _, _, _, _, _, _, _, _, _, _, _, _, _, _, rfl, hB, fun _ => rfl, fun h => p1 (st 0 1 (by decide) h), fun h => p2 (st 0 2 (by decide) h), fun h => p3 (st 0 3 (by decide) h), fun h => p4 (st 0 4 (by decide) h), fun h => p5 (st 0 5 (by decide) h), fun h => p6 (st 0 6 (by decide) h), fun h => p7 (st 0 7 (by decide) h), fun h => p8 (st 0 8 (by decide) h), fun h => p9 (st 0 9 (by decide) h), fun h => p10 (st 0 10 (by decide) h), fun h => p11 (st 0 11 (by decide) h), fun h => p12 (st 0 12 (by decide) h), fun h => p13 (st 0 13 (by decide) h), fun h => p14 (st 0 14 (by decide) h), fun h => p15 (st 0 15 (by decide) h), fun h => p16 (st 0 16 (by decide) h), fun h => p17 (st 0 17 (by decide) h), fun h => p18 (st 0 18 (by decide) h), fun h h2 => pa (st 0 13 (by decide) h) (st 0 15 (by decide) h2), fun h => ⟨getD_set_true (z16 (st 0 16 (by decide) h)).1, getD_set_true (z16 (st 0 16 (by decide) h)).2⟩, fun h => ⟨getD_set_true (z18 (st 0 18 (by decide) h)).1, getD_set_true (z18 (st 0 18 (by decide) h)).2⟩⟩
      · obtain rfl := Option.some.inj ho
        go_simp
        exact hK _ _ ⟨_, _, _, _, _, _, _, _, _, _, _, _, _, _, _, _, _, _, rfl, hB, fun h => p0 (st 1 0 (by decide) h), fun _ => rfl, fun h => p2 (st 1 2 (by decide) h), fun h => p3 (st 1 3 (by decide) h), fun h => p4 (st 1 4 (by decide) h), fun h => p5 (st 1 5 (by decide) h), fun h => p6 (st 1 6 (by decide) h), fun h => p7 (st 1 7 (by decide) h), fun h => p8 (st 1 8 (by decide) h), fun h => p9 (st 1 9 (by decide) h), fun h => p10 (st 1 10 (by decide) h), fun h => p11 (st 1 11 (by decide) h), fun h => p12 (st 1 12 (by decide) h), fun h => p13 (st 1 13 (by decide) h), fun h => p14 (st 1 14 (by decide) h), fun h => p15 (st 1 15 (by decide) h), fun h => p16 (st 1 16 (by decide) h), fun h => p17 (st 1 17 (by decide) h), fun h => p18 (st 1 18 (by decide) h), fun h h2 => pa (st 1 13 (by decide) h) (st 1 15 (by decide) h2), fun h => ⟨getD_set_true (z16 (st 1 16 (by decide) h)).1, getD_set_true (z16 (st 1 16 (by decide) h)).2⟩, fun h => ⟨getD_set_true (z18 (st 1 18 (by decide) h)).1, getD_set_true (z18 (st 1 18 (by decide) h)).2⟩⟩
      · obtain rfl := Option.some.inj ho
        obtain rfl := p0 (hd ⟨0, .data⟩ (by simp) rfl)
        obtain rfl := p1 (hd ⟨1, .data⟩ (by simp) rfl)
        go_simp
        refine ⟨trivial, (callsIn_wide.2 (HVa.out W hBW)).mono ?_⟩
        rintro e w2 ⟨rfl, rfl⟩
        exact hK _ _ ⟨_, _, _, _, _, _, _, _, _, _, _, _, _, _, _, _, _, _, rfl, hB, fun h => p0 (st 2 0 (by decide) h), fun h => p1 (st 2 1 (by decide) h), fun _ => rfl, fun h => p3 (st 2 3 (by decide) h), fun h => p4 (st 2 4 (by decide) h), fun h => p5 (st 2 5 (by decide) h), fun h => p6 (st 2 6 (by decide) h), fun h => p7 (st 2 7 (by decide) h), fun h => p8 (st 2 8 (by decide) h), fun h => p9 (st 2 9 (by decide) h), fun h => p10 (st 2 10 (by decide) h), fun h => p11 (st 2 11 (by decide) h), fun h => p12 (st 2 12 (by decide) h), fun h => p13 (st 2 13 (by decide) h), fun h => p14 (st 2 14 (by decide) h), fun h => p15 (st 2 15 (by decide) h), fun h => p16 (st 2 16 (by decide) h), fun h => p17 (st 2 17 (by decide) h), fun h => p18 (st 2 18 (by decide) h), fun h h2 => pa (st 2 13 (by decide) h) (st 2 15 (by decide) h2), fun h => ⟨getD_set_true (z16 (st 2 16 (by decide) h)).1, getD_set_true (z16 (st 2 16 (by decide) h)).2⟩, fun h => ⟨getD_set_true (z18 (st 2 18 (by decide) h)).1, getD_set_true (z18 (st 2 18 (by decide) h)).2⟩⟩
      · obtain rfl := Option.some.inj ho
        go_simp
        exact hK _ _ ⟨_, _, _, _, _, _, _, _, _, _, _, _, _, _, _, _, _, _, rfl, hB, fun h => p0 (st 3 0 (by decide) h), fun h => p1 (st 3 1 (by decide) h), fun h => p2 (st 3 2 (by decide) h), fun _ => rfl, fun h => p4 (st 3 4 (by decide) h), fun h => p5 (st 3 5 (by decide) h), fun h => p6 (st 3 6 (by decide) h), fun h => p7 (st 3 7 (by decide) h), fun h => p8 (st 3 8 (by decide) h), fun h => p9 (st 3 9 (by decide) h), fun h => p10 (st 3 10 (by decide) h), fun h => p11 (st 3 11 (by decide) h), fun h => p12 (st 3 12 (by decide) h), fun h => p13 (st 3 13 (by decide) h), fun h => p14 (st 3 14 (by decide) h), fun h => p15 (st 3 15 (by decide) h), fun h => p16 (st 3 16 (by decide) h), fun h => p17 (st 3 17 (by decide) h), fun h => p18 (st 3 18 (by decide) h), fun h h2 => pa (st 3 13 (by decide) h) (st 3 15 (by decide) h2), fun h => ⟨getD_set_true (z16 (st 3 16 (by decide) h)).1, getD_set_true (z16 (st 3 16 (by decide) h)).2⟩, fun h => ⟨getD_set_true (z18 (st 3 18 (by decide) h)).1, getD_set_true (z18 (st 3 18 (by decide) h)).2⟩⟩
      · obtain rfl := Option.some.inj ho
        go_simp
        exact hK _ _ ⟨_, _, _, _, _, _, _, _, _, _, _, _, _, _, _, _, _, _, rfl, hB, fun h => p0 (st 4 0 (by decide) h), fun h => p1 (st 4 1 (by decide) h), fun h => p2 (st 4 2 (by decide) h), fun h => p3 (st 4 3 (by decide) h), fun _ => rfl, fun h => p5 (st 4 5 (by decide) h), fun h => p6 (st 4 6 (by decide) h), fun h => p7 (st 4 7 (by decide) h), fun h => p8 (st 4 8 (by decide) h), fun h => p9 (st 4 9 (by decide) h), fun h => p10 (st 4 10 (by decide) h), fun h => p11 (st 4 11 (by decide) h), fun h => p12 (st 4 12 (by decide) h), fun h => p13 (st 4 13 (by decide) h), fun h => p14 (st 4 14 (by decide) h), fun h => p15 (st 4 15 (by decide) h), fun h => p16 (st 4 16 (by decide) h), fun h => p17 (st 4 17 (by decide) h), fun h => p18 (st 4 18 (by decide) h), fun h h2 => pa (st 4 13 (by decide) h) (st 4 15 (by decide) h2), fun h => ⟨getD_set_true (z16 (st 4 16 (by decide) h)).1, getD_set_true (z16 (st 4 16 (by decide) h)).2⟩, fun h => ⟨getD_set_true (z18 (st 4 18 (by decide) h)).1, getD_set_true (z18 (st 4 18 (by decide) h)).2⟩⟩
      · obtain rfl := Option.some.inj ho
        go_simp
        exact hK _ _ ⟨_, _, _, _, _, _, _, _, _, _, _, _, _, _, _, _, _, _, rfl, hB, fun h => p0 (st 5 0 (by decide) h), fun h => p1 (st 5 1 (by decide) h), fun h => p2 (st 5 2 (by decide) h), fun h => p3 (st 5 3 (by decide) h), fun h => p4 (st 5 4 (by decide) h), fun _ => rfl, fun h => p6 (st 5 6 (by decide) h), fun h => p7 (st 5 7 (by decide) h), fun h => p8 (st 5 8 (by decide) h), fun h => p9 (st 5 9 (by decide) h), fun h => p10 (st 5 10 (by decide) h), fun h => p11 (st 5 11 (by decide) h), fun h => p12 (st 5 12 (by decide) h), fun h => p13 (st 5 13 (by decide) h), fun h => p14 (st 5 14 (by decide) h), fun h => p15 (st 5 15 (by decide) h), fun h => p16 (st 5 16 (by decide) h), fun h => p17 (st 5 17 (by decide) h), fun h => p18 (st 5 18 (by decide) h), fun h h2 => pa (st 5 13 (by decide) h) (st 5 15 (by decide) h2), fun h => ⟨getD_set_true (z16 (st 5 16 (by decide) h)).1, getD_set_true (z16 (st 5 16 (by decide) h)).2⟩, fun h => ⟨getD_set_true (z18 (st 5 18 (by decide) h)).1, getD_set_true (z18 (st 5 18 (by decide) h)).2⟩⟩
      · obtain rfl := Option.some.inj ho
        obtain rfl := p4 (hd ⟨4, .data⟩ (by simp) rfl)
        obtain rfl := p5 (hd ⟨5, .data⟩ (by simp) rfl)
        go_simp
        refine ⟨trivial, (callsIn_wide.2 (HN.out W hBW)).mono ?_⟩
        rintro e w2 ⟨rfl, rfl⟩
        exact hK _ _ ⟨_, _, _, _, _, _, _, _, _, _, _, _, _, _, _, _, _, _, rfl, hB, fun h => p0 (st 6 0 (by decide) h), fun h => p1 (st 6 1 (by decide) h), fun h => p2 (st 6 2 (by decide) h), fun h => p3 (st 6 3 (by decide) h), fun h => p4 (st 6 4 (by decide) h), fun h => p5 (st 6 5 (by decide) h), fun _ => rfl, fun h => p7 (st 6 7 (by decide) h), fun h => p8 (st 6 8 (by decide) h), fun h => p9 (st 6 9 (by decide) h), fun h => p10 (st 6 10 (by decide) h), fun h => p11 (st 6 11 (by decide) h), fun h => p12 (st 6 12 (by decide) h), fun h => p13 (st 6 13 (by decide) h), fun h => p14 (st 6 14 (by decide) h), fun h => p15 (st 6 15 (by decide) h), fun h => p16 (st 6 16 (by decide) h), fun h => p17 (st 6 17 (by decide) h), fun h => p18 (st 6 18 (by decide) h), fun h h2 => pa (st 6 13 (by decide) h) (st 6 15 (by decide) h2), fun h => ⟨getD_set_true (z16 (st 6 16 (by decide) h)).1, getD_set_true (z16 (st 6 16 (by decide) h)).2⟩, fun h => ⟨getD_set_true (z18 (st 6 18 (by decide) h)).1, getD_set_true (z18 (st 6 18 (by decide) h)).2⟩⟩
      · obtain rfl := Option.some.inj ho
        obtain rfl := p3 (hd ⟨3, .data⟩ (by simp) rfl)
        obtain rfl := p6 (hd ⟨6, .data⟩ (by simp) rfl)
        go_simp
        refine ⟨trivial, (callsIn_wide.2 (HVb.out W hBW)).mono ?_⟩
        rintro e w2 ⟨rfl, rfl⟩
        exact hK _ _ ⟨_, _, _, _, _, _, _, _, _, _, _, _, _, _, _, _, _, _, rfl, hB, fun h => p0 (st 7 0 (by decide) h), fun h => p1 (st 7 1 (by decide) h), fun h => p2 (st 7 2 (by decide) h), fun h => p3 (st 7 3 (by decide) h), fun h => p4 (st 7 4 (by decide) h), fun h => p5 (st 7 5 (by decide) h), fun h => p6 (st 7 6 (by decide) h), fun _ => rfl, fun h => p8 (st 7 8 (by decide) h), fun h => p9 (st 7 9 (by decide) h), fun h => p10 (st 7 10 (by decide) h), fun h => p11 (st 7 11 (by decide) h), fun h => p12 (st 7 12 (by decide) h), fun h => p13 (st 7 13 (by decide) h), fun h => p14 (st 7 14 (by decide) h), fun h => p15 (st 7 15 (by decide) h), fun h => p16 (st 7 16 (by decide) h), fun h => p17 (st 7 17 (by decide) h), fun h => p18 (st 7 18 (by decide) h), fun h h2 => pa (st 7 13 (by decide) h) (st 7 15 (by decide) h2), fun h => ⟨getD_set_true (z16 (st 7 16 (by decide) h)).1, getD_set_true (z16 (st 7 16 (by decide) h)).2⟩, fun h => ⟨getD_set_true (z18 (st 7 18 (by decide) h)).1, getD_set_true (z18 (st 7 18 (by decide) h)).2⟩⟩
      · obtain rfl := Option.some.inj ho
        go_simp
        exact hK _ _ ⟨_, _, _, _, _, _, _, _, _, _, _, _, _, _, _, _, _, _, rfl, hB, fun h => p0 (st 8 0 (by decide) h), fun h => p1 (st 8 1 (by decide) h), fun h => p2 (st 8 2 (by decide) h), fun h => p3 (st 8 3 (by decide) h), fun h => p4 (st 8 4 (by decide) h), fun h => p5 (st 8 5 (by decide) h), fun h => p6 (st 8 6 (by decide) h), fun h => p7 (st 8 7 (by decide) h), fun _ => rfl, fun h => p9 (st 8 9 (by decide) h), fun h => p10 (st 8 10 (by decide) h), fun h => p11 (st 8 11 (by decide) h), fun h => p12 (st 8 12 (by decide) h), fun h => p13 (st 8 13 (by decide) h), fun h => p14 (st 8 14 (by decide) h), fun h => p15 (st 8 15 (by decide) h), fun h => p16 (st 8 16 (by decide) h), fun h => p17 (st 8 17 (by decide) h), fun h => p18 (st 8 18 (by decide) h), fun h h2 => pa (st 8 13 (by decide) h) (st 8 15 (by decide) h2), fun h => ⟨getD_set_true (z16 (st 8 16 (by decide) h)).1, getD_set_true (z16 (st 8 16 (by decide) h)).2⟩, fun h => ⟨getD_set_true (z18 (st 8 18 (by decide) h)).1, getD_set_true (z18 (st 8 18 (by decide) h)).2⟩⟩
      · obtain rfl := Option.some.inj ho
        go_simp
        exact hK _ _ ⟨_, _, _, _, _, _, _, _, _, _, _, _, _, _, _, _, _, _, rfl, hB, fun h => p0 (st 9 0 (by decide) h), fun h => p1 (st 9 1 (by decide) h), fun h => p2 (st 9 2 (by decide) h), fun h => p3 (st 9 3 (by decide) h), fun h => p4 (st 9 4 (by decide) h), fun h => p5 (st 9 5 (by decide) h), fun h => p6 (st 9 6 (by decide) h), fun h => p7 (st 9 7 (by decide) h), fun h => p8 (st 9 8 (by decide) h), fun _ => rfl, fun h => p10 (st 9 10 (by decide) h), fun h => p11 (st 9 11 (by decide) h), fun h => p12 (st 9 12 (by decide) h), fun h => p13 (st 9 13 (by decide) h), fun h => p14 (st 9 14 (by decide) h), fun h => p15 (st 9 15 (by decide) h), fun h => p16 (st 9 16 (by decide) h), fun h => p17 (st 9 17 (by decide) h), fun h => p18 (st 9 18 (by decide) h), fun h h2 => pa (st 9 13 (by decide) h) (st 9 15 (by decide) h2), fun h => ⟨getD_set_true (z16 (st 9 16 (by decide) h)).1, getD_set_true (z16 (st 9 16 (by decide) h)).2⟩, fun h => ⟨getD_set_true (z18 (st 9 18 (by decide) h)).1, getD_set_true (z18 (st 9 18 (by decide) h)).2⟩⟩
      · obtain rfl := Option.some.inj ho
        go_simp
        exact hK _ _ ⟨_, _, _, _, _, _, _, _, _, _, _, _, _, _, _, _, _, _, rfl, hB, fun h => p0 (st 10 0 (by decide) h), fun h => p1 (st 10 1 (by decide) h), fun h => p2 (st 10 2 (by decide) h), fun h => p3 (st 10 3 (by decide) h), fun h => p4 (st 10 4 (by decide) h), fun h => p5 (st 10 5 (by decide) h), fun h => p6 (st 10 6 (by decide) h), fun h => p7 (st 10 7 (by decide) h), fun h => p8 (st 10 8 (by decide) h), fun h => p9 (st 10 9 (by decide) h), fun _ => rfl, fun h => p11 (st 10 11 (by decide) h), fun h => p12 (st 10 12 (by decide) h), fun h => p13 (st 10 13 (by decide) h), fun h => p14 (st 10 14 (by decide) h), fun h => p15 (st 10 15 (by decide) h), fun h => p16 (st 10 16 (by decide) h), fun h => p17 (st 10 17 (by decide) h), fun h => p18 (st 10 18 (by decide) h), fun h h2 => pa (st 10 13 (by decide) h) (st 10 15 (by decide) h2), fun h => ⟨getD_set_true (z16 (st 10 16 (by decide) h)).1, getD_set_true (z16 (st 10 16 (by decide) h)).2⟩, fun h => ⟨getD_set_true (z18 (st 10 18 (by decide) h)).1, getD_set_true (z18 (st 10 18 (by decide) h)).2⟩⟩
      · obtain rfl := Option.some.inj ho
        obtain rfl := p9 (hd ⟨9, .data⟩ (by simp) rfl)
        obtain rfl := p10 (hd ⟨10, .data⟩ (by simp) rfl)
        go_simp
        refine ⟨trivial, (callsIn_wide.2 (HP.out W hBW)).mono ?_⟩
        rintro e w2 ⟨rfl, rfl⟩
        exact hK _ _ ⟨_, _, _, _, _, _, _, _, _, _, _, _, _, _, _, _, _, _, rfl, hB, fun h => p0 (st 11 0 (by decide) h), fun h => p1 (st 11 1 (by decide) h), fun h => p2 (st 11 2 (by decide) h), fun h => p3 (st 11 3 (by decide) h), fun h => p4 (st 11 4 (by decide) h), fun h => p5 (st 11 5 (by decide) h), fun h => p6 (st 11 6 (by decide) h), fun h => p7 (st 11 7 (by decide) h), fun h => p8 (st 11 8 (by decide) h), fun h => p9 (st 11 9 (by decide) h), fun h => p10 (st 11 10 (by decide) h), fun _ => rfl, fun h => p12 (st 11 12 (by decide) h), fun h => p13 (st 11 13 (by decide) h), fun h => p14 (st 11 14 (by decide) h), fun h => p15 (st 11 15 (by decide) h), fun h => p16 (st 11 16 (by decide) h), fun h => p17 (st 11 17 (by decide) h), fun h => p18 (st 11 18 (by decide) h), fun h h2 => pa (st 11 13 (by decide) h) (st 11 15 (by decide) h2), fun h => ⟨getD_set_true (z16 (st 11 16 (by decide) h)).1, getD_set_true (z16 (st 11 16 (by decide) h)).2⟩, fun h => ⟨getD_set_true (z18 (st 11 18 (by decide) h)).1, getD_set_true (z18 (st 11 18 (by decide) h)).2⟩⟩
      · obtain rfl := Option.some.inj ho
        obtain rfl := p8 (hd ⟨8, .data⟩ (by simp) rfl)
        obtain rfl := p11 (hd ⟨11, .data⟩ (by simp) rfl)
        go_simp
        refine ⟨trivial, (callsIn_wide.2 (HVd.out W hBW)).mono ?_⟩
        rintro e w2 ⟨rfl, rfl⟩
        exact hK _ _ ⟨_, _, _, _, _, _, _, _, _, _, _, _, _, _, _, _, _, _, rfl, hB, fun h => p0 (st 12 0 (by decide) h), fun h => p1 (st 12 1 (by decide) h), fun h => p2 (st 12 2 (by decide) h), fun h => p3 (st 12 3 (by decide) h), fun h => p4 (st 12 4 (by decide) h), fun h => p5 (st 12 5 (by decide) h), fun h => p6 (st 12 6 (by decide) h), fun h => p7 (st 12 7 (by decide) h), fun h => p8 (st 12 8 (by decide) h), fun h => p9 (st 12 9 (by decide) h), fun h => p10 (st 12 10 (by decide) h), fun h => p11 (st 12 11 (by decide) h), fun _ => rfl, fun h => p13 (st 12 13 (by decide) h), fun h => p14 (st 12 14 (by decide) h), fun h => p15 (st 12 15 (by decide) h), fun h => p16 (st 12 16 (by decide) h), fun h => p17 (st 12 17 (by decide) h), fun h => p18 (st 12 18 (by decide) h), fun h h2 => pa (st 12 13 (by decide) h) (st 12 15 (by decide) h2), fun h => ⟨getD_set_true (z16 (st 12 16 (by decide) h)).1, getD_set_true (z16 (st 12 16 (by decide) h)).2⟩, fun h => ⟨getD_set_true (z18 (st 12 18 (by decide) h)).1, getD_set_true (z18 (st 12 18 (by decide) h)).2⟩⟩
      · obtain rfl := Option.some.inj ho
        obtain rfl := p2 (hd ⟨2, .data⟩ (by simp) rfl)
        obtain rfl := p7 (hd ⟨7, .data⟩ (by simp) rfl)
        obtain rfl := p12 (hd ⟨12, .data⟩ (by simp) rfl)
        go_simp
        exact hK _ _ ⟨_, _, _, _, _, _, _, _, _, _, _, _, _, _, _, _, _, _, rfl, hB.alloc hzB _, fun h => p0 (st 13 0 (by decide) h), fun h => p1 (st 13 1 (by decide) h), fun h => p2 (st 13 2 (by decide) h), fun h => p3 (st 13 3 (by decide) h), fun h => p4 (st 13 4 (by decide) h), fun h => p5 (st 13 5 (by decide) h), fun h => p6 (st 13 6 (by decide) h), fun h => p7 (st 13 7 (by decide) h), fun h => p8 (st 13 8 (by decide) h), fun h => p9 (st 13 9 (by decide) h), fun h => p10 (st 13 10 (by decide) h), fun h => p11 (st 13 11 (by decide) h), fun h => p12 (st 13 12 (by decide) h), fun _ => ⟨W.heap.size, rfl, hzB, Blk.new _ _ _⟩, fun h => p14 (st 13 14 (by decide) h), fun h => by obtain ⟨q, e, l, b⟩ := p15 (st 13 15 (by decide) h); exact ⟨q, e, l, b.alloc _⟩, fun h => (nl (z16 (st 13 16 (by decide) h)).1).elim, fun h => by obtain ⟨q, e, l, y0, y1, y2, b⟩ := p17 (st 13 17 (by decide) h); exact ⟨q, e, l, y0, y1, y2, b.alloc _⟩, fun h => (nl (z16 (z18 (st 13 18 (by decide) h)).2).1).elim, fun _ h => by obtain ⟨q, e, l, b⟩ := p15 (st 13 15 (by decide) h); have := b.lt; rw [e]; simp [Value.ownBlock]; omega, fun h => ⟨getD_set_true (z16 (st 13 16 (by decide) h)).1, getD_set_true (z16 (st 13 16 (by decide) h)).2⟩, fun h => ⟨getD_set_true (z18 (st 13 18 (by decide) h)).1, getD_set_true (z18 (st 13 18 (by decide) h)).2⟩⟩
      · obtain rfl := Option.some.inj ho
        go_simp
        exact hK _ _ ⟨_, _, _, _, _, _, _, _, _, _, _, _, _, _, _, _, _, _, rfl, hB, fun h => p0 (st 14 0 (by decide) h), fun h => p1 (st 14 1 (by decide) h), fun h => p2 (st 14 2 (by decide) h), fun h => p3 (st 14 3 (by decide) h), fun h => p4 (st 14 4 (by decide) h), fun h => p5 (st 14 5 (by decide) h), fun h => p6 (st 14 6 (by decide) h), fun h => p7 (st 14 7 (by decide) h), fun h => p8 (st 14 8 (by decide) h), fun h => p9 (st 14 9 (by decide) h), fun h => p10 (st 14 10 (by decide) h), fun h => p11 (st 14 11 (by decide) h), fun h => p12 (st 14 12 (by decide) h), fun h => p13 (st 14 13 (by decide) h), fun _ => rfl, fun h => p15 (st 14 15 (by decide) h), fun h => p16 (st 14 16 (by decide) h), fun h => p17 (st 14 17 (by decide) h), fun h => p18 (st 14 18 (by decide) h), fun h h2 => pa (st 14 13 (by decide) h) (st 14 15 (by decide) h2), fun h => ⟨getD_set_true (z16 (st 14 16 (by decide) h)).1, getD_set_true (z16 (st 14 16 (by decide) h)).2⟩, fun h => ⟨getD_set_true (z18 (st 14 18 (by decide) h)).1, getD_set_true (z18 (st 14 18 (by decide) h)).2⟩⟩
      · obtain rfl := Option.some.inj ho
        obtain rfl := p14 (hd ⟨14, .data⟩ (by simp) rfl)
        go_simp
        exact hK _ _ ⟨_, _, _, _, _, _, _, _, _, _, _, _, _, _, _, _, _, _, rfl, hB.alloc hzB _, fun h => p0 (st 15 0 (by decide) h), fun h => p1 (st 15 1 (by decide) h), fun h => p2 (st 15 2 (by decide) h), fun h => p3 (st 15 3 (by decide) h), fun h => p4 (st 15 4 (by decide) h), fun h => p5 (st 15 5 (by decide) h), fun h => p6 (st 15 6 (by decide) h), fun h => p7 (st 15 7 (by decide) h), fun h => p8 (st 15 8 (by decide) h), fun h => p9 (st 15 9 (by decide) h), fun h => p10 (st 15 10 (by decide) h), fun h => p11 (st 15 11 (by decide) h), fun h => p12 (st 15 12 (by decide) h), fun h => by obtain ⟨q, e, l, b⟩ := p13 (st 15 13 (by decide) h); exact ⟨q, e, l, b.alloc _⟩, fun h => p14 (st 15 14 (by decide) h), fun _ => ⟨W.heap.size, rfl, hzB, Blk.new _ _ _⟩, fun h => (nl (z16 (st 15 16 (by decide) h)).2).elim, fun h => by obtain ⟨q, e, l, y0, y1, y2, b⟩ := p17 (st 15 17 (by decide) h); exact ⟨q, e, l, y0, y1, y2, b.alloc _⟩, fun h => (nl (z16 (z18 (st 15 18 (by decide) h)).2).2).elim, fun h _ => by obtain ⟨q, e, l, b⟩ := p13 (st 15 13 (by decide) h); have := b.lt; rw [e]; simp [Value.ownBlock]; omega, fun h => ⟨getD_set_true (z16 (st 15 16 (by decide) h)).1, getD_set_true (z16 (st 15 16 (by decide) h)).2⟩, fun h => ⟨getD_set_true (z18 (st 15 18 (by decide) h)).1, getD_set_true (z18 (st 15 18 (by decide) h)).2⟩⟩
      · obtain rfl := Option.some.inj ho
        have g13 := hd ⟨13, .data⟩ (by simp) rfl
        have g15 := hd ⟨15, .data⟩ (by simp) rfl
        obtain ⟨q13, rfl, l13, b13⟩ := p13 g13
        obtain ⟨q15, rfl, l15, b15⟩ := p15 g15
        go_simp
        exact hK _ _ ⟨_, _, _, _, _, _, _, _, _, _, _, _, _, _, _, _, _, _, rfl, hB, fun h => p0 (st 16 0 (by decide) h), fun h => p1 (st 16 1 (by decide) h), fun h => p2 (st 16 2 (by decide) h), fun h => p3 (st 16 3 (by decide) h), fun h => p4 (st 16 4 (by decide) h), fun h => p5 (st 16 5 (by decide) h), fun h => p6 (st 16 6 (by decide) h), fun h => p7 (st 16 7 (by decide) h), fun h => p8 (st 16 8 (by decide) h), fun h => p9 (st 16 9 (by decide) h), fun h => p10 (st 16 10 (by decide) h), fun h => p11 (st 16 11 (by decide) h), fun h => p12 (st 16 12 (by decide) h), fun h => ⟨q13, rfl, l13, b13⟩, fun h => p14 (st 16 14 (by decide) h), fun h => ⟨q15, rfl, l15, b15⟩, fun _ => rfl, fun h => p17 (st 16 17 (by decide) h), fun h => p18 (st 16 18 (by decide) h), fun h h2 => pa (st 16 13 (by decide) h) (st 16 15 (by decide) h2), fun _ => ⟨getD_set_true g13, getD_set_true g15⟩, fun h => ⟨getD_set_true (z18 (st 16 18 (by decide) h)).1, getD_set_true (z18 (st 16 18 (by decide) h)).2⟩⟩
      · obtain rfl := Option.some.inj ho
        go_simp
        exact hK _ _ ⟨_, _, _, _, _, _, _, _, _, _, _, _, _, _, _, _, _, _, rfl, hB.alloc hzB _, fun h => p0 (st 17 0 (by decide) h), fun h => p1 (st 17 1 (by decide) h), fun h => p2 (st 17 2 (by decide) h), fun h => p3 (st 17 3 (by decide) h), fun h => p4 (st 17 4 (by decide) h), fun h => p5 (st 17 5 (by decide) h), fun h => p6 (st 17 6 (by decide) h), fun h => p7 (st 17 7 (by decide) h), fun h => p8 (st 17 8 (by decide) h), fun h => p9 (st 17 9 (by decide) h), fun h => p10 (st 17 10 (by decide) h), fun h => p11 (st 17 11 (by decide) h), fun h => p12 (st 17 12 (by decide) h), fun h => by obtain ⟨q, e, l, b⟩ := p13 (st 17 13 (by decide) h); exact ⟨q, e, l, b.alloc _⟩, fun h => p14 (st 17 14 (by decide) h), fun h => by obtain ⟨q, e, l, b⟩ := p15 (st 17 15 (by decide) h); exact ⟨q, e, l, b.alloc _⟩, fun h => p16 (st 17 16 (by decide) h), fun _ => ⟨W.heap.size, rfl, hzB, _, _, _, Blk.new _ _ _⟩, fun h => (nl (z18 (st 17 18 (by decide) h)).1).elim, fun h h2 => pa (st 17 13 (by decide) h) (st 17 15 (by decide) h2), fun h => ⟨getD_set_true (z16 (st 17 16 (by decide) h)).1, getD_set_true (z16 (st 17 16 (by decide) h)).2⟩, fun h => ⟨getD_set_true (z18 (st 17 18 (by decide) h)).1, getD_set_true (z18 (st 17 18 (by decide) h)).2⟩⟩
      · obtain rfl := Option.some.inj ho
        have g17 := hd ⟨17, .data⟩ (by simp) rfl
        have g16 := hd ⟨16, .data⟩ (by simp) rfl
        obtain ⟨g13, g15⟩ := z16 g16
        obtain rfl := p16 g16
        obtain ⟨q13, rfl, l13, b13⟩ := p13 g13
        obtain ⟨q15, rfl, l15, b15⟩ := p15 g15
        obtain ⟨q17, rfl, l17, y0, y1, y2, b17⟩ := p17 g17
        obtain ⟨lq, k0, f0, k1, f1, k2, f2⟩ := b17.three
        have n13 := Blk.ne_ b13 b17 (by decide)
        have n15 := Blk.ne_ b15 b17 (by decide)
        go_simp
        exact hK _ _ ⟨_, _, _, _, _, _, _, _, _, _, _, _, _, _, _, _, _, _, rfl, ((hB.setCell (p := ⟨q17, 0, none⟩) l17 _).setCell (p := ⟨q17, 1, none⟩) l17 _).setCell (p := ⟨q17, 2, none⟩) l17 _, fun h => p0 (st 18 0 (by decide) h), fun h => p1 (st 18 1 (by decide) h), fun h => p2 (st 18 2 (by decide) h), fun h => p3 (st 18 3 (by decide) h), fun h => p4 (st 18 4 (by decide) h), fun h => p5 (st 18 5 (by decide) h), fun h => p6 (st 18 6 (by decide) h), fun h => p7 (st 18 7 (by decide) h), fun h => p8 (st 18 8 (by decide) h), fun h => p9 (st 18 9 (by decide) h), fun h => p10 (st 18 10 (by decide) h), fun h => p11 (st 18 11 (by decide) h), fun h => p12 (st 18 12 (by decide) h), fun h => ⟨q13, rfl, l13, ((b13.far (p := ⟨q17, 0, none⟩) n13 _).far (p := ⟨q17, 1, none⟩) n13 _).far (p := ⟨q17, 2, none⟩) n13 _⟩, fun h => p14 (st 18 14 (by decide) h), fun h => ⟨q15, rfl, l15, ((b15.far (p := ⟨q17, 0, none⟩) n15 _).far (p := ⟨q17, 1, none⟩) n15 _).far (p := ⟨q17, 2, none⟩) n15 _⟩, fun h => p16 (st 18 16 (by decide) h), fun h => ⟨q17, rfl, l17, _, _, _, by simpa using ((b17.set_ 0 _).set_ 1 _).set_ 2 _⟩, fun _ => ⟨q17, rfl, l17, by simpa using ((b17.set_ 0 _).set_ 1 _).set_ 2 _⟩, fun h h2 => pa (st 18 13 (by decide) h) (st 18 15 (by decide) h2), fun h => ⟨getD_set_true (z16 (st 18 16 (by decide) h)).1, getD_set_true (z16 (st 18 16 (by decide) h)).2⟩, fun _ => ⟨getD_set_true g17, getD_set_true g16⟩⟩
    · rintro listed a W hall ⟨u7, u17, u18, u19, u20, u21, u22, u23, u24, u25, u26, u27, u28, u29, u30, u31, u32, u33, rfl, hB, p0, p1, p2, p3, p4, p5, p6, p7, p8, p9, p10, p11, p12, p13, p14, p15, p16, p17, p18, pa, z16, z18⟩
      obtain ⟨q13, rfl, l13, b13⟩ := p13 (hall 13 (by decide))
      obtain ⟨q15, rfl, l15, b15⟩ := p15 (hall 15 (by decide))
      obtain ⟨q18, rfl, l18, b18⟩ := p18 (hall 18 (by decide))
      have hne := pa (hall 13 (by decide)) (hall 15 (by decide))
      clear p0 p1 p2 p3 p4 p5 p6 p7 p8 p9 p10 p11 p12 p13 p14 p15 p16 p17 p18 pa z16 z18 hall
      gi_wp2
      gi_meet
      exact ⟨q18, _, _, rfl, hB, l18, b18, own_three b13 l13, own_one b15 l15, hne⟩
  case rest =>
    obtain ⟨q, vV, vC, rfl, hBc, hq, bTr, hV, hC, hne⟩ := hcut
    have xC := (hBc.cell (p := ⟨w.heap.size, 0, none⟩) lt1).trans x1
    have lr := HBr1.out.lt
    have hzc := hBc.size
    have b3 := Blk.new wc 25 #[.slice none 0 0]
    have hB3 : Below w1.heap.size w1 (wc.alloc (.cells #[.slice none 0 0] 25)) := hBc.alloc hzc _
    have hWk : WkS w w1.heap.size q wc.heap.size g (intsV ((beginS T c).come ++ newV T [])) (intsV ((c : Int) :: ([] : List WStep).map (·.corner))) (([] : List WStep).map fun x => Value.int .u8 x.letter) vV vC (.slice none 0 0) (wc.alloc (.cells #[.slice none 0 0] 25)) :=
      ⟨HBt1.out.below hB3 lt1, HBr1.out.below hB3 lr, bTr.alloc _, b3, by rw [HCm.out]; exact hV.alloc _, hC.alloc _, World.ownsRow_nil _ _ _ _, hne, HB1.out.trans (hB3.mono hz1), hq, hzc, lr⟩
    have x3 := hWk.t.cell 0
    have HWk := Lib.hid hWk
    have hz3 : wc.heap.size < (wc.alloc (.cells #[.slice none 0 0] 25)).heap.size := by simp
    clear b3 hB3 hWk bTr hV hC hne hBc
    gi_upto_region 6 with fail
    generalize wc.alloc (.cells #[.slice none 0 0] 25) = W3 at *
    gi_wp2_with fail
    refine ⟨trivial, (callsIn_wide.2 (callsIn_wide.1 (wsteps_any Fence.wide 8 trivial rfl (some ⟨g, 0, none⟩) (c : Int) W3))).mono ?_⟩
    rintro e w4 ⟨rfl, rfl⟩
    have hz4 : W3.heap.size + 2 = ((W3.alloc (.cells #[.pointer (some ⟨g, 0, none⟩)] 26)).alloc (.cells #[.int .i64 (c : Int)] 3)).heap.size := by simp
    have bt : Blk ((W3.alloc (.cells #[.pointer (some ⟨g, 0, none⟩)] 26)).alloc (.cells #[.int .i64 (c : Int)] 3)) W3.heap.size 26 #[.pointer (some ⟨g, 0, none⟩)] := (Blk.new _ _ _).alloc _
    have bv : Blk ((W3.alloc (.cells #[.pointer (some ⟨g, 0, none⟩)] 26)).alloc (.cells #[.int .i64 (c : Int)] 3)) (W3.heap.size + 1) 3 #[.int .i64 (c : Int)] := blk_new_at (by simp)
    have HWk4 := Lib.hid ((HWk.out.alloc (.cells #[.pointer (some ⟨g, 0, none⟩)] 26)).alloc (.cells #[.int .i64 (c : Int)] 3))
    have Hbt := Lib.hid bt
    have Hbv := Lib.hid bv
    clear bt bv HWk x3 xC
    gi_wp2_with fail
    generalize (W3.alloc (.cells #[.pointer (some ⟨g, 0, none⟩)] 26)).alloc (.cells #[.int .i64 (c : Int)] 3) = W4 at *
    refine wpIn_rangeFunc_sep rfl (by omega) (gf := 64) (lb := #[.pointer (some ⟨W3.heap.size, 0, none⟩), .pointer (some ⟨W3.heap.size + 1, 0, none⟩)]) rfl trivial (enters_of Tryz.func64 (by kernel_rfl) rfl)
      (steps1_sep (w := w) (m := 8) (Bt := W3.heap.size) (Bc := W3.heap.size + 1) HS.out (HT.out w (Below.refl _ _)) hc) (fun W hW => ⟨(hW.cell (p := ⟨W3.heap.size, 0, none⟩) Hbt.out.lt).trans (Hbt.out.cell 0), (hW.cell (p := ⟨W3.heap.size + 1, 0, none⟩) Hbv.out.lt).trans (Hbv.out.cell 0), Nat.lt_of_lt_of_le Hbt.out.lt hW.size, Nat.lt_of_lt_of_le Hbv.out.lt hW.size⟩) (fun _ h => h.elim) HWk4.out.below (fun _ => rfl)
      (WkI w w1.heap.size q wc.heap.size g c T) (fun _ _ _ _ => False) wkI_stable (fun _ _ _ _ _ h => h.elim) (OwnW w q wc.heap.size vV vC (.slice none 0 0)) (fun k hk => ⟨(HWk4.out.rng hk).1, (HWk4.out.rng hk).2, fun h => h⟩) ⟨vV, vC, _, fun _ => Iff.rfl, HWk4.out⟩ ?_ ?_ ?_
    · intro l pre x C W hl hl2 hI hCb hlen
      obtain ⟨i8, hi8, a80, a81, a82⟩ := info_parts infoU8W
      obtain ⟨i3, hi3, a30, a31, a32⟩ := info_parts infoInt
      obtain ⟨xl, xc, xo, xn⟩ := x
      obtain ⟨vV2, vC2, vB2, hCi, hS⟩ := hI
      have HCi := Lib.hid hCi
      have HS2 := Lib.hid hS
      have HCb := Lib.hid hCb
      clear hCi hS hCb Hbt Hbv HWk4
      unfold encS
      gi_wp2
      refine ⟨(Kept.refl _ _).alloc _, ⟨vV2, vC2, vB2, HCi.out, HS2.out.alloc _⟩, ?_⟩
      intro W2 hk2 hI2 hCb2 hz2
      obtain ⟨vV3, vC3, vB3, hCi3, hS3⟩ := hI2
      have bs : Blk W2 W.heap.size 82 #[.int .u8 xl, .int .i64 xc, .int .i64 xo, .int .i64 xn] := blk_same (Blk.new W _ _) (hk2.block W.heap.size (by simp) (by omega))
      have hnS : ∀ k, OwnW w q wc.heap.size vV3 vC3 vB3 k → k < W.heap.size := fun k hk => (HCb.out k ((hCi3 k).2 hk)).2
      have HC3 := Lib.hid hCi3
      have HnS := Lib.hid hnS
      have HS3 := Lib.hid hS3
      have HBs := Lib.hid bs
      obtain ⟨lbx, bx0, bxf⟩ := hS3.bx.one
      obtain ⟨ls, s0, s1, s2, s3, -⟩ := four bs
      have HzW := Lib.hid (show W2.heap.size = W.heap.size + 1 from by rw [hz2]; simp)
      have hzW : W.heap.size < W2.heap.size := by rw [hz2]; simp
      have hlB : pre.length ≤ 8192 := by omega
      have hbs2 := hS3.bs
      clear hk2 hCi3 hS3 bs hCb2 hnS HCi HS2 hz2
      gi_upto_region 9 with (first
        | (gi_at_builtin; refine wpListIn_append_lies rfl (.tmp 38) (.tmp 41) 25 rfl w1.heap.size 5 i8 _ 1 1 Tryz.underlying25 hi8 a80 a81 a82 rfl (by decide) vB3 _ _ rfl (HS3.out.alloc (.cells #[.int .u8 xl] 5)).rB ⟨W2.heap.size, 0, none⟩ 1 1 [.int .u8 xl] rfl rfl (World.news_of_block (heap_alloc_new _ _)) (by simp [Value.oneCell']) (by decide) (by unfold maxLen; simp; omega) (by simp; omega) (by simp; omega) ?_; intro g8 cap8 W5 hr8 hg8 hat8 hlt8; obtain ⟨y0, y1, y2⟩ := ((HS3.out.alloc (.cells #[.int .u8 xl] 5)).bx.grown hg8 (fun e => own_blk_ne (HS3.out.alloc (.cells #[.int .u8 xl] 5)).rB (HS3.out.alloc (.cells #[.int .u8 xl] 5)).bx (by decide) e.symm)).one; have HR8 := Lib.hid hr8; have HG8 := Lib.hid hg8; have HA8 := Lib.hid hat8; clear hr8 hg8 hat8))
      have hr8 := HR8.out
      rw [List.length_map] at hr8
      obtain ⟨s6, k6, n6⟩ := (HS3.out.alloc (.cells #[.int .u8 xl] 5)).appB HG8.out hr8 (by simp) HA8.out
      have K6 := ((Kept.refl (OwnW w q wc.heap.size vV3 vC3 vB3) W2).alloc (.cells #[.int .u8 xl] 5)).trans k6
      have N6 := n6.of_alloc
      have bs6 := blk_same HBs.out (K6.block _ hzW (fun h => Nat.lt_irrefl _ (HnS.out _ h)))
      generalize W5.setCell ⟨wc.heap.size, 0, none⟩ (.slice (some ⟨g8, 0, none⟩) (pre.length + 1) cap8) = W6 at *
      have HK6 := Lib.hid K6
      have HN6 := Lib.hid N6
      have HS6 := Lib.hid s6
      have HB6 := Lib.hid bs6
      obtain ⟨lq6, t0, -, t1, -, t2, -⟩ := s6.tr.three
      obtain ⟨ls6, u0, u1, u2, u3, -⟩ := four bs6
      have hbs6 := s6.bs
      have hz6 := K6.size
      clear s6 k6 n6 K6 N6 bs6 hr8 HR8 HG8 HA8 y0 y1 y2 lbx bx0 bxf s0 s1 s2 s3 HBs HS3
      gi_upto_region 10 with (first
        | (gi_at_builtin; refine wpListIn_append_lies rfl (.tmp 44) (.tmp 47) 30 rfl w1.heap.size 3 i3 _ 1 8 Tryz.underlying30 hi3 a30 a31 a32 rfl (by decide) vC3 _ _ rfl (HS6.out.alloc (.cells #[.int .i64 xc] 3)).rC ⟨W6.heap.size, 0, none⟩ 1 1 [.int .i64 xc] rfl rfl (World.news_of_block (heap_alloc_new _ _)) (by simp [Value.oneCell']) (by decide) (by unfold maxLen; simp [intsV]; omega) (by simp [intsV]; omega) (by simp; omega) ?_; intro g9 cap9 W8 hr9 hg9 hat9 hlt9; obtain ⟨y0, z0, zf0, z1, zf1, z2, zf2⟩ := ((HS6.out.alloc (.cells #[.int .i64 xc] 3)).tr.grown hg9 (fun e => own_blk_ne (HS6.out.alloc (.cells #[.int .i64 xc] 3)).rC (HS6.out.alloc (.cells #[.int .i64 xc] 3)).tr (by decide) e.symm)).three; have HR9 := Lib.hid hr9; have HG9 := Lib.hid hg9; have HA9 := Lib.hid hat9; clear hr9 hg9 hat9))
      obtain ⟨s9, k9, n9⟩ := (HS6.out.alloc (.cells #[.int .i64 xc] 3)).appC HG9.out HR9.out rfl HA9.out
      have K9 := ((Kept.refl (OwnW w q wc.heap.size vV3 vC3 (.slice (some ⟨g8, 0, none⟩) (pre.length + 1) cap8)) W6).alloc (.cells #[.int .i64 xc] 3)).trans k9
      have N9 := n9.of_alloc
      have bs9 := blk_same HB6.out (K9.block W.heap.size (by omega) (fun h => by
        rcases HN6.out _ h with e | e
        · exact Nat.lt_irrefl _ (HnS.out _ e)
        · omega))
      have K29 := HK6.out.then K9 HN6.out
      have N29 := HN6.out.trans N9 hz6 K9.size
      obtain ⟨lV, hlV⟩ : ∃ l, intsV ((beginS T c).come ++ newV T pre) = l := ⟨_, rfl⟩
      obtain ⟨lC3, hlC⟩ : ∃ l, intsV ((c : Int) :: pre.map (·.corner)) = l := ⟨_, rfl⟩
      rw [hlC] at s9 k9 n9 K9 N9 bs9 K29 N29
      rw [hlV] at s9
      rw [hlC]
      have HlV := Lib.hid hlV
      have HlC := Lib.hid hlC
      generalize W8.setCell ⟨q, 2, none⟩ (.slice (some ⟨g9, 0, none⟩) (lC3.length + 1) cap9) = W9 at *
      have HS9 := Lib.hid s9
      have HB9 := Lib.hid bs9
      have HK9 := Lib.hid K29
      have HN9 := Lib.hid N29
      obtain ⟨ls9, u0, u1, u2, u3, -⟩ := four bs9
      have hz9 : W2.heap.size ≤ W9.heap.size := K29.size
      clear s9 k9 n9 K9 N9 bs9 K29 N29 HR9 HG9 HA9 hlV hlC y0 z0 zf0 z1 zf1 z2 zf2 t0 t1 t2 HS6 HB6 HK6 HN6
      by_cases h67 : xl = 67
      · subst h67
        have hlVl : lV.length ≤ 8200 := by
          rw [← HlV.out]
          have := List.length_filter_le (fun x : WStep => decide (x.letter = 67)) pre
          simp only [intsV, newV, beginS, List.length_map, List.length_append, List.length_cons, List.length_nil]
          omega
        gi_upto_region 11 with fail
        refine wpIn_region_state (by kernel_rfl) (fun listed a X => ∃ u53 u54 u55 u56 u57 u58 u59 u60 u61 : Value, a = { tmps := List.toArray (.pointer (some ⟨g, 0, none⟩) :: .int .i64 (c : Int) :: .pointer (some ⟨w.heap.size, 0, none⟩) :: undef :: .pointer (some ⟨w.heap.size + 1, 0, none⟩) :: .int .i64 0 :: .int .i64 0 :: .pointer (some ⟨q, 0, none⟩) :: .pointer (some ⟨wc.heap.size, 0, none⟩) :: .pointer (some ⟨W.heap.size, 0, none⟩) :: .pointer (some ⟨g, 0, none⟩) :: .int .i64 (c : Int) :: .int .i64 0 :: .int .i64 0 :: .bool false :: undef :: undef :: u17 :: u18 :: u19 :: u20 :: u21 :: u22 :: u23 :: u24 :: u25 :: u26 :: u27 :: u28 :: u29 :: u30 :: u31 :: u32 :: u33 :: .pointer (some ⟨g, 0, none⟩) :: .int .i64 (c : Int) :: .func (.func 64) #[] #[.pointer (some ⟨W3.heap.size, 0, none⟩), .pointer (some ⟨W3.heap.size + 1, 0, none⟩)] :: .agg #[.int .u8 67, .int .i64 xc, .int .i64 xo, .int .i64 xn] :: vB3 :: .pointer (some ⟨W.heap.size, 0, none⟩) :: .int .u8 67 :: .slice (some ⟨W2.heap.size, 0, none⟩) 1 1 :: .slice (some ⟨g8, 0, none⟩) (pre.length + 1) cap8 :: .pointer (some ⟨q, 2, none⟩) :: vC3 :: .pointer (some ⟨W.heap.size, 1, none⟩) :: .int .i64 xc :: .slice (some ⟨W6.heap.size, 0, none⟩) 1 1 :: .slice (some ⟨g9, 0, none⟩) (lC3.length + 1) cap9 :: .pointer (some ⟨q, 2, none⟩) :: .pointer (some ⟨W.heap.size, 0, none⟩) :: .int .u8 67 :: .bool true :: u53 :: u54 :: u55 :: u56 :: u57 :: u58 :: u59 :: u60 :: u61 :: undef :: undef :: undef :: undef :: []), defers := [] } ∧ (listed.getD 0 false = true → u53 = .pointer (some ⟨q, 1, none⟩)) ∧ (listed.getD 1 false = true → u54 = vV3) ∧ (listed.getD 2 false = true → u55 = .pointer (some ⟨g, 0, none⟩)) ∧ (listed.getD 3 false = true → u56 = .pointer (some ⟨W.heap.size, 1, none⟩)) ∧ (listed.getD 4 false = true → u57 = .int .i64 xc) ∧ (listed.getD 5 false = true → u58 = .int .i64 (vertI T xc)) ∧ (listed.getD 6 false = true → listed.getD 7 false = false → ∃ p, u59 = .slice (some ⟨p, 0, none⟩) 1 1 ∧ Blk X p 3 #[.int .i64 (vertI T xc)]) ∧ (listed.getD 8 false = true → u61 = .pointer (some ⟨q, 1, none⟩)) ∧ (listed.getD 7 false = false → WkS w w1.heap.size q wc.heap.size g lV (lC3 ++ [.int .i64 xc]) ((pre.map fun x => Value.int .u8 x.letter) ++ [.int .u8 67]) vV3 (.slice (some ⟨g9, 0, none⟩) (lC3.length + 1) cap9) (.slice (some ⟨g8, 0, none⟩) (pre.length + 1) cap8) X ∧ Blk X W.heap.size 82 #[.int .u8 67, .int .i64 xc, .int .i64 xo, .int .i64 xn] ∧ Kept (OwnW w q wc.heap.size vV3 (.slice (some ⟨g9, 0, none⟩) (lC3.length + 1) cap9) (.slice (some ⟨g8, 0, none⟩) (pre.length + 1) cap8)) W9 X) ∧ (listed.getD 7 false = true → listed.getD 9 false = false → ∃ Wm g1 cap1, u60 = .slice (some ⟨g1, 0, none⟩) (lV.length + 1) cap1 ∧ Wm.grownBy X vV3.ownBlock ∧ WkS w w1.heap.size q wc.heap.size g lV (lC3 ++ [.int .i64 xc]) ((pre.map fun x => Value.int .u8 x.letter) ++ [.int .u8 67]) vV3 (.slice (some ⟨g9, 0, none⟩) (lC3.length + 1) cap9) (.slice (some ⟨g8, 0, none⟩) (pre.length + 1) cap8) Wm ∧ Kept (OwnW w q wc.heap.size vV3 (.slice (some ⟨g9, 0, none⟩) (lC3.length + 1) cap9) (.slice (some ⟨g8, 0, none⟩) (pre.length + 1) cap8)) W9 Wm ∧ X.ownsRow w1.heap.size 3 1 (.slice (some ⟨g1, 0, none⟩) (lV.length + 1) cap1) (lV.length + 1) (lV ++ [.int .i64 (vertI T xc)]) ∧ (vV3.ownBlock = some g1 ∨ g1 = Wm.heap.size)) ∧ (listed.getD 9 false = true → ∃ g1 cap1, WkS w w1.heap.size q wc.heap.size g (lV ++ [.int .i64 (vertI T xc)]) (lC3 ++ [.int .i64 xc]) ((pre.map fun x => Value.int .u8 x.letter) ++ [.int .u8 67]) (.slice (some ⟨g1, 0, none⟩) (lV.length + 1) cap1) (.slice (some ⟨g9, 0, none⟩) (lC3.length + 1) cap9) (.slice (some ⟨g8, 0, none⟩) (pre.length + 1) cap8) X ∧ Kept (OwnW w q wc.heap.size vV3 (.slice (some ⟨g9, 0, none⟩) (lC3.length + 1) cap9) (.slice (some ⟨g8, 0, none⟩) (pre.length + 1) cap8)) W9 X ∧ Anew (OwnW w q wc.heap.size vV3 (.slice (some ⟨g9, 0, none⟩) (lC3.length + 1) cap9) (.slice (some ⟨g8, 0, none⟩) (pre.length + 1) cap8)) (OwnW w q wc.heap.size (.slice (some ⟨g1, 0, none⟩) (lV.length + 1) cap1) (.slice (some ⟨g9, 0, none⟩) (lC3.length + 1) cap9) (.slice (some ⟨g8, 0, none⟩) (pre.length + 1) cap8)) W9 X) ∧ (listed.getD 1 false = true → listed.getD 0 false = true) ∧ (listed.getD 4 false = true → listed.getD 3 false = true) ∧ (listed.getD 5 false = true → listed.getD 2 false = true) ∧ (listed.getD 5 false = true → listed.getD 4 false = true) ∧ (listed.getD 6 false = true → listed.getD 5 false = true) ∧ (listed.getD 7 false = true → listed.getD 1 false = true) ∧ (listed.getD 7 false = true → listed.getD 6 false = true) ∧ (listed.getD 9 false = true → listed.getD 7 false = true)) ?_ ?_ ?_ ?_
        · intro i o ho e he
          have hi : i < 10 := (Array.getElem?_eq_some_iff.1 ho).1
          rcases (by omega : i = 0 ∨ i = 1 ∨ i = 2 ∨ i = 3 ∨ i = 4 ∨ i = 5 ∨ i = 6 ∨ i = 7 ∨ i = 8 ∨ i = 9) with rfl | rfl | rfl | rfl | rfl | rfl | rfl | rfl | rfl | rfl <;> (obtain rfl := Option.some.inj ho; revert e; decide)
        · refine ⟨_, _, _, _, _, _, _, _, _, rfl, fun h => absurd h (by decide), fun h => absurd h (by decide), fun h => absurd h (by decide), fun h => absurd h (by decide), fun h => absurd h (by decide), fun h => absurd h (by decide), fun h => absurd h (by decide), fun h => absurd h (by decide), fun _ => ⟨HS9.out.drew, HB9.out.drew, (Kept.refl _ _).drew⟩, fun h => absurd h (by decide), fun h => absurd h (by decide), fun h => absurd h (by decide), fun h => absurd h (by decide), fun h => absurd h (by decide), fun h => absurd h (by decide), fun h => absurd h (by decide), fun h => absurd h (by decide), fun h => absurd h (by decide), fun h => absurd h (by decide)⟩
        · intro i o listed a X ho hsz hun hd hI K hK
          have hi : i < 10 := (Array.getElem?_eq_some_iff.1 ho).1
          have hsz' : listed.size = 10 := hsz
          obtain ⟨u53, u54, u55, u56, u57, u58, u59, u60, u61, rfl, p0, p1, p2, p3, p4, p5, p6, p8, pA, pB, pC, z1_0, z4_3, z5_2, z5_4, z6_5, z7_1, z7_6, z9_7⟩ := hI
          have st : ∀ j k, j ≠ k → (listed.setIfInBounds j true).getD k false = true → listed.getD k false = true := fun j k h e => by rw [getD_set_ne false h] at e; exact e
          have sf : ∀ j k, j ≠ k → (listed.setIfInBounds j true).getD k false = false → listed.getD k false = false := fun j k h e => by rw [getD_set_ne false h] at e; exact e
          have nl : listed.getD i false = true → False := fun h => by
            have h2 : i < listed.size := by omega
            simp only [Array.getD_eq_getD_getElem?, Array.getElem?_eq_getElem h2, Option.getD_some] at h hun
            rw [h] at hun
            cases hun
          have tt : (listed.setIfInBounds i true).getD i false = true := by simp [Array.getD_eq_getD_getElem?, hsz', hi]
          rcases (by omega : i = 0 ∨ i = 1 ∨ i = 2 ∨ i = 3 ∨ i = 4 ∨ i = 5 ∨ i = 6 ∨ i = 7 ∨ i = 8 ∨ i = 9) with rfl | rfl | rfl | rfl | rfl | rfl | rfl | rfl | rfl | rfl
          · obtain rfl := Option.some.inj ho
            have h7f : listed.getD 7 false = false := by
              cases h7 : listed.getD 7 false with
              | false => rfl
              | true => exact (nl (z1_0 (z7_1 h7))).elim
            obtain ⟨s9, b9, k9⟩ := pA h7f
            obtain ⟨lq, t0, -, t1, -, t2, -⟩ := s9.tr.three
            obtain ⟨ls, e0, e1, e2, e3, -⟩ := four b9
            obtain ⟨lt, x0, -⟩ := s9.t.one
            go_simp
            exact hK _ _ ⟨_, _, _, _, _, _, _, _, _, rfl, fun _ => rfl, fun h => p1 (st 0 1 (by decide) h), fun h => p2 (st 0 2 (by decide) h), fun h => p3 (st 0 3 (by decide) h), fun h => p4 (st 0 4 (by decide) h), fun h => p5 (st 0 5 (by decide) h), fun h h2 => p6 (st 0 6 (by decide) h) (sf 0 7 (by decide) h2), fun h => p8 (st 0 8 (by decide) h), fun h => pA (sf 0 7 (by decide) h), fun h h2 => pB (st 0 7 (by decide) h) (sf 0 9 (by decide) h2), fun h => pC (st 0 9 (by decide) h), fun h => getD_set_true (z1_0 (st 0 1 (by decide) h)), fun h => getD_set_true (z4_3 (st 0 4 (by decide) h)), fun h => getD_set_true (z5_2 (st 0 5 (by decide) h)), fun h => getD_set_true (z5_4 (st 0 5 (by decide) h)), fun h => getD_set_true (z6_5 (st 0 6 (by decide) h)), fun h => getD_set_true (z7_1 (st 0 7 (by decide) h)), fun h => getD_set_true (z7_6 (st 0 7 (by decide) h)), fun h => getD_set_true (z9_7 (st 0 9 (by decide) h))⟩
          · obtain rfl := Option.some.inj ho
            have h7f : listed.getD 7 false = false := by
              cases h7 : listed.getD 7 false with
              | false => rfl
              | true => exact (nl (z7_1 h7)).elim
            obtain ⟨s9, b9, k9⟩ := pA h7f
            obtain ⟨lq, t0, -, t1, -, t2, -⟩ := s9.tr.three
            obtain ⟨ls, e0, e1, e2, e3, -⟩ := four b9
            obtain ⟨lt, x0, -⟩ := s9.t.one
            obtain rfl := p0 (hd ⟨0, .data⟩ (by simp) rfl)
            go_simp
            exact hK _ _ ⟨_, _, _, _, _, _, _, _, _, rfl, fun h => p0 (st 1 0 (by decide) h), fun _ => rfl, fun h => p2 (st 1 2 (by decide) h), fun h => p3 (st 1 3 (by decide) h), fun h => p4 (st 1 4 (by decide) h), fun h => p5 (st 1 5 (by decide) h), fun h h2 => p6 (st 1 6 (by decide) h) (sf 1 7 (by decide) h2), fun h => p8 (st 1 8 (by decide) h), fun h => pA (sf 1 7 (by decide) h), fun h h2 => pB (st 1 7 (by decide) h) (sf 1 9 (by decide) h2), fun h => pC (st 1 9 (by decide) h), fun _ => getD_set_true (hd ⟨0, .data⟩ (by simp) rfl), fun h => getD_set_true (z4_3 (st 1 4 (by decide) h)), fun h => getD_set_true (z5_2 (st 1 5 (by decide) h)), fun h => getD_set_true (z5_4 (st 1 5 (by decide) h)), fun h => getD_set_true (z6_5 (st 1 6 (by decide) h)), fun h => getD_set_true (z7_1 (st 1 7 (by decide) h)), fun h => getD_set_true (z7_6 (st 1 7 (by decide) h)), fun h => getD_set_true (z9_7 (st 1 9 (by decide) h))⟩
          · obtain rfl := Option.some.inj ho
            have h7f : listed.getD 7 false = false := by
              cases h7 : listed.getD 7 false with
              | false => rfl
              | true => exact (nl (z5_2 (z6_5 (z7_6 h7)))).elim
            obtain ⟨s9, b9, k9⟩ := pA h7f
            obtain ⟨lq, t0, -, t1, -, t2, -⟩ := s9.tr.three
            obtain ⟨ls, e0, e1, e2, e3, -⟩ := four b9
            obtain ⟨lt, x0, -⟩ := s9.t.one
            go_simp
            exact hK _ _ ⟨_, _, _, _, _, _, _, _, _, rfl, fun h => p0 (st 2 0 (by decide) h), fun h => p1 (st 2 1 (by decide) h), fun _ => rfl, fun h => p3 (st 2 3 (by decide) h), fun h => p4 (st 2 4 (by decide) h), fun h => p5 (st 2 5 (by decide) h), fun h h2 => p6 (st 2 6 (by decide) h) (sf 2 7 (by decide) h2), fun h => p8 (st 2 8 (by decide) h), fun h => pA (sf 2 7 (by decide) h), fun h h2 => pB (st 2 7 (by decide) h) (sf 2 9 (by decide) h2), fun h => pC (st 2 9 (by decide) h), fun h => getD_set_true (z1_0 (st 2 1 (by decide) h)), fun h => getD_set_true (z4_3 (st 2 4 (by decide) h)), fun h => getD_set_true (z5_2 (st 2 5 (by decide) h)), fun h => getD_set_true (z5_4 (st 2 5 (by decide) h)), fun h => getD_set_true (z6_5 (st 2 6 (by decide) h)), fun h => getD_set_true (z7_1 (st 2 7 (by decide) h)), fun h => getD_set_true (z7_6 (st 2 7 (by decide) h)), fun h => getD_set_true (z9_7 (st 2 9 (by decide) h))⟩
          · obtain rfl := Option.some.inj ho
            have h7f : listed.getD 7 false = false := by
              cases h7 : listed.getD 7 false with
              | false => rfl
              | true => exact (nl (z4_3 (z5_4 (z6_5 (z7_6 h7))))).elim
            obtain ⟨s9, b9, k9⟩ := pA h7f
            obtain ⟨lq, t0, -, t1, -, t2, -⟩ := s9.tr.three
            obtain ⟨ls, e0, e1, e2, e3, -⟩ := four b9
            obtain ⟨lt, x0, -⟩ := s9.t.one
            go_simp
            exact hK _ _ ⟨_, _, _, _, _, _, _, _, _, rfl, fun h => p0 (st 3 0 (by decide) h), fun h => p1 (st 3 1 (by decide) h), fun h => p2 (st 3 2 (by decide) h), fun _ => rfl, fun h => p4 (st 3 4 (by decide) h), fun h => p5 (st 3 5 (by decide) h), fun h h2 => p6 (st 3 6 (by decide) h) (sf 3 7 (by decide) h2), fun h => p8 (st 3 8 (by decide) h), fun h => pA (sf 3 7 (by decide) h), fun h h2 => pB (st 3 7 (by decide) h) (sf 3 9 (by decide) h2), fun h => pC (st 3 9 (by decide) h), fun h => getD_set_true (z1_0 (st 3 1 (by decide) h)), fun h => getD_set_true (z4_3 (st 3 4 (by decide) h)), fun h => getD_set_true (z5_2 (st 3 5 (by decide) h)), fun h => getD_set_true (z5_4 (st 3 5 (by decide) h)), fun h => getD_set_true (z6_5 (st 3 6 (by decide) h)), fun h => getD_set_true (z7_1 (st 3 7 (by decide) h)), fun h => getD_set_true (z7_6 (st 3 7 (by decide) h)), fun h => getD_set_true (z9_7 (st 3 9 (by decide) h))⟩
          · obtain rfl := Option.some.inj ho
            have h7f : listed.getD 7 false = false := by
              cases h7 : listed.getD 7 false with
              | false => rfl
              | true => exact (nl (z5_4 (z6_5 (z7_6 h7)))).elim
            obtain ⟨s9, b9, k9⟩ := pA h7f
            obtain ⟨lq, t0, -, t1, -, t2, -⟩ := s9.tr.three
            obtain ⟨ls, e0, e1, e2, e3, -⟩ := four b9
            obtain ⟨lt, x0, -⟩ := s9.t.one
            obtain rfl := p3 (hd ⟨3, .data⟩ (by simp) rfl)
            go_simp
            exact hK _ _ ⟨_, _, _, _, _, _, _, _, _, rfl, fun h => p0 (st 4 0 (by decide) h), fun h => p1 (st 4 1 (by decide) h), fun h => p2 (st 4 2 (by decide) h), fun h => p3 (st 4 3 (by decide) h), fun _ => rfl, fun h => p5 (st 4 5 (by decide) h), fun h h2 => p6 (st 4 6 (by decide) h) (sf 4 7 (by decide) h2), fun h => p8 (st 4 8 (by decide) h), fun h => pA (sf 4 7 (by decide) h), fun h h2 => pB (st 4 7 (by decide) h) (sf 4 9 (by decide) h2), fun h => pC (st 4 9 (by decide) h), fun h => getD_set_true (z1_0 (st 4 1 (by decide) h)), fun _ => getD_set_true (hd ⟨3, .data⟩ (by simp) rfl), fun h => getD_set_true (z5_2 (st 4 5 (by decide) h)), fun h => getD_set_true (z5_4 (st 4 5 (by decide) h)), fun h => getD_set_true (z6_5 (st 4 6 (by decide) h)), fun h => getD_set_true (z7_1 (st 4 7 (by decide) h)), fun h => getD_set_true (z7_6 (st 4 7 (by decide) h)), fun h => getD_set_true (z9_7 (st 4 9 (by decide) h))⟩
          · obtain rfl := Option.some.inj ho
            have h7f : listed.getD 7 false = false := by
              cases h7 : listed.getD 7 false with
              | false => rfl
              | true => exact (nl (z6_5 (z7_6 h7))).elim
            obtain ⟨s9, b9, k9⟩ := pA h7f
            obtain ⟨lq, t0, -, t1, -, t2, -⟩ := s9.tr.three
            obtain ⟨ls, e0, e1, e2, e3, -⟩ := four b9
            obtain ⟨lt, x0, -⟩ := s9.t.one
            obtain rfl := p2 (hd ⟨2, .data⟩ (by simp) rfl)
            obtain rfl := p4 (hd ⟨4, .data⟩ (by simp) rfl)
            go_simp
            refine ⟨trivial, (CallsIn.inRound l (callsIn_wide.2 (vertex_any g n xc T X (HT.out X s9.below).toTabS))).mono ?_⟩
            rintro e w2 ⟨rfl, rfl⟩
            exact hK _ _ ⟨_, _, _, _, _, _, _, _, _, rfl, fun h => p0 (st 5 0 (by decide) h), fun h => p1 (st 5 1 (by decide) h), fun h => p2 (st 5 2 (by decide) h), fun h => p3 (st 5 3 (by decide) h), fun h => p4 (st 5 4 (by decide) h), fun _ => rfl, fun h h2 => p6 (st 5 6 (by decide) h) (sf 5 7 (by decide) h2), fun h => p8 (st 5 8 (by decide) h), fun h => pA (sf 5 7 (by decide) h), fun h h2 => pB (st 5 7 (by decide) h) (sf 5 9 (by decide) h2), fun h => pC (st 5 9 (by decide) h), fun h => getD_set_true (z1_0 (st 5 1 (by decide) h)), fun h => getD_set_true (z4_3 (st 5 4 (by decide) h)), fun _ => getD_set_true (hd ⟨2, .data⟩ (by simp) rfl), fun _ => getD_set_true (hd ⟨4, .data⟩ (by simp) rfl), fun h => getD_set_true (z6_5 (st 5 6 (by decide) h)), fun h => getD_set_true (z7_1 (st 5 7 (by decide) h)), fun h => getD_set_true (z7_6 (st 5 7 (by decide) h)), fun h => getD_set_true (z9_7 (st 5 9 (by decide) h))⟩
          · obtain rfl := Option.some.inj ho
            have h7f : listed.getD 7 false = false := by
              cases h7 : listed.getD 7 false with
              | false => rfl
              | true => exact (nl (z7_6 h7)).elim
            obtain ⟨s9, b9, k9⟩ := pA h7f
            obtain ⟨lq, t0, -, t1, -, t2, -⟩ := s9.tr.three
            obtain ⟨ls, e0, e1, e2, e3, -⟩ := four b9
            obtain ⟨lt, x0, -⟩ := s9.t.one
            obtain rfl := p5 (hd ⟨5, .data⟩ (by simp) rfl)
            go_simp
            exact hK _ _ ⟨_, _, _, _, _, _, _, _, _, rfl, fun h => p0 (st 6 0 (by decide) h), fun h => p1 (st 6 1 (by decide) h), fun h => p2 (st 6 2 (by decide) h), fun h => p3 (st 6 3 (by decide) h), fun h => p4 (st 6 4 (by decide) h), fun h => p5 (st 6 5 (by decide) h), fun _ _ => ⟨_, rfl, Blk.new _ _ _⟩, fun h => p8 (st 6 8 (by decide) h), fun _ => ⟨s9.alloc _, b9.alloc _, k9.alloc _⟩, fun h _ => (by have := st 6 7 (by decide) h; rw [h7f] at this; cases this), fun h => (by have := z9_7 (st 6 9 (by decide) h); rw [h7f] at this; cases this), fun h => getD_set_true (z1_0 (st 6 1 (by decide) h)), fun h => getD_set_true (z4_3 (st 6 4 (by decide) h)), fun h => getD_set_true (z5_2 (st 6 5 (by decide) h)), fun h => getD_set_true (z5_4 (st 6 5 (by decide) h)), fun _ => getD_set_true (hd ⟨5, .data⟩ (by simp) rfl), fun h => getD_set_true (z7_1 (st 6 7 (by decide) h)), fun h => getD_set_true (z7_6 (st 6 7 (by decide) h)), fun h => getD_set_true (z9_7 (st 6 9 (by decide) h))⟩
          · obtain rfl := Option.some.inj ho
            have h7f : listed.getD 7 false = false := by
              cases h7 : listed.getD 7 false with
              | false => rfl
              | true => exact (nl h7).elim
            obtain ⟨s9, b9, k9⟩ := pA h7f
            have g1 := hd ⟨1, .data⟩ (by simp) rfl
            have g6 := hd ⟨6, .data⟩ (by simp) rfl
            have e54 := p1 g1
            obtain ⟨p, e59, bp⟩ := p6 g6 h7f
            rw [if_pos (by rfl)]
            refine operIn_append_lies (.tmp 54) (.tmp 59) 30 rfl w1.heap.size 3 i3 _ 1 8 Tryz.underlying30 hi3 a30 a31 a32 rfl (by decide) vV3 _ _ e54 s9.rV ⟨p, 0, none⟩ 1 1 [.int .i64 (vertI T xc)] e59 rfl (World.news_of_block bp) (by simp [Value.oneCell']) (by decide) (by unfold maxLen; omega) (by omega) s9.bs ?_
            intro g1 cap1 Wm hr hg hat hlt
            exact hK _ _ ⟨_, _, _, _, _, _, _, _, _, rfl, fun h => p0 (st 7 0 (by decide) h), fun h => p1 (st 7 1 (by decide) h), fun h => p2 (st 7 2 (by decide) h), fun h => p3 (st 7 3 (by decide) h), fun h => p4 (st 7 4 (by decide) h), fun h => p5 (st 7 5 (by decide) h), fun _ h2 => (by rw [tt] at h2; cases h2), fun h => p8 (st 7 8 (by decide) h), fun h => (by rw [tt] at h; cases h), fun _ _ => ⟨X, g1, cap1, rfl, hg, s9, k9, hr, hat⟩, fun h => (nl (z9_7 (st 7 9 (by decide) h))).elim, fun h => getD_set_true (z1_0 (st 7 1 (by decide) h)), fun h => getD_set_true (z4_3 (st 7 4 (by decide) h)), fun h => getD_set_true (z5_2 (st 7 5 (by decide) h)), fun h => getD_set_true (z5_4 (st 7 5 (by decide) h)), fun h => getD_set_true (z6_5 (st 7 6 (by decide) h)), fun _ => getD_set_true (hd ⟨1, .data⟩ (by simp) rfl), fun _ => getD_set_true (hd ⟨6, .data⟩ (by simp) rfl), fun h => getD_set_true (z9_7 (st 7 9 (by decide) h))⟩
          · obtain rfl := Option.some.inj ho
            go_simp
            exact hK _ _ ⟨_, _, _, _, _, _, _, _, _, rfl, fun h => p0 (st 8 0 (by decide) h), fun h => p1 (st 8 1 (by decide) h), fun h => p2 (st 8 2 (by decide) h), fun h => p3 (st 8 3 (by decide) h), fun h => p4 (st 8 4 (by decide) h), fun h => p5 (st 8 5 (by decide) h), fun h h2 => p6 (st 8 6 (by decide) h) (sf 8 7 (by decide) h2), fun _ => rfl, fun h => pA (sf 8 7 (by decide) h), fun h h2 => pB (st 8 7 (by decide) h) (sf 8 9 (by decide) h2), fun h => pC (st 8 9 (by decide) h), fun h => getD_set_true (z1_0 (st 8 1 (by decide) h)), fun h => getD_set_true (z4_3 (st 8 4 (by decide) h)), fun h => getD_set_true (z5_2 (st 8 5 (by decide) h)), fun h => getD_set_true (z5_4 (st 8 5 (by decide) h)), fun h => getD_set_true (z6_5 (st 8 6 (by decide) h)), fun h => getD_set_true (z7_1 (st 8 7 (by decide) h)), fun h => getD_set_true (z7_6 (st 8 7 (by decide) h)), fun h => getD_set_true (z9_7 (st 8 9 (by decide) h))⟩
          · obtain rfl := Option.some.inj ho
            have g7 := hd ⟨7, .data⟩ (by simp) rfl
            have h9f : listed.getD 9 false = false := by
              cases h9 : listed.getD 9 false with
              | false => rfl
              | true => exact (nl h9).elim
            obtain ⟨Wm, g1, cap1, rfl, hg, s9, k9, hr, hat⟩ := pB g7 h9f
            obtain rfl := p8 (hd ⟨8, .data⟩ (by simp) rfl)
            obtain ⟨lq, t0, -, t1, tf1, t2, -⟩ := (s9.tr.grown hg (fun e => own_blk_ne s9.rV s9.tr (by decide) e.symm)).three
            obtain ⟨a1, a2, a3⟩ := s9.appV hg hr rfl hat
            have a4 := k9.trans a2
            have a5 : Anew (OwnW w q wc.heap.size vV3 (.slice (some ⟨g9, 0, none⟩) (lC3.length + 1) cap9) (.slice (some ⟨g8, 0, none⟩) (pre.length + 1) cap8)) (OwnW w q wc.heap.size (.slice (some ⟨g1, 0, none⟩) (lV.length + 1) cap1) (.slice (some ⟨g9, 0, none⟩) (lC3.length + 1) cap9) (.slice (some ⟨g8, 0, none⟩) (pre.length + 1) cap8)) W9 (X.setCell ⟨q, 1, none⟩ (.slice (some ⟨g1, 0, none⟩) (lV.length + 1) cap1)) := fun j hj => (a3 j hj).imp id (fun e => ⟨Nat.le_trans k9.size e.1, e.2⟩)
            go_simp
            exact hK _ _ ⟨_, _, _, _, _, _, _, _, _, rfl, fun h => p0 (st 9 0 (by decide) h), fun h => (by first | rfl | exact p1 (st 9 1 (by decide) h)), fun h => p2 (st 9 2 (by decide) h), fun h => p3 (st 9 3 (by decide) h), fun h => p4 (st 9 4 (by decide) h), fun h => p5 (st 9 5 (by decide) h), fun _ h2 => (by have := sf 9 7 (by decide) h2; rw [g7] at this; cases this), fun h => p8 (st 9 8 (by decide) h), fun h => (by have := sf 9 7 (by decide) h; rw [g7] at this; cases this), fun _ h => (by rw [tt] at h; cases h), fun _ => ⟨g1, cap1, a1, a4, a5⟩, fun h => getD_set_true (z1_0 (st 9 1 (by decide) h)), fun h => getD_set_true (z4_3 (st 9 4 (by decide) h)), fun h => getD_set_true (z5_2 (st 9 5 (by decide) h)), fun h => getD_set_true (z5_4 (st 9 5 (by decide) h)), fun h => getD_set_true (z6_5 (st 9 6 (by decide) h)), fun h => getD_set_true (z7_1 (st 9 7 (by decide) h)), fun h => getD_set_true (z7_6 (st 9 7 (by decide) h)), fun _ => getD_set_true (hd ⟨7, .data⟩ (by simp) rfl)⟩
        · rintro listed a X hall ⟨u53, u54, u55, u56, u57, u58, u59, u60, u61, rfl, p0, p1, p2, p3, p4, p5, p6, p8, pA, pB, pC, z1_0, z4_3, z5_2, z5_4, z6_5, z7_1, z7_6, z9_7⟩
          obtain ⟨g1, cap1, a1, a4, a5⟩ := pC (hall 9 (by decide))
          clear p0 p1 p2 p3 p4 p5 p6 p8 pA pB pC z1_0 z4_3 z5_2 z5_4 z6_5 z7_1 z7_6 z9_7 hall
          gi_wp2
          refine ⟨(HK9.out.then a4 HN9.out).mono (fun k h => (HC3.out k).2 h), _, fun k h => ((HN9.out.trans a5 hz9 a4.size) k h).imp (HC3.out k).2 id, _, _, _, fun _ => Iff.rfl, ?_⟩
          have e1 : intsV ((beginS T c).come ++ newV T (pre ++ [(⟨67, xc, xo, xn⟩ : WStep)])) = lV ++ [.int .i64 (vertI T xc)] := by
            rw [newV_snoc, if_pos rfl, ← List.append_assoc, intsV_snoc, HlV.out]
          have e2 : intsV ((c : Int) :: (pre ++ [(⟨67, xc, xo, xn⟩ : WStep)]).map (fun x : WStep => x.corner)) = lC3 ++ [.int .i64 xc] := by
            rw [← HlC.out, List.map_append, ← List.cons_append]
            exact intsV_snoc _ _
          rw [e1, e2, List.map_append]
          exact a1
      · have n67 : (xl == 67) = false := by simpa using h67
        gi_wp2
        refine ⟨HK9.out.mono (fun k h => (HC3.out k).2 h), _, fun k h => (HN9.out k h).imp (HC3.out k).2 id, _, _, _, fun _ => Iff.rfl, ?_⟩
        have e1 : intsV ((beginS T c).come ++ newV T (pre ++ [(⟨xl, xc, xo, xn⟩ : WStep)])) = lV := by
          rw [newV_snoc, if_neg h67, List.append_nil, HlV.out]
        have e2 : intsV ((c : Int) :: (pre ++ [(⟨xl, xc, xo, xn⟩ : WStep)]).map (fun x : WStep => x.corner)) = lC3 ++ [.int .i64 xc] := by
          rw [← HlC.out, List.map_append, ← List.cons_append]
          exact intsV_snoc _ _
        rw [e1, e2, List.map_append]
        exact HS9.out
    · rintro D xs C W hD hCD rfl ⟨vV5, vC5, vB5, hC5, hS5⟩ hK
      obtain ⟨aV, cV, rfl⟩ := ownsRow_slice hS5.rV
      obtain ⟨aC, cC, rfl⟩ := ownsRow_slice hS5.rC
      have hle := stepsM_facts HS.out hc
      have hcv := word_conv (P := Tryz.prog) Tryz.underlying25 Tryz.underlying5 Tryz.underlying9 hS5.rB hle.1 hle.2
      have hnD : ∀ k, OwnW w q wc.heap.size (.slice aV _ cV) (.slice aC _ cC) vB5 k → k ≠ D := fun k hk e => hCD (e ▸ (hC5 k).2 hk)
      obtain ⟨lq, t0, tf0, t1, -, t2, -⟩ := hS5.tr.three
      obtain ⟨lr5, r0, rf0, r1, rf1, r2, rf2⟩ := hS5.r.three
      obtain ⟨lb5, b0, -⟩ := hS5.bx.one
      have nq1 : q ≠ w.heap.size + 1 := by have := hS5.hq; omega
      have nq2 : w.heap.size + 1 ≠ q := fun e => nq1 e.symm
      have HS5 := Lib.hid hS5
      have HnD := Lib.hid hnD
      have hDq : D ≠ q := fun e => hnD q (.inr (.inr (.inl rfl))) e.symm
      have hDr : D ≠ w.heap.size + 1 := fun e => hnD _ (.inr (.inl rfl)) e.symm
      obtain ⟨nV, hnV⟩ : ∃ k, (intsV ((beginS T c).come ++ newV T (stepsM T c))).length = k := ⟨_, rfl⟩
      obtain ⟨nC, hnC⟩ : ∃ k, (intsV ((c : Int) :: (stepsM T c).map (·.corner))).length = k := ⟨_, rfl⟩
      rw [hnV] at HS5 HnD t1
      rw [hnC] at HS5 HnD t2
      have HnV := Lib.hid hnV
      have HnC := Lib.hid hnC
      clear hS5 hnD hC5 hCD Hbt Hbv HWk4 hnV hnC
      gi_wp2
      have hF : ∀ k, k ≠ q → k ≠ w.heap.size + 1 → ((((W.setCell ⟨q, 0, none⟩ (.string (wordS (stepsM T c)))).setCell ⟨w.heap.size + 1, 0, none⟩ (.string (wordS (stepsM T c)))).setCell ⟨w.heap.size + 1, 1, none⟩ (.slice aV nV cV)).setCell ⟨w.heap.size + 1, 2, none⟩ (.slice aC nC cC)).heap[k]? = W.heap[k]? := fun k h1 h2 =>
        (Below.heap_setCell _ _ _ k h2).trans ((Below.heap_setCell _ _ _ k h2).trans ((Below.heap_setCell _ _ _ k h2).trans (Below.heap_setCell _ _ _ k h1)))
      have hKF := (hF D hDq hDr).trans hK
      have bF : Blk ((((W.setCell ⟨q, 0, none⟩ (.string (wordS (stepsM T c)))).setCell ⟨w.heap.size + 1, 0, none⟩ (.string (wordS (stepsM T c)))).setCell ⟨w.heap.size + 1, 1, none⟩ (.slice aV nV cV)).setCell ⟨w.heap.size + 1, 2, none⟩ (.slice aC nC cC)) (w.heap.size + 1) 39 #[.string (wordS (stepsM T c)), .slice aV nV cV, .slice aC nC cC] := by
        have := ((((HS5.out.r.far (p := ⟨q, 0, none⟩) (by simp only; omega) (.string (wordS (stepsM T c)))).set_ 0 (.string (wordS (stepsM T c)))).set_ 1 (.slice aV nV cV)).set_ 2 (.slice aC nC cC))
        simpa using this
      have hBF : Below w.heap.size w ((((W.setCell ⟨q, 0, none⟩ (.string (wordS (stepsM T c)))).setCell ⟨w.heap.size + 1, 0, none⟩ (.string (wordS (stepsM T c)))).setCell ⟨w.heap.size + 1, 1, none⟩ (.slice aV nV cV)).setCell ⟨w.heap.size + 1, 2, none⟩ (.slice aC nC cC)) := (((HS5.out.below.setCell (p := ⟨q, 0, none⟩) (by simp only; omega) _).setCell (p := ⟨w.heap.size + 1, 0, none⟩) (by simp only; omega) _).setCell (p := ⟨w.heap.size + 1, 1, none⟩) (by simp only; omega) _).setCell (p := ⟨w.heap.size + 1, 2, none⟩) (by simp only; omega) _
      have hDw : w.heap.size ≤ D := by have := HS5.out.below.size; omega
      generalize ((((W.setCell ⟨q, 0, none⟩ (.string (wordS (stepsM T c)))).setCell ⟨w.heap.size + 1, 0, none⟩ (.string (wordS (stepsM T c)))).setCell ⟨w.heap.size + 1, 1, none⟩ (.slice aV nV cV)).setCell ⟨w.heap.size + 1, 2, none⟩ (.slice aC nC cC)) = WE at *
      refine ⟨by simp, .inl ⟨_, _, rfl, run_takeDeferred hKF, ?_⟩⟩
      have bG : Blk (WE.putObj D (.deferred none)) (w.heap.size + 1) 39 #[.string (wordS (stepsM T c)), .slice aV nV cV, .slice aC nC cC] := blk_same bF (World.putObj_heap_other (fun e => hDr e.symm))
      obtain ⟨-, p0, -, p1, -, p2, -⟩ := bG.three
      have sV : (WE.putObj D (.deferred none)).ownsRow w1.heap.size 3 1 (.slice aV nV cV) nV (intsV ((beginS T c).come ++ newV T (stepsM T c))) := by
        have := HS5.out.rV
        rw [HnV.out] at this
        exact own_same this (fun k e => (World.putObj_heap_other (HnD.out k (.inr (.inr (.inr (.inr (.inl e))))))).trans (hF k (fun e2 => own_blk_ne this HS5.out.tr (by decide) (by rw [e, e2])) (fun e2 => own_blk_ne this HS5.out.r (by decide) (by rw [e, e2]))))
      have sC : (WE.putObj D (.deferred none)).ownsRow w1.heap.size 3 1 (.slice aC nC cC) nC (intsV ((c : Int) :: (stepsM T c).map (·.corner))) := by
        have := HS5.out.rC
        rw [HnC.out] at this
        exact own_same this (fun k e => (World.putObj_heap_other (HnD.out k (.inr (.inr (.inr (.inr (.inr (.inl e)))))))).trans (hF k (fun e2 => own_blk_ne this HS5.out.tr (by decide) (by rw [e, e2])) (fun e2 => own_blk_ne this HS5.out.r (by decide) (by rw [e, e2]))))
      have eV : ((beginS T c).come ++ newV T (stepsM T c)).length = nV := by rw [← HnV.out]; simp [intsV]
      have eC : (stepsM T c).length.succ = nC := by rw [← HnC.out]; simp [intsV]
      refine ⟨.tuple #[.agg #[.string (wordS (stepsM T c)), .slice aV nV cV, .slice aC nC cC], .int .i64 0], ?_, ⟨.slice aV nV cV, .slice aC nC cC, rfl, ?_, ?_, hBF.trans (putObj_below hDw)⟩⟩
      · simp [results, Tryz.results13, go_sem, p0, p1, p2]
      · rw [eV]
        exact own_base sV (by omega)
      · rw [eC]
        exact own_base sC (by omega)
    · intro D cd pre C W _ _ _ h _
      exact h.elim
end Go.Proofs.YtpnkhgjjlionnaaGreat
namespace Go.Proofs.YtpnkhgjjlionnaaGreat
open Go.RowKit Go.Maps

variable {n c : Nat} {T : List Tr}
theorem walk_end (h : Simp n T) (hc : c < 3 * T.length) : ∃ s Xs, Ran T (beginS T c) (stepsM T c) s ∧ s.loop = [] ∧ Gone n T c (stepsM T c) s Xs ∧ Xs = [] := by
  obtain ⟨L, s, R, e⟩ := ends h hc
  have hL := R.steps h hc e
  subst hL
  obtain ⟨Xs, G⟩ := R.gone h hc
  refine ⟨s, Xs, R, e, G, ?_⟩
  cases Xs with
  | nil => rfl
  | cons X W =>
    have h1 := G.rel.loop
    rw [e] at h1
    have h3 := G.inv.len X (List.mem_cons_self ..)
    simp at h1
    rw [h1] at h3
    simp at h3
theorem walk_len (h : Simp n T) (hc : c < 3 * T.length) : (stepsM T c).length + 1 = T.length := by
  obtain ⟨s, Xs, R, e, G, -⟩ := walk_end h hc
  exact (G.lt h).2.1 e
end Go.Proofs.YtpnkhgjjlionnaaGreat
namespace Go.Proofs.YtpnkhgjjlionnaaGreat
open Go.RowKit Go.Maps

variable {n c : Nat} {T : List Tr}
theorem ran_inv {s0 s' : WSt} {pre : List WStep} {x : WStep} (R : Ran T s0 (pre ++ [x]) s') : ∃ s, Ran T s0 pre s ∧ stepM T s = some (x, s') := by
  generalize hL : pre ++ [x] = L at R
  cases R with
  | nil => simp at hL
  | @snoc L0 s s' y h1 h2 =>
    obtain ⟨rfl, e⟩ := List.append_inj' hL rfl
    cases e
    exact ⟨s, h1, h2⟩
end Go.Proofs.YtpnkhgjjlionnaaGreat
namespace Go.Proofs.YtpnkhgjjlionnaaGreat.Zp
open Go.RowKit

/-- How long the loops are, the present one first. -/
def lensW (s : WSt) : List Int := if s.loop = [] then [] else (s.loop.length : Int) :: s.wait.reverse.map fun l => (l.length : Int)
section
variable {T : List Tr} {N : Nat} {c : Nat}
theorem lensW_cons {come r : List Int} {a : Int} {wait : List (List Int)} : lensW ⟨come, a :: r, wait⟩ = ((a :: r).length : Int) :: wait.reverse.map fun l => (l.length : Int) := by
  unfold lensW
  rw [if_neg (by simp)]
theorem step_lens {s s' : WSt} {x : WStep} (hs : Proofs.YtpnkhgjjlionnaaGreat.stepM T s = some (x, s')) (h3 : 3 ≤ s.loop.length) (hw : ∀ l ∈ s.wait, l ≠ []) : ref24Step (lensW s') x.letter = some (lensW s) := by
  obtain ⟨come, loop, wait⟩ := s
  unfold Proofs.YtpnkhgjjlionnaaGreat.stepM at hs
  match loop, h3, hs with
  | [], _, hs => cases hs
  | [a], _, hs => cases hs
  | a :: b :: r, h3, hs =>
    simp only at hs h3 hw
    by_cases hf : facI T (a, b) < 0
    · rw [if_pos hf] at hs
      cases hs
    rw [if_neg hf] at hs
    simp only [List.length_cons] at h3
    rw [lensW_cons]
    by_cases h1 : vertI T (facI T (a, b)) ∉ come
    · rw [if_pos h1] at hs
      cases hs
      rw [lensW_cons]
      simp only [ref24Step, List.length_cons, Int.reduceEq, if_false, if_true]
      rw [if_neg (by omega)]
      congr 2
      omega
    · rw [if_neg h1] at hs
      by_cases h2 : r.length = 1
      · rw [if_pos h2] at hs
        cases hs
        simp only [ref24Step, if_true, List.length_cons, h2]
        congr 1
        rcases List.eq_nil_or_concat wait with hq | ⟨w0, l, hq⟩
        · subst hq
          rfl
        · have hq : wait = w0 ++ [l] := by simpa using hq
          subst hq
          have hl : l ≠ [] := hw l (by simp)
          have e1 : (w0 ++ [l]).getLast?.getD [] = l := by simp
          have e2 : (w0 ++ [l]).dropLast = w0 := by simp
          rw [e1, e2]
          unfold lensW
          rw [if_neg hl]
          simp
      · rw [if_neg h2] at hs
        by_cases h3' : Lib.idxOf (a :: b :: r) (vertI T (facI T (a, b))) = r.length + 1
        · rw [if_pos h3'] at hs
          cases hs
          rw [lensW_cons]
          simp only [ref24Step, Int.reduceEq, if_false, true_or, if_true, List.length_cons, List.length_dropLast]
          congr 2
          try omega
        · rw [if_neg h3'] at hs
          by_cases h4 : Lib.idxOf (a :: b :: r) (vertI T (facI T (a, b))) = 2
          · rw [if_pos h4] at hs
            cases hs
            rw [lensW_cons]
            simp only [ref24Step, Int.reduceEq, if_false, or_true, if_true, List.length_cons]
            congr 2
            try omega
          · rw [if_neg h4] at hs
            by_cases h5 : 2 < Lib.idxOf (a :: b :: r) (vertI T (facI T (a, b)))
            · rw [if_pos h5] at hs
              cases hs
              have hle := idxOf_le (vertI T (facI T (a, b))) (a :: b :: r)
              simp only [List.length_cons] at hle
              obtain ⟨i, hi⟩ : ∃ i : Nat, Lib.idxOf (a :: b :: r) (vertI T (facI T (a, b))) = i := ⟨_, (Int.toNat_of_nonneg (by omega)).symm⟩
              rw [hi] at hle h5 ⊢
              rw [lensW_cons]
              simp only [ref24Step, Int.reduceEq, if_false, or_self, if_true, List.reverse_append, List.reverse_cons, List.reverse_nil, List.nil_append, List.singleton_append, List.map_cons, List.length_cons, List.length_drop, List.length_take, Int.toNat_natCast]
              congr 2
              omega
            · rw [if_neg h5] at hs
              cases hs
/-- The letters of the walk. -/
def lettersW (T : List Tr) (c : Nat) : List Int := (stepsM T c).map (·.letter)
theorem letters_len (T : List Tr) (c : Nat) : (lettersW T c).length = (stepsM T c).length := by simp [lettersW]
theorem step_prev (h : Simp N T) (hc : c < 3 * T.length) {k : Nat} (hk : k < (stepsM T c).length) {s : WSt} (R : Ran T (beginS T c) ((stepsM T c).take k) s) : ∃ s', Proofs.YtpnkhgjjlionnaaGreat.stepM T s = some ((stepsM T c)[k], s') ∧ Ran T (beginS T c) ((stepsM T c).take (k + 1)) s' := by
  obtain ⟨sE, Xs, RE, -⟩ := walk_end h hc
  obtain ⟨s', R'⟩ := RE.take (k + 1) hk
  have e := List.take_succ_eq_append_getElem hk
  have R2 := R'
  rw [e] at R2
  obtain ⟨s0, R0, hs⟩ := ran_inv R2
  obtain ⟨-, e0⟩ := R0.one R rfl
  subst e0
  exact ⟨s', hs, R'⟩
theorem walk_st (h : Simp N T) (hc : c < 3 * T.length) : ∀ (j k : Nat), k + j = (stepsM T c).length → ∀ s, Ran T (beginS T c) ((stepsM T c).take k) s → stAt (lettersW T c) k = some (lensW s)
  | 0, k, hk, s, R => by
    obtain ⟨sE, Xs, RE, e, -⟩ := walk_end h hc
    rw [List.take_of_length_le (by omega)] at R
    obtain ⟨-, e0⟩ := R.one RE rfl
    subst e0
    have hl := letters_len T c
    have : k = (lettersW T c).length := by omega
    rw [this, stAt_end]
    unfold lensW
    rw [if_pos e]
  | j + 1, k, hk, s, R => by
    have hlt : k < (stepsM T c).length := by omega
    obtain ⟨s', hs, R'⟩ := step_prev h hc hlt R
    have ih := walk_st h hc j (k + 1) (by omega) s' R'
    obtain ⟨Xs, G⟩ := R.gone h hc
    obtain ⟨-, -, -, w4, w5⟩ := G.wants h
    have hne : s.loop ≠ [] := by
      intro e
      unfold Proofs.YtpnkhgjjlionnaaGreat.stepM at hs
      rw [e] at hs
      cases hs
    have hl := letters_len T c
    rw [stAt_step (lettersW T c) k (by omega), ih]
    simp only [Option.bind_some]
    have e : (lettersW T c)[k]'(by omega) = (stepsM T c)[k].letter := by simp [lettersW]
    rw [e]
    exact step_lens hs (w4 hne) w5
/-- The word of a walk is right. -/
theorem walk_right (h : Simp N T) (hc : c < 3 * T.length) : ref24M (lettersW T c) = true := by
  have := walk_st h hc (stepsM T c).length 0 (by omega) (beginS T c) (by rw [List.take_zero]; exact .nil)
  rw [stAt_zero] at this
  unfold ref24M
  rw [this]
  rfl
end

end Go.Proofs.YtpnkhgjjlionnaaGreat.Zp
namespace Go.Proofs.YtpnkhgjjlionnaaGreat.Zp
open Go.RowKit

theorem _root_.Go.Proofs.YtpnkhgjjlionnaaGreat.Blk.six {w : World} {g : Nat} {t : TypeId} {a b c d e f : Value} (h : Blk w g t #[a, b, c, d, e, f]) : g < w.heap.size ∧ w.cell? ⟨g, 0, none⟩ = some a ∧ w.cell? ⟨g, 1, none⟩ = some b ∧ w.cell? ⟨g, 2, none⟩ = some c ∧ w.cell? ⟨g, 3, none⟩ = some d ∧ w.cell? ⟨g, 4, none⟩ = some e ∧ w.cell? ⟨g, 5, none⟩ = some f ∧
    w.frozen? ⟨g, 0, none⟩ = false ∧ w.frozen? ⟨g, 1, none⟩ = false ∧ w.frozen? ⟨g, 2, none⟩ = false ∧ w.frozen? ⟨g, 3, none⟩ = false ∧ w.frozen? ⟨g, 4, none⟩ = false ∧ w.frozen? ⟨g, 5, none⟩ = false :=
  ⟨h.lt, h.cell 0, h.cell 1, h.cell 2, h.cell 3, h.cell 4, h.cell 5, h.frozen 0, h.frozen 1, h.frozen 2, h.frozen 3, h.frozen 4, h.frozen 5⟩
/-- Six stores, one after the other: the block holds the six. -/
def six (w : World) (g : Nat) (a b c d e f : Value) : World := (((((w.setCell ⟨g, 0, none⟩ a).setCell ⟨g, 1, none⟩ b).setCell ⟨g, 2, none⟩ c).setCell ⟨g, 3, none⟩ d).setCell ⟨g, 4, none⟩ e).setCell ⟨g, 5, none⟩ f
theorem six_blk {w : World} {g : Nat} {t : TypeId} {a b c d e f a' b' c' d' e' f' : Value} (h : Blk w g t #[a, b, c, d, e, f]) : Blk (six w g a' b' c' d' e' f') g t #[a', b', c', d', e', f'] := by
  have := (((((h.set_ 0 a').set_ 1 b').set_ 2 c').set_ 3 d').set_ 4 e').set_ 5 f'
  simpa [six] using this
theorem six_below {B : Nat} {w0 w : World} {g : Nat} {a b c d e f : Value} (h : Below B w0 w) (hg : B ≤ g) : Below B w0 (six w g a b c d e f) :=
  (((((h.setCell (p := ⟨g, 0, none⟩) hg _).setCell (p := ⟨g, 1, none⟩) hg _).setCell (p := ⟨g, 2, none⟩) hg _).setCell (p := ⟨g, 3, none⟩) hg _).setCell (p := ⟨g, 4, none⟩) hg _).setCell (p := ⟨g, 5, none⟩) hg _

theorem of_right (s : ByteArray) (hs : s.size ≤ 1000000) (h : rightM (lettersOf s) = true) (w : World) :
    Calls Tryz.prog 16 #[.string s] w fun e w' => e = .returned (.tuple #[.agg #[.int .i64 ((s.size : Int) + 1), .int .i64 s.size, .int .i64 (bitsM (lettersOf s)), .int .i64 0, .int .i64 0, .int .i64 0], .int .i64 0]) ∧ Below w.heap.size w w' := by
  have n1 := cnt_le (lettersOf s) 67
  have n2 := cnt_le (lettersOf s) 76
  have n3 := cnt_le (lettersOf s) 82
  have n4 := cnt_le (lettersOf s) 69
  have n5 := cnt_le (lettersOf s) 83
  rw [lettersOf_length] at n1 n2 n3 n4 n5
  have hB0 : Below w.heap.size w (w.alloc (.cells #[.int .i64 0, .int .i64 0, .int .i64 0, .int .i64 0, .int .i64 0, .int .i64 0] 45)) := (Below.refl _ _).alloc (Nat.le_refl _) _
  have b0 := Blk.new w 45 #[.int .i64 0, .int .i64 0, .int .i64 0, .int .i64 0, .int .i64 0, .int .i64 0]
  go_enter Tryz.func16, Tryz.ntmps16
  go_wp2_with fail
  refine (right_any s hs _).mono ?_
  rw [h]
  rintro e w1 ⟨rfl, hb1⟩
  rw [size_alloc'] at hb1
  have b1 := b0.below hb1 (by omega)
  have hB1 := hB0.trans (hb1.mono (Nat.le_succ _))
  go_wp2_with fail
  refine (count_any s hs _).mono ?_
  unfold fiveOf
  rintro e w2 ⟨rfl, hb2⟩
  have b2 := b1.below hb2 b1.lt
  have hB2 := hB1.trans (hb2.mono hB1.size)
  obtain ⟨c0, c1, c2, c3, c4, c5, c6, f1, f2, f3, f4, f5, f6⟩ := b2.six
  go_wp2
  have b4 := six_blk (a' := .int .i64 ((s.size : Int) + 1)) (b' := .int .i64 s.size) (c' := .int .i64 (bitsM (lettersOf s))) (d' := .int .i64 0) (e' := .int .i64 0) (f' := .int .i64 0) b2
  have hB4 := six_below (a := .int .i64 ((s.size : Int) + 1)) (b := .int .i64 s.size) (c := .int .i64 (bitsM (lettersOf s))) (d := .int .i64 0) (e := .int .i64 0) (f := .int .i64 0) hB2 (Nat.le_refl _)
  have hw : six w2 w.heap.size (.int .i64 ((s.size : Int) + 1)) (.int .i64 s.size) (.int .i64 (bitsM (lettersOf s))) (.int .i64 0) (.int .i64 0) (.int .i64 0) = (((((w2.setCell ⟨w.heap.size, 0, none⟩ (.int .i64 ((s.size : Int) + 1))).setCell ⟨w.heap.size, 1, none⟩ (.int .i64 s.size)).setCell ⟨w.heap.size, 2, none⟩ (.int .i64 (cnt (lettersOf s) 67 + 3 * (cnt (lettersOf s) 76 + cnt (lettersOf s) 82 + cnt (lettersOf s) 69 + cnt (lettersOf s) 83)))).setCell ⟨w.heap.size, 3, none⟩ (.int .i64 0)).setCell ⟨w.heap.size, 4, none⟩ (.int .i64 0)).setCell ⟨w.heap.size, 5, none⟩ (.int .i64 0) := rfl
  rw [← hw]
  generalize six w2 w.heap.size (.int .i64 ((s.size : Int) + 1)) (.int .i64 s.size) (.int .i64 (bitsM (lettersOf s))) (.int .i64 0) (.int .i64 0) (.int .i64 0) = W5 at b4 hB4 ⊢
  clear c0 c1 c2 c3 c4 c5 c6 f1 f2 f3 f4 f5 f6 hw
  obtain ⟨c0, c1, c2, c3, c4, c5, c6, -⟩ := b4.six
  exact bodyPost_ret (v := .tuple #[.agg #[.int .i64 ((s.size : Int) + 1), .int .i64 s.size, .int .i64 (bitsM (lettersOf s)), .int .i64 0, .int .i64 0, .int .i64 0], .int .i64 0]) (by simp [results, Tryz.results16, go_sem, c0, c1, c2, c3, c4, c5, c6]) rfl ⟨rfl, hB4.alloc hB4.size _⟩

theorem of_wrong (s : ByteArray) (hs : s.size ≤ 1000000) (h : rightM (lettersOf s) = false) (w : World) :
    Calls Tryz.prog 16 #[.string s] w fun e w' => e = .returned (.tuple #[.agg #[.int .i64 0, .int .i64 0, .int .i64 0, .int .i64 0, .int .i64 0, .int .i64 0], .int .i64 3]) ∧ Below w.heap.size w w' := by
  have hB0 : Below w.heap.size w (w.alloc (.cells #[.int .i64 0, .int .i64 0, .int .i64 0, .int .i64 0, .int .i64 0, .int .i64 0] 45)) := (Below.refl _ _).alloc (Nat.le_refl _) _
  have b0 := Blk.new w 45 #[.int .i64 0, .int .i64 0, .int .i64 0, .int .i64 0, .int .i64 0, .int .i64 0]
  go_enter Tryz.func16, Tryz.ntmps16
  go_wp2_with fail
  refine (right_any s hs _).mono ?_
  rw [h]
  rintro e w1 ⟨rfl, hb1⟩
  rw [size_alloc'] at hb1
  have b1 := b0.below hb1 (by omega)
  have hB1 := hB0.trans (hb1.mono (Nat.le_succ _))
  obtain ⟨c0, c1, c2, c3, c4, c5, c6, f1, f2, f3, f4, f5, f6⟩ := b1.six
  go_wp2
  have b4 := six_blk (a' := .int .i64 0) (b' := .int .i64 0) (c' := .int .i64 0) (d' := .int .i64 0) (e' := .int .i64 0) (f' := .int .i64 0) b1
  have hB4 := six_below (a := .int .i64 0) (b := .int .i64 0) (c := .int .i64 0) (d := .int .i64 0) (e := .int .i64 0) (f := .int .i64 0) hB1 (Nat.le_refl _)
  have hw : six w1 w.heap.size (.int .i64 0) (.int .i64 0) (.int .i64 0) (.int .i64 0) (.int .i64 0) (.int .i64 0) = (((((w1.setCell ⟨w.heap.size, 0, none⟩ (.int .i64 0)).setCell ⟨w.heap.size, 1, none⟩ (.int .i64 0)).setCell ⟨w.heap.size, 2, none⟩ (.int .i64 0)).setCell ⟨w.heap.size, 3, none⟩ (.int .i64 0)).setCell ⟨w.heap.size, 4, none⟩ (.int .i64 0)).setCell ⟨w.heap.size, 5, none⟩ (.int .i64 0) := rfl
  rw [← hw]
  generalize six w1 w.heap.size (.int .i64 0) (.int .i64 0) (.int .i64 0) (.int .i64 0) (.int .i64 0) (.int .i64 0) = W5 at b4 hB4 ⊢
  clear c0 c1 c2 c3 c4 c5 c6 f1 f2 f3 f4 f5 f6 hw
  obtain ⟨c0, c1, c2, c3, c4, c5, c6, -⟩ := b4.six
  exact bodyPost_ret (v := .tuple #[.agg #[.int .i64 0, .int .i64 0, .int .i64 0, .int .i64 0, .int .i64 0, .int .i64 0], .int .i64 3]) (by simp [results, Tryz.results16, go_sem, c1, c2, c3, c4, c5, c6]) rfl ⟨rfl, hB4⟩

/-- Total, whatever the bill. -/
theorem total_any (a b c d e f : Int) (w : World) :
    Calls Tryz.prog 18 #[.agg #[.int .i64 a, .int .i64 b, .int .i64 c, .int .i64 d, .int .i64 e, .int .i64 f]] w fun en w' => en = .returned (.int .i64 (wrap64 (wrap64 (wrap64 (c + d) + e) + f))) ∧ Below w.heap.size w w' := by
  go_enter Tryz.func18, Tryz.ntmps18
  go_wp2
  go_ret
  exact ⟨rfl, (Below.refl _ _).alloc (Nat.le_refl _) _⟩

/-- == of two [5]int. -/
theorem eq5 (a b c d e a' b' c' d' e' : Int) (w : World) :
    (Op.equalIn 10000 51 (.agg #[.int .i64 a, .int .i64 b, .int .i64 c, .int .i64 d, .int .i64 e]) (.agg #[.int .i64 a', .int .i64 b', .int .i64 c', .int .i64 d', .int .i64 e'])).run Tryz.prog w = .ok (a == a' && (b == b' && (c == c' && (d == d' && e == e')))) w := by
  show (Op.equalIn (9998 + 2) _ _ _).run _ _ = _
  rw [Op.equalIn]
  simp [run_underlying Tryz.underlying51, List.range'_succ, part, go_sem]
  repeat' split
  all_goals simp_all
end Go.Proofs.YtpnkhgjjlionnaaGreat.Zp
namespace Go.Proofs.YtpnkhgjjlionnaaGreat.Zp
open Go.RowKit

theorem total_small (a b c d e f : Int) (w : World) (h1 : -1000000000 ≤ c ∧ c ≤ 1000000000) (h2 : -1000000000 ≤ d ∧ d ≤ 1000000000) (h3 : -1000000000 ≤ e ∧ e ≤ 1000000000) (h4 : -1000000000 ≤ f ∧ f ≤ 1000000000) :
    Calls Tryz.prog 18 #[.agg #[.int .i64 a, .int .i64 b, .int .i64 c, .int .i64 d, .int .i64 e, .int .i64 f]] w fun en w' => en = .returned (.int .i64 (c + d + e + f)) ∧ Below w.heap.size w w' := by
  refine (total_any a b c d e f w).mono ?_
  rintro en w' ⟨rfl, hb⟩
  rw [IntWalk.wrap64_in (c + d) (by omega), IntWalk.wrap64_in (c + d + e) (by omega), IntWalk.wrap64_in (c + d + e + f) (by omega)]
  exact ⟨rfl, hb⟩
/-- A callee that kept what lay, behind a block of our own. -/
theorem below_then {B : Nat} {w w1 w2 : World} {o : Obj} (h : Below B w w1) (hB : B ≤ w1.heap.size) (h2 : Below (w1.alloc o).heap.size (w1.alloc o) w2) : Below B w w2 :=
  (h.alloc hB o).trans (h2.mono (by simp; omega))
theorem below_on {B : Nat} {w w1 w2 : World} (h : Below B w w1) (hB : B ≤ w1.heap.size) (h2 : Below w1.heap.size w1 w2) : Below B w w2 := h.trans (h2.mono hB)

set_option maxHeartbeats 1000000 in
set_option maxRecDepth 100000 in
theorem awake24_any (w : World) : Calls Tryz.prog 14 #[] w fun en w' => en = .returned (.bool true) ∧ Below w.heap.size w w' := by
  have r1 : rightM (lettersOf ⟨#[67, 76, 69]⟩) = true := by decide
  have r2 : rightM (lettersOf ⟨#[67, 69]⟩) = false := by decide
  have r3 : bitsM (lettersOf ⟨#[67, 76, 69]⟩) = 7 := by decide
  have r4 : fiveOf (lettersOf ⟨#[67, 76, 69]⟩) = #[.int .i64 1, .int .i64 1, .int .i64 0, .int .i64 1, .int .i64 0] := by
    have : cnt (lettersOf ⟨#[67, 76, 69]⟩) 67 = 1 ∧ cnt (lettersOf ⟨#[67, 76, 69]⟩) 76 = 1 ∧ cnt (lettersOf ⟨#[67, 76, 69]⟩) 82 = 0 ∧ cnt (lettersOf ⟨#[67, 76, 69]⟩) 69 = 1 ∧ cnt (lettersOf ⟨#[67, 76, 69]⟩) 83 = 0 := by decide
    unfold fiveOf
    rw [this.1, this.2.1, this.2.2.1, this.2.2.2.1, this.2.2.2.2]
  have o1 := of_right ⟨#[67, 76, 69]⟩ (by decide) r1
  have o2 := of_wrong ⟨#[67, 69]⟩ (by decide) r2
  have o3 := count_any ⟨#[67, 76, 69]⟩ (by decide)
  rw [r3] at o1
  rw [r4] at o3
  have O1 := Lib.hid o1
  have O2 := Lib.hid o2
  have O3 := Lib.hid o3
  clear o1 o2 o3 r1 r2 r3 r4
  have q5 := @eq5
  go_enter Tryz.func14, Tryz.ntmps14
  go_wp2_with fail
  refine (O1.out _).mono ?_
  rintro e w1 ⟨rfl, hb1⟩
  go_wp2_with fail
  refine (O2.out _).mono ?_
  rintro e w2 ⟨rfl, hb2⟩
  have k1 := (Blk.new w1 45 #[.int .i64 4, .int .i64 3, .int .i64 7, .int .i64 0, .int .i64 0, .int .i64 0]).below hb2 (by simp)
  obtain ⟨c0, c1, c2, c3, c4, c5, c6, -⟩ := k1.six
  clear k1
  have hB2 : Below w.heap.size w w2 := below_then hb1 hb1.size hb2
  have o4 := fun w => total_small 0 0 7 2 3 4 w (by omega) (by omega) (by omega) (by omega)
  have O4 := Lib.hid o4
  clear o4
  go_wp2_with fail
  refine (O4.out _).mono ?_
  rintro e w3 ⟨rfl, hb3⟩
  have hB3 : Below w.heap.size w w3 := below_then hB2 hB2.size hb3
  go_wp2_with fail
  refine (O3.out _).mono ?_
  rintro e w4 ⟨rfl, hb4⟩
  have hB4 : Below w.heap.size w w4 := below_on hB3 hB3.size hb4
  go_wp2
  go_ret
  exact ⟨rfl, hB4⟩
end Go.Proofs.YtpnkhgjjlionnaaGreat.Zp
namespace Go.Proofs.YtpnkhgjjlionnaaGreat
open Go.RowKit

theorem TrisRd.at9 {w : World} {a : Option Addr} {m c : Nat} {T : List Tr} (h : TrisRd w (.slice a m c) T) {t k : Nat} (ht : t < T.length) (hk : k < 3) :
    ∃ b o x, a = some ⟨b, o, none⟩ ∧ b < w.heap.size ∧ w.cell? ⟨b, o + t * 3 + k, none⟩ = some (.int .i64 x) := by
  obtain ⟨a', c', e, -, -, hr⟩ := h
  cases e
  obtain ⟨⟨x, y, z⟩, hx⟩ : ∃ q, T[t]? = some q := ⟨T[t], List.getElem?_eq_getElem _⟩
  obtain ⟨b, o, rfl, hb, s0, s1, s2⟩ := hr t x y z hx
  have : k = 0 ∨ k = 1 ∨ k = 2 := by omega
  rcases this with rfl | rfl | rfl
  · exact ⟨b, o, x, rfl, hb, s0⟩
  · exact ⟨b, o, y, rfl, hb, s1⟩
  · exact ⟨b, o, z, rfl, hb, s2⟩
theorem below_d {B : Nat} {w a : World} (h : Below B w a) : Below B w a.drew := ⟨h.os, h.tape, h.output, h.size, h.block⟩
theorem own_below9 {w w' : World} {base n s : Nat} {e : TypeId} {v : Value} {xs : List Value} (h : w.ownsRow base e s v n xs) (hb : Below w.heap.size w w') : w'.ownsRow base e s v n xs :=
  h.kept (grown_of_below hb none) (by cases e : v.ownBlock; exact .inl rfl; exact .inr (by simp))
theorem blk_new9 {w : World} {g : Nat} {t : TypeId} {cs : Array Value} (h : g = w.heap.size) : Blk (w.alloc (.cells cs t)) g t cs := by
  rw [h]
  exact Blk.new w t cs
/-- A call that hands back some bool. -/
def RetB (w : World) (e : Ending) (w' : World) : Prop := (∃ b : Bool, e = .returned (.bool b)) ∧ Below w.heap.size w w'
end Go.Proofs.YtpnkhgjjlionnaaGreat
namespace Go.Proofs.YtpnkhgjjlionnaaGreat
open Go.RowKit Go.Maps Go.Shelf
attribute [local go_sem] Oper.semAt_some

/-- No walk: the error, and nothing else. -/
def NoWalk (w : World) (z : Int) (e : Ending) (w' : World) : Prop := e = .returned (.tuple #[.agg #[.string ByteArray.empty, .slice none 0 0, .slice none 0 0], .int .i64 z]) ∧ Below w.heap.size w w'
set_option maxRecDepth 100000 in
set_option maxHeartbeats 1000000 in
theorem walk_err {w : World} {a : Option Addr} {r z : Int} (hz : z ≠ 0) (HCk : ∀ W, Below w.heap.size w W → Calls Tryz.prog 34 #[.pointer a, .int .i64 r] W fun e w' => e = .returned (.int .i64 z) ∧ Below W.heap.size W w') :
    Calls Tryz.prog 13 #[.pointer a, .int .i64 r] w (NoWalk w z) := by
  have hB0 : Below w.heap.size w ((w.alloc (.cells #[.pointer a] 26)).alloc (.cells #[.string ByteArray.empty, .slice none 0 0, .slice none 0 0] 39)) := ((Below.refl _ _).alloc (Nat.le_refl _) _).alloc (by simp) _
  have bt := (Blk.new w 26 #[.pointer a]).alloc (.cells #[.string ByteArray.empty, .slice none 0 0, .slice none 0 0] 39)
  have br : Blk ((w.alloc (.cells #[.pointer a] 26)).alloc (.cells #[.string ByteArray.empty, .slice none 0 0, .slice none 0 0] 39)) (w.heap.size + 1) 39 #[.string ByteArray.empty, .slice none 0 0, .slice none 0 0] := blk_new_at (by simp)
  have HC := Lib.hid (HCk _ hB0)
  have HB0 := Lib.hid hB0
  have HBr := Lib.hid br
  obtain ⟨lt, x0, -⟩ := bt.one
  have nz : (z == 0) = false := by simpa using hz
  clear HCk hB0 bt br hz
  refine (callsIn_wide (n := 9)).1 ?_
  refine callsIn_of_wp_marks Tryz.func13 rfl trivial ?_ rfl
  simp only [Tryz.ntmps13, List.size_toArray, List.length_cons, List.length_nil, Nat.reduceAdd, Nat.reduceSub, Array.replicate_succ, Array.replicate_zero, List.push_toArray, List.append_toArray, List.nil_append, List.cons_append]
  gi_hideQ
  gi_wp2_with fail
  refine ⟨trivial, (callsIn_wide.2 HC.out).mono ?_⟩
  rintro e w1 ⟨rfl, hb1⟩
  have hBr1 := HBr.out.below hb1 HBr.out.lt
  obtain ⟨l1, y0, f0, y1, f1, y2, f2⟩ := hBr1.three
  have HB1 := Lib.hid (HB0.out.trans (hb1.mono HB0.out.size))
  have HBr1 := Lib.hid hBr1
  clear x0 hb1 hBr1
  gi_wp2
  have bF : Blk (((w1.setCell ⟨w.heap.size + 1, 0, none⟩ (.string ⟨#[]⟩)).setCell ⟨w.heap.size + 1, 1, none⟩ (.slice none 0 0)).setCell ⟨w.heap.size + 1, 2, none⟩ (.slice none 0 0)) (w.heap.size + 1) 39 #[.string ⟨#[]⟩, .slice none 0 0, .slice none 0 0] := by
    have := ((HBr1.out.set_ 0 (.string ⟨#[]⟩)).set_ 1 (.slice none 0 0)).set_ 2 (.slice none 0 0)
    simpa using this
  have hBF : Below w.heap.size w (((w1.setCell ⟨w.heap.size + 1, 0, none⟩ (.string ⟨#[]⟩)).setCell ⟨w.heap.size + 1, 1, none⟩ (.slice none 0 0)).setCell ⟨w.heap.size + 1, 2, none⟩ (.slice none 0 0)) := ((HB1.out.setCell (p := ⟨w.heap.size + 1, 0, none⟩) (by simp only; omega) _).setCell (p := ⟨w.heap.size + 1, 1, none⟩) (by simp only; omega) _).setCell (p := ⟨w.heap.size + 1, 2, none⟩) (by simp only; omega) _
  generalize ((w1.setCell ⟨w.heap.size + 1, 0, none⟩ (.string ⟨#[]⟩)).setCell ⟨w.heap.size + 1, 1, none⟩ (.slice none 0 0)).setCell ⟨w.heap.size + 1, 2, none⟩ (.slice none 0 0) = WE at *
  obtain ⟨-, p0, -, p1, -, p2, -⟩ := bF.three
  refine ⟨.tuple #[.agg #[.string ⟨#[]⟩, .slice none 0 0, .slice none 0 0], .int .i64 z], ?_, rfl, hBF⟩
  simp [results, Tryz.results13, go_sem, p0, p1, p2]
end Go.Proofs.YtpnkhgjjlionnaaGreat
