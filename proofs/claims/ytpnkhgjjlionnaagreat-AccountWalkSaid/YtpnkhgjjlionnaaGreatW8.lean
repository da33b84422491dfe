/-
  Texts joined by program, what the law uses alone: BrdE SteO BrdW BrdL BrdO WkBoth WkAll ZTwo HeldU I15A I15B.
-/
import Derived.Sort.LoopGhostIn
import Derived.Maps.OwnIn
import Derived.Deep.AppendLies
import Derived.Deep.DrawnRows
import Derived.Deep.RegionHeld3
import Derived.Deep.RegionLaw
import Derived.Lib.AppendZerosOnto
import Derived.Lib.Hide
import Derived.Lib.SmallJoins
import Derived.OrdersHeld
import Derived.StillTail
import Derived.Test.YtpnkhgjjlionnaaGreatW5
import Derived.Test.YtpnkhgjjlionnaaGreatW6
import Derived.Test.YtpnkhgjjlionnaaGreatW7
import Derived.Test.YtpnkhgjjlionnaaGreatW2
import Derived.Test.YtpnkhgjjlionnaaGreatW1
namespace Go.Proofs.YtpnkhgjjlionnaaGreat
open Go.RowKit Go.Maps Go.Shelf

def es2 (E : List (Int × Int)) : List Value := E.flatMap fun e => [.int .i64 e.1, .int .i64 e.2]
theorem es2_snoc (E : List (Int × Int)) (e : Int × Int) : es2 (E ++ [e]) = es2 E ++ [.int .i64 e.1, .int .i64 e.2] := by simp [es2]
theorem es2_at : ∀ (E : List (Int × Int)) (j : Nat) (e : Int × Int), E[j]? = some e → (es2 E)[j * 2]? = some (.int .i64 e.1) ∧ (es2 E)[j * 2 + 1]? = some (.int .i64 e.2)
  | [], j, e, h => by simp at h
  | a :: E, 0, e, h => by
    have h' : a = e := by simpa using h
    subst h'
    simp [es2]
  | a :: E, j + 1, e, h => by
    have ih := es2_at E j e (by simpa using h)
    have e1 : es2 (a :: E) = .int .i64 a.1 :: .int .i64 a.2 :: es2 E := by simp [es2]
    rw [e1, show (j + 1) * 2 = j * 2 + 1 + 1 from by omega]
    simpa using ih
theorem infoEdge : (Tryz.prog.info? 75).map (fun i => (i.zero, i.size, i.bytes)) = some (some (.agg #[.int .i64 0, .int .i64 0]), 2, 16) := by kernel_rfl
/-- The border's edges among the corners up to k. -/
def EdgesUp (T : List Tr) (k : Nat) (E : List (Int × Int)) : Prop := ∀ e, e ∈ E ↔ ∃ c, c < k ∧ oppI T (c : Int) = -1 ∧ edgeN T c = e
set_option maxRecDepth 100000 in
set_option maxHeartbeats 2000000 in
theorem edgesB_any (g : Nat) (N : Int) (T : List Tr) (w : World) (h : Tab w g N T) : Calls Tryz.prog 118 #[.pointer (some ⟨g, 0, none⟩)] w fun e w' => ∃ v' E, e = .returned v' ∧ w'.ownsRow w.heap.size 75 2 v' E.length (es2 E) ∧ EdgesUp T (3 * T.length) E ∧ E.length ≤ 3 * T.length ∧ Below w.heap.size w w' := by
  obtain ⟨i1, hi', hy0, hy1, hy2⟩ := info_parts infoEdge
  have H0 := Lib.hid (triangles_any g N T w h.toTabS)
  have HO := Lib.hid (fun (W : World) (c : Int) (hW : Below w.heap.size w W) => opp_any g N c T W (h.below hW))
  have HE := Lib.hid (fun (W : World) (c : Nat) (hc : c < 3 * T.length) (hW : Below w.heap.size w W) => (show Calls Tryz.prog 33 #[.pointer (some ⟨g, 0, none⟩), .int .i64 (c : Int)] W fun e w' => e = .returned (pairV (edgeN T c)) ∧ Below W.heap.size W w' from by
    have := edge_any g N (c : Int) T W (h.below hW).toTabS
    rwa [edgeI_nat hc] at this))
  have hl := h.len
  have HBd := Lib.hid (fun (c : Nat) => opp_cases T (c : Int))
  obtain ⟨F, hF⟩ : ∃ F, T.length = F := ⟨_, rfl⟩
  rw [hF] at hl H0 HE HBd ⊢
  clear hF h
  go_enter Tryz.func118, Tryz.ntmps118
  go_wp2_with fail
  refine H0.out.mono ?_
  rintro e w0 ⟨rfl, rfl⟩
  go_wp2
  go_loopw [3, 10] (fun v3 ix wr => ∃ (k : Nat) (E : List (Int × Int)) (v' : Value), v' = v3 ∧ k ≤ 3 * F ∧ ix = .int .i64 k ∧ wr.ownsRow w.heap.size 75 2 v' E.length (es2 E) ∧ E.length ≤ k ∧ EdgesUp T k E ∧ Below w.heap.size w wr) (fun _ ix _ => 3 * F - (intOf ix).toNat)
  case atStart => exact ⟨0, [], _, rfl, Nat.zero_le _, rfl, World.ownsRow_nil _ _ _ _, Nat.le_refl _, fun e => ⟨fun h => (List.not_mem_nil h).elim, fun ⟨c, h, _⟩ => absurd h (by omega)⟩, Below.refl _ _⟩
  case round =>
    obtain ⟨k, E, v3, rfl, hk, rfl, hrow, hEl, hE, hB⟩ := hrel
    rename World => wr
    have HB := Lib.hid hB
    have HEd := Lib.hid hE
    have Hrow := Lib.hid hrow
    clear hB hE hrow
    by_cases hlt : k < 3 * F
    · have k3 : (k : Int) < 3 * (F : Int) := by omega
      have c3 : E.length + 1 ≤ maxLen := by unfold maxLen; omega
      have c4 : (E.length + 1) * 16 ≤ 140737488355328 := by omega
      go_wp2_with fail
      refine (HO.out wr k HB.out).mono ?_
      rintro e w2 ⟨rfl, hb2⟩
      have HB2 := Lib.hid (HB.out.trans (hb2.mono HB.out.size))
      have Hr2 := Lib.hid (own_below Hrow.out hb2)
      clear hb2
      rcases HBd.out k with ho | ⟨o, ho, ho2⟩
      · have Ho := Lib.hid ho
        rw [ho]
        clear ho
        go_wp2_with fail
        refine (HE.out w2 k hlt HB2.out).mono ?_
        rintro e w3 ⟨rfl, hb3⟩
        have HB3 := Lib.hid (HB2.out.trans (hb3.mono HB2.out.size))
        have hr3 := own_below Hr2.out hb3
        have hsz3 := HB3.out.size
        clear hb3
        obtain ⟨ea, hea⟩ : ∃ ea, edgeN T k = ea := ⟨_, rfl⟩
        have Hea := Lib.hid hea
        rw [hea]
        clear hea
        unfold pairV
        go_wp2_with (at_builtin; refine wpList_append_lies _ rfl (.tmp 17) (.tmp 21) 143 rfl w.heap.size 75 i1 _ 2 16 Tryz.underlying143 hi' hy0 hy1 hy2 rfl (by decide) _ _ _ rfl (hr3.alloc _) ⟨w3.heap.size, 0, none⟩ 1 1 [.int .i64 ea.1, .int .i64 ea.2] rfl rfl (World.news_of_block (heap_alloc_new _ _)) (by simp [Value.oneCell']) (by decide) c3 c4 (by rw [size_alloc']; omega) (w3.heap.size + 1) (by simp) ?_; intro g4 cap4 W4 hr4 hg4 _ _)
        go_roundw
        case measure => simp [intOf]; omega
        case rel =>
          refine ⟨k + 1, E ++ [ea], _, rfl, by omega, by go_num, by rw [es2_snoc]; simpa using hr4, by simp; omega, fun e => ?_, HB3.out.grown (gGrown (World.grownBy_alloc _ _ _) hg4 (row := v3.ownBlock) (fun _ e => .inl e)) (by omega) (fun j e => (Hrow.out.lt j e).1)⟩
          rw [List.mem_append, List.mem_singleton, HEd.out e]
          constructor
          · rintro (⟨c, h1, h2, h3⟩ | rfl)
            · exact ⟨c, by omega, h2, h3⟩
            · exact ⟨k, by omega, Ho.out, Hea.out⟩
          · rintro ⟨c, h1, h2, h3⟩
            rcases Nat.lt_or_ge c k with e1 | e1
            · exact .inl ⟨c, e1, h2, h3⟩
            · obtain rfl : c = k := by omega
              exact .inr (by rw [← h3, Hea.out])
      · have Ho := Lib.hid ho
        rw [ho]
        clear ho
        have ho3 : ¬ ((o : Int) < 0) := by omega
        go_wp2
        go_roundw
        case measure => simp [intOf]; omega
        case rel =>
          refine ⟨k + 1, E, _, rfl, by omega, by go_num, Hr2.out, by omega, fun e => ?_, HB2.out⟩
          rw [HEd.out e]
          constructor
          · rintro ⟨c, h1, h2, h3⟩
            exact ⟨c, by omega, h2, h3⟩
          · rintro ⟨c, h1, h2, h3⟩
            rcases Nat.lt_or_ge c k with e1 | e1
            · exact ⟨c, e1, h2, h3⟩
            · obtain rfl : c = k := by omega
              have := Ho.out
              omega
    · obtain rfl : k = 3 * F := by omega
      go_wp2
      go_ret
      exact ⟨_, E, rfl, Hrow.out, HEd.out, hEl, HB.out⟩
theorem own_blk_none_map {w : World} {base : Nat} {e : TypeId} {size n : Nat} {v : Value} {xs : List Value} {k : TypeId} {b : Nat} {f : Value → Option Value} (h : w.ownsRow base e size v n xs) (hm : MapP Tryz.prog k w b f) : v.ownBlock = none ∨ v.ownBlock ≠ some b := by
  rcases h.2 with ⟨rfl, _⟩ | ⟨g', cap, cur, rfl, _, hh, _⟩
  · exact .inl rfl
  · refine .inr (fun he => ?_)
    have e1 : g' = b := by simpa [Value.ownBlock] using he
    subst e1
    obtain ⟨es, clock, hb⟩ := hm.obj
    rw [hb] at hh
    cases hh
/-- Who comes behind whom, as a map holds it. -/
def BhMap (T : List Tr) (f : Value → Option Value) : Prop := ∀ v : Int, (∀ y, f (.int .i64 v) = some y → ∃ u : Int, y = .int .i64 u ∧ Nxt T v u) ∧ (f (.int .i64 v) = none → ∀ u, ¬ Nxt T v u)
theorem nxt_edge {T : List Tr} {v u : Int} : Nxt T v u ↔ ∃ c, c < 3 * T.length ∧ oppI T (c : Int) = -1 ∧ edgeN T c = (u, v) := by
  constructor
  · rintro ⟨c, h1, rfl, rfl⟩
    exact ⟨Jor.nx c, Jor.nx_lt h1.1, h1.2, by rw [edge_nx]⟩
  · rintro ⟨c, h1, h2, h3⟩
    refine ⟨Jor.pv c, ⟨Jor.pv_lt h1, by rw [Jor.nx_pv]; exact h2⟩, ?_, ?_⟩
    · exact congrArg Prod.snd h3
    · rw [Jor.pv_pv]
      exact congrArg Prod.fst h3
set_option maxRecDepth 100000 in
set_option maxHeartbeats 2000000 in
theorem behindB_any (g : Nat) (N : Int) (T : List Tr) (w : World) (h : Tab w g N T) (hN : N ≤ 4096) (hS : Surf N T) : Calls Tryz.prog 99 #[.pointer (some ⟨g, 0, none⟩)] w fun e w' => ∃ b f, e = .returned (.map (some b)) ∧ w.heap.size ≤ b ∧ MapP Tryz.prog 3 w' b f ∧ BhMap T f ∧ Below w.heap.size w w' := by
  have hB : Below w.heap.size w (w.alloc (.map #[] 0)) := (Below.refl _ _).alloc (Nat.le_refl _) _
  have HB := Lib.hid hB
  have HM := Lib.hid (MapP.made w Tryz.prog 3)
  have HE := Lib.hid (edgesB_any g N T _ (h.below hB))
  have hl := h.len
  have HR := Lib.hid (fun (c : Nat) (hc : c < 3 * T.length) => And.intro (vert_rng hS (Jor.nx_lt hc)) (vert_rng hS (Jor.pv_lt hc)))
  clear hB h hS
  have hmm := @run_makeMap Tryz.prog
  go_enter Tryz.func99, Tryz.ntmps99
  go_wp2_with fail
  refine HE.out.mono ?_
  rintro e w1 ⟨v', E, rfl, hrow, hEd, hEl, hb1⟩
  obtain ⟨a, c, rfl⟩ := ownsRow_slice hrow
  have HEd := Lib.hid hEd
  have Hrow := Lib.hid hrow
  have HB1 := Lib.hid (HB.out.trans (hb1.mono HB.out.size))
  have HM1 := Lib.hid (HM.out.below hb1 (by simp))
  obtain ⟨m, hm⟩ : ∃ m, E.length = m := ⟨_, rfl⟩
  rw [hm] at hEl Hrow ⊢
  have Hm := Lib.hid hm
  clear hrow hEd hb1 hm HM HB HE hmm
  go_wp2
  go_loopw [10] (fun ix wr => ∃ (k : Nat) (f : Value → Option Value), k ≤ m ∧ ix = .int .i64 k ∧ MapP Tryz.prog 3 wr w.heap.size f ∧ (∀ v : Int, (∀ y, f (.int .i64 v) = some y → ∃ u : Int, y = .int .i64 u ∧ (u, v) ∈ E) ∧ (f (.int .i64 v) = none → ∀ u, (u, v) ∉ E.take k)) ∧ wr.ownsRow (w.heap.size + 1) 75 2 (.slice a m c) m (es2 E) ∧ Below w.heap.size w wr) (fun ix _ => m - (intOf ix).toNat)
  case atStart => exact ⟨0, _, Nat.zero_le _, rfl, HM1.out, fun v => ⟨fun y h => (by cases h), fun _ u h => (by simp at h)⟩, by have := Hrow.out; rwa [size_alloc'] at this, HB1.out⟩
  case round =>
    obtain ⟨k, f, hk, rfl, hmp, hf, hrow, hB⟩ := hrel
    rename World => wr
    have HMp := Lib.hid hmp
    have Hf := Lib.hid hf
    have Hr := Lib.hid hrow
    have HB := Lib.hid hB
    have hsz := hB.size
    clear hmp hf hB
    by_cases hlt : k < m
    · have k3 : (k : Int) < (m : Int) := by omega
      have k0 : (0 : Int) ≤ (k : Int) := by omega
      have hkE : k < E.length := by rw [Hm.out]; exact hlt
      obtain ⟨gE, cE, e0, -, -⟩ := hrow.form (by omega)
      cases e0
      obtain ⟨u, x, hux⟩ : ∃ u x, E[k] = (u, x) := ⟨_, _, rfl⟩
      have hx := List.getElem?_eq_getElem hkE
      rw [hux] at hx
      obtain ⟨z0, z1⟩ := es2_at E k (u, x) hx
      have c0 : wr.cell? ⟨gE, k * 2, none⟩ = some (.int .i64 u) := by rw [hrow.cellAt _ (by omega)]; exact z0
      have c1 : wr.cell? ⟨gE, k * 2 + 1, none⟩ = some (.int .i64 x) := by rw [hrow.cellAt _ (by omega)]; exact z1
      have hmem : (u, x) ∈ E := List.mem_of_getElem? hx
      obtain ⟨cc, h1, h2, h3⟩ := (HEd.out (u, x)).1 hmem
      have hrg := HR.out cc h1
      have e1 : vertN T (Jor.nx cc) = u := congrArg Prod.fst h3
      have e2 : vertN T (Jor.pv cc) = x := congrArg Prod.snd h3
      rw [e1, e2] at hrg
      have Hmem := Lib.hid hmem
      have htk : E.take (k + 1) = E.take k ++ [(u, x)] := by rw [List.take_succ_eq_append_getElem hkE, hux]
      have Htk := Lib.hid htk
      have hkeyv := keyOf_int_mk (P := Tryz.prog) (k := 3) (q := .i64) Tryz.underlying3 (wfV (x := x) ⟨by omega, by omega⟩)
      clear hx z0 z1 hmem h1 h2 h3 e1 e2 hrg hux htk hrow
      obtain ⟨le, d0, df0, d1, df1⟩ := (Blk.new wr 75 #[.int .i64 u, .int .i64 x]).two
      go_wp2_with (at_mapUpdate; refine wpList_storeP (HMp.out.alloc (.cells #[.int .i64 u, .int .i64 x] 75)) rfl _ _ _ 97 3 (.inl rfl) (int_keyed Tryz.underlying3) Tryz.underlying97 rfl (.int .i64 x) (.int .i64 u) rfl rfl hkeyv ?_; intro w6 hm6 hg6 hs6)
      go_roundw
      case measure => simp [intOf]; omega
      case rel =>
        refine ⟨k + 1, _, by omega, by go_num, hm6, fun v => ⟨fun y hy => ?_, fun hno u' hu' => ?_⟩, (Hr.out.alloc _).kept hg6 (own_blk_none_map Hr.out HMp.out), ?_⟩
        · by_cases e : v = x
          · subst e
            rw [updP_same] at hy
            cases hy
            exact ⟨u, rfl, Hmem.out⟩
          · rw [updP_other (by intro h; cases h; exact e rfl)] at hy
            exact (Hf.out v).1 y hy
        · by_cases e : v = x
          · subst e
            rw [updP_same] at hno
            cases hno
          · rw [updP_other (by intro h; cases h; exact e rfl)] at hno
            rw [Htk.out, List.mem_append, List.mem_singleton] at hu'
            rcases hu' with h | h
            · exact (Hf.out v).2 hno u' h
            · cases h; exact e rfl
        · exact HB.out.grown (gGrown (World.grownBy_alloc _ _ _) hg6 (row := some w.heap.size) (fun _ e => .inl e)) hsz (fun j e => by cases e; exact Nat.le_refl _)
    · obtain rfl : k = m := by omega
      have HF : Hid (BhMap T f) := Lib.hid (fun v => ⟨fun y hy => by
        obtain ⟨u, rfl, hu⟩ := (Hf.out v).1 y hy
        exact ⟨u, rfl, nxt_edge.2 ((HEd.out _).1 hu)⟩, fun hno u hu => by
        have := (Hf.out v).2 hno u
        rw [List.take_of_length_le (by rw [Hm.out]; exact Nat.le_refl _)] at this
        exact this ((HEd.out _).2 (nxt_edge.1 hu))⟩)
      clear hrow
      go_wp2
      go_ret
      exact ⟨_, f, rfl, Nat.le_refl _, HMp.out, HF.out, HB.out⟩
end Go.Proofs.YtpnkhgjjlionnaaGreat
namespace Go.Proofs.YtpnkhgjjlionnaaGreat
open Go.RowKit Go.Maps Go.Shelf
attribute [local go_sem] Oper.semAt_some

/-- The iterator's contract. -/
def SeqSepO {α : Type} (F : Fence) (n : Nat) (P : Program) (g : Nat) (lb : Array Value) (encs : α → Array Value) (Ok : List α → α → Prop) (Fin Sp : List α → Prop) (N : Nat) (w0 : World) (R : Nat → Prop) (Pre : World → Prop) : Prop :=
  ∀ (l : Nat) (J Jx : List α → (Nat → Prop) → World → Prop) (W : World) (C : Nat → Prop), Below w0.heap.size w0 W → Pre W → (∀ k, R k → k < W.heap.size) → Stable w0.heap.size J → Stable w0.heap.size Jx →
    (∀ pre x C1 W1, J pre C1 W1 → pre.length < N → Ok pre x → YieldAt F (n - 1) P l (encs x) W1 fun e W' =>
      Kept C1 W1 W' ∧ ∃ C', Anew C1 C' W1 W' ∧ ((e = .returned (.bool true) ∧ J (pre ++ [x]) C' W') ∨ (e = .returned (.bool false) ∧ Jx (pre ++ [x]) C' W'))) →
    J [] C W → (∀ k, C k → w0.heap.size ≤ k ∧ k < W.heap.size ∧ ¬ R k) →
    CallsIn F n P g (#[.func (.yield l) #[] #[]] ++ lb) W fun e W' => (∃ v, e = .returned v) ∧ ((∃ xs C', Fin xs ∧ J xs C' W') ∨ (∃ pre C', Sp pre ∧ Jx pre C' W'))
section
variable {F : Fence} {n : Nat} {P : Program} {w : World}
set_option maxHeartbeats 1000000 in
theorem wpIn_rangeFunc_sepO {α : Type} {g : Operand} {ps : Array Tmp} {assign body : Code} {Q : Exit → Act → World → Prop} {a : Act} {w : World}
    (hro : F.round = none) (h1 : 1 ≤ n) {gf : Nat} {lb : Array Value} (hg : a.eval g = .func (.func gf) #[] lb) (hFg : F.fn gf) (eg : ∀ args w, (callFunc gf args).run P w = .ok (.enter gf args) w)
    {encs : α → Array Value} {Ok : List α → α → Prop} {Fin Sp : List α → Prop} {N : Nat} {w0 : World} {R : Nat → Prop} {Pre : World → Prop} (hseq : SeqSepO F (n - 1) P gf lb encs Ok Fin Sp N w0 R Pre) (hpre : ∀ W, Below w.heap.size w W → Pre W) (hR : ∀ k, R k → k < w.heap.size) (hb0 : Below w0.heap.size w0 w) (hps : ∀ x, (encs x).size = ps.size)
    (I : List α → (Nat → Prop) → World → Prop) (Ix : Code → List α → (Nat → Prop) → World → Prop) (hI : Stable w0.heap.size I) (hIx : ∀ c, Stable w0.heap.size (Ix c)) (C0 : Nat → Prop) (hC0 : ∀ k, C0 k → w0.heap.size ≤ k ∧ k < w.heap.size ∧ ¬ R k) (h0 : I [] C0 w)
    (hround : ∀ (l : Nat) (pre : List α) (x : α) (C : Nat → Prop) (W : World), w.heap.size ≤ l → l < W.heap.size → I pre C W → (∀ k, C k → w0.heap.size ≤ k ∧ k < W.heap.size) → pre.length < N → Ok pre x →
      assign.wpIn (F.inRound l) (n - 1 - 1) P (Exit.then (fun a' W1 => Kept C W W1 ∧ I pre C W1 ∧ ∀ W2, Kept (fun k => k = l) W1 W2 → I pre C W2 → (∀ k, C k → w0.heap.size ≤ k ∧ k < W2.heap.size) → W2.heap.size = W1.heap.size → body.wpIn (F.inRound l) (n - 1 - 1) P (sepPost I Ix C (pre ++ [x]) W2) a' W2) (fun _ _ _ => False))
        { tmps := (ps.zip (encs x)).foldl (fun t (p, v) => t.setIfInBounds p v) a.tmps, defers := [] } W)
    (hdone : ∀ (D : Nat) (xs : List α) (C : Nat → Prop) (W : World), w.heap.size ≤ D → ¬ C D → Fin xs → I xs C W → W.heap[D]? = some (.deferred (some [])) → Q .normal { a with defers := { target := .collected D, args := #[] } :: a.defers } W)
    (hstop : ∀ (D : Nat) (c : Code) (pre : List α) (C : Nat → Prop) (W : World), w.heap.size ≤ D → ¬ C D → Sp pre → Ix c pre C W → W.heap[D]? = some (.deferred (some [])) → c.wpIn F n P Q { a with defers := { target := .collected D, args := #[] } :: a.defers } W) :
    (Code.rangeFunc g ps assign body).wpIn F n P Q a w := by
  refine wpIn_rangeFunc ?_
  intro fn hfn
  rw [hro]
  obtain ⟨rec, hrec⟩ : ∃ rec : LoopState → Option Code → Loop, rec = fun st pe => { state := st, pending := pe, fn, tmps := a.tmps, params := ps, assign, body, defers := w.heap.size } := ⟨_, rfl⟩
  obtain ⟨W1, hW1⟩ : ∃ W1, (w.alloc (.deferred (some []))).alloc (.loop (rec .ready none)) = W1 := ⟨_, rfl⟩
  have hL1 : W1.heap[w.heap.size + 1]? = some (.loop (rec .ready none)) := by
    rw [← hW1]; have := World.alloc_heap_new (w.alloc (.deferred (some []))) (.loop (rec .ready none)); rwa [World.size_alloc] at this
  have hK1 : W1.heap[w.heap.size]? = some (.deferred (some [])) := by
    rw [← hW1]; exact (Below.heap_alloc _ _ _ (by simp)).trans (World.alloc_heap_new w _)
  have hz1 : W1.heap.size = w.heap.size + 2 := by rw [← hW1]; simp
  have hbw : Below w.heap.size w W1 := by rw [← hW1]; exact ((Below.refl _ w).alloc (Nat.le_refl _) _).alloc (by simp) _
  have hz0 := hb0.size
  have hI1 : I [] C0 W1 := hI _ _ _ _ h0 (hbw.mono hz0) (fun k hk => hbw.block k (hC0 k hk).2.1)
  have hb1 : Below w0.heap.size w0 W1 := hb0.trans (hbw.mono hz0)
  -- the law's own set
  let J : (List α → (Nat → Prop) → World → Prop) → (World → Prop) → List α → (Nat → Prop) → World → Prop := fun I R pre C W => ∃ Cu, (∀ k, C k ↔ Cu k ∨ k = w.heap.size ∨ k = w.heap.size + 1) ∧ I pre Cu W ∧ (∀ k, Cu k → w0.heap.size ≤ k ∧ k < W.heap.size ∧ k ≠ w.heap.size ∧ k ≠ w.heap.size + 1) ∧ R W ∧ W.heap[w.heap.size]? = some (.deferred (some []))
  have hJ : ∀ (I : List α → (Nat → Prop) → World → Prop) (R : World → Prop), Stable w0.heap.size I → (∀ A B : World, R A → B.heap[w.heap.size + 1]? = A.heap[w.heap.size + 1]? → R B) → Stable w0.heap.size (J I R) := by
    rintro I R hI hR xs C A B ⟨Cu, hC, hi, hbd, hl, hd⟩ hbel hsame
    exact ⟨Cu, hC, hI _ _ _ _ hi hbel (fun k hk => hsame k ((hC k).2 (.inl hk))), fun k hk => by have := hbd k hk; have := hbel.size; omega, hR _ _ hl (hsame _ ((hC _).2 (.inr (.inr rfl)))), (hsame _ ((hC _).2 (.inr (.inl rfl)))).trans hd⟩
  refine ⟨w.heap.size + 1, [{ target := .collected w.heap.size, args := #[] }], W1, { target := .fn (.func gf) lb, args := #[.func (.yield (w.heap.size + 1)) #[] #[]] }, W1, gf,
    #[.func (.yield (w.heap.size + 1)) #[] #[]] ++ lb, W1, ?_, ?_, ?_, ?_, fun _ => h1, ?_⟩
  · rw [← hW1, hrec]; exact run_enterLoop_outer _ _ _ _ _
  · simp only [resolve, hg]
    simp [go_sem]
  · intro f' hf'; simp [Target.leads] at hf'; subst hf'; exact hFg
  · simp [invoke, go_sem, eg]
  · refine (hseq (w.heap.size + 1) (J I (fun W => W.heap[w.heap.size + 1]? = some (.loop (rec .ready none)))) (J (fun xs C W => ∃ c, Ix c xs C W ∧ W.heap[w.heap.size + 1]? = some (.loop (rec .done (some c)))) (fun _ => True)) W1
      (fun k => C0 k ∨ k = w.heap.size ∨ k = w.heap.size + 1) hb1 (hpre W1 hbw) (fun k hk => by have := hR k hk; omega) (hJ _ _ hI (fun A B h e => e.trans h)) ?_ ?_ ⟨C0, fun k => Iff.rfl, hI1, fun k hk => by have := hC0 k hk; omega, hL1, hK1⟩ (fun k hk => by
        have hR' := hR k
        rcases hk with hk | hk | hk
        · have := hC0 k hk; exact ⟨this.1, by omega, this.2.2⟩
        · exact ⟨by omega, by omega, fun h => by have := hR' h; omega⟩
        · exact ⟨by omega, by omega, fun h => by have := hR' h; omega⟩)).mono ?_
    · rintro xs C A B ⟨Cu, hC, ⟨c, hc, hl⟩, hbd, -, hd⟩ hbel hsame
      exact ⟨Cu, hC, ⟨c, hIx c _ _ _ _ hc hbel (fun k hk => hsame k ((hC k).2 (.inl hk))), (hsame _ ((hC _).2 (.inr (.inr rfl)))).trans hl⟩, fun k hk => by have := hbd k hk; have := hbel.size; omega, trivial, (hsame _ ((hC _).2 (.inr (.inl rfl)))).trans hd⟩
    · -- one round
      rintro pre x C W ⟨Cu, hC, hi, hbd, hl, hk⟩ hlen hok
      have hlt : w.heap.size + 1 < W.heap.size := (Array.getElem?_eq_some_iff.1 hl).1
      have hy := run_yield (P := P) (args := encs x) hl (by rw [hrec]; exact hps x)
      rw [hrec] at hy
      refine ⟨fn, _, assign, body, hy, roundIn_of_wpIn hfn (wpIn_mono (hround (w.heap.size + 1) pre x Cu W (by omega) hlt hi (fun k hk => ⟨(hbd k hk).1, (hbd k hk).2.1⟩) hlen hok) ?_)⟩
      clear hy
      intro e a' Wa hp
      cases e with
      | normal =>
        obtain ⟨hka, hia, hb⟩ := hp
        have hla := (hka.block _ hlt (fun h => (hbd _ h).2.2.2 rfl)).trans hl
        have hda := (hka.block _ (by omega) (fun h => (hbd _ h).2.2.1 rfl)).trans hk
        have hza := hka.size
        refine ⟨_, run_beginRound hla (by rw [hrec]), ?_⟩
        obtain ⟨W2, hW2⟩ : ∃ W2, Wa.putObj (w.heap.size + 1) (.loop { rec .ready none with state := .busy }) = W2 := ⟨_, rfl⟩
        have hl2 : W2.heap[w.heap.size + 1]? = some (.loop { rec .ready none with state := .busy }) := by rw [← hW2]; exact World.putObj_heap_same (by omega)
        have hd2 : W2.heap[w.heap.size]? = some (.deferred (some [])) := by rw [← hW2]; exact (World.putObj_heap_other (by omega)).trans hda
        have hz2 : W2.heap.size = Wa.heap.size := by rw [← hW2]; simp
        have hk2 : Kept (fun k => k = w.heap.size + 1) Wa W2 := by rw [← hW2]; exact putObj_kept rfl
        have hi2 : I pre Cu W2 := by
          refine hI _ _ _ _ hia ?_ (fun k hk => ?_)
          · rw [← hW2]; exact putObj_below (by omega)
          · rw [← hW2]; exact World.putObj_heap_other (hbd k hk).2.2.2
        rw [hW2]
        refine wpIn_mono (hb W2 hk2 hi2 (fun k hk => by have := hbd k hk; omega) hz2) ?_
        have fin : ∀ (jump : Option Code) (W3 : World) (C' : Nat → Prop), Kept Cu W2 W3 → Anew Cu C' W2 W3 →
            (Instr.endRound (w.heap.size + 1) jump).run P W3 = .ok (.bool jump.isNone) (W3.putObj (w.heap.size + 1) (.loop (rec (if jump.isNone then .ready else .done) jump))) ∧
            (W3.putObj (w.heap.size + 1) (.loop (rec (if jump.isNone then .ready else .done) jump))).heap[w.heap.size + 1]? = some (.loop (rec (if jump.isNone then .ready else .done) jump)) ∧
            (W3.putObj (w.heap.size + 1) (.loop (rec (if jump.isNone then .ready else .done) jump))).heap[w.heap.size]? = some (.deferred (some [])) ∧
            Kept C W (W3.putObj (w.heap.size + 1) (.loop (rec (if jump.isNone then .ready else .done) jump))) ∧
            Anew C (fun k => C' k ∨ k = w.heap.size ∨ k = w.heap.size + 1) W (W3.putObj (w.heap.size + 1) (.loop (rec (if jump.isNone then .ready else .done) jump))) ∧
            (∀ k, C' k → w0.heap.size ≤ k ∧ k < (W3.putObj (w.heap.size + 1) (.loop (rec (if jump.isNone then .ready else .done) jump))).heap.size ∧ k ≠ w.heap.size ∧ k ≠ w.heap.size + 1) := fun jump W3 C' hk3 hn3 => by
          have hl3 := (hk3.block _ (by omega) (fun h => (hbd _ h).2.2.2 rfl)).trans hl2
          have hd3 := (hk3.block _ (by omega) (fun h => (hbd _ h).2.2.1 rfl)).trans hd2
          have hz3 := hk3.size
          have := run_endRound (P := P) jump hl3
          rw [hrec] at this ⊢
          refine ⟨this, World.putObj_heap_same (by omega), (World.putObj_heap_other (by omega)).trans hd3, ?_, ?_, ?_⟩
          · have c1 : Kept C W Wa := hka.mono (fun k hk => (hC k).2 (.inl hk))
            have c2 : Kept C Wa W2 := hk2.mono (fun k hk => (hC k).2 (.inr (.inr hk)))
            have c3 : Kept C W2 W3 := hk3.mono (fun k hk => (hC k).2 (.inl hk))
            exact ((c1.trans c2).trans c3).trans (putObj_kept ((hC _).2 (.inr (.inr rfl))))
          · intro k hk
            rw [World.putObj_size]
            rcases hk with hk | hk | hk
            · rcases hn3 k hk with h | h
              · exact .inl ((hC k).2 (.inl h))
              · exact .inr (by omega)
            · exact .inl ((hC k).2 (.inr (.inl hk)))
            · exact .inl ((hC k).2 (.inr (.inr hk)))
          · intro k hk
            rw [World.putObj_size]
            rcases hn3 k hk with h | h
            · have := hbd k h
              omega
            · omega
        have put : ∀ {J : List α → (Nat → Prop) → World → Prop} (xs : List α) (C' : Nat → Prop) (W3 : World) (o : Obj), Stable w0.heap.size J → J xs C' W3 → (∀ k, C' k → k ≠ w.heap.size + 1) → J xs C' (W3.putObj (w.heap.size + 1) o) := fun xs C' W3 o hJ h hk => hJ _ _ _ _ h (putObj_below (by omega)) (fun k h' => World.putObj_heap_other (hk k h'))
        rintro e a3 W3 hp
        cases e with
        | normal =>
          obtain ⟨hk3, C', hn3, hi3⟩ := hp
          obtain ⟨hr, hl4, hd4, c4, n4, b4⟩ := fin none W3 C' hk3 hn3
          exact ⟨_, _, hr, c4, _, n4, .inl ⟨rfl, C', fun k => Iff.rfl, put _ _ _ _ hI hi3 (fun k h => (b4 k h).2.2.2), b4, hl4, hd4⟩⟩
        | ret =>
          obtain ⟨hk3, C', hn3, hi3⟩ := hp
          obtain ⟨hr, hl4, hd4, c4, n4, b4⟩ := fin (some .ret) W3 C' hk3 hn3
          exact ⟨_, _, hr, c4, _, n4, .inr ⟨rfl, C', fun k => Iff.rfl, ⟨.ret, put _ _ _ _ (hIx _) hi3 (fun k h => (b4 k h).2.2.2), hl4⟩, b4, trivial, hd4⟩⟩
        | exit id =>
          obtain ⟨hk3, C', hn3, hi3⟩ := hp
          obtain ⟨hr, hl4, hd4, c4, n4, b4⟩ := fin (some (.exit id)) W3 C' hk3 hn3
          exact ⟨_, _, hr, c4, _, n4, .inr ⟨rfl, C', fun k => Iff.rfl, ⟨.exit id, put _ _ _ _ (hIx _) hi3 (fun k h => (b4 k h).2.2.2), hl4⟩, b4, trivial, hd4⟩⟩
        | goto t =>
          obtain ⟨hk3, C', hn3, hi3⟩ := hp
          obtain ⟨hr, hl4, hd4, c4, n4, b4⟩ := fin (some (.goto t)) W3 C' hk3 hn3
          exact ⟨_, _, hr, c4, _, n4, .inr ⟨rfl, C', fun k => Iff.rfl, ⟨.goto t, put _ _ _ _ (hIx _) hi3 (fun k h => (b4 k h).2.2.2), hl4⟩, b4, trivial, hd4⟩⟩
        | panic ch => exact hp.elim
        | outgrown => exact hp.elim
      | ret => exact hp.elim
      | exit id => exact hp.elim
      | goto t => exact hp.elim
      | panic ch => exact hp.elim
      | outgrown => exact hp.elim
    · -- behind the iterator
      rintro e W2 ⟨⟨v, rfl⟩, (⟨xs, C', hS, Cu, hC, hi, hbd, hl, hd⟩ | ⟨pre, C', hSp, Cu, hC, ⟨c, hi, hl⟩, hbd, -, hd⟩)⟩
      · exact ⟨none, _, by have := run_endLoop (P := P) hl (by rw [hrec]; simp); rw [hrec] at this; exact this, hdone _ xs Cu _ (Nat.le_refl _) (fun h => (hbd _ h).2.2.1 rfl) hS (hI _ _ _ _ hi (putObj_below (by omega)) (fun k hk => World.putObj_heap_other (hbd k hk).2.2.2)) ((World.putObj_heap_other (by omega)).trans hd)⟩
      · exact ⟨some c, _, by have := run_endLoop (P := P) hl (by rw [hrec]; simp); rw [hrec] at this; exact this, hstop _ c pre Cu _ (Nat.le_refl _) (fun h => (hbd _ h).2.2.1 rfl) hSp (hIx c _ _ _ _ hi (putObj_below (by omega)) (fun k hk => World.putObj_heap_other (hbd k hk).2.2.2)) ((World.putObj_heap_other (by omega)).trans hd)⟩
end
end Go.Proofs.YtpnkhgjjlionnaaGreat
namespace Go.Proofs.YtpnkhgjjlionnaaGreat
open Go.RowKit Go.Maps Go.Shelf
attribute [local go_sem] Oper.semAt_some

/-- The next vertex, out of the map; and so on. -/
def nxB (f : Value → Option Value) (x : Int) : Int := match f (.int .i64 x) with
  | some (.int .i64 u) => u
  | _ => 0
def itB (f : Value → Option Value) (v : Int) : Nat → Int
  | 0 => v
  | j + 1 => nxB f (itB f v j)
section
variable {n : Nat} {T : List Tr} {f : Value → Option Value}
theorem bh_some (hf : BhMap T f) {x : Int} (h : f (.int .i64 x) ≠ none) : f (.int .i64 x) = some (.int .i64 (nxB f x)) ∧ Nxt T x (nxB f x) := by
  cases hx : f (.int .i64 x) with
  | none => exact absurd hx h
  | some y =>
    obtain ⟨u, rfl, hu⟩ := (hf x).1 y hx
    have : nxB f x = u := by unfold nxB; rw [hx]
    rw [this]
    exact ⟨rfl, hu⟩
theorem bh_on (hS : Surf n T) (hf : BhMap T f) {x : Int} (h : f (.int .i64 x) ≠ none) : f (.int .i64 (nxB f x)) ≠ none := fun e => by
  obtain ⟨z, hz⟩ := (bh_some hf h).2.on hS
  exact (hf _).2 e z hz
theorem it_dom (hS : Surf n T) (hf : BhMap T f) {v : Int} (h : f (.int .i64 v) ≠ none) : ∀ j, f (.int .i64 (itB f v j)) ≠ none
  | 0 => h
  | j + 1 => bh_on hS hf (it_dom hS hf h j)
theorem it_rng (hS : Surf n T) (hf : BhMap T f) {v : Int} (h : f (.int .i64 v) ≠ none) (j : Nat) : 0 ≤ itB f v j ∧ itB f v j < n := ((bh_some hf (it_dom hS hf h j)).2.rng hS).1
theorem it_back (hS : Surf n T) (hf : BhMap T f) {v : Int} (h : f (.int .i64 v) ≠ none) : ∀ (i k : Nat), itB f v i = itB f v (i + k) → v = itB f v k
  | 0, k, e => by simpa [itB] using e
  | i + 1, k, e => it_back hS hf h i k (by
    have e2 : itB f v (i + 1 + k) = nxB f (itB f v (i + k)) := by rw [show i + 1 + k = (i + k) + 1 from by omega]; rfl
    have h1 := (bh_some hf (it_dom hS hf h i)).2
    have h2 := (bh_some hf (it_dom hS hf h (i + k))).2
    have e3 : nxB f (itB f v i) = nxB f (itB f v (i + k)) := by rw [← e2, ← e]; rfl
    rw [← e3] at h2
    exact h1.inj hS h2)
/-- One cannot go on for ever without coming back. -/
theorem it_bound (hS : Surf n T) (hf : BhMap T f) {v : Int} (h : f (.int .i64 v) ≠ none) {j : Nat} (hj : ∀ i, 1 ≤ i → i ≤ j → itB f v i ≠ v) : j + 1 ≤ n := by
  have hnd : ((List.range (j + 1)).map fun i => (itB f v i).toNat).Nodup := by
    refine List.pairwise_map.2 (List.Pairwise.imp_of_mem (fun {a b} ha hb hab => ?_) (List.pairwise_lt_range (n := j + 1)))
    intro e
    have ra := it_rng hS hf h a
    have rb := it_rng hS hf h b
    have e1 : itB f v a = itB f v (a + (b - a)) := by rw [show a + (b - a) = b from by omega]; omega
    have := it_back hS hf h a (b - a) e1
    exact hj (b - a) (by omega) (by have := List.mem_range.1 hb; omega) this.symm
  have := Jor.nodup_le (m := List.range n) hnd (fun x hx => by
    obtain ⟨i, -, rfl⟩ := List.mem_map.1 hx
    have := it_rng hS hf h i
    exact List.mem_range.2 (by omega))
  simpa using this
end
/-- What is yielded: nothing where there is no border; else the vertex first. -/
def FinB (n : Nat) (T : List Tr) (v : Nat) (xs : List Int) : Prop := (xs = [] → ∀ u, ¬ Nxt T v u) ∧ (xs ≠ [] → (∃ r, xs = (v : Int) :: r) ∧ ∃ u, Nxt T v u) ∧ xs.length ≤ n ∧ ∀ x ∈ xs, 0 ≤ x ∧ x < n
theorem MapP.same9 {P : Program} {k : TypeId} {b : Nat} {w w' : World} {f : Value → Option Value} (h : MapP P k w b f) (hg : w'.heap[b]? = w.heap[b]?) : MapP P k w' b f := by
  obtain ⟨es, clock, hb, h1⟩ := h
  exact ⟨es, clock, hg.trans hb, h1⟩
theorem Below.cell_same9 {w w' : World} {q : Nat} (hg : w'.heap[q]? = w.heap[q]?) : w'.cell? ⟨q, 0, none⟩ = w.cell? ⟨q, 0, none⟩ := by
  unfold World.cell?
  simp only [hg]
/-- The iterator's state between two rounds. -/
structure BwI (w : World) (n : Nat) (f : Value → Option Value) (v b Bv : Nat) (J : List Int → (Nat → Prop) → World → Prop) (k : Nat) (u5 : Value) (W : World) : Prop where
  st : ∃ j C, u5 = .int .i64 (itB f v (j + 1)) ∧ J ((List.range (j + 1)).map (itB f v)) C W ∧ (∀ i, 1 ≤ i → i ≤ j → itB f v i ≠ v) ∧ (∀ q, C q → w.heap.size ≤ q ∧ q < W.heap.size ∧ q ≠ b ∧ q ≠ Bv) ∧ k + j + 1 = n
  map : MapP Tryz.prog 3 W b f
  box : W.cell? ⟨Bv, 0, none⟩ = some (.int .i64 v)
  lt : Bv < W.heap.size
  below : Below w.heap.size w W
set_option maxRecDepth 100000 in
set_option maxHeartbeats 4000000 in
theorem bwalkB_sepO {w : World} {m Bt Bv g n v : Nat} {T : List Tr} (hS : Surf n T) (hT : Tab w g n T) (hv : v < n) :
    SeqSepO Fence.wide m Tryz.prog 98 #[.pointer (some ⟨Bt, 0, none⟩), .pointer (some ⟨Bv, 0, none⟩)] (fun x : Int => #[.int .i64 x]) (fun _ x => 0 ≤ x ∧ x < (n : Int)) (FinB n T v) (fun _ => True) n w (fun k => k = Bv) (fun W => W.cell? ⟨Bt, 0, none⟩ = some (.pointer (some ⟨g, 0, none⟩)) ∧ W.cell? ⟨Bv, 0, none⟩ = some (.int .i64 v) ∧ Bt < W.heap.size ∧ Bv < W.heap.size) := by
  rintro l J Jx W C hW ⟨t0, c0, lt, lc⟩ - hJ hJx hY h0 hC
  have hn : n ≤ 4096 := by have := hS.n1; omega
  have hz := hW.size
  have HE := Lib.hid (behindB_any g n T W (hT.below hW) (by omega) hS)
  have HS := Lib.hid hS
  have HJ := Lib.hid hJ
  have HY := Lib.hid hY
  have HJ0 := Lib.hid h0
  have HC := Lib.hid hC
  have HW := Lib.hid hW
  clear hS hT hJ hJx hY h0 hC hW
  refine callsIn_of_wp Tryz.func98 rfl trivial ?_ rfl
  simp only [Tryz.ntmps98, List.size_toArray, List.length_cons, List.length_nil, Nat.reduceAdd, Nat.reduceSub, Array.replicate_succ, Array.replicate_zero, List.push_toArray, List.append_toArray, List.nil_append, List.cons_append]
  gi_wp2_with fail
  refine ⟨trivial, fun h => (by simp [Fence.wide] at h), (callsIn_wide.2 HE.out).mono ?_⟩
  rintro e w1 ⟨b, f, rfl, hb, hm, hf, hb1⟩
  have HB1 := Lib.hid hb1
  have HM := Lib.hid hm
  have HF := Lib.hid hf
  have Hb := Lib.hid hb
  have hkeyv := keyOf_int_mk (P := Tryz.prog) (k := 3) (q := .i64) Tryz.underlying3 (wfV (x := (v : Int)) ⟨by omega, by omega⟩)
  have hlk := hm.lookOk (t := 97) (int_keyed Tryz.underlying3) Tryz.underlying97 (zero_int _) hkeyv
  have t1 := (hb1.cell (p := ⟨Bt, 0, none⟩) lt).trans t0
  have v1 := (hb1.cell (p := ⟨Bv, 0, none⟩) lc).trans c0
  have HJ1 := Lib.hid (HJ.out _ _ _ _ HJ0.out (hb1.mono hz) (fun j hj => hb1.block j (HC.out j hj).2.1))
  have HBw := Lib.hid (HW.out.trans (hb1.mono hz))
  have hz1 := hb1.size
  cases hfv : f (.int .i64 (v : Int)) with
  | none =>
    have HN := Lib.hid ((hf _).2 hfv)
    rw [hfv] at hlk
    clear hb1 hm hf hfv HE t0 c0 hb
    gi_wp2
    refine ⟨fun f h => (by cases h), ?_⟩
    gi_wp2
    refine bodyPost_ret (results_none rfl _ _ _) rfl ?_
    exact ⟨⟨_, rfl⟩, .inl ⟨[], C, ⟨fun _ => HN.out, fun h => absurd rfl h, Nat.zero_le _, fun x hx => by simp at hx⟩, HJ1.out⟩⟩
  | some y =>
    have hne : f (.int .i64 (v : Int)) ≠ none := by rw [hfv]; simp
    have hs := (bh_some hf hne).1
    rw [hs] at hlk
    have HNe := Lib.hid hne
    obtain ⟨fn, tmps, assign, body, hy, hR⟩ := HY.out [] (v : Int) C w1 HJ1.out (by simp; omega) (by omega)
    clear hb1 hm hf hfv HE t0 c0 hb hs hne
    gi_wp2
    refine ⟨fun h => (by simp [Fence.wide] at h), hR.mono ?_⟩
    rintro e w5 ⟨hK5, C', hC', ⟨rfl, hJ5⟩ | ⟨rfl, hJ5⟩⟩
    rotate_left
    · have HJ5 := Lib.hid hJ5
      clear hJ5 hK5 hC' hR
      gi_wp2
      refine bodyPost_ret (results_none rfl _ _ _) rfl ?_
      exact ⟨⟨_, rfl⟩, .inr ⟨_, C', trivial, HJ5.out⟩⟩
    have hCw : ∀ q, C q → w.heap.size ≤ q ∧ q < W.heap.size ∧ q ≠ Bv := fun q hq => HC.out q hq
    have HI := Lib.hid (show BwI w n f v b Bv J (n - 1) (.int .i64 (itB f v 1)) w5 from ⟨⟨0, C', rfl, hJ5, fun i h1 h2 => absurd h1 (by omega), fun q hq => by
      rcases hC' q hq with h | h
      · have h1 := hCw q h
        have h2 := hK5.size
        have h3 := Hb.out
        exact ⟨h1.1, by omega, by omega, h1.2.2⟩
      · exact ⟨by have := HBw.out.size; omega, h.2, by have := HM.out.lt; omega, by omega⟩, by omega⟩,
      HM.out.same9 (hK5.block b HM.out.lt (fun h => by have := hCw b h; have := Hb.out; omega)),
      (Below.cell_same9 (hK5.block Bv (by omega) (fun h => (hCw Bv h).2.2 rfl))).trans v1, by have := hK5.size; omega, HBw.out.trans (hK5.below (fun q hq => (hCw q hq).1) HBw.out.size)⟩)
    have HC0 := Lib.hid hCw
    have hn1 : (itB f v 1) = nxB f v := rfl
    rw [← hn1]
    clear hK5 hC' hJ5 hR hCw hlk t1 v1 HJ0 HJ1 hn1
    gi_wp2
    gi_loopg [5] (n - 1) (fun k v5 wr => BwI w n f v b Bv J k v5 wr)
    case atStart => exact HI.out
    case round =>
      clear HI HM HC HC0
      rename World => wr
      obtain ⟨⟨j, C1, rfl, hJL, hne, hC1, hk⟩, hm, hbx, hlt, hB⟩ := hrel
      by_cases hu : itB f v (j + 1) = v
      · have hq : (itB f v (j + 1) != (v : Int)) = false := by simpa using hu
        have HFin := Lib.hid (show FinB n T v ((List.range (j + 1)).map (itB f v)) from by
          have hd : (List.range (j + 1)).map (itB f v) = (v : Int) :: (List.range' 1 j).map (itB f v) := by
            rw [List.range_eq_range', List.range'_succ, List.map_cons]
            rfl
          refine ⟨fun h => (by rw [hd] at h; cases h), fun _ => ⟨⟨_, hd⟩, _, (bh_some HF.out HNe.out).2⟩, ?_, fun x hx => ?_⟩
          · have := it_bound HS.out HF.out HNe.out hne
            simpa using this
          · obtain ⟨i, -, rfl⟩ := List.mem_map.1 hx
            exact it_rng HS.out HF.out HNe.out i)
        have HJL := Lib.hid hJL
        clear hJL hne hC1 hm hB hu
        gi_wp2
        refine bodyPost_end (results_none rfl _ _ _) rfl ?_
        exact ⟨⟨_, rfl⟩, .inl ⟨_, C1, HFin.out, HJL.out⟩⟩
      · have hq : (itB f v (j + 1) != (v : Int)) = true := by simpa using hu
        have hne2 : ∀ i, 1 ≤ i → i ≤ j + 1 → itB f v i ≠ v := fun i h1 h2 => by
          rcases Nat.lt_or_ge i (j + 1) with e | e
          · exact hne i h1 (by omega)
          · obtain rfl : i = j + 1 := by omega
            exact hu
        have hbd := it_bound HS.out HF.out HNe.out hne2
        obtain ⟨fn, tmps, assign, body, hy, hR⟩ := HY.out _ (itB f v (j + 1)) C1 wr hJL (by simp; omega) (it_rng HS.out HF.out HNe.out (j + 1))
        have hrg := it_rng HS.out HF.out HNe.out (j + 1)
        have Hne2 := Lib.hid hne2
        have HC1 := Lib.hid hC1
        have HM := Lib.hid hm
        have HBr := Lib.hid hB
        have Hbx := Lib.hid hbx
        obtain ⟨u, hU⟩ : ∃ u, itB f v (j + 1) = u := ⟨_, rfl⟩
        rw [hU] at hy hR hq hrg ⊢
        have HU := Lib.hid hU
        clear hJL hne hC1 hm hB hu hne2 hU
        gi_wp2
        refine ⟨fun h => (by simp [Fence.wide] at h), hR.mono ?_⟩
        rintro e w5 ⟨hK5, C', hC', ⟨rfl, hJ5⟩ | ⟨rfl, hJ5⟩⟩
        rotate_left
        · have HJ5 := Lib.hid hJ5
          clear hJ5 hK5 hC' hR
          gi_wp2
          refine bodyPost_ret (results_none rfl _ _ _) rfl ?_
          exact ⟨⟨_, rfl⟩, .inr ⟨_, C', trivial, HJ5.out⟩⟩
        have hM5 := HM.out.same9 (hK5.block b HM.out.lt (fun h => (HC1.out b h).2.2.1 rfl))
        have hkeyu := keyOf_int_mk (P := Tryz.prog) (k := 3) (q := .i64) Tryz.underlying3 (wfV (x := u) ⟨by omega, by omega⟩)
        have hlk := hM5.look (t := 97) (int_keyed Tryz.underlying3) Tryz.underlying97 (zero_int _) hkeyu
        have hs := (bh_some HF.out (it_dom HS.out HF.out HNe.out (j + 1))).1
        rw [HU.out] at hs
        rw [hs, Option.getD_some] at hlk
        have HI5 := Lib.hid (show BwI w n f v b Bv J (n - (j + 2)) (.int .i64 (nxB f u)) w5 from ⟨⟨j + 1, C', by rw [← HU.out]; rfl, by
            have e : (List.range (j + 1 + 1)).map (itB f v) = (List.range (j + 1)).map (itB f v) ++ [u] := by rw [List.range_succ, List.map_append, List.map_singleton, HU.out]
            rw [e]
            exact hJ5, Hne2.out, fun q hq => by
            rcases hC' q hq with h | h
            · have h1 := HC1.out q h
              have h2 := hK5.size
              exact ⟨h1.1, by omega, h1.2.2.1, h1.2.2.2⟩
            · exact ⟨by have := HBr.out.size; omega, h.2, by have := HM.out.lt; omega, by omega⟩, by omega⟩,
          hM5, (Below.cell_same9 (hK5.block Bv hlt (fun h => (HC1.out Bv h).2.2.2 rfl))).trans Hbx.out, by have := hK5.size; omega, HBr.out.trans (hK5.below (fun q hq => (HC1.out q hq).1) HBr.out.size)⟩)
        clear hK5 hC' hJ5 hR hM5 hs hbx hy
        gi_wp2
        gi_roundg (n - (j + 2))
        case measure => omega
        case rel => exact HI5.out
theorem bwalkB_sep {w : World} {m Bt Bv g n v : Nat} {T : List Tr} (hS : Surf n T) (hT : Tab w g n T) (hv : v < n) :
    SeqSep Fence.wide m Tryz.prog 98 #[.pointer (some ⟨Bt, 0, none⟩), .pointer (some ⟨Bv, 0, none⟩)] (fun x : Int => #[.int .i64 x]) (FinB n T v) (fun _ => True) n w (fun k => k = Bv) (fun W => W.cell? ⟨Bt, 0, none⟩ = some (.pointer (some ⟨g, 0, none⟩)) ∧ W.cell? ⟨Bv, 0, none⟩ = some (.int .i64 v) ∧ Bt < W.heap.size ∧ Bv < W.heap.size) :=
  fun l J Jx W C hW hP hR hJ hJx hY h0 hC => bwalkB_sepO hS hT hv l J Jx W C hW hP hR hJ hJx (fun pre x C1 W1 h1 h2 _ => hY pre x C1 W1 h1 h2) h0 hC
end Go.Proofs.YtpnkhgjjlionnaaGreat
namespace Go.Proofs.YtpnkhgjjlionnaaGreat
open Go.RowKit Go.Maps Go.Shelf
attribute [local go_sem] Oper.semAt_some

/-- What is collected so far. -/
structure CoS (w : World) (pre : List Int) (v : Value) (W : World) : Prop where
  bx : Blk W w.heap.size 30 #[v]
  row : W.ownsRow w.heap.size 3 1 v (intsV pre).length (intsV pre)
  below : Below w.heap.size w W
def CoI (w : World) (pre : List Int) (C : Nat → Prop) (W : World) : Prop := ∃ v, (∀ k, C k ↔ k = w.heap.size ∨ v.ownBlock = some k) ∧ CoS w pre v W
section
variable {w W W' : World} {pre : List Int} {v : Value}
theorem CoS.same (h : CoS w pre v W) (hb : Below w.heap.size W W') (hs : ∀ k, k = w.heap.size ∨ v.ownBlock = some k → W'.heap[k]? = W.heap[k]?) : CoS w pre v W' :=
  ⟨blk_same h.bx (hs _ (.inl rfl)), own_same h.row (fun k e => hs k (.inr e)), h.below.trans hb⟩
theorem CoS.alloc (h : CoS w pre v W) (o : Obj) : CoS w pre v (W.alloc o) :=
  h.same ((Below.refl _ _).alloc h.below.size _) (fun k hk => Below.heap_alloc _ _ _ (by
    rcases hk with rfl | e
    · exact h.bx.lt
    · exact (h.row.lt k e).2))
theorem CoS.app (h : CoS w pre v W) {x : Int} {g' cap : Nat} {k : Nat} (hg : W.grownBy W' v.ownBlock) (hr : W'.ownsRow w.heap.size 3 1 (.slice (some ⟨g', 0, none⟩) k cap) k (intsV pre ++ [.int .i64 x])) (hk : k = (intsV pre).length + 1) (hat : v.ownBlock = some g' ∨ g' = W.heap.size) :
    CoS w (pre ++ [x]) (.slice (some ⟨g', 0, none⟩) k cap) (W'.setCell ⟨w.heap.size, 0, none⟩ (.slice (some ⟨g', 0, none⟩) k cap)) ∧ Kept (fun k => k = w.heap.size ∨ v.ownBlock = some k) W (W'.setCell ⟨w.heap.size, 0, none⟩ (.slice (some ⟨g', 0, none⟩) k cap)) ∧
      Anew (fun k => k = w.heap.size ∨ v.ownBlock = some k) (fun j => j = w.heap.size ∨ Value.ownBlock (.slice (some ⟨g', 0, none⟩) k cap) = some j) W (W'.setCell ⟨w.heap.size, 0, none⟩ (.slice (some ⟨g', 0, none⟩) k cap)) := by
  subst hk
  have hx := h.bx.grown hg (fun e => own_blk_ne h.row h.bx (by decide) e.symm)
  have hr' := own_blk_far (j := 0) (u := .slice (some ⟨g', 0, none⟩) ((intsV pre).length + 1) cap) hr hx (by decide)
  have e1 : intsV (pre ++ [x]) = intsV pre ++ [.int .i64 x] := by simp [intsV]
  refine ⟨⟨hx.set1 _, by rw [e1, List.length_append]; exact hr', ?_⟩, ?_, ?_⟩
  · exact (h.below.grown hg h.below.size (fun j e => by have := h.row.lt j e; omega)).setCell (p := ⟨w.heap.size, 0, none⟩) (Nat.le_refl _) _
  · exact ((Kept.refl _ _).grown hg (fun j e => .inl (.inr e))).setCell (p := ⟨w.heap.size, 0, none⟩) (.inl (.inl rfl)) _
  · intro k hk
    rcases hk with e | e
    · exact .inl (.inl e)
    · have e' : g' = k := Option.some.inj e
      rcases hat with hat | hat
      · exact .inl (.inr (by rw [hat, e']))
      · have := hr'.lt g' rfl
        exact .inr (by omega)
end
set_option maxRecDepth 100000 in
set_option maxHeartbeats 2000000 in
theorem appendSeqB {w : World} {gf N : Nat} {lb : Array Value} {Fin : List Int → Prop} {R : Nat → Prop} {Pre : World → Prop} (eg : ∀ args w, (callFunc gf args).run Tryz.prog w = .ok (.enter gf args) w) (hN : N ≤ 5000) (hseq : SeqSep Fence.wide 8 Tryz.prog gf lb (fun x : Int => #[.int .i64 x]) Fin (fun _ => True) N w R Pre) (hpre : ∀ W, Below w.heap.size w W → Pre W) (hR : ∀ k, R k → k < w.heap.size) :
    Calls Tryz.prog 97 #[.slice none 0 0, .func (.func gf) #[] lb] w fun e w' => ∃ v xs, e = .returned v ∧ Fin xs ∧ w'.ownsRow w.heap.size 3 1 v xs.length (intsV xs) ∧ Below w.heap.size w w' := by
  refine (callsIn_wide (n := 9)).1 ?_
  refine callsIn_of_wp_marks Tryz.func97 rfl trivial ?_ rfl
  simp only [Tryz.ntmps97, List.size_toArray, List.length_cons, List.length_nil, Nat.reduceAdd, Nat.reduceSub, Array.replicate_succ, Array.replicate_zero, List.push_toArray, List.append_toArray, List.nil_append, List.cons_append]
  gi_wp2
  have hB : Below w.heap.size w (w.alloc (.cells #[.slice none 0 0] 30)) := (Below.refl _ _).alloc (Nat.le_refl _) _
  have bx := Blk.new w 30 #[.slice none 0 0]
  refine wpIn_rangeFunc_sep rfl (by omega) (gf := gf) (lb := lb) rfl trivial eg hseq (fun W h => hpre W (hB.trans (h.mono hB.size))) (fun k h => by have := hR k h; have := hB.size; omega) hB (fun _ => rfl)
    (CoI w) (fun _ _ _ _ => False) ?_ ?_ (fun k => k = w.heap.size) (fun k hk => by subst hk; refine ⟨Nat.le_refl _, by simp, fun h => ?_⟩; have := hR _ h; omega) ⟨_, fun k => by simp [Value.ownBlock], bx, World.ownsRow_nil _ _ _ _, hB⟩ ?_ ?_ ?_
  · rintro xs C A B ⟨v, hC, h⟩ hb hs
    exact ⟨v, hC, h.same hb (fun k hk => hs k ((hC k).2 hk))⟩
  · rintro c xs C A B h
    exact h.elim
  · intro l pre x C W hl hl2 hI hCb hlen
    obtain ⟨i3, hi3, a30, a31, a32⟩ := info_parts infoInt
    gi_wp2
    refine ⟨Kept.refl _ _, hI, ?_⟩
    intro W2 hk2 hI2 hCb2 hz2
    obtain ⟨v, hC, hS⟩ := hI2
    have HS := Lib.hid hS
    have HC := Lib.hid hC
    obtain ⟨q0, q1, q2⟩ := hS.bx.one
    have hbs := hS.below.size
    clear hS hC hk2 hCb2 hI hz2
    gi_wp2_with (first
        | (gi_at_builtin; refine wpListIn_append_lies rfl (.tmp 8) (.tmp 10) 30 rfl w.heap.size 3 i3 _ 1 8 Tryz.underlying30 hi3 a30 a31 a32 rfl (by decide) v _ _ rfl (HS.out.alloc (.cells #[.int .i64 x] 3)).row ⟨W2.heap.size, 0, none⟩ 1 1 [.int .i64 x] rfl rfl (World.news_of_block (heap_alloc_new _ _)) (by simp [Value.oneCell']) (by decide) (by unfold maxLen; simp [intsV]; omega) (by simp [intsV]; omega) (by simp; omega) ?_; intro g8 cap8 W5 hr8 hg8 hat8 hlt8; obtain ⟨y0, y1, y2⟩ := ((HS.out.alloc (.cells #[.int .i64 x] 3)).bx.grown hg8 (fun e => own_blk_ne (HS.out.alloc (.cells #[.int .i64 x] 3)).row (HS.out.alloc (.cells #[.int .i64 x] 3)).bx (by decide) e.symm)).one; have HR8 := Lib.hid hr8; have HG8 := Lib.hid hg8; have HA8 := Lib.hid hat8; clear hr8 hg8 hat8))
    obtain ⟨s9, k9, n9⟩ := (HS.out.alloc (.cells #[.int .i64 x] 3)).app HG8.out HR8.out rfl HA8.out
    have K9 := ((Kept.refl (fun k => k = w.heap.size ∨ v.ownBlock = some k) W2).alloc (.cells #[.int .i64 x] 3)).trans k9
    have N9 := n9.of_alloc
    refine ⟨K9.mono (fun k hk => (HC.out k).2 hk), _, fun k hk => ?_, _, fun k => Iff.rfl, s9⟩
    rcases N9 k hk with h | h
    · exact .inl ((HC.out k).2 h)
    · exact .inr h
  · rintro D xs C W hD hCD hF ⟨v, hC, h⟩ hK
    obtain ⟨q0, q1, q2⟩ := h.bx.one
    have hz := h.below.size
    have hDw : D ≠ w.heap.size := fun e => hCD ((hC D).2 (.inl e))
    have hDv : v.ownBlock ≠ some D := fun e => hCD ((hC D).2 (.inr e))
    gi_wp2
    refine ⟨by simp, .inl ⟨_, _, rfl, run_takeDeferred hK, ?_⟩⟩
    have g1 := put_calm2 (W := W) (D := D) (.deferred none)
    refine ⟨_, ?_, v, xs, rfl, hF, by simpa [intsV] using h.row.kept g1 (.inr hDv), h.below.grown g1 h.below.size (fun k e => by cases e; simp at hD; omega)⟩
    simp [results, Tryz.results97, go_sem]
  · intro D c pre C W _ _ _ h _
    exact h.elim
set_option maxHeartbeats 1000000 in
theorem collectB {w : World} {gf N : Nat} {lb : Array Value} {Fin : List Int → Prop} {R : Nat → Prop} {Pre : World → Prop} (eg : ∀ args w, (callFunc gf args).run Tryz.prog w = .ok (.enter gf args) w) (hN : N ≤ 5000) (hseq : SeqSep Fence.wide 8 Tryz.prog gf lb (fun x : Int => #[.int .i64 x]) Fin (fun _ => True) N w R Pre) (hpre : ∀ W, Below w.heap.size w W → Pre W) (hR : ∀ k, R k → k < w.heap.size) :
    Calls Tryz.prog 70 #[.func (.func gf) #[] lb] w fun e w' => ∃ v xs, e = .returned v ∧ Fin xs ∧ w'.ownsRow w.heap.size 3 1 v xs.length (intsV xs) ∧ Below w.heap.size w w' := by
  have H := Lib.hid (appendSeqB eg hN hseq hpre hR)
  clear hseq hpre hR
  go_enter Tryz.func70, Tryz.ntmps70
  go_wp2_with fail
  refine H.out.mono ?_
  rintro e w1 ⟨v, xs, rfl, hF, hr, hb⟩
  go_wp2
  go_ret
  exact ⟨v, xs, rfl, hF, hr, hb⟩
end Go.Proofs.YtpnkhgjjlionnaaGreat
namespace Go.Proofs.YtpnkhgjjlionnaaGreat
open Go.RowKit Go.Maps Go.Shelf
attribute [local go_sem] Oper.semAt_some

theorem wpListIn_storeP {F : Fence} {n : Nat} {P : Program} {k : TypeId} {b : Nat} {w : World} {f : Value → Option Value} {ops : Array Oper} {rest : List Oper} {o : Oper} {a : Act} {Q : Exit → Act → World → Prop} (h : MapP P k w b f)
    (hg : o.guard = none) (m x v : Operand) (t E : TypeId) (hop : o.op = Op.mapUpdate t m x v) (K : Keyed P k) (ht : P.underlying t = some (.map k E))
    (hm : a.eval m = .map (some b)) (key vv : Value) (hx : a.eval x = key) (hv : a.eval v = vv) {kl : Lit} (hkey : keyOf P k key = some kl)
    (hK : ∀ w', MapP P k w' b (updP f key vv) → w.grownBy w' (some b) → w'.heap.size = w.heap.size → wpListIn F n P ops Q rest (a.put o.dst undef) w') : wpListIn F n P ops Q (o :: rest) a w := by
  refine wpListIn_plain hg fun K' hK' => ?_
  obtain ⟨w', hrun, r1, r2, r3⟩ := h.store K ht hkey vv
  unfold Oper.wpIn
  refine ⟨?_, ?_⟩
  · simp [Oper.about, hop]
  · rw [Oper.semAt_plain F _ _ (by rw [hop]; intro c hc'; cases hc')]
    simp [execOp, hop, hm, hx, hv, hrun, Result.andThen]
    exact hK' _ _ (hK w' r1 r2 r3)
/-- What border.Loops holds between two rounds. -/
structure LoI (q : Prop) (w : World) (n : Nat) (T : List Tr) (k : Nat) (vO : Value) (L : List (List Int)) (us : List Value) (f : Value → Option Value) (W : World) : Prop where
  bx : Blk W (w.heap.size + 1) 123 #[.map (some w.heap.size)]
  map : MapP Tryz.prog 3 W w.heap.size f
  row : W.ownsRow w.heap.size 30 1 vO us.length us
  len : us.length = L.length
  lk : L.length ≤ k
  els : ∀ (i : Nat) (u : Value) (r : List Int), us[i]? = some u → L[i]? = some r → W.ownsRow w.heap.size 3 1 u r.length (intsV r) ∧ ∃ a r', r = a :: r' ∧ 0 ≤ a ∧ a < n
  tru : ∀ y v, f y = some v → v = .bool true
  emp : q → L = [] → (∀ y, f y = none) ∧ ∀ j : Nat, j < k → ∀ u, ¬ Nxt T j u
  ne : L ≠ [] → ¬ ClosedT T
  below : Below w.heap.size w W
section
variable {w W W' : World} {n k : Nat} {T : List Tr} {vO : Value} {L : List (List Int)} {us : List Value} {f : Value → Option Value}
theorem LoI.same (h : LoI True w n T k vO L us f W) (hb : Below w.heap.size W W') (hs : ∀ j, j < W.heap.size → j ≠ w.heap.size → W'.heap[j]? = W.heap[j]?) {f' : Value → Option Value} (hm : MapP Tryz.prog 3 W' w.heap.size f') (ht : ∀ y v, f' y = some v → v = .bool true) {q : Prop} (he : q → L = [] → ∀ y, f' y = none) : LoI q w n T k vO L us f' W' := by
  have go : ∀ {e : TypeId} {s m : Nat} {v : Value} {xs : List Value}, W.ownsRow w.heap.size e s v m xs → W'.ownsRow w.heap.size e s v m xs := fun hr => own_same hr (fun j e => hs j (hr.lt j e).2 (fun e2 => by
    subst e2
    rcases own_blk_none_map hr h.map with h1 | h1
    · rw [e] at h1; cases h1
    · exact h1 e))
  exact ⟨blk_same h.bx (hs _ h.bx.lt (by omega)), hm, go h.row, h.len, h.lk, fun i u r h1 h2 => ⟨go (h.els i u r h1 h2).1, (h.els i u r h1 h2).2⟩, ht, fun hq e => ⟨he hq e, (h.emp trivial e).2⟩, h.ne, h.below.trans hb⟩
theorem LoI.below' (h : LoI True w n T k vO L us f W) (hb : Below W.heap.size W W') : LoI True w n T k vO L us f W' :=
  h.same (hb.mono h.below.size) (fun j hj _ => hb.block j hj) (h.map.below hb h.map.lt) h.tru (fun _ e => (h.emp trivial e).1)
theorem LoI.alloc {q : Prop} (h : LoI q w n T k vO L us f W) (o : Obj) : LoI q w n T k vO L us f (W.alloc o) := by
  have go : ∀ {e : TypeId} {s m : Nat} {v : Value} {xs : List Value}, W.ownsRow w.heap.size e s v m xs → (W.alloc o).ownsRow w.heap.size e s v m xs := fun hr => hr.alloc o
  exact ⟨h.bx.alloc o, h.map.alloc o, go h.row, h.len, h.lk, fun i u r h1 h2 => ⟨go (h.els i u r h1 h2).1, (h.els i u r h1 h2).2⟩, h.tru, h.emp, h.ne, h.below.alloc h.below.size o⟩
theorem LoI.next (h : LoI True w n T k vO L us f W) (hk : L = [] → ∀ u, ¬ Nxt T k u) : LoI True w n T (k + 1) vO L us f W :=
  ⟨h.bx, h.map, h.row, h.len, by have := h.lk; omega, h.els, h.tru, fun _ e => ⟨(h.emp trivial e).1, fun j hj u hu => by
    rcases Nat.lt_or_ge j k with h1 | h1
    · exact (h.emp trivial e).2 j h1 u hu
    · obtain rfl : j = k := by omega
      exact hk e u hu⟩, h.ne, h.below⟩
end
theorem own_no_mark {W : World} {base m s j : Nat} {e : TypeId} {v : Value} {xs : List Value} (h : W.ownsRow base e s v m xs) (hj : v.ownBlock = some j) {r : Option (List Deferred)} (hm : W.heap[j]? = some (.deferred r)) : False := by
  rcases h.2 with ⟨rfl, _⟩ | ⟨g', cap, cur, rfl, _, hh, _⟩
  · cases hj
  · have e1 : g' = j := by simpa [Value.ownBlock] using hj
    subst e1
    rw [hm] at hh
    cases hh
theorem LoI.marks {w W W' : World} {n k : Nat} {T : List Tr} {vO : Value} {L : List (List Int)} {us : List Value} {f : Value → Option Value} {S : Nat → Prop} (h : LoI True w n T k vO L us f W) (hk : Kept S W W') (hs : ∀ j, S j → w.heap.size ≤ j ∧ ∃ r, W.heap[j]? = some (.deferred r)) : LoI True w n T k vO L us f W' := by
  have go : ∀ {e : TypeId} {s m : Nat} {v : Value} {xs : List Value}, W.ownsRow w.heap.size e s v m xs → W'.ownsRow w.heap.size e s v m xs := fun hr => own_same hr (fun j e => hk.block j (hr.lt j e).2 (fun hS => by
    obtain ⟨-, r, h2⟩ := hs j hS
    exact own_no_mark hr e h2))
  refine ⟨blk_same h.bx (hk.block _ h.bx.lt (fun hS => ?_)), h.map.same9 (hk.block _ h.map.lt (fun hS => ?_)), go h.row, h.len, h.lk, fun i u r h1 h2 => ⟨go (h.els i u r h1 h2).1, (h.els i u r h1 h2).2⟩, h.tru, h.emp, h.ne, h.below.trans (hk.below (fun j hj => (hs j hj).1) h.below.size)⟩
  · obtain ⟨-, r, h2⟩ := hs _ hS
    have := h.bx.symm.trans h2
    exact absurd this (by simp)
  · obtain ⟨-, r, h2⟩ := hs _ hS
    obtain ⟨es, clock, hm⟩ := h.map.obj
    rw [hm] at h2
    exact absurd h2 (by simp)
theorem Mks.alloc9 {base : Nat} {W : World} {ds : List Deferred} (h : Mks base W ds) (o : Obj) : Mks base (W.alloc o) ds := h.below ((Below.refl _ _).alloc (Nat.le_refl _) _)
theorem Mks.grown9 {base base' m s : Nat} {e : TypeId} {v : Value} {xs : List Value} {W W' : World} {ds : List Deferred} (h : Mks base W ds) (hg : W.grownBy W' v.ownBlock) (hr : W.ownsRow base' e s v m xs) : Mks base W' ds :=
  ⟨fun d hd => by
    obtain ⟨r, h1, h2, h3⟩ := h.1 d hd
    exact ⟨r, h1, h2, (hg.block r (Array.getElem?_eq_some_iff.1 h3).1 (fun e => own_no_mark hr e.symm h3)).trans h3⟩, h.2⟩
theorem nxt_open {T : List Tr} {v u : Int} (h : Nxt T v u) : ¬ ClosedT T := fun hc => by
  obtain ⟨c, h1, -⟩ := h
  have := hc _ (Jor.nx_lt h1.1)
  rw [h1.2] at this
  omega
theorem open_nxt {n : Nat} {T : List Tr} (hS : Surf n T) (h : ¬ ClosedT T) : ∃ j : Nat, j < n ∧ ∃ u, Nxt T j u := by
  refine Classical.byContradiction fun hno => h fun c hc => ?_
  rcases opp_cases T (c : Int) with ho | ⟨o, ho, -⟩
  · exfalso
    have he : EndC T (Jor.pv c) := ⟨Jor.pv_lt hc, by rw [Jor.nx_pv]; exact ho⟩
    have hr := vert_rng hS he.1
    exact hno ⟨(vertN T (Jor.pv c)).toNat, by omega, _, _, he, by omega, rfl⟩
  · omega
theorem LoI.post {w W : World} {n : Nat} {T : List Tr} {vO : Value} {L : List (List Int)} {us : List Value} {f : Value → Option Value} (hS : Surf n T) (h : LoI True w n T n vO L us f W) : LoopsPost n T w (.returned vO) W :=
  ⟨vO, us, L, rfl, by rw [← h.len]; exact h.row, h.lk, h.els, ⟨fun e => Classical.byContradiction fun hc => by
    obtain ⟨j, h1, u, h2⟩ := open_nxt hS hc
    exact (h.emp trivial e).2 j h1 u h2, fun hc => Classical.byContradiction fun hne => h.ne hne hc⟩, h.below⟩
theorem LoI.app {w W W' : World} {n k : Nat} {T : List Tr} {vO v : Value} {L : List (List Int)} {us : List Value} {f : Value → Option Value} {xs : List Int} {g' cap m : Nat} (h : LoI False w n T k vO L us f W) (hr : W.ownsRow w.heap.size 3 1 v xs.length (intsV xs)) (hx : ∃ a r', xs = a :: r' ∧ 0 ≤ a ∧ a < n) (hc : ¬ ClosedT T)
    (hg : W.grownBy W' vO.ownBlock) (hn : W'.ownsRow w.heap.size 30 1 (.slice (some ⟨g', 0, none⟩) m cap) m (us ++ [v])) (hm : m = us.length + 1) : LoI True w n T (k + 1) (.slice (some ⟨g', 0, none⟩) m cap) (L ++ [xs]) (us ++ [v]) f W' := by
  subst hm
  have kp : ∀ {v' : Value} {m : Nat} {xs : List Value}, W.ownsRow w.heap.size 3 1 v' m xs → W'.ownsRow w.heap.size 3 1 v' m xs := fun hr => hr.kept hg (own_own_ne hr h.row (by decide))
  refine ⟨h.bx.grown hg (fun e => own_blk_ne h.row h.bx (by decide) e.symm), h.map.kept hg (fun e => ?_), by rw [List.length_append]; exact hn, by simp [h.len], by have := h.lk; simp; omega, ?_, h.tru, fun _ e => by simp at e, fun _ => hc, h.below.grown hg h.below.size (fun j e => by have := h.row.lt j e; omega)⟩
  · rcases own_blk_none_map h.row h.map with h1 | h1
    · rw [← e] at h1; cases h1
    · exact h1 e.symm
  · intro i u r h1 h2
    rcases Nat.lt_or_ge i us.length with hi | hi
    · rw [List.getElem?_append_left hi] at h1
      rw [List.getElem?_append_left (by rw [← h.len]; exact hi)] at h2
      have := h.els i u r h1 h2
      exact ⟨kp this.1, this.2⟩
    · rw [List.getElem?_append_right hi] at h1
      rw [List.getElem?_append_right (by rw [← h.len]; exact hi)] at h2
      rw [h.len] at h1
      cases hj : i - L.length with
      | zero =>
        rw [hj] at h1 h2
        simp at h1 h2
        subst h1; subst h2
        exact ⟨kp hr, hx⟩
      | succ j => rw [hj] at h1; simp at h1
theorem Mks.same {base : Nat} {W W' : World} {ds : List Deferred} (h : Mks base W ds) {q : Nat} (hq : ∃ es clock, W.heap[q]? = some (.map es clock)) (hs : ∀ j, j < W.heap.size → j ≠ q → W'.heap[j]? = W.heap[j]?) : Mks base W' ds :=
  ⟨fun d hd => by
    obtain ⟨r, h1, h2, h3⟩ := h.1 d hd
    refine ⟨r, h1, h2, (hs r (Array.getElem?_eq_some_iff.1 h3).1 (fun e => ?_)).trans h3⟩
    obtain ⟨es, clock, hm⟩ := hq
    rw [e, hm] at h3
    exact absurd h3 (by simp), h.2⟩
/-- While the vertices are marked. -/
def MkI (w W4 : World) (Bv : Nat) (f : Value → Option Value) (pre : List Int) (C : Nat → Prop) (W : World) : Prop :=
  (∀ k, C k ↔ w.heap.size ≤ k ∧ k < W4.heap.size ∧ k ≠ Bv) ∧ (∀ k, C k → k ≠ w.heap.size → W.heap[k]? = W4.heap[k]?) ∧ Below w.heap.size W4 W ∧ ∃ f', MapP Tryz.prog 3 W w.heap.size f' ∧ (∀ y v, f' y = some v → v = .bool true) ∧ (pre = [] → f' = f)

set_option maxRecDepth 100000 in
set_option maxHeartbeats 4000000 in
theorem loopsB_any (g n : Nat) (T : List Tr) (w : World) (h : Tab w g n T) (hS : Surf n T) (hn : n ≤ 4096) :
    Calls Tryz.prog 45 #[.pointer (some ⟨g, 0, none⟩)] w (LoopsPost n T w) := by
  have H0 := Lib.hid (fun (W : World) (hW : Below w.heap.size w W) => vertices_any g n T W (h.below hW).toTabS)
  have HT := Lib.hid (fun (W : World) (hW : Below w.heap.size w W) => h.below hW)
  have HT0 := Lib.hid h
  have HS := Lib.hid hS
  clear h hS
  have hmm := @run_makeMap Tryz.prog
  refine (callsIn_wide (n := 9)).1 ?_
  refine callsIn_of_wp_marks Tryz.func45 rfl trivial ?_ rfl
  simp only [Tryz.ntmps45, List.size_toArray, List.length_cons, List.length_nil, Nat.reduceAdd, Nat.reduceSub, Array.replicate_succ, Array.replicate_zero, List.push_toArray, List.append_toArray, List.nil_append, List.cons_append]
  have hB0 : Below w.heap.size w ((w.alloc (.map #[] 0)).alloc (.cells #[.map (some w.heap.size)] 123)) := ((Below.refl _ _).alloc (Nat.le_refl _) _).alloc (by simp) _
  have hm0 : MapP Tryz.prog 3 ((w.alloc (.map #[] 0)).alloc (.cells #[.map (some w.heap.size)] 123)) w.heap.size (fun _ => none) := (MapP.made w Tryz.prog 3).alloc _
  have b0 : Blk ((w.alloc (.map #[] 0)).alloc (.cells #[.map (some w.heap.size)] 123)) (w.heap.size + 1) 123 #[.map (some w.heap.size)] := by
    have := Blk.new (w.alloc (.map #[] 0)) 123 #[.map (some w.heap.size)]
    rwa [World.size_alloc] at this
  have HI0 := Lib.hid (show LoI True w n T 0 (.slice none 0 0) [] [] (fun _ => none) _ from ⟨b0, hm0, World.ownsRow_nil _ _ _ _, rfl, Nat.le_refl _, fun i u r h1 => by simp at h1, fun y v h => by simp at h, fun _ _ => ⟨fun _ => rfl, fun j hj => absurd hj (by omega)⟩, fun h => absurd rfl h, hB0⟩)
  have HB0 := Lib.hid hB0
  clear hB0 hm0 b0
  gi_wp2_with fail
  refine ⟨trivial, (callsIn_wide.2 (H0.out _ HB0.out)).mono ?_⟩
  rintro e w1 ⟨rfl, rfl⟩
  gi_wp2
  refine wpIn_loop (fun a' W => ∃ (k : Nat) (vO u5 u6 u7 u14 u15 u16 u17 u18 u19 u20 u21 u22 u23 u24 u25 u29 u30 u31 u32 u33 u34 u35 u36 : Value) (ds : List Deferred) (L : List (List Int)) (us : List Value) (f : Value → Option Value), a' = { tmps := List.toArray (.pointer (some ⟨g, 0, none⟩) :: undef :: .slice none 0 0 :: vO :: .pointer (some ⟨w.heap.size + 1, 0, none⟩) :: u5 :: u6 :: u7 :: .pointer (some ⟨g, 0, none⟩) :: .bool false :: .map (some w.heap.size) :: .pointer (some ⟨g, 0, none⟩) :: .int .i64 (n : Int) :: .int .i64 (k : Int) :: u14 :: u15 :: u16 :: u17 :: u18 :: u19 :: u20 :: u21 :: u22 :: u23 :: u24 :: u25 :: undef :: undef :: undef :: u29 :: u30 :: u31 :: u32 :: u33 :: u34 :: u35 :: u36 :: undef :: []), defers := ds } ∧
    k ≤ n ∧ Mks w.heap.size W ds ∧ LoI True w n T k vO L us f W)
    (fun a' _ => n - (intOf (a'.tmps.getD 13 undef)).toNat) ?_ ?_
  · exact ⟨0, _, _, _, _, _, _, _, _, _, _, _, _, _, _, _, _, _, _, _, _, _, _, _, _, _, _, _, _, rfl, Nat.zero_le _, Mks.nil _ _, HI0.out⟩
  · rintro a' W ⟨k, vO, u5, u6, u7, u14, u15, u16, u17, u18, u19, u20, u21, u22, u23, u24, u25, u29, u30, u31, u32, u33, u34, u35, u36, ds, L, us, f, rfl, hk, hM, hI⟩
    clear HI0 HB0
    obtain ⟨q0, q1, q2⟩ := hI.bx.one
    have hsz := hI.below.size
    have hlk := hI.lk
    have hul := hI.len
    by_cases hlt : k < n
    · have k3 : (k : Int) < (n : Int) := by omega
      have hkeyv := keyOf_int_mk (P := Tryz.prog) (k := 3) (q := .i64) Tryz.underlying3 (wfV (x := (k : Int)) ⟨by omega, by omega⟩)
      have hlook := hI.map.look (t := 123) (int_keyed Tryz.underlying3) Tryz.underlying123 (zero_bool _) hkeyv
      have HM := Lib.hid hM
      have HI := Lib.hid hI
      cases hfk : f (.int .i64 (k : Int)) with
      | some y =>
        have hy := hI.tru _ _ hfk
        subst hy
        rw [hfk, Option.getD_some] at hlook
        have HN := Lib.hid (hI.next (fun e => by rw [(hI.emp trivial e).1] at hfk; cases hfk))
        clear hM hI HI hfk
        gi_wp2
        refine ⟨⟨k + 1, _, _, _, _, _, _, _, _, _, _, _, _, _, _, _, _, _, _, _, _, _, _, _, _, _, _, _, _, by go_num, by omega, HM.out, HN.out⟩, ?_⟩
        simp [intOf]
        omega
      | none =>
      rw [hfk, Option.getD_none] at hlook
      clear hM hI hfk
      gi_wp2_with fail
      refine ⟨trivial, (callsIn_wide.2 (callsIn_wide.1 (bwalk_any Fence.wide 8 trivial rfl g (k : Int) W))).mono ?_⟩
      rintro e w2 ⟨rfl, rfl⟩
      have hB2 : Below W.heap.size W ((W.alloc (.cells #[.pointer (some ⟨g, 0, none⟩)] 26)).alloc (.cells #[.int .i64 (k : Int)] 3)) := ((Below.refl _ _).alloc (Nat.le_refl _) _).alloc (by simp) _
      have bt : Blk ((W.alloc (.cells #[.pointer (some ⟨g, 0, none⟩)] 26)).alloc (.cells #[.int .i64 (k : Int)] 3)) W.heap.size 26 #[.pointer (some ⟨g, 0, none⟩)] := (Blk.new _ _ _).alloc _
      have bv : Blk ((W.alloc (.cells #[.pointer (some ⟨g, 0, none⟩)] 26)).alloc (.cells #[.int .i64 (k : Int)] 3)) (W.heap.size + 1) 3 #[.int .i64 (k : Int)] := by
        have := Blk.new (W.alloc (.cells #[.pointer (some ⟨g, 0, none⟩)] 26)) 3 #[.int .i64 (k : Int)]
        rwa [World.size_alloc] at this
      generalize (W.alloc (.cells #[.pointer (some ⟨g, 0, none⟩)] 26)).alloc (.cells #[.int .i64 (k : Int)] 3) = W2 at *
      have hBw2 := HI.out.below.trans (hB2.mono hsz)
      have Hbt := Lib.hid bt
      have Hbv := Lib.hid bv
      have hz2 := hB2.size
      gi_wp2_with fail
      refine ⟨trivial, (callsIn_wide.2 (collectB (N := n) (enters_of Tryz.func98 (by kernel_rfl) rfl) (by omega) (bwalkB_sep (v := k) HS.out (HT.out W2 hBw2) hlt) (fun X hX => ⟨(hX.cell (p := ⟨W.heap.size, 0, none⟩) bt.lt).trans (bt.cell 0), (hX.cell (p := ⟨W.heap.size + 1, 0, none⟩) bv.lt).trans (bv.cell 0), Nat.lt_of_lt_of_le bt.lt hX.size, Nat.lt_of_lt_of_le bv.lt hX.size⟩) (fun j e => by rw [e]; exact bv.lt))).mono ?_⟩
      rintro e w3 ⟨v, xs, rfl, hF, hvr, hb3⟩
      have hB3 := hB2.trans (hb3.mono hz2)
      have HI3 := Lib.hid (HI.out.below' hB3)
      have HM3 := Lib.hid (HM.out.below hB3)
      have HV3 := Lib.hid (own_base hvr (Nat.le_trans hsz hz2))
      have HF := Lib.hid hF
      have h3s : W.heap.size ≤ w3.heap.size := hB3.size
      clear bt bv hb3 hB2 hBw2 Hbt Hbv hz2 hB3 hvr hF HI HM
      gi_wp2_with fail
      refine ⟨trivial, (callsIn_wide.2 (callsIn_wide.1 (bwalk_any Fence.wide 8 trivial rfl g (k : Int) w3))).mono ?_⟩
      rintro e w4 ⟨rfl, rfl⟩
      have hB4 : Below w3.heap.size w3 ((w3.alloc (.cells #[.pointer (some ⟨g, 0, none⟩)] 26)).alloc (.cells #[.int .i64 (k : Int)] 3)) := ((Below.refl _ _).alloc (Nat.le_refl _) _).alloc (by simp) _
      have bt : Blk ((w3.alloc (.cells #[.pointer (some ⟨g, 0, none⟩)] 26)).alloc (.cells #[.int .i64 (k : Int)] 3)) w3.heap.size 26 #[.pointer (some ⟨g, 0, none⟩)] := (Blk.new _ _ _).alloc _
      have bv : Blk ((w3.alloc (.cells #[.pointer (some ⟨g, 0, none⟩)] 26)).alloc (.cells #[.int .i64 (k : Int)] 3)) (w3.heap.size + 1) 3 #[.int .i64 (k : Int)] := by
        have := Blk.new (w3.alloc (.cells #[.pointer (some ⟨g, 0, none⟩)] 26)) 3 #[.int .i64 (k : Int)]
        rwa [World.size_alloc] at this
      generalize (w3.alloc (.cells #[.pointer (some ⟨g, 0, none⟩)] 26)).alloc (.cells #[.int .i64 (k : Int)] 3) = W4 at *
      have HI4 := Lib.hid (HI3.out.below' hB4)
      have Hbt := Lib.hid bt
      have Hbv := Lib.hid bv
      have HB4 := Lib.hid hB4
      have h4s : w3.heap.size ≤ W4.heap.size := hB4.size
      have h4t := bt.lt
      have h4v := bv.lt
      clear bt bv hB4
      gi_wp2
      refine wpIn_rangeFunc_sepO rfl (by omega) (gf := 98) (lb := #[.pointer (some ⟨w3.heap.size, 0, none⟩), .pointer (some ⟨w3.heap.size + 1, 0, none⟩)]) rfl trivial (enters_of Tryz.func98 (by kernel_rfl) rfl)
        (bwalkB_sepO (m := 8) (Bt := w3.heap.size) (Bv := w3.heap.size + 1) (v := k) HS.out HT0.out hlt) (fun X hX => ⟨(hX.cell (p := ⟨w3.heap.size, 0, none⟩) Hbt.out.lt).trans (Hbt.out.cell 0), (hX.cell (p := ⟨w3.heap.size + 1, 0, none⟩) Hbv.out.lt).trans (Hbv.out.cell 0), Nat.lt_of_lt_of_le Hbt.out.lt hX.size, Nat.lt_of_lt_of_le Hbv.out.lt hX.size⟩) (fun j e => by rw [e]; exact Hbv.out.lt) HI4.out.below (fun _ => rfl)
        (MkI w W4 (w3.heap.size + 1) f) (fun _ _ _ _ => False) ?_ (fun _ _ _ _ _ h => h.elim) (fun j => w.heap.size ≤ j ∧ j < W4.heap.size ∧ j ≠ w3.heap.size + 1) (fun j hj => hj) ⟨fun _ => Iff.rfl, fun _ _ _ => rfl, Below.refl _ _, f, HI4.out.map, HI4.out.tru, fun _ => rfl⟩ ?_ ?_ ?_
      · rintro xs C A B ⟨h1, h2, h3, f', h4, h5, h6⟩ hb hs
        exact ⟨h1, fun j hj hne => (hs j hj).trans (h2 j hj hne), h3.trans hb, f', h4.same9 (hs _ ((h1 _).2 ⟨Nat.le_refl _, by omega, by omega⟩)), h5, h6⟩
      · intro l pre x C X hl hl2 hX hCb hlen hxb
        gi_wp2
        refine ⟨Kept.refl _ _, hX, ?_⟩
        intro W2 hk2 hX2 hCb2 hz2
        obtain ⟨h1, h2, h3, f', h4, h5, h6⟩ := hX2
        have bx2 : Blk W2 (w.heap.size + 1) 123 #[.map (some w.heap.size)] := blk_same HI4.out.bx (h2 _ ((h1 _).2 ⟨by omega, HI4.out.bx.lt, by omega⟩) (by omega))
        obtain ⟨r0, r1, r2⟩ := bx2.one
        have hkeyx := keyOf_int_mk (P := Tryz.prog) (k := 3) (q := .i64) Tryz.underlying3 (wfV (x := x) ⟨by omega, by omega⟩)
        have H1 := Lib.hid h1
        have H2 := Lib.hid h2
        have H3 := Lib.hid h3
        have H4 := Lib.hid h4
        have H5 := Lib.hid h5
        clear h1 h2 h3 h4 h5 h6 hX hCb hCb2 hk2 bx2
        gi_wp2_with (first
          | (gi_at_mapUpdate; go_loud (refine wpListIn_storeP H4.out rfl _ _ _ 123 4 rfl (int_keyed Tryz.underlying3) Tryz.underlying123 rfl (.int .i64 x) (.bool true) rfl rfl hkeyx ?_); intro W5 hm5 hg5 hz5))
        have hcm : C w.heap.size := (H1.out _).2 ⟨Nat.le_refl _, by omega, by omega⟩
        refine ⟨(Kept.refl _ _).grown hg5 (fun j e => by cases e; exact .inl hcm), C, fun j hj => .inl hj, H1.out, fun j hj hne => (hg5.block j ?_ (fun e => hne (by cases e; rfl))).trans (H2.out j hj hne), H3.out.grown hg5 (Nat.le_trans HI4.out.below.size H3.out.size) (fun j e => by cases e; omega), _, hm5, fun y u hu => ?_, fun e => by simp at e⟩
        · have := ((H1.out j).1 hj).2.1
          have := H3.out.size
          omega
        · by_cases e : y = .int .i64 x
          · subst e
            rw [updP_same] at hu
            cases hu; rfl
          · rw [updP_other e] at hu
            exact H5.out y u hu
      · rintro D xs' C W5 hD hCD hF' ⟨h1, h2, h3, f', h4, h5, h6⟩ hK
        have hz5 := h3.size
        have hsm : ∀ j, j < w3.heap.size → j ≠ w.heap.size → W5.heap[j]? = w3.heap[j]? := fun j hj hne => by
          rcases Nat.lt_or_ge j w.heap.size with hj2 | hj2
          · exact (h3.block j hj2).trans (HB4.out.block j hj)
          · exact (h2 j ((h1 j).2 ⟨hj2, by omega, by omega⟩) hne).trans (HB4.out.block j hj)
        have hb35 : Below w.heap.size w3 W5 := (HB4.out.mono HI3.out.below.size).trans h3
        have hxx : xs = [] → xs' = [] := fun e => Classical.byContradiction fun hne => by
          obtain ⟨-, u, hu⟩ := hF'.2.1 hne
          exact HF.out.1 e u hu
        have hMd : Mks w.heap.size W5 ({ target := .collected D, args := #[] } :: ds) := (HM3.out.same HI3.out.map.obj hsm).cons hK (by omega) (fun d hd e => by
          obtain ⟨r, e1, e2, e3⟩ := HM3.out.1 d hd
          rw [e] at e1
          have := (Array.getElem?_eq_some_iff.1 e3).1
          injection e1 with e1
          omega)
        have HMd := Lib.hid hMd
        have HV5 := Lib.hid (own_same HV3.out (fun j e => hsm j (HV3.out.lt j e).2 (fun e2 => by
          subst e2
          rcases own_blk_none_map HV3.out HI3.out.map with h1 | h1
          · rw [e] at h1; cases h1
          · exact h1 e)))
        by_cases hxe : xs = []
        · have hf : f' = f := h6 (hxx hxe)
          subst hf
          have HI5 := Lib.hid ((HI3.out.same hb35 hsm h4 h5 (q := True) (fun _ e => (HI3.out.emp trivial e).1)).next (fun _ => HF.out.1 hxe))
          subst hxe
          obtain ⟨av, cv, rfl⟩ := ownsRow_slice HV3.out
          clear h1 h2 h3 h4 h5 h6 hsm hb35 hxx hMd hF' hCD
          gi_wp2
          refine ⟨⟨k + 1, _, _, _, _, _, _, _, _, _, _, _, _, _, _, _, _, _, _, _, _, _, _, _, _, _, _, _, _, by go_num, by omega, HMd.out, HI5.out⟩, ?_⟩
          simp [intOf]
          omega
        · have hxp : (0 : Int) < (xs.length : Int) := by have := List.length_pos_iff.2 hxe; omega
          obtain ⟨⟨r, hr⟩, u, hu⟩ := HF.out.2.1 hxe
          have hcl := nxt_open hu
          have hfst : ∃ a r', xs = a :: r' ∧ 0 ≤ a ∧ a < (n : Int) := ⟨_, r, hr, by omega, by omega⟩
          have HI5 := Lib.hid (HI3.out.same hb35 hsm h4 h5 (q := False) (fun e => e.elim))
          obtain ⟨i1, hi', hy0, hy1, hy2⟩ := info_parts infoInts
          obtain ⟨av, cv, rfl⟩ := ownsRow_slice HV3.out
          have hz3 := HI5.out.below.size
          have HFst := Lib.hid hfst
          have HU := Lib.hid hul
          have hul2 : us.length ≤ k := by omega
          clear h1 h2 h3 h4 h5 h6 hsm hb35 hxx hMd hF' hCD hr hu hfst hxe hul
          gi_wp2_with (first
            | (gi_at_builtin; go_loud (refine wpListIn_append_lies rfl (.tmp 32) (.tmp 34) 89 rfl w.heap.size 30 i1 _ 1 24 Tryz.underlying89 hi' hy0 hy1 hy2 rfl (by decide) vO _ _ rfl (HI5.out.alloc (.cells #[.slice av xs.length cv] 30)).row ⟨W5.heap.size, 0, none⟩ 1 1 [.slice av xs.length cv] rfl rfl (World.news_of_block (heap_alloc_new _ _)) (by simp [Value.oneCell']) (by decide) (by unfold maxLen; omega) (by omega) (by simp; omega) ?_); intro g8 cap8 W8 hr8 hg8 hat8 hlt8; have HR8 := Lib.hid hr8; have HG8 := Lib.hid hg8; clear hr8 hg8 hat8))
          have HI8 := Lib.hid ((HI5.out.alloc (.cells #[.slice av xs.length cv] 30)).app (HV5.out.alloc _) HFst.out hcl HG8.out HR8.out rfl)
          refine ⟨⟨k + 1, _, _, _, _, _, _, _, _, _, _, _, _, _, _, _, _, _, _, _, _, _, _, _, _, _, _, _, _, by go_num, by omega, (HMd.out.alloc9 (.cells #[.slice av xs.length cv] 30)).grown9 HG8.out (HI5.out.alloc (.cells #[.slice av xs.length cv] 30)).row, HI8.out⟩, ?_⟩
          simp [intOf]
          omega
      · intro D c pre C W' _ _ _ h _
        exact h.elim
    · obtain rfl : k = n := by omega
      have HI := Lib.hid hI
      clear hI
      gi_wp2
      refine leaves_marks (base := w.heap.size) ds _ hM fun W' hk => ?_
      refine ⟨vO, ?_, LoI.post HS.out (HI.out.marks hk (fun j hj => by
          obtain ⟨h1, d, h2, h3⟩ := hj
          obtain ⟨r, k1, k2, k3⟩ := hM.1 d h2
          rw [h3] at k1
          injection k1 with k1
          exact ⟨h1, _, by rw [k1]; exact k3⟩))⟩
      simp [results, Tryz.results45, go_sem]
end Go.Proofs.YtpnkhgjjlionnaaGreat
namespace Go.Proofs.YtpnkhgjjlionnaaGreat
open Go.RowKit Go.Maps Go.Shelf

/-- walk.Walk of a surface: a walk just if it is simple. -/
theorem walk_both {w : World} {g n c : Nat} {T : List Tr} (hS : Surf n T) (hT : Tab w g n T) (hl : T.length ≤ 40) (hc : c < 3 * T.length) :
    Calls Tryz.prog 13 #[.pointer (some ⟨g, 0, none⟩), .int .i64 c] w fun e w' => (Simp n T ∧ WalkPost w T c e w') ∨ (¬ Simp n T ∧ NoWalk w 12 e w') := by
  by_cases hs : Simp n T
  · exact (walk_any hs hT hc).mono fun e w' h => .inl ⟨hs, h⟩
  · refine (walk_err (z := 12) (by decide) (fun W hW => ?_)).mono fun e w' h => .inr ⟨hs, h⟩
    have := check_walk g n T W c (hT.below hW) hS (by omega) (fun W' hW' => loopsB_any g n T W' ((hT.below hW).below hW') hS (by have := hS.n1; omega))
    rw [if_neg (by omega), if_neg (fun h => hs ((chk_simp hS).1 h))] at this
    exact this
/-- What genus.Of tells of a surface is enough. -/
theorem genus_simp {n m : Nat} {T : List Tr} {out cs : List Int} (hS : Surf n T) (hSh : Shl T out) (hm : cntL out = m) (h6 : m = 1 → ∃ E b : Int, cs = [(n : Int), E, T.length, b, n - E + T.length, (2 - b - (n - E + T.length)).tdiv 2] ∧ 0 ≤ b ∧ (b = 0 ↔ ClosedT T) ∧ (ClosedT T → E = 3 * (T.length : Int) / 2)) :
    Simp n T ↔ m = 1 ∧ at_ cs 3 = 0 ∧ at_ cs 5 = 0 := by
  rw [← chk_simp hS]
  constructor
  · rintro ⟨out', h1, h2, h3, h4⟩
    have := hSh.one h1
    subst this
    have hm1 : m = 1 := by omega
    obtain ⟨E, b, rfl, hb0, hb1, hE⟩ := h6 hm1
    have hb := hb1.2 h3
    refine ⟨hm1, hb, ?_⟩
    show (2 - b - ((n : Int) - E + T.length)).tdiv 2 = 0
    rw [hb, hE h3]
    exact h4
  · rintro ⟨hm1, h3, h5⟩
    obtain ⟨E, b, rfl, hb0, hb1, hE⟩ := h6 hm1
    have hb : b = 0 := h3
    have hc := hb1.1 hb
    refine ⟨out, hSh, by rw [hm, hm1]; rfl, hc, ?_⟩
    have h5' : (2 - b - ((n : Int) - E + T.length)).tdiv 2 = 0 := h5
    rw [hb, hE hc] at h5'
    exact h5'
end Go.Proofs.YtpnkhgjjlionnaaGreat
namespace Go.Proofs.YtpnkhgjjlionnaaGreat
open Go.RowKit Go.Maps Go.Shelf

set_option maxHeartbeats 1000000 in
/-- Out of range: told before the surface is looked at. -/
theorem check_out (g n : Nat) (T : List Tr) (w : World) (r : Int) (hT : Tab w g n T) (hr : r < 0 ∨ 3 * (T.length : Int) ≤ r) :
    Calls Tryz.prog 34 #[.pointer (some ⟨g, 0, none⟩), .int .i64 r] w fun e w' => e = .returned (.int .i64 2) ∧ Below w.heap.size w w' := by
  have H0 := Lib.hid (triangles_any g n T w hT.toTabS)
  have hl := hT.len
  obtain ⟨F, hF⟩ : ∃ F, T.length = F := ⟨_, rfl⟩
  rw [hF] at hl H0 hr
  clear hT hF
  by_cases h0 : r < 0
  · go_enter Tryz.func34, Tryz.ntmps34
    go_wp2
    go_ret
    exact ⟨rfl, Below.refl _ _⟩
  · have h1 : (3 : Int) * (F : Int) ≤ r := by omega
    clear hr
    go_enter Tryz.func34, Tryz.ntmps34
    go_wp2_with fail
    refine H0.out.mono ?_
    rintro e w0 ⟨rfl, rfl⟩
    go_wp2
    go_ret
    exact ⟨rfl, Below.refl _ _⟩
/-- What corner.New tells, as a pointer: a surface's table, or nothing. -/
def TabOr (w : World) (a : Option Addr) (N : Int) (T : List Tr) : Prop := (∃ g n : Nat, N = n ∧ a = some ⟨g, 0, none⟩ ∧ Tab w g n T ∧ Surf n T) ∨ (a = none ∧ ¬ Surf N T)
theorem TabOr.below {w w' : World} {a : Option Addr} {N : Int} {T : List Tr} (h : TabOr w a N T) (hb : Below w.heap.size w w') : TabOr w' a N T := by
  rcases h with ⟨g, n, h1, h2, h3, h4⟩ | h
  · exact .inl ⟨g, n, h1, h2, h3.below hb, h4⟩
  · exact .inr h
/-- corner.New, in one form. -/
theorem new_or (N : Int) (v : Value) (T : List Tr) (w : World) (h : TrisRd w v T) (hl : T.length ≤ 8192) : Calls Tryz.prog 12 #[.agg #[.int .i64 N, v]] w fun e w' =>
    ∃ a x y z, e = .returned (.tuple #[.pointer a, .agg #[.int .i64 x, .int .i64 y, .int .i64 z]]) ∧ TabOr w' a N T ∧ Below w.heap.size w w' := by
  refine (new_any N v T w h hl).mono ?_
  rintro e w' ⟨⟨hS, g, rfl, hT, -⟩ | ⟨hS, x, y, z, -, rfl⟩, hb⟩
  · obtain ⟨n, rfl⟩ : ∃ n : Nat, N = n := ⟨N.toNat, by have := hS.n0; omega⟩
    exact ⟨_, 0, 0, 0, rfl, .inl ⟨g, n, rfl, rfl, hT, hS⟩, hb⟩
  · exact ⟨_, x, y, z, rfl, .inr ⟨rfl, hS⟩, hb⟩
/-- A walk of a simple surface, or none. -/
theorem walk_tot {w : World} {a : Option Addr} {N : Int} {T : List Tr} (r : Int) (hT : TabOr w a N T) (hl : T.length ≤ 40) :
    Calls Tryz.prog 13 #[.pointer a, .int .i64 r] w fun e w' => (∃ k : Nat, r = k ∧ k < 3 * T.length ∧ Simp N T ∧ WalkPost w T k e w') ∨ ((¬ Simp N T ∨ ∀ k : Nat, r = k → ¬ k < 3 * T.length) ∧ ∃ z : Int, (z == 0) = false ∧ NoWalk w z e w') := by
  rcases hT with ⟨g, n, rfl, rfl, hT, hS⟩ | ⟨rfl, hS⟩
  · by_cases hr : 0 ≤ r ∧ r < 3 * (T.length : Int)
    · obtain ⟨k, rfl⟩ : ∃ k : Nat, r = k := ⟨r.toNat, by omega⟩
      have hk : k < 3 * T.length := by omega
      refine (walk_both hS hT hl hk).mono ?_
      rintro e w' (⟨hs, h⟩ | ⟨hs, h⟩)
      · exact .inl ⟨k, rfl, hk, hs, h⟩
      · exact .inr ⟨.inl hs, 12, by decide, h⟩
    · refine (walk_err (z := 2) (by decide) (fun W hW => check_out g n T W r (hT.below hW) (by omega))).mono ?_
      exact fun e w' h => .inr ⟨.inr fun k hk => by omega, 2, by decide, h⟩
  · exact (walk_err (z := 1) (by decide) (fun W _ => check_nil r W)).mono fun e w' h => .inr ⟨.inl fun hs => hS hs.surf, 1, by decide, h⟩
end Go.Proofs.YtpnkhgjjlionnaaGreat
namespace Go.Proofs.YtpnkhgjjlionnaaGreat.Zp
open Go.RowKit Go.Maps

/-- The letters of a walk's text are the walk's. -/
theorem letters_word {N : Nat} {T : List Tr} {c : Nat} (h : Simp N T) (hc : c < 3 * T.length) : lettersOf (wordS (stepsM T c)) = lettersW T c := by
  obtain ⟨-, hf⟩ := stepsM_facts h hc
  unfold lettersOf lettersW wordS
  simp only [List.map_map]
  refine List.map_congr_left fun x hx => ?_
  obtain ⟨h1, h2⟩ := hf x hx
  simp only [Function.comp]
  rw [UInt8.toNat_ofNat']
  omega
end Go.Proofs.YtpnkhgjjlionnaaGreat.Zp
namespace Go.Proofs.YtpnkhgjjlionnaaGreat
open Go.RowKit

section
variable {P : Program} {l : List Oper} {Q : Exit → Act → World → Prop} {md : Region.Mode} {S : World → Prop} {n : Nat}

/-- Whatever order is picked from here on; behind each operation but the last one S holds. -/
def wpAnyU (P : Program) (md : Region.Mode) (l : List Oper) (Q : Exit → Act → World → Prop) (S : World → Prop) (n : Nat) : Nat → Array Bool → Act → World → Prop
  | 0, listed, a, w => Region.ready md l.toArray listed = [] ∧ Q .normal a w
  | f + 1, listed, a, w => (Region.ready md l.toArray listed = [] → Q .normal a w) ∧
    ∀ i ∈ Region.ready md l.toArray listed, wpOp P l.toArray Q i (fun a' w' => (i ≠ n → S w') ∧ wpAnyU P md l Q S n f (listed.setIfInBounds i true) a' w') a w
theorem wpAny_of_U : ∀ (f : Nat) (listed : Array Bool) (a : Act) (w : World), wpAnyU P md l Q S n f listed a w → wpAny P md l.toArray Q f listed a w
  | 0, _, _, _, h => h
  | f + 1, _, _, _, h => ⟨h.1, fun i hi => wpOp_mono (fun a' w' h' => wpAny_of_U f _ a' w' h'.2) (h.2 i hi)⟩
/-- Who waits for all is behind who has not come up. -/
theorem last_waits {listed : Array Bool} (hs : Region.sinkB md l.toArray n = true) (hc : Region.chainB md l.toArray n = true) (hn : n + 1 = l.length) (inv : HeadInv md l.toArray n listed) {i : Nat} (hi : i < n) (hun : listed.getD i true = false) : ∀ j ∈ Region.ready md l.toArray listed, j < n := fun j hj => by
  rcases Nat.lt_or_ge j n with h | h
  · exact h
  · exact absurd hj (tail_waits hs hc (by simp; omega) inv _ i rfl hi hun j h)
theorem wpAnyU_first {i : Nat} {oi : Oper} {v : Value} (hi : l[i]? = some oi) (hsel : ∀ (j : Nat) (o : Oper) cs b, l.toArray[j]? = some o → o.op ≠ .select cs b)
    (hs : Region.sinkB md l.toArray n = true) (hc : Region.chainB md l.toArray n = true) (hn : n + 1 = l.length) (hin : i < n)
    (hQ : ∀ c a w, Q (.panic c) (a.put oi.dst v) w → Q (.panic c) a w) :
    ∀ (f : Nat) (listed : Array Bool) (a : Act) (w : World), HeadInv md l.toArray n listed →
      (∀ j oj, l.toArray[j]? = some oj → j ≠ i → listed.getD j true = false → (∀ e ∈ oj.after, Region.binds md e = true → e.on ≠ i) → oi.apart l.toArray oj = true) →
      i ∈ Region.ready md l.toArray listed → YieldsIf P l.toArray S oi v a → S w →
      wpAnyU P md l Q S n f (listed.setIfInBounds i true) (a.put oi.dst v) w → wpAnyU P md l Q S n (f + 1) listed a w := by
  have hi' : l.toArray[i]? = some oi := by simpa using hi
  intro f
  induction f with
  | zero =>
    intro listed a w inv _ hr hy hS H
    refine ⟨fun h => (by rw [h] at hr; cases hr), fun j hj => ?_⟩
    by_cases hji : j = i
    · subst hji
      exact hy.wpOp hi' hS ⟨fun _ => hS, H⟩
    · have := ready_mono hj hji
      rw [H.1] at this
      cases this
  | succ f ih =>
    intro listed a w inv hfree hr hy hS H
    have hun := (mem_ready.1 hr).1
    refine ⟨fun h => (by rw [h] at hr; cases hr), fun j hj => ?_⟩
    by_cases hji : j = i
    · subst hji
      exact hy.wpOp hi' hS ⟨fun _ => hS, H⟩
    · have hjn := last_waits hs hc hn inv hin hun j hj
      have h1 := H.2 j (ready_mono hj hji)
      obtain ⟨hjun, oj, hoj, hall⟩ := mem_ready.1 hj
      have hnot : ∀ e ∈ oj.after, Region.binds md e = true → e.on ≠ i := fun e he hb heq => by
        have h3 := hall e he hb
        rw [heq, getD_both hun] at h3
        cases h3
      have h2 := wpOp_putIf hoj (hfree j oj hoj hji hjun hnot) (fun cs b => hsel i oi cs b hi') (fun cs b => hsel j oj cs b hoj) hQ hy h1
      refine wpOp_mono (fun a' w' h3 => ⟨h3.2.1, ih (listed.setIfInBounds j true) a' w' (inv.set hj hjn) ?_ (ready_mono hr (Ne.symm hji)) h3.1 (h3.2.1 (by omega)) ?_⟩) h2
      · intro k ok hk hki hu hno
        refine hfree k ok hk hki ?_ hno
        by_cases hjk : j = k
        · subst hjk
          exact hjun
        · rw [getD_set_ne true hjk] at hu
          exact hu
      · rw [Array.setIfInBounds_comm _ _ hji]
        exact h3.2.2
/-- The state of a walk through the region: who has come up, and what holds. -/
structure AtU (P : Program) (md : Region.Mode) (l : List Oper) (Q : Exit → Act → World → Prop) (S : World → Prop) (n f : Nat) (listed : Array Bool) (a : Act) (w : World) : Prop where
  go : HeadInv md l.toArray n listed → S w → wpAnyU P md l Q S n f listed a w
/-- What the region is, once. -/
def okU (md : Region.Mode) (l : List Oper) (n : Nat) : Bool := Region.noSelect l.toArray && Region.sinkB md l.toArray n && Region.chainB md l.toArray n && decide (n + 1 = l.length)
theorem AtU.take {i f : Nat} {oi : Oper} {v : Value} {listed : Array Bool} {a : Act} {w : World} (hi : l[i]? = some oi) (hok : okU md l n = true) (hf : (decide (i < n) && Region.free md l.toArray listed i && (Region.ready md l.toArray listed).contains i) = true)
    (hQ : ∀ c a w, Q (.panic c) (a.put oi.dst v) w → Q (.panic c) a w) (hw : Region.wanted oi (yielded l.toArray a.tmps) = true) (hy : ∀ w, S w → (execOp a.eval oi).run P w = .ok (.value v) w)
    (h : AtU P md l Q S n f (listed.setIfInBounds i true) (a.put oi.dst v) w) : AtU P md l Q S n (f + 1) listed a w := by
  simp only [okU, Bool.and_eq_true, decide_eq_true_eq] at hok hf
  obtain ⟨⟨⟨h1, h2⟩, h3⟩, h4⟩ := hok
  obtain ⟨⟨h5, h6⟩, h7⟩ := hf
  have hr : i ∈ Region.ready md l.toArray listed := by simpa using h7
  exact ⟨fun inv hS => wpAnyU_first hi (Region.noSelect_spec h1) h2 h3 h4 h5 hQ f listed a w inv (Region.free_spec (by simpa using hi) h6) hr (.inl ⟨hw, hy⟩) hS (h.go (inv.set hr h5) hS)⟩
/-- One alone may come up. -/
theorem AtU.step {i f : Nat} {o : Oper} {listed : Array Bool} {a : Act} {w : World} (hi : l[i]? = some o) (hr : (decide (Region.ready md l.toArray listed = [i]) && decide (i < n)) = true)
    (h : ∀ K' : Act → World → Prop, Shut (∀ a' w', S w' → AtU P md l Q S n f (listed.setIfInBounds i true) a' w' → K' a' w') → if Region.wanted o (yielded l.toArray a.tmps) = true then Oper.wp P o a w K' Q else K' (a.put o.dst undef) w) : AtU P md l Q S n (f + 1) listed a w := by
  simp only [Bool.and_eq_true, decide_eq_true_eq] at hr
  refine ⟨fun inv hS => ⟨fun h0 => (by rw [hr.1] at h0; cases h0), fun j hj => ?_⟩⟩
  have hjr := hj
  rw [hr.1] at hj
  have : j = i := by simpa using hj
  subst this
  exact wpOp_step (o := o) (by simpa using hi) (fun K' hK => h K' (fun a' w' hS' hA => hK a' w' ⟨fun _ => hS', hA.go (inv.set hjr hr.2) hS'⟩))
/-- The last one. -/
theorem AtU.last {i : Nat} {o : Oper} {listed : Array Bool} {a : Act} {w : World} (hi : l[i]? = some o) (hr : (decide (Region.ready md l.toArray listed = [i]) && (Region.ready md l.toArray (listed.setIfInBounds i true)).isEmpty && decide (i = n)) = true)
    (h : ∀ K' : Act → World → Prop, Shut (∀ a' w', Q .normal a' w' → K' a' w') → if Region.wanted o (yielded l.toArray a.tmps) = true then Oper.wp P o a w K' Q else K' (a.put o.dst undef) w) : AtU P md l Q S n 1 listed a w := by
  simp only [Bool.and_eq_true, decide_eq_true_eq, List.isEmpty_iff] at hr
  refine ⟨fun inv hS => ⟨fun h0 => (by rw [hr.1.1] at h0; cases h0), fun j hj => ?_⟩⟩
  rw [hr.1.1] at hj
  have : j = i := by simpa using hj
  subst this
  exact wpOp_step (o := o) (by simpa using hi) (fun K' hK => h K' (fun a' w' hq => hK a' w' ⟨fun hne => absurd hr.2 hne, hr.1.2, hq⟩))
/-- The beginning. -/
theorem wp_region_U {id : Nat} {a : Act} {w : World} (n : Nat) (S : World → Prop) (hm : P.follows .mixedOrders = true) (hS : S w.drew) (h : AtU P .any l Q S n l.length (Array.replicate l.length false) a w.drew) : (Code.region id l.toArray true).wp P Q a w := by
  refine wp_region_any hm (wpAny_of_U (n := n) (S := S) _ _ _ _ ?_)
  have := h.go ⟨by simp, fun j oj _ hl => (by rw [getD_replicate_false] at hl; cases hl), fun t _ ht => getD_in (by simpa using ht) (getD_replicate_false _ _)⟩ hS
  simpa using this
end
end Go.Proofs.YtpnkhgjjlionnaaGreat
namespace Go.Proofs.YtpnkhgjjlionnaaGreat
open Go.RowKit

theorem retB {w w' : World} {e : Ending} (h : RetB w e w') : (∃ b : Bool, e = .returned (.bool b)) ∧ Below w.heap.size w w' := h
set_option maxHeartbeats 1000000 in
theorem has15_any (x y z a : Int) (w : World) : Calls Tryz.prog 36 #[.agg #[.int .i64 x, .int .i64 y, .int .i64 z], .int .i64 a] w (RetB w) := by
  have b1 := Blk.new w 60 #[.int .i64 x, .int .i64 y, .int .i64 z]
  obtain ⟨l0, p0, -, p1, -, p2, -⟩ := b1.three
  clear b1
  go_enter Tryz.func36, Tryz.ntmps36
  go_wp2
  all_goals
    go_ret
    exact ⟨⟨_, rfl⟩, (Below.refl _ _).alloc (Nat.le_refl _) _⟩
set_option maxRecDepth 100000 in
set_option maxHeartbeats 2000000 in
theorem beside15_any (x y z x' y' z' : Int) (w : World) : Calls Tryz.prog 67 #[.agg #[.int .i64 x, .int .i64 y, .int .i64 z], .agg #[.int .i64 x', .int .i64 y', .int .i64 z']] w (RetB w) := by
  have HH := Lib.hid has15_any
  have bt := (Blk.new w 60 #[.int .i64 x, .int .i64 y, .int .i64 z]).alloc (.cells #[.int .i64 x', .int .i64 y', .int .i64 z'] 60)
  have bu : Blk ((w.alloc (.cells #[.int .i64 x, .int .i64 y, .int .i64 z] 60)).alloc (.cells #[.int .i64 x', .int .i64 y', .int .i64 z'] 60)) (w.heap.size + 1) 60 #[.int .i64 x', .int .i64 y', .int .i64 z'] := blk_new9 (by simp)
  have hB : Below w.heap.size w ((w.alloc (.cells #[.int .i64 x, .int .i64 y, .int .i64 z] 60)).alloc (.cells #[.int .i64 x', .int .i64 y', .int .i64 z'] 60)) := ((Below.refl _ _).alloc (Nat.le_refl _) _).alloc (by simp) _
  go_enter Tryz.func67, Tryz.ntmps67
  go_wp2
  generalize (w.alloc (.cells #[.int .i64 x, .int .i64 y, .int .i64 z] 60)).alloc (.cells #[.int .i64 x', .int .i64 y', .int .i64 z'] 60) = W0 at *
  have HX := Lib.hid (And.intro bt bu)
  have HB := Lib.hid hB
  clear bt bu hB
  go_loopw [5, 6] (fun v5 v6 W => ∃ n i : Nat, n ≤ i ∧ i ≤ 3 ∧ v5 = .int .i64 n ∧ v6 = .int .i64 i ∧ Below W0.heap.size W0 W) (fun _ v6 _ => 3 - (intOf v6).toNat)
  case atStart => exact ⟨0, 0, Nat.le_refl _, by omega, rfl, rfl, Below.refl _ _⟩
  case round =>
    rename World => wr
    obtain ⟨n, i, hn, hi, rfl, rfl, hb⟩ := hrel
    by_cases hlt : i < 3
    · have bt := HX.out.1.below hb HX.out.1.lt
      have bu := HX.out.2.below hb HX.out.2.lt
      obtain ⟨e, hc⟩ : ∃ e : Int, wr.cell? ⟨w.heap.size, i, none⟩ = some (.int .i64 e) := by
        have : i = 0 ∨ i = 1 ∨ i = 2 := by omega
        rcases this with rfl | rfl | rfl
        · exact ⟨_, bt.cell 0⟩
        · exact ⟨_, bt.cell 1⟩
        · exact ⟨_, bt.cell 2⟩
      have HU := Lib.hid bu
      have Hb := Lib.hid hb
      obtain ⟨m1, q0, -, q1, -, q2, -⟩ := bu.three
      have hi3 : (i : Int) < 3 := by omega
      clear bt bu hb
      go_upto_region 5 with fail
      refine wp_region_U 4 (fun w' => w'.cell? ⟨w.heap.size, i, none⟩ = some (.int .i64 e) ∧ w'.cell? ⟨w.heap.size + 1, 0, none⟩ = some (.int .i64 x') ∧ w'.cell? ⟨w.heap.size + 1, 1, none⟩ = some (.int .i64 y') ∧ w'.cell? ⟨w.heap.size + 1, 2, none⟩ = some (.int .i64 z')) (by kernel_rfl) ⟨hc, q0, q1, q2⟩ ?_
      change AtU _ _ _ _ _ _ 5 (Array.replicate 5 false) _ _
      refine AtU.take (i := 0) (v := ?_) rfl (by kernel_rfl) (by kernel_rfl) (fun _ _ _ h => h) (by rfl) ?_ ?_
      rotate_left 1
      · intro w9 hSw; (try dsimp only at hSw); go_simp; try with_reducible rfl
      try simp only [Act.put, List.setIfInBounds_toArray, List.set_cons_zero, List.set_cons_succ]
      refine AtU.take (i := 1) (v := ?_) rfl (by kernel_rfl) (by kernel_rfl) (fun _ _ _ h => h) (by rfl) ?_ ?_
      rotate_left 1
      · intro w9 hSw; (try dsimp only at hSw); go_simp; try with_reducible rfl
      try simp only [Act.put, List.setIfInBounds_toArray, List.set_cons_zero, List.set_cons_succ]
      refine AtU.take (i := 2) (v := ?_) rfl (by kernel_rfl) (by kernel_rfl) (fun _ _ _ h => h) (by rfl) ?_ ?_
      rotate_left 1
      · intro w9 hSw; (try dsimp only at hSw); go_simp; try with_reducible rfl
      try simp only [Act.put, List.setIfInBounds_toArray, List.set_cons_zero, List.set_cons_succ]
      refine AtU.take (i := 3) (v := ?_) rfl (by kernel_rfl) (by kernel_rfl) (fun _ _ _ h => h) (by rfl) ?_ ?_
      rotate_left 1
      · intro w9 hSw; (try dsimp only at hSw); go_simp; try with_reducible rfl
      try simp only [Act.put, List.setIfInBounds_toArray, List.set_cons_zero, List.set_cons_succ]
      refine AtU.last (i := 4) rfl (by kernel_rfl) (fun K hK => ?_)
      go_wp2_with (go_at_call 36; refine (HH.out _ _ _ _ _).mono ?_; intro e1 w1 hx1; obtain ⟨⟨b, rfl⟩, hb1⟩ := retB hx1)
      refine hK.out _ _ ?_
      clear hK K
      have HB1 := Lib.hid ((below_d Hb.out).trans (hb1.mono Hb.out.size))
      clear hb1 hx1
      cases b
      · go_wp2
        go_roundw
        case measure => simp [intOf]; omega
        case rel => exact ⟨n, i + 1, by omega, by omega, rfl, by go_num, HB1.out⟩
      · go_wp2
        go_roundw
        case measure => simp [intOf]; omega
        case rel => exact ⟨n + 1, i + 1, by omega, by omega, by go_num, by go_num, HB1.out⟩
    · go_wp2
      go_ret
      exact ⟨⟨_, rfl⟩, HB.out.trans (hb.mono HB.out.size)⟩
end Go.Proofs.YtpnkhgjjlionnaaGreat
namespace Go.Proofs.YtpnkhgjjlionnaaGreat
open Go.RowKit

/-- The state between the rounds: the vertex's triangles, and which are come to. -/
structure FS15 (w : World) (N : Int) (a : Option Addr) (c n m : Nat) (xs : List Nat) (gL cL gB : Nat) (W : World) : Prop where
  bs : ∃ bs : List Bool, bs.length = n ∧ W.ownsRow w.heap.size 4 1 (.slice (some ⟨gB, 0, none⟩) n n) n (bools bs)
  row : W.ownsRow w.heap.size 3 1 (.slice (some ⟨gL, 0, none⟩) m cL) m (intsV (nats xs))
  k0 : Blk W w.heap.size 24 #[.int .i64 N, .slice a n c]
  below : Below w.heap.size w W
section
variable {w W W' : World} {N : Int} {a : Option Addr} {c n m gL cL gB : Nat} {xs : List Nat}
theorem FS15.le (h : FS15 w N a c n m xs gL cL gB W) (hb : Below W.heap.size W W') : FS15 w N a c n m xs gL cL gB W' := by
  obtain ⟨⟨bs, h1, h2⟩, h3, h5, h4⟩ := h
  exact ⟨⟨bs, h1, own_below9 h2 hb⟩, own_below9 h3 hb, h5.below hb h5.lt, h4.trans (hb.mono h4.size)⟩
theorem FS15.drew (h : FS15 w N a c n m xs gL cL gB W) : FS15 w N a c n m xs gL cL gB W.drew := ⟨h.bs, h.row, h.k0, below_d h.below⟩
theorem FS15.bit (h : FS15 w N a c n m xs gL cL gB W) {i : Nat} (hi : i < n) : ∃ b : Bool, W.cell? ⟨gB, i, none⟩ = some (.bool b) ∧ W.frozen? ⟨gB, i, none⟩ = false := by
  obtain ⟨⟨bs, h1, h2⟩, -, -, -⟩ := h
  obtain ⟨b, hb⟩ : ∃ b, bs[i]? = some b := ⟨bs[i]'(by omega), List.getElem?_eq_getElem _⟩
  exact ⟨b, by rw [h2.cellAt i (by omega), bools, List.getElem?_map, hb]; rfl, h2.frozenAt i⟩
theorem FS15.set_ (h : FS15 w N a c n m xs gL cL gB W) (i : Nat) : FS15 w N a c n m xs gL cL gB (W.setCell ⟨gB, i, none⟩ (.bool true)) := by
  obtain ⟨⟨bs, h1, h2⟩, h3, h5, h4⟩ := h
  have hs := h2.stored i (.bool true)
  refine ⟨⟨bs.set i true, by simpa using h1, by rw [← bools_set]; exact hs.1⟩, h3.kept hs.2 (own_own_ne h3 h2 (by decide)), h5.grown hs.2 (fun e => own_blk_ne h2 h5 (by decide) e.symm), h4.grown hs.2 h4.size (fun j e => (h2.lt j e).1)⟩
theorem FS15.at_ (h : FS15 w N a c n m xs gL cL gB W) {i x : Nat} (hm : xs.length = m) (hx : xs[i]? = some x) : W.cell? ⟨gL, i, none⟩ = some (.int .i64 (x : Int)) := by
  have hi := (List.getElem?_eq_some_iff.1 hx).1
  rw [h.row.cellAt _ (by omega), intsV, nats, List.getElem?_map, List.getElem?_map, hx]
  rfl
end
set_option maxRecDepth 100000 in
set_option maxHeartbeats 8000000 in
theorem fan15_any (N u : Int) (v : Value) (T : List Tr) (w : World) (h : TrisRd w v T) (hl : T.length ≤ 40) : Calls Tryz.prog 37 #[.agg #[.int .i64 N, v], .int .i64 u] w fun e w' => (∃ (p : Nat) (q : Int), e = .returned (.tuple #[.int .i64 p, .int .i64 q])) ∧ Below w.heap.size w w' := by
  obtain ⟨i1, hi', hy0, hy1, hy2⟩ := info_parts infoInt
  obtain ⟨i2, hj', hz0, hz1, hz2⟩ := info_parts infoBool
  obtain ⟨a, c, rfl, hc1, hc2, hr⟩ := h
  have b1 := Blk.new w 24 #[.int .i64 N, .slice a T.length c]
  obtain ⟨l0, x0, -, x1, -⟩ := b1.two
  have hB0 : Below w.heap.size w (w.alloc (.cells #[.int .i64 N, .slice a T.length c] 24)) := (Below.refl _ _).alloc (Nat.le_refl _) _
  obtain ⟨n, hn⟩ : ∃ n, T.length = n := ⟨_, rfl⟩
  rw [hn] at hl hc1 x0 x1 hB0 b1 l0 ⊢
  have HR := Lib.hid hr
  have HN := Lib.hid hn
  have HB0 := Lib.hid hB0
  have Hb1 := Lib.hid b1
  have HA := Lib.hid has15_any
  have HD := Lib.hid beside15_any
  clear hr hn b1 hB0
  go_enter Tryz.func37, Tryz.ntmps37
  go_wp2
  go_loopw [6, 7] (fun v6 i wr => ∃ (k : Nat) (xs : List Nat) (v' : Value), v' = v6 ∧ k ≤ n ∧ i = .int .i64 k ∧ wr.ownsRow w.heap.size 3 1 v' xs.length (intsV (nats xs)) ∧ xs.length ≤ k ∧ (∀ x ∈ xs, x < n) ∧ Blk wr w.heap.size 24 #[.int .i64 N, .slice a n c] ∧ Below w.heap.size w wr) (fun _ i _ => n - (intOf i).toNat)
  case atStart => exact ⟨0, [], _, rfl, Nat.zero_le _, rfl, World.ownsRow_nil _ _ _ _, by simp, by simp, Hb1.out, HB0.out⟩
  case round =>
    obtain ⟨k, xs, v3, rfl, hk, rfl, hrow, hm, hxs, hS, hB⟩ := hrel
    rename World => wr
    clear x0 x1 l0
    obtain ⟨ly, y0, -, y1, -⟩ := hS.two
    have HS := Lib.hid hS
    have HB := Lib.hid hB
    have Hro := Lib.hid hrow
    have HXs := Lib.hid hxs
    have hsz := hB.size
    by_cases hlt : k < n
    · have hk3 : (k : Int) < (n : Int) := by omega
      have hk0 : (0 : Int) ≤ (k : Int) := by omega
      obtain ⟨⟨x, y, z⟩, ht⟩ : ∃ t, T[k]? = some t := ⟨T[k]'(by have := HN.out; omega), List.getElem?_eq_getElem _⟩
      obtain ⟨b, o, rfl, hbl, s0, s1, s2⟩ := HR.out k x y z ht
      have s0' := (hB.cell (p := ⟨b, _, none⟩) hbl).trans s0
      have s1' := (hB.cell (p := ⟨b, _, none⟩) hbl).trans s1
      have s2' := (hB.cell (p := ⟨b, _, none⟩) hbl).trans s2
      have c3 : xs.length + 1 ≤ maxLen := by unfold maxLen; omega
      have c4 : (xs.length + 1) * 8 ≤ 140737488355328 := by omega
      clear ht hS hB hrow hxs
      go_wp2_with fail
      refine (HA.out _ _ _ _ _).mono ?_
      rintro e w2 ⟨⟨b2, rfl⟩, hb2⟩
      have hr2 := own_below9 Hro.out hb2
      have HS2 := Lib.hid (HS.out.below hb2 ly)
      have HB2 := Lib.hid (HB.out.trans (hb2.mono hsz))
      have hsz2 := HB2.out.size
      clear y0 y1 s0' s1' s2' hb2 s0 s1 s2
      cases b2
      · have Hr2 := Lib.hid hr2
        clear hr2
        go_wp2
        go_roundw
        case measure => simp [intOf]; omega
        case rel => exact ⟨k + 1, xs, _, rfl, by omega, by go_num, Hr2.out, by omega, HXs.out, HS2.out, HB2.out⟩
      · go_wp2_with (at_builtin; refine wpList_append_lies _ rfl (.tmp 27) (.tmp 29) 30 rfl w.heap.size 3 i1 _ 1 8 Tryz.underlying30 hi' hy0 hy1 hy2 rfl (by decide) _ _ _ rfl (hr2.alloc _) ⟨w2.heap.size, 0, none⟩ 1 1 [.int .i64 (k : Int)] rfl rfl (World.news_of_block (heap_alloc_new _ _)) (by simp [Value.oneCell']) (by decide) c3 c4 (by rw [size_alloc']; omega) (w2.heap.size + 1) (by simp) ?_; intro g4 cap4 W4 hr4 hg4 _ _)
        go_roundw
        case measure => simp [intOf]; omega
        case rel => exact ⟨k + 1, xs ++ [k], _, rfl, by omega, by go_num, by simpa [intsV, nats] using hr4, by simp; omega, fun x hx => (by rcases List.mem_append.1 hx with h9 | h9; exact HXs.out x h9; have := List.mem_singleton.1 h9; omega), (HS2.out.alloc _).grown hg4 (fun e => own_blk_ne hr2 HS2.out (by decide) e.symm), HB2.out.grown (gGrown (World.grownBy_alloc _ _ _) hg4 (row := v3.ownBlock) (fun _ e => .inl e)) (by omega) (fun j e => (hr2.lt j e).1)⟩
    · obtain rfl : k = n := by omega
      clear hS
      obtain ⟨m, hmL⟩ : ∃ m, xs.length = m := ⟨_, rfl⟩
      rw [hmL] at hrow hm
      clear Hro
      rcases Nat.eq_zero_or_pos m with hm0 | hm0
      · subst hm0
        have e : ∃ a cc, v3 = .slice a 0 cc := by
          rcases hrow.2 with ⟨rfl, h0⟩ | ⟨g, cap, cur, rfl, _⟩
          · exact ⟨_, _, rfl⟩
          · exact ⟨_, _, rfl⟩
        obtain ⟨a', cc, rfl⟩ := e
        clear hrow hB hmL hxs
        go_wp2
        refine bodyPost_ret (v := .tuple #[.int .i64 0, .int .i64 0]) (by simp [results, Tryz.results37, go_sem]) rfl ?_
        exact ⟨⟨0, 0, rfl⟩, HB.out⟩
      · obtain ⟨gL, cL, rfl, -, -⟩ := hrow.form hm0
        have HL := Lib.hid hmL
        have Hr := Lib.hid hrow
        have nz : ((m : Int) == 0) = false := by simp; omega
        have hm4 : (0 : Int) < (m : Int) := by omega
        obtain ⟨xf, hxf⟩ : ∃ xf, xs[0]? = some xf := ⟨xs[0]'(by omega), List.getElem?_eq_getElem _⟩
        have hxk : xf < k := hxs xf (List.mem_of_getElem? hxf)
        have hx3 : (xf : Int) < (k : Int) := by omega
        have HXf := Lib.hid hxf
        clear hmL hrow hB hxs hxf
        go_wp2_with (at_make; refine wpList_make_full _ rfl (.tmp 36) (.tmp 36) 66 rfl w.heap.size 4 i2 _ 1 Tryz.underlying66 hj' hz0 hz1 .i64 .i64 _ _ k rfl rfl rfl rfl (by rw [hz2]; omega) (by unfold maxLen; omega) (by omega) ?_; intro w1 hr1 hg1; have hbm := below_of_grown hg1 (Nat.le_refl _) (fun j e => by cases e); rw [made_bools] at hr1; have f0 := hr1.frozenAt xf; have c0 : w1.cell? ⟨wr.heap.size, xf, none⟩ = some (.bool false) := (by rw [hr1.cellAt xf (by omega)]; simp [bools, hxk]); have hps : FS15 w N a c k m xs gL cL wr.heap.size w1 := ⟨⟨_, by simp, hr1⟩, own_below9 Hr.out hbm, HS.out.below hbm HS.out.lt, HB.out.trans (hbm.mono hsz)⟩; have c9 := hps.at_ HL.out HXf.out)
        have HPS := Lib.hid (hps.set_ xf)
        clear hps hr1 hg1 hbm f0 c0 y0 y1 ly c9
        generalize w1.setCell ⟨wr.heap.size, xf, none⟩ (.bool true) = W1 at *
        go_loopw [9, 10] (fun v9 i W => ∃ (z : Int) (q : Nat), v9 = .int .i64 z ∧ q ≤ m ∧ i = .int .i64 q ∧ FS15 w N a c k m xs gL cL wr.heap.size W) (fun _ i _ => m - (intOf i).toNat)
        case atStart => exact ⟨1, 0, rfl, by omega, rfl, HPS.out⟩
        case round =>
          obtain ⟨zA, q, rfl, hq, rfl, hP⟩ := hrel
          rename World => wA
          have HPA := Lib.hid hP
          clear hP
          by_cases hqm : q < m
          · have hq3 : (q : Int) < (m : Int) := by omega
            go_wp2
            go_loopw [9, 11] (fun v9 i W => ∃ (z : Int) (i1 : Nat), v9 = .int .i64 z ∧ i1 ≤ m ∧ i = .int .i64 i1 ∧ FS15 w N a c k m xs gL cL wr.heap.size W) (fun _ i _ => m - (intOf i).toNat)
            case atStart => exact ⟨zA, 0, rfl, by omega, rfl, HPA.out⟩
            case round =>
              obtain ⟨zB, i1, rfl, hi1, rfl, hP⟩ := hrel
              rename World => wB
              have HPB := Lib.hid hP
              clear hP
              by_cases him : i1 < m
              · have hi3 : (i1 : Int) < (m : Int) := by omega
                have hi0 : (0 : Int) ≤ (i1 : Int) := by omega
                go_wp2
                go_loopw [9, 12] (fun v9 i W => ∃ (z : Int) (k1 : Nat), v9 = .int .i64 z ∧ k1 ≤ m ∧ i = .int .i64 k1 ∧ FS15 w N a c k m xs gL cL wr.heap.size W) (fun _ i _ => m - (intOf i).toNat)
                case atStart => exact ⟨zB, 0, rfl, by omega, rfl, HPB.out⟩
                case round =>
                  obtain ⟨zC, k1, rfl, hk1, rfl, hP⟩ := hrel
                  rename World => wC
                  have HPC := Lib.hid hP
                  clear hP
                  by_cases hkm : k1 < m
                  · have hk3 : (k1 : Int) < (m : Int) := by omega
                    obtain ⟨xi, hxi⟩ : ∃ x, xs[i1]? = some x := ⟨xs[i1]'(by have := HL.out; omega), List.getElem?_eq_getElem _⟩
                    obtain ⟨xk, hxk⟩ : ∃ x, xs[k1]? = some x := ⟨xs[k1]'(by have := HL.out; omega), List.getElem?_eq_getElem _⟩
                    have hxin := HXs.out xi (List.mem_of_getElem? hxi)
                    have hxkn := HXs.out xk (List.mem_of_getElem? hxk)
                    have hxi3 : (xi : Int) < (k : Int) := by omega
                    have hxk3 : (xk : Int) < (k : Int) := by omega
                    have cI := HPC.out.at_ HL.out hxi
                    have cK := HPC.out.at_ HL.out hxk
                    have HXk := Lib.hid hxk
                    obtain ⟨bi, ci, -⟩ := HPC.out.bit hxin
                    obtain ⟨bk, ck, fk⟩ := HPC.out.bit hxkn
                    have y1 := HPC.out.k0.cell 1
                    have y1' : wC.cell? ⟨w.heap.size, 1, none⟩ = some (.slice a k c) := y1
                    clear hxi hxk y1
                    go_upto_region 21 with fail
                    cases bi
                    · go_region
                      go_wp2
                      go_roundw
                      case measure => simp [intOf]; omega
                      case rel => exact ⟨zC, k1 + 1, rfl, by omega, by go_num, HPC.out.drew⟩
                    · cases bk
                      · obtain ⟨⟨ix, iy, iz⟩, hti⟩ : ∃ t, T[xi]? = some t := ⟨T[xi]'(by have := HN.out; omega), List.getElem?_eq_getElem _⟩
                        obtain ⟨⟨kx, ky, kz⟩, htk⟩ : ∃ t, T[xk]? = some t := ⟨T[xk]'(by have := HN.out; omega), List.getElem?_eq_getElem _⟩
                        obtain ⟨b, o, rfl, hbl, s0, s1, s2⟩ := HR.out xi ix iy iz hti
                        obtain ⟨b', o', e', hbl', t0, t1, t2⟩ := HR.out xk kx ky kz htk
                        cases e'
                        have hBC := HPC.out.below
                        replace s0 := (hBC.cell (p := ⟨b, _, none⟩) hbl).trans s0
                        replace s1 := (hBC.cell (p := ⟨b, _, none⟩) hbl).trans s1
                        replace s2 := (hBC.cell (p := ⟨b, _, none⟩) hbl).trans s2
                        replace t0 := (hBC.cell (p := ⟨b, _, none⟩) hbl).trans t0
                        replace t1 := (hBC.cell (p := ⟨b, _, none⟩) hbl).trans t1
                        replace t2 := (hBC.cell (p := ⟨b, _, none⟩) hbl).trans t2
                        clear hti htk
                        have lgL := (HPC.out.row.lt gL rfl).2
                        have lgB : wr.heap.size < wC.heap.size := by obtain ⟨bs9, -, h9⟩ := HPC.out.bs; exact (h9.lt _ rfl).2
                        have lS := HPC.out.k0.lt
                        have lb : b < wC.heap.size := Nat.lt_of_lt_of_le hbl hBC.size
                        refine wp_region_U 35 (fun w' => w'.cell? ⟨gL, i1, none⟩ = some (.int .i64 (xi : Int)) ∧ w'.cell? ⟨gL, k1, none⟩ = some (.int .i64 (xk : Int)) ∧ w'.cell? ⟨wr.heap.size, xi, none⟩ = some (.bool true) ∧ w'.cell? ⟨wr.heap.size, xk, none⟩ = some (.bool false) ∧ w'.cell? ⟨w.heap.size, 1, none⟩ = some (.slice (some ⟨b, o, none⟩) k c) ∧ w'.cell? ⟨b, o + xi * 3, none⟩ = some (.int .i64 ix) ∧ w'.cell? ⟨b, o + xi * 3 + 1, none⟩ = some (.int .i64 iy) ∧ w'.cell? ⟨b, o + xi * 3 + 2, none⟩ = some (.int .i64 iz) ∧ w'.cell? ⟨b, o + xk * 3, none⟩ = some (.int .i64 kx) ∧ w'.cell? ⟨b, o + xk * 3 + 1, none⟩ = some (.int .i64 ky) ∧ w'.cell? ⟨b, o + xk * 3 + 2, none⟩ = some (.int .i64 kz)) (by kernel_rfl) ⟨cI, cK, ci, ck, y1', s0, s1, s2, t0, t1, t2⟩ ?_
                        change AtU _ _ _ _ _ _ 36 (Array.replicate 36 false) _ _
                        refine AtU.take (i := 0) (v := ?_) rfl (by kernel_rfl) (by kernel_rfl) (fun _ _ _ h => h) (by rfl) ?_ ?_
                        rotate_left 1
                        · intro w9 hSw; (try dsimp only at hSw); go_simp; try with_reducible rfl
                        try simp only [Act.put, List.setIfInBounds_toArray, List.set_cons_zero, List.set_cons_succ]
                        refine AtU.take (i := 1) (v := ?_) rfl (by kernel_rfl) (by kernel_rfl) (fun _ _ _ h => h) (by rfl) ?_ ?_
                        rotate_left 1
                        · intro w9 hSw; (try dsimp only at hSw); go_simp; try with_reducible rfl
                        try simp only [Act.put, List.setIfInBounds_toArray, List.set_cons_zero, List.set_cons_succ]
                        refine AtU.take (i := 2) (v := ?_) rfl (by kernel_rfl) (by kernel_rfl) (fun _ _ _ h => h) (by rfl) ?_ ?_
                        rotate_left 1
                        · intro w9 hSw; (try dsimp only at hSw); go_simp; try with_reducible rfl
                        try simp only [Act.put, List.setIfInBounds_toArray, List.set_cons_zero, List.set_cons_succ]
                        refine AtU.take (i := 3) (v := ?_) rfl (by kernel_rfl) (by kernel_rfl) (fun _ _ _ h => h) (by rfl) ?_ ?_
                        rotate_left 1
                        · intro w9 hSw; (try dsimp only at hSw); go_simp; try with_reducible rfl
                        try simp only [Act.put, List.setIfInBounds_toArray, List.set_cons_zero, List.set_cons_succ]
                        refine AtU.take (i := 4) (v := ?_) rfl (by kernel_rfl) (by kernel_rfl) (fun _ _ _ h => h) (by rfl) ?_ ?_
                        rotate_left 1
                        · intro w9 hSw; (try dsimp only at hSw); go_simp; try with_reducible rfl
                        try simp only [Act.put, List.setIfInBounds_toArray, List.set_cons_zero, List.set_cons_succ]
                        refine AtU.take (i := 5) (v := ?_) rfl (by kernel_rfl) (by kernel_rfl) (fun _ _ _ h => h) (by rfl) ?_ ?_
                        rotate_left 1
                        · intro w9 hSw; (try dsimp only at hSw); go_simp; try with_reducible rfl
                        try simp only [Act.put, List.setIfInBounds_toArray, List.set_cons_zero, List.set_cons_succ]
                        refine AtU.take (i := 6) (v := ?_) rfl (by kernel_rfl) (by kernel_rfl) (fun _ _ _ h => h) (by rfl) ?_ ?_
                        rotate_left 1
                        · intro w9 hSw; (try dsimp only at hSw); go_simp; try with_reducible rfl
                        try simp only [Act.put, List.setIfInBounds_toArray, List.set_cons_zero, List.set_cons_succ]
                        refine AtU.take (i := 7) (v := ?_) rfl (by kernel_rfl) (by kernel_rfl) (fun _ _ _ h => h) (by rfl) ?_ ?_
                        rotate_left 1
                        · intro w9 hSw; (try dsimp only at hSw); go_simp; try with_reducible rfl
                        try simp only [Act.put, List.setIfInBounds_toArray, List.set_cons_zero, List.set_cons_succ]
                        refine AtU.take (i := 8) (v := ?_) rfl (by kernel_rfl) (by kernel_rfl) (fun _ _ _ h => h) (by rfl) ?_ ?_
                        rotate_left 1
                        · intro w9 hSw; (try dsimp only at hSw); go_simp; try with_reducible rfl
                        try simp only [Act.put, List.setIfInBounds_toArray, List.set_cons_zero, List.set_cons_succ]
                        refine AtU.take (i := 9) (v := ?_) rfl (by kernel_rfl) (by kernel_rfl) (fun _ _ _ h => h) (by rfl) ?_ ?_
                        rotate_left 1
                        · intro w9 hSw; (try dsimp only at hSw); go_simp; try with_reducible rfl
                        try simp only [Act.put, List.setIfInBounds_toArray, List.set_cons_zero, List.set_cons_succ]
                        refine AtU.take (i := 10) (v := ?_) rfl (by kernel_rfl) (by kernel_rfl) (fun _ _ _ h => h) (by rfl) ?_ ?_
                        rotate_left 1
                        · intro w9 hSw; (try dsimp only at hSw); go_simp; try with_reducible rfl
                        try simp only [Act.put, List.setIfInBounds_toArray, List.set_cons_zero, List.set_cons_succ]
                        refine AtU.take (i := 11) (v := ?_) rfl (by kernel_rfl) (by kernel_rfl) (fun _ _ _ h => h) (by rfl) ?_ ?_
                        rotate_left 1
                        · intro w9 hSw; (try dsimp only at hSw); go_simp; try with_reducible rfl
                        try simp only [Act.put, List.setIfInBounds_toArray, List.set_cons_zero, List.set_cons_succ]
                        refine AtU.take (i := 12) (v := ?_) rfl (by kernel_rfl) (by kernel_rfl) (fun _ _ _ h => h) (by rfl) ?_ ?_
                        rotate_left 1
                        · intro w9 hSw; (try dsimp only at hSw); go_simp; try with_reducible rfl
                        try simp only [Act.put, List.setIfInBounds_toArray, List.set_cons_zero, List.set_cons_succ]
                        refine AtU.take (i := 13) (v := ?_) rfl (by kernel_rfl) (by kernel_rfl) (fun _ _ _ h => h) (by rfl) ?_ ?_
                        rotate_left 1
                        · intro w9 hSw; (try dsimp only at hSw); go_simp; try with_reducible rfl
                        try simp only [Act.put, List.setIfInBounds_toArray, List.set_cons_zero, List.set_cons_succ]
                        refine AtU.take (i := 14) (v := ?_) rfl (by kernel_rfl) (by kernel_rfl) (fun _ _ _ h => h) (by rfl) ?_ ?_
                        rotate_left 1
                        · intro w9 hSw; (try dsimp only at hSw); go_simp; try with_reducible rfl
                        try simp only [Act.put, List.setIfInBounds_toArray, List.set_cons_zero, List.set_cons_succ]
                        refine AtU.take (i := 15) (v := ?_) rfl (by kernel_rfl) (by kernel_rfl) (fun _ _ _ h => h) (by rfl) ?_ ?_
                        rotate_left 1
                        · intro w9 hSw; (try dsimp only at hSw); go_simp; try with_reducible rfl
                        try simp only [Act.put, List.setIfInBounds_toArray, List.set_cons_zero, List.set_cons_succ]
                        refine AtU.take (i := 16) (v := ?_) rfl (by kernel_rfl) (by kernel_rfl) (fun _ _ _ h => h) (by rfl) ?_ ?_
                        rotate_left 1
                        · intro w9 hSw; (try dsimp only at hSw); go_simp; try with_reducible rfl
                        try simp only [Act.put, List.setIfInBounds_toArray, List.set_cons_zero, List.set_cons_succ]
                        refine AtU.take (i := 17) (v := ?_) rfl (by kernel_rfl) (by kernel_rfl) (fun _ _ _ h => h) (by rfl) ?_ ?_
                        rotate_left 1
                        · intro w9 hSw; (try dsimp only at hSw); go_simp; try with_reducible rfl
                        try simp only [Act.put, List.setIfInBounds_toArray, List.set_cons_zero, List.set_cons_succ]
                        refine AtU.take (i := 18) (v := ?_) rfl (by kernel_rfl) (by kernel_rfl) (fun _ _ _ h => h) (by rfl) ?_ ?_
                        rotate_left 1
                        · intro w9 hSw; (try dsimp only at hSw); go_simp; try with_reducible rfl
                        try simp only [Act.put, List.setIfInBounds_toArray, List.set_cons_zero, List.set_cons_succ]
                        refine AtU.take (i := 19) (v := ?_) rfl (by kernel_rfl) (by kernel_rfl) (fun _ _ _ h => h) (by rfl) ?_ ?_
                        rotate_left 1
                        · intro w9 hSw; (try dsimp only at hSw); go_simp; try with_reducible rfl
                        try simp only [Act.put, List.setIfInBounds_toArray, List.set_cons_zero, List.set_cons_succ]
                        refine AtU.take (i := 20) (v := ?_) rfl (by kernel_rfl) (by kernel_rfl) (fun _ _ _ h => h) (by rfl) ?_ ?_
                        rotate_left 1
                        · intro w9 hSw; (try dsimp only at hSw); go_simp; try with_reducible rfl
                        try simp only [Act.put, List.setIfInBounds_toArray, List.set_cons_zero, List.set_cons_succ]
                        refine AtU.take (i := 21) (v := ?_) rfl (by kernel_rfl) (by kernel_rfl) (fun _ _ _ h => h) (by rfl) ?_ ?_
                        rotate_left 1
                        · intro w9 hSw; (try dsimp only at hSw); go_simp; try with_reducible rfl
                        try simp only [Act.put, List.setIfInBounds_toArray, List.set_cons_zero, List.set_cons_succ]
                        refine AtU.take (i := 22) (v := ?_) rfl (by kernel_rfl) (by kernel_rfl) (fun _ _ _ h => h) (by rfl) ?_ ?_
                        rotate_left 1
                        · intro w9 hSw; (try dsimp only at hSw); go_simp; try with_reducible rfl
                        try simp only [Act.put, List.setIfInBounds_toArray, List.set_cons_zero, List.set_cons_succ]
                        refine AtU.take (i := 23) (v := ?_) rfl (by kernel_rfl) (by kernel_rfl) (fun _ _ _ h => h) (by rfl) ?_ ?_
                        rotate_left 1
                        · intro w9 hSw; (try dsimp only at hSw); go_simp; try with_reducible rfl
                        try simp only [Act.put, List.setIfInBounds_toArray, List.set_cons_zero, List.set_cons_succ]
                        refine AtU.take (i := 24) (v := ?_) rfl (by kernel_rfl) (by kernel_rfl) (fun _ _ _ h => h) (by rfl) ?_ ?_
                        rotate_left 1
                        · intro w9 hSw; (try dsimp only at hSw); go_simp; try with_reducible rfl
                        try simp only [Act.put, List.setIfInBounds_toArray, List.set_cons_zero, List.set_cons_succ]
                        refine AtU.take (i := 25) (v := ?_) rfl (by kernel_rfl) (by kernel_rfl) (fun _ _ _ h => h) (by rfl) ?_ ?_
                        rotate_left 1
                        · intro w9 hSw; (try dsimp only at hSw); go_simp; try with_reducible rfl
                        try simp only [Act.put, List.setIfInBounds_toArray, List.set_cons_zero, List.set_cons_succ]
                        refine AtU.take (i := 26) (v := ?_) rfl (by kernel_rfl) (by kernel_rfl) (fun _ _ _ h => h) (by rfl) ?_ ?_
                        rotate_left 1
                        · intro w9 hSw; (try dsimp only at hSw); go_simp; try with_reducible rfl
                        try simp only [Act.put, List.setIfInBounds_toArray, List.set_cons_zero, List.set_cons_succ]
                        refine AtU.take (i := 27) (v := ?_) rfl (by kernel_rfl) (by kernel_rfl) (fun _ _ _ h => h) (by rfl) ?_ ?_
                        rotate_left 1
                        · intro w9 hSw; (try dsimp only at hSw); go_simp; try with_reducible rfl
                        try simp only [Act.put, List.setIfInBounds_toArray, List.set_cons_zero, List.set_cons_succ]
                        refine AtU.take (i := 28) (v := ?_) rfl (by kernel_rfl) (by kernel_rfl) (fun _ _ _ h => h) (by rfl) ?_ ?_
                        rotate_left 1
                        · intro w9 hSw; (try dsimp only at hSw); go_simp; try with_reducible rfl
                        try simp only [Act.put, List.setIfInBounds_toArray, List.set_cons_zero, List.set_cons_succ]
                        refine AtU.take (i := 29) (v := ?_) rfl (by kernel_rfl) (by kernel_rfl) (fun _ _ _ h => h) (by rfl) ?_ ?_
                        rotate_left 1
                        · intro w9 hSw; (try dsimp only at hSw); go_simp; try with_reducible rfl
                        try simp only [Act.put, List.setIfInBounds_toArray, List.set_cons_zero, List.set_cons_succ]
                        refine AtU.take (i := 30) (v := ?_) rfl (by kernel_rfl) (by kernel_rfl) (fun _ _ _ h => h) (by rfl) ?_ ?_
                        rotate_left 1
                        · intro w9 hSw; (try dsimp only at hSw); go_simp; try with_reducible rfl
                        try simp only [Act.put, List.setIfInBounds_toArray, List.set_cons_zero, List.set_cons_succ]
                        refine AtU.take (i := 31) (v := ?_) rfl (by kernel_rfl) (by kernel_rfl) (fun _ _ _ h => h) (by rfl) ?_ ?_
                        rotate_left 1
                        · intro w9 hSw; (try dsimp only at hSw); go_simp; try with_reducible rfl
                        try simp only [Act.put, List.setIfInBounds_toArray, List.set_cons_zero, List.set_cons_succ]
                        refine AtU.take (i := 32) (v := ?_) rfl (by kernel_rfl) (by kernel_rfl) (fun _ _ _ h => h) (by rfl) ?_ ?_
                        rotate_left 1
                        · intro w9 hSw; (try dsimp only at hSw); go_simp; try with_reducible rfl
                        try simp only [Act.put, List.setIfInBounds_toArray, List.set_cons_zero, List.set_cons_succ]
                        refine AtU.take (i := 33) (v := ?_) rfl (by kernel_rfl) (by kernel_rfl) (fun _ _ _ h => h) (by rfl) ?_ ?_
                        rotate_left 1
                        · intro w9 hSw; (try dsimp only at hSw); go_simp; try with_reducible rfl
                        try simp only [Act.put, List.setIfInBounds_toArray, List.set_cons_zero, List.set_cons_succ]
                        refine AtU.step (i := 34) rfl (by kernel_rfl) (fun K hK => ?_)
                        go_wp2_with (go_at_call 67; refine (HD.out _ _ _ _ _ _ _).mono ?_; intro e1 w1 hx1; obtain ⟨⟨b3, rfl⟩, hb1⟩ := retB hx1)
                        refine hK.out _ _ ⟨(hb1.cell (p := ⟨gL, i1, none⟩) lgL).trans cI, (hb1.cell (p := ⟨gL, k1, none⟩) lgL).trans cK, (hb1.cell (p := ⟨wr.heap.size, xi, none⟩) lgB).trans ci, (hb1.cell (p := ⟨wr.heap.size, xk, none⟩) lgB).trans ck, (hb1.cell (p := ⟨w.heap.size, 1, none⟩) lS).trans y1', (hb1.cell (p := ⟨b, o + xi * 3, none⟩) lb).trans s0, (hb1.cell (p := ⟨b, o + xi * 3 + 1, none⟩) lb).trans s1, (hb1.cell (p := ⟨b, o + xi * 3 + 2, none⟩) lb).trans s2, (hb1.cell (p := ⟨b, o + xk * 3, none⟩) lb).trans t0, (hb1.cell (p := ⟨b, o + xk * 3 + 1, none⟩) lb).trans t1, (hb1.cell (p := ⟨b, o + xk * 3 + 2, none⟩) lb).trans t2⟩ ?_
                        clear hK K
                        try simp only [Act.put, List.setIfInBounds_toArray, List.set_cons_zero, List.set_cons_succ]
                        refine AtU.last (i := 35) rfl (by kernel_rfl) (fun K hK => ?_)
                        go_simp
                        refine hK.out _ _ ?_
                        clear hK K
                        have HF1 := Lib.hid (HPC.out.drew.le hb1)
                        clear s0 s1 s2 t0 t1 t2 cI cK ci ck fk y1' hb1 hx1
                        cases b3
                        · go_wp2
                          go_roundw
                          case measure => simp [intOf]; omega
                          case rel => exact ⟨zC, k1 + 1, rfl, by omega, by go_num, HF1.out⟩
                        · have cK := HF1.out.at_ HL.out HXk.out
                          obtain ⟨bk, ck, fk⟩ := HF1.out.bit hxkn
                          go_wp2
                          go_roundw
                          case measure => simp [intOf]; omega
                          case rel => exact ⟨_, k1 + 1, rfl, by omega, by go_num, HF1.out.set_ _⟩
                      · go_region
                        go_wp2
                        go_roundw
                        case measure => simp [intOf]; omega
                        case rel => exact ⟨zC, k1 + 1, rfl, by omega, by go_num, HPC.out.drew⟩
                  · obtain rfl : k1 = m := by omega
                    go_wp2
                    go_roundw
                    case measure => simp [intOf]; omega
                    case rel => exact ⟨zC, i1 + 1, rfl, by omega, by go_num, HPC.out⟩
              · obtain rfl : i1 = m := by omega
                go_wp2
                go_roundw
                case measure => simp [intOf]; omega
                case rel => exact ⟨zB, q + 1, rfl, by omega, by go_num, HPB.out⟩
          · obtain rfl : q = m := by omega
            go_wp2
            refine bodyPost_ret (v := .tuple #[.int .i64 (q : Int), .int .i64 zA]) (by simp [results, Tryz.results37, go_sem]) rfl ?_
            exact ⟨⟨_, _, rfl⟩, HPA.out.below⟩
end Go.Proofs.YtpnkhgjjlionnaaGreat
