/-
  walk.Steps: the iterator's contract once more, where a round may know that what it is handed is the next step.
-/
import Derived.Test.YtghlnknncahkgaaGreatK11
namespace Go.Proofs.YtghlnknncahkgaaGreat
open Go.RowKit Go.Maps Go.Shelf
attribute [local go_sem] Oper.semAt_some

/-- The iterator's contract. -/
def SeqSepO {α : Type} (F : Fence) (n : Nat) (P : Program) (g : Nat) (lb : Array Value) (encs : α → Array Value) (Ok : List α → α → Prop) (Fin Sp : List α → Prop) (N : Nat) (w0 : World) (R : Nat → Prop) (Pre : World → Prop) : Prop :=
  ∀ (l : Nat) (J Jx : List α → (Nat → Prop) → World → Prop) (W : World) (C : Nat → Prop), Below w0.heap.size w0 W → Pre W → (∀ k, R k → k < W.heap.size) → Stable w0.heap.size J → Stable w0.heap.size Jx →
    (∀ pre x C1 W1, J pre C1 W1 → pre.length < N → Ok pre x → YieldAt F (n - 1) P l (encs x) W1 fun e W' =>
      Kept C1 W1 W' ∧ ∃ C', Anew C1 C' W1 W' ∧ ((e = .returned (.bool true) ∧ J (pre ++ [x]) C' W') ∨ (e = .returned (.bool false) ∧ Jx (pre ++ [x]) C' W'))) →
    J [] C W → (∀ k, C k → w0.heap.size ≤ k ∧ k < W.heap.size ∧ ¬ R k) →
    CallsIn F n P g (#[.func (.yield l) #[] #[]] ++ lb) W fun e W' => (∃ v, e = .returned v) ∧ ((∃ xs C', Fin xs ∧ J xs C' W') ∨ (∃ pre C', Sp pre ∧ Jx pre C' W'))
section
variable {F : Fence} {n : Nat} {P : Program} {w : World}
set_option maxHeartbeats 1000000 in
theorem wpIn_rangeFunc_sepO {α : Type} {g : Operand} {ps : Array Tmp} {assign body : Code} {Q : Exit → Act → World → Prop} {a : Act} {w : World}
    (hro : F.round = none) (h1 : 1 ≤ n) {gf : Nat} {lb : Array Value} (hg : a.eval g = .func (.func gf) #[] lb) (hFg : F.fn gf) (eg : ∀ args w, (callFunc gf args).run P w = .ok (.enter gf args) w)
    {encs : α → Array Value} {Ok : List α → α → Prop} {Fin Sp : List α → Prop} {N : Nat} {w0 : World} {R : Nat → Prop} {Pre : World → Prop} (hseq : SeqSepO F (n - 1) P gf lb encs Ok Fin Sp N w0 R Pre) (hpre : ∀ W, Below w.heap.size w W → Pre W) (hR : ∀ k, R k → k < w.heap.size) (hb0 : Below w0.heap.size w0 w) (hps : ∀ x, (encs x).size = ps.size)
    (I : List α → (Nat → Prop) → World → Prop) (Ix : Code → List α → (Nat → Prop) → World → Prop) (hI : Stable w0.heap.size I) (hIx : ∀ c, Stable w0.heap.size (Ix c)) (C0 : Nat → Prop) (hC0 : ∀ k, C0 k → w0.heap.size ≤ k ∧ k < w.heap.size ∧ ¬ R k) (h0 : I [] C0 w)
    (hround : ∀ (l : Nat) (pre : List α) (x : α) (C : Nat → Prop) (W : World), w.heap.size ≤ l → l < W.heap.size → I pre C W → (∀ k, C k → w0.heap.size ≤ k ∧ k < W.heap.size) → pre.length < N → Ok pre x →
      assign.wpIn (F.inRound l) (n - 1 - 1) P (Exit.then (fun a' W1 => Kept C W W1 ∧ I pre C W1 ∧ ∀ W2, Kept (fun k => k = l) W1 W2 → I pre C W2 → (∀ k, C k → w0.heap.size ≤ k ∧ k < W2.heap.size) → W2.heap.size = W1.heap.size → body.wpIn (F.inRound l) (n - 1 - 1) P (sepPost I Ix C (pre ++ [x]) W2) a' W2) (fun _ _ _ => False))
        { tmps := (ps.zip (encs x)).foldl (fun t (p, v) => t.setIfInBounds p v) a.tmps, defers := [] } W)
    (hdone : ∀ (D : Nat) (xs : List α) (C : Nat → Prop) (W : World), w.heap.size ≤ D → ¬ C D → Fin xs → I xs C W → W.heap[D]? = some (.deferred (some [])) → Q .normal { a with defers := { target := .collected D, args := #[] } :: a.defers } W)
    (hstop : ∀ (D : Nat) (c : Code) (pre : List α) (C : Nat → Prop) (W : World), w.heap.size ≤ D → ¬ C D → Sp pre → Ix c pre C W → W.heap[D]? = some (.deferred (some [])) → c.wpIn F n P Q { a with defers := { target := .collected D, args := #[] } :: a.defers } W) :
    (Code.rangeFunc g ps assign body).wpIn F n P Q a w := by
  refine wpIn_rangeFunc ?_
  intro fn hfn
  rw [hro]
  obtain ⟨rec, hrec⟩ : ∃ rec : LoopState → Option Code → Loop, rec = fun st pe => { state := st, pending := pe, fn, tmps := a.tmps, params := ps, assign, body, defers := w.heap.size } := ⟨_, rfl⟩
  obtain ⟨W1, hW1⟩ : ∃ W1, (w.alloc (.deferred (some []))).alloc (.loop (rec .ready none)) = W1 := ⟨_, rfl⟩
  have hL1 : W1.heap[w.heap.size + 1]? = some (.loop (rec .ready none)) := by
    rw [← hW1]; have := World.alloc_heap_new (w.alloc (.deferred (some []))) (.loop (rec .ready none)); rwa [World.size_alloc] at this
  have hK1 : W1.heap[w.heap.size]? = some (.deferred (some [])) := by
    rw [← hW1]; exact (Below.heap_alloc _ _ _ (by simp)).trans (World.alloc_heap_new w _)
  have hz1 : W1.heap.size = w.heap.size + 2 := by rw [← hW1]; simp
  have hbw : Below w.heap.size w W1 := by rw [← hW1]; exact ((Below.refl _ w).alloc (Nat.le_refl _) _).alloc (by simp) _
  have hz0 := hb0.size
  have hI1 : I [] C0 W1 := hI _ _ _ _ h0 (hbw.mono hz0) (fun k hk => hbw.block k (hC0 k hk).2.1)
  have hb1 : Below w0.heap.size w0 W1 := hb0.trans (hbw.mono hz0)
  -- the law's own set
  let J : (List α → (Nat → Prop) → World → Prop) → (World → Prop) → List α → (Nat → Prop) → World → Prop := fun I R pre C W => ∃ Cu, (∀ k, C k ↔ Cu k ∨ k = w.heap.size ∨ k = w.heap.size + 1) ∧ I pre Cu W ∧ (∀ k, Cu k → w0.heap.size ≤ k ∧ k < W.heap.size ∧ k ≠ w.heap.size ∧ k ≠ w.heap.size + 1) ∧ R W ∧ W.heap[w.heap.size]? = some (.deferred (some []))
  have hJ : ∀ (I : List α → (Nat → Prop) → World → Prop) (R : World → Prop), Stable w0.heap.size I → (∀ A B : World, R A → B.heap[w.heap.size + 1]? = A.heap[w.heap.size + 1]? → R B) → Stable w0.heap.size (J I R) := by
    rintro I R hI hR xs C A B ⟨Cu, hC, hi, hbd, hl, hd⟩ hbel hsame
    exact ⟨Cu, hC, hI _ _ _ _ hi hbel (fun k hk => hsame k ((hC k).2 (.inl hk))), fun k hk => by have := hbd k hk; have := hbel.size; omega, hR _ _ hl (hsame _ ((hC _).2 (.inr (.inr rfl)))), (hsame _ ((hC _).2 (.inr (.inl rfl)))).trans hd⟩
  refine ⟨w.heap.size + 1, [{ target := .collected w.heap.size, args := #[] }], W1, { target := .fn (.func gf) lb, args := #[.func (.yield (w.heap.size + 1)) #[] #[]] }, W1, gf,
    #[.func (.yield (w.heap.size + 1)) #[] #[]] ++ lb, W1, ?_, ?_, ?_, ?_, fun _ => h1, ?_⟩
  · rw [← hW1, hrec]; exact run_enterLoop_outer _ _ _ _ _
  · simp only [resolve, hg]
    simp [go_sem]
  · intro f' hf'; simp [Target.leads] at hf'; subst hf'; exact hFg
  · simp [invoke, go_sem, eg]
  · refine (hseq (w.heap.size + 1) (J I (fun W => W.heap[w.heap.size + 1]? = some (.loop (rec .ready none)))) (J (fun xs C W => ∃ c, Ix c xs C W ∧ W.heap[w.heap.size + 1]? = some (.loop (rec .done (some c)))) (fun _ => True)) W1
      (fun k => C0 k ∨ k = w.heap.size ∨ k = w.heap.size + 1) hb1 (hpre W1 hbw) (fun k hk => by have := hR k hk; omega) (hJ _ _ hI (fun A B h e => e.trans h)) ?_ ?_ ⟨C0, fun k => Iff.rfl, hI1, fun k hk => by have := hC0 k hk; omega, hL1, hK1⟩ (fun k hk => by
        have hR' := hR k
        rcases hk with hk | hk | hk
        · have := hC0 k hk; exact ⟨this.1, by omega, this.2.2⟩
        · exact ⟨by omega, by omega, fun h => by have := hR' h; omega⟩
        · exact ⟨by omega, by omega, fun h => by have := hR' h; omega⟩)).mono ?_
    · rintro xs C A B ⟨Cu, hC, ⟨c, hc, hl⟩, hbd, -, hd⟩ hbel hsame
      exact ⟨Cu, hC, ⟨c, hIx c _ _ _ _ hc hbel (fun k hk => hsame k ((hC k).2 (.inl hk))), (hsame _ ((hC _).2 (.inr (.inr rfl)))).trans hl⟩, fun k hk => by have := hbd k hk; have := hbel.size; omega, trivial, (hsame _ ((hC _).2 (.inr (.inl rfl)))).trans hd⟩
    · -- one round
      rintro pre x C W ⟨Cu, hC, hi, hbd, hl, hk⟩ hlen hok
      have hlt : w.heap.size + 1 < W.heap.size := (Array.getElem?_eq_some_iff.1 hl).1
      have hy := run_yield (P := P) (args := encs x) hl (by rw [hrec]; exact hps x)
      rw [hrec] at hy
      refine ⟨fn, _, assign, body, hy, roundIn_of_wpIn hfn (wpIn_mono (hround (w.heap.size + 1) pre x Cu W (by omega) hlt hi (fun k hk => ⟨(hbd k hk).1, (hbd k hk).2.1⟩) hlen hok) ?_)⟩
      clear hy
      intro e a' Wa hp
      cases e with
      | normal =>
        obtain ⟨hka, hia, hb⟩ := hp
        have hla := (hka.block _ hlt (fun h => (hbd _ h).2.2.2 rfl)).trans hl
        have hda := (hka.block _ (by omega) (fun h => (hbd _ h).2.2.1 rfl)).trans hk
        have hza := hka.size
        refine ⟨_, run_beginRound hla (by rw [hrec]), ?_⟩
        obtain ⟨W2, hW2⟩ : ∃ W2, Wa.putObj (w.heap.size + 1) (.loop { rec .ready none with state := .busy }) = W2 := ⟨_, rfl⟩
        have hl2 : W2.heap[w.heap.size + 1]? = some (.loop { rec .ready none with state := .busy }) := by rw [← hW2]; exact World.putObj_heap_same (by omega)
        have hd2 : W2.heap[w.heap.size]? = some (.deferred (some [])) := by rw [← hW2]; exact (World.putObj_heap_other (by omega)).trans hda
        have hz2 : W2.heap.size = Wa.heap.size := by rw [← hW2]; simp
        have hk2 : Kept (fun k => k = w.heap.size + 1) Wa W2 := by rw [← hW2]; exact putObj_kept rfl
        have hi2 : I pre Cu W2 := by
          refine hI _ _ _ _ hia ?_ (fun k hk => ?_)
          · rw [← hW2]; exact putObj_below (by omega)
          · rw [← hW2]; exact World.putObj_heap_other (hbd k hk).2.2.2
        rw [hW2]
        refine wpIn_mono (hb W2 hk2 hi2 (fun k hk => by have := hbd k hk; omega) hz2) ?_
        have fin : ∀ (jump : Option Code) (W3 : World) (C' : Nat → Prop), Kept Cu W2 W3 → Anew Cu C' W2 W3 →
            (Instr.endRound (w.heap.size + 1) jump).run P W3 = .ok (.bool jump.isNone) (W3.putObj (w.heap.size + 1) (.loop (rec (if jump.isNone then .ready else .done) jump))) ∧
            (W3.putObj (w.heap.size + 1) (.loop (rec (if jump.isNone then .ready else .done) jump))).heap[w.heap.size + 1]? = some (.loop (rec (if jump.isNone then .ready else .done) jump)) ∧
            (W3.putObj (w.heap.size + 1) (.loop (rec (if jump.isNone then .ready else .done) jump))).heap[w.heap.size]? = some (.deferred (some [])) ∧
            Kept C W (W3.putObj (w.heap.size + 1) (.loop (rec (if jump.isNone then .ready else .done) jump))) ∧
            Anew C (fun k => C' k ∨ k = w.heap.size ∨ k = w.heap.size + 1) W (W3.putObj (w.heap.size + 1) (.loop (rec (if jump.isNone then .ready else .done) jump))) ∧
            (∀ k, C' k → w0.heap.size ≤ k ∧ k < (W3.putObj (w.heap.size + 1) (.loop (rec (if jump.isNone then .ready else .done) jump))).heap.size ∧ k ≠ w.heap.size ∧ k ≠ w.heap.size + 1) := fun jump W3 C' hk3 hn3 => by
          have hl3 := (hk3.block _ (by omega) (fun h => (hbd _ h).2.2.2 rfl)).trans hl2
          have hd3 := (hk3.block _ (by omega) (fun h => (hbd _ h).2.2.1 rfl)).trans hd2
          have hz3 := hk3.size
          have := run_endRound (P := P) jump hl3
          rw [hrec] at this ⊢
          refine ⟨this, World.putObj_heap_same (by omega), (World.putObj_heap_other (by omega)).trans hd3, ?_, ?_, ?_⟩
          · have c1 : Kept C W Wa := hka.mono (fun k hk => (hC k).2 (.inl hk))
            have c2 : Kept C Wa W2 := hk2.mono (fun k hk => (hC k).2 (.inr (.inr hk)))
            have c3 : Kept C W2 W3 := hk3.mono (fun k hk => (hC k).2 (.inl hk))
            exact ((c1.trans c2).trans c3).trans (putObj_kept ((hC _).2 (.inr (.inr rfl))))
          · intro k hk
            rw [World.putObj_size]
            rcases hk with hk | hk | hk
            · rcases hn3 k hk with h | h
              · exact .inl ((hC k).2 (.inl h))
              · exact .inr (by omega)
            · exact .inl ((hC k).2 (.inr (.inl hk)))
            · exact .inl ((hC k).2 (.inr (.inr hk)))
          · intro k hk
            rw [World.putObj_size]
            rcases hn3 k hk with h | h
            · have := hbd k h
              omega
            · omega
        have put : ∀ {J : List α → (Nat → Prop) → World → Prop} (xs : List α) (C' : Nat → Prop) (W3 : World) (o : Obj), Stable w0.heap.size J → J xs C' W3 → (∀ k, C' k → k ≠ w.heap.size + 1) → J xs C' (W3.putObj (w.heap.size + 1) o) := fun xs C' W3 o hJ h hk => hJ _ _ _ _ h (putObj_below (by omega)) (fun k h' => World.putObj_heap_other (hk k h'))
        rintro e a3 W3 hp
        cases e with
        | normal =>
          obtain ⟨hk3, C', hn3, hi3⟩ := hp
          obtain ⟨hr, hl4, hd4, c4, n4, b4⟩ := fin none W3 C' hk3 hn3
          exact ⟨_, _, hr, c4, _, n4, .inl ⟨rfl, C', fun k => Iff.rfl, put _ _ _ _ hI hi3 (fun k h => (b4 k h).2.2.2), b4, hl4, hd4⟩⟩
        | ret =>
          obtain ⟨hk3, C', hn3, hi3⟩ := hp
          obtain ⟨hr, hl4, hd4, c4, n4, b4⟩ := fin (some .ret) W3 C' hk3 hn3
          exact ⟨_, _, hr, c4, _, n4, .inr ⟨rfl, C', fun k => Iff.rfl, ⟨.ret, put _ _ _ _ (hIx _) hi3 (fun k h => (b4 k h).2.2.2), hl4⟩, b4, trivial, hd4⟩⟩
        | exit id =>
          obtain ⟨hk3, C', hn3, hi3⟩ := hp
          obtain ⟨hr, hl4, hd4, c4, n4, b4⟩ := fin (some (.exit id)) W3 C' hk3 hn3
          exact ⟨_, _, hr, c4, _, n4, .inr ⟨rfl, C', fun k => Iff.rfl, ⟨.exit id, put _ _ _ _ (hIx _) hi3 (fun k h => (b4 k h).2.2.2), hl4⟩, b4, trivial, hd4⟩⟩
        | goto t =>
          obtain ⟨hk3, C', hn3, hi3⟩ := hp
          obtain ⟨hr, hl4, hd4, c4, n4, b4⟩ := fin (some (.goto t)) W3 C' hk3 hn3
          exact ⟨_, _, hr, c4, _, n4, .inr ⟨rfl, C', fun k => Iff.rfl, ⟨.goto t, put _ _ _ _ (hIx _) hi3 (fun k h => (b4 k h).2.2.2), hl4⟩, b4, trivial, hd4⟩⟩
        | panic ch => exact hp.elim
        | outgrown => exact hp.elim
      | ret => exact hp.elim
      | exit id => exact hp.elim
      | goto t => exact hp.elim
      | panic ch => exact hp.elim
      | outgrown => exact hp.elim
    · -- behind the iterator
      rintro e W2 ⟨⟨v, rfl⟩, (⟨xs, C', hS, Cu, hC, hi, hbd, hl, hd⟩ | ⟨pre, C', hSp, Cu, hC, ⟨c, hi, hl⟩, hbd, -, hd⟩)⟩
      · exact ⟨none, _, by have := run_endLoop (P := P) hl (by rw [hrec]; simp); rw [hrec] at this; exact this, hdone _ xs Cu _ (Nat.le_refl _) (fun h => (hbd _ h).2.2.1 rfl) hS (hI _ _ _ _ hi (putObj_below (by omega)) (fun k hk => World.putObj_heap_other (hbd k hk).2.2.2)) ((World.putObj_heap_other (by omega)).trans hd)⟩
      · exact ⟨some c, _, by have := run_endLoop (P := P) hl (by rw [hrec]; simp); rw [hrec] at this; exact this, hstop _ c pre Cu _ (Nat.le_refl _) (fun h => (hbd _ h).2.2.1 rfl) hSp (hIx c _ _ _ _ hi (putObj_below (by omega)) (fun k hk => World.putObj_heap_other (hbd k hk).2.2.2)) ((World.putObj_heap_other (by omega)).trans hd)⟩
end
set_option maxRecDepth 100000 in
set_option maxHeartbeats 4000000 in
theorem steps1_sepO {w : World} {m Bt Bc g n c : Nat} {T : List Tr} (hs : Simp n T) (hT : Tab w g n T) (hc : c < 3 * T.length) :
    SeqSepO Fence.wide m Tryz.prog 58 #[.pointer (some ⟨Bt, 0, none⟩), .pointer (some ⟨Bc, 0, none⟩)] encS (fun pre x => ∃ s, Ran T (beginS T c) (pre ++ [x]) s) (fun xs => xs = stepsM T c) (fun pre => ∃ s, Ran T (beginS T c) pre s) T.length w (fun _ => False) (fun W => W.cell? ⟨Bt, 0, none⟩ = some (.pointer (some ⟨g, 0, none⟩)) ∧ W.cell? ⟨Bc, 0, none⟩ = some (.int .i64 c) ∧ Bt < W.heap.size ∧ Bc < W.heap.size) := by
  rintro l J Jx W C hW ⟨t0, c0, lt, lc⟩ - hJ hJx hY h0 hC
  have hTl := hT.len
  have hn : n ≤ 4096 := by have := hs.surf.n1; omega
  have hz := hW.size
  have HCk := Lib.hid (check_walk g n T W (c : Int) (hT.below hW) hs.surf (by omega) (fun W' hW' => loopsPost_closed ((hT.below hW).below hW') hs.closed hn))
  rw [if_neg (by omega), if_pos ((chk_simp hs.surf).2 hs)] at HCk
  have HT := Lib.hid (fun (W' : World) (hW' : Below w.heap.size w W') => hT.below hW')
  have HS := Lib.hid hs
  have HJ := Lib.hid hJ
  have HY := Lib.hid hY
  have HJ0 := Lib.hid h0
  have HC := Lib.hid hC
  have HW := Lib.hid hW
  clear hs hT hJ hJx hY h0 hC hW
  refine callsIn_of_wp Tryz.func58 rfl trivial ?_ rfl
  simp only [Tryz.ntmps58, List.size_toArray, List.length_cons, List.length_nil, Nat.reduceAdd, Nat.reduceSub, Array.replicate_succ, Array.replicate_zero, List.push_toArray, List.append_toArray, List.nil_append, List.cons_append]
  gi_wp2_with fail
  refine ⟨trivial, fun h => (by simp [Fence.wide] at h), (callsIn_wide.2 HCk.out).mono ?_⟩
  rintro e w1 ⟨rfl, hb1⟩
  have t1 := (hb1.cell (p := ⟨Bt, 0, none⟩) (by simp only; omega)).trans t0
  have c1 := (hb1.cell (p := ⟨Bc, 0, none⟩) (by simp only; omega)).trans c0
  have HW1 := Lib.hid (HW.out.trans (hb1.mono hz))
  have HB1 := Lib.hid hb1
  clear hb1 HCk t0 c0
  gi_wp2_with fail
  refine ⟨trivial, fun h => (by simp [Fence.wide] at h), (callsIn_wide.2 (begin_any (HT.out w1 HW1.out) HS.out.surf hc)).mono ?_⟩
  rintro e w2 ⟨b, vC, vL, vW, vs, rfl, hA, hb2⟩
  have hb12 := HB1.out.trans (hb2.mono HB1.out.size)
  have HI := Lib.hid (show SteI w g n T c b w1.heap.size J T.length w2 from ⟨⟨[], beginS T c, OwnA b vC vL vW vs, C, .nil, ⟨fun j hj => hA.own_ge hj, .inl ⟨vC, vL, vW, vs, hA, fun _ h => h⟩⟩, HJ.out _ _ _ _ HJ0.out (hb12.mono hz) (fun j hj => hb12.block j (HC.out j hj).2.1),
    fun j hj => by
      have h1 := HC.out j hj
      have h2 := hb12.size
      have h3 := HB1.out.size
      exact ⟨h1.1, by omega, fun h => by have := (hA.own_ge h).1; omega⟩, by simp⟩, HW1.out.trans (hb2.mono HW1.out.size)⟩)
  have hz1 := HW1.out.size
  clear hA hb2 hb12 t1 c1 HB1
  gi_wp2
  gi_loopg [] T.length (fun k wr => SteI w g n T c b w1.heap.size J k wr)
  case atStart => exact HI.out
  case round =>
    clear HI HJ0 HC
    rename World => wr
    obtain ⟨⟨L, s, S, C1, R, hWs, hJL, hC1, hk⟩, hB⟩ := hrel
    obtain ⟨Xs, G⟩ := R.gone HS.out hc
    have hzr := hB.size
    have hbw1 : w.heap.size ≤ w1.heap.size := hz1
    have stab : ∀ (A : World), Kept S wr A → J L C1 A := fun A hK => HJ.out _ _ _ _ hJL (hK.below (fun j hj => by have := (hWs.1 j hj).1; omega) hzr) (fun j hj => hK.block j (hC1 j hj).2.1 (hC1 j hj).2.2)
    have HST := Lib.hid stab
    by_cases hl : s.loop = []
    · have HE := Lib.hid (step_end hWs hl (by
        obtain ⟨h1, ⟨vC, vL, vW, vs, h2, h3⟩ | ⟨h2, h3, h4⟩⟩ := hWs
        · exact h2.ble
        · have := h1 b h3
          omega))
      have HR := Lib.hid (R.steps HS.out hc hl)
      clear hWs hJL hC1 hB G R stab
      gi_wp2_with fail
      refine ⟨trivial, fun h => (by simp [Fence.wide] at h), (callsIn_wide.2 HE.out).mono ?_⟩
      rintro e w3 ⟨rfl, hK⟩
      have HJ3 := Lib.hid (HST.out _ (hK.alloc (.cells #[.int .u8 0, .int .i64 0, .int .i64 0, .int .i64 0] 55)))
      clear hK HE
      gi_wp2
      refine ⟨fun f h => (by cases h), ?_⟩
      gi_wp2
      refine bodyPost_ret (results_none rfl _ _ _) rfl ?_
      exact ⟨⟨_, rfl⟩, .inl ⟨L, C1, HR.out, HJ3.out⟩⟩
    · obtain ⟨x, s', Xs', hst, G', -⟩ := G.next HS.out hl
      obtain ⟨q1, q2, q3, q4, q5⟩ := G.wants HS.out
      have hlt := (G'.lt HS.out).1
      have HE := Lib.hid (step_any (HT.out wr hB) hWs hst q1 hn (by omega) (by omega) (q4 hl) q5)
      have HR := Lib.hid (Ran.snoc R hst)
      have HWs := Lib.hid hWs.1
      have HC1 := Lib.hid hC1
      have HBr := Lib.hid hB
      have hLx : (L ++ [x]).length = L.length + 1 := by simp
      clear hWs hJL hC1 hB G G' R stab q1 q2 q3 q4 q5 hst
      gi_wp2_with fail
      refine ⟨trivial, fun h => (by simp [Fence.wide] at h), (callsIn_wide.2 HE.out).mono ?_⟩
      rintro e w3 ⟨rfl, S', hWs', hS', hK⟩
      obtain ⟨xl, xc, xo, xn⟩ := x
      have hK4 := hK.alloc (.cells #[.int .u8 xl, .int .i64 xc, .int .i64 xo, .int .i64 xn] 55)
      have hJ4 := HST.out _ hK4
      have hz3 := hK.size
      have bs := Blk.new w3 55 #[.int .u8 xl, .int .i64 xc, .int .i64 xo, .int .i64 xn]
      obtain ⟨fn, tmps, assign, body, hy, hR⟩ := HY.out L ⟨xl, xc, xo, xn⟩ C1 _ hJ4 (by omega) ⟨_, HR.out⟩
      have hz4 : (w3.alloc (.cells #[.int .u8 xl, .int .i64 xc, .int .i64 xo, .int .i64 xn] 55)).heap.size = w3.heap.size + 1 := World.size_alloc _ _
      have hWs4 := hWs'.same (w' := w3.alloc (.cells #[.int .u8 xl, .int .i64 xc, .int .i64 xo, .int .i64 xn] 55)) (by omega) (fun j hj => Below.heap_alloc _ _ _ (hWs'.1 j hj).2)
      have hB4 := HBr.out.trans ((hK4.below (fun j hj => by have := (HWs.out j hj).1; omega) hzr))
      have Hz4 := Lib.hid hz4
      have HWs4 := Lib.hid hWs4
      have HWb := Lib.hid hWs'.1
      have HS' := Lib.hid hS'
      have HB4 := Lib.hid hB4
      unfold encS at hy
      dsimp only at hy
      obtain ⟨-, b0, b1, b2, b3, -⟩ := four bs
      clear hWs' hS' hK hK4 hJ4 hWs4 hB4 HE bs hz4
      gi_wp2
      refine ⟨fun h => (by simp [Fence.wide] at h), hR.mono ?_⟩
      rintro e w5 ⟨hK5, C', hC', ⟨rfl, hJ5⟩ | ⟨rfl, hJ5⟩⟩
      · have hz5 := hK5.size
        have hSd : ∀ j, S' j → ¬ C1 j := fun j hj hc1 => by
          have h1 := HC1.out j hc1
          rcases HS'.out j hj with h | h
          · exact h1.2.2 h
          · omega
        have hWs5 := HWs4.out.same hz5 (fun j hj => hK5.block j (HWs4.out.1 j hj).2 (hSd j hj))
        have hB5 := HB4.out.trans (hK5.below (fun j hj => (HC1.out j hj).1) HB4.out.size)
        have HI5 := Lib.hid (show SteI w g n T c b w1.heap.size J (T.length - (L.length + 1)) w5 from ⟨⟨L ++ [⟨xl, xc, xo, xn⟩], s', S', C', HR.out, hWs5, hJ5, fun j hj => by
          rcases hC' j hj with h | h
          · have h1 := HC1.out j h
            exact ⟨h1.1, by have := Hz4.out; omega, fun h2 => hSd j h2 h⟩
          · have := Hz4.out
            have := HB4.out.size
            exact ⟨by omega, h.2, fun h2 => by have := (HWb.out j h2).2; omega⟩, by simp; omega⟩, hB5⟩)
        clear hK5 hC' hJ5 hWs5 hB5 hR hSd
        gi_wp2
        gi_roundg (T.length - (L.length + 1))
        case measure => omega
        case rel => exact HI5.out
      · have HJ5 := Lib.hid hJ5
        clear hJ5 hK5 hC' hR
        gi_wp2
        refine bodyPost_ret (results_none rfl _ _ _) rfl ?_
        exact ⟨⟨_, rfl⟩, .inr ⟨_, C', ⟨s', HR.out⟩, HJ5.out⟩⟩
end Go.Proofs.YtghlnknncahkgaaGreat
