/-
  Texts joined by program, what the law uses alone: Sep BorC Chk Simp Ste Reg Apn.
-/
import Derived.RangeFuncNested
import Derived.RangeFuncCalls
import Derived.RangeFuncBound
import Derived.Shelf.Abstract
import Derived.RangeFuncLeaves
import Derived.OwnWalkIn
import Derived.TacticsInMore
import Derived.LoopNIn
import Derived.LoopIn
import Derived.Lib.Hide
import Derived.Sort.LoopGhostIn
import Derived.OrdersIn
import Derived.TacticsIn
import Derived.Deep.AppendLies
import Derived.Test.YtpnkhgjjlionnaaGreatM5
import Derived.Test.YtpnkhgjjlionnaaGreatM4
import Derived.Test.YtpnkhgjjlionnaaGreatM3
import Derived.Test.YtpnkhgjjlionnaaGreatM6
import Derived.Test.YtpnkhgjjlionnaaGreatM1
namespace Go.Proofs.YtpnkhgjjlionnaaGreat
open Go.RowKit

/-- What speaks of the caller's blocks alone. -/
def Stable {α : Type} (B0 : Nat) (I : α → (Nat → Prop) → World → Prop) : Prop :=
  ∀ xs C A B, I xs C A → Below B0 A B → (∀ k, C k → B.heap[k]? = A.heap[k]?) → I xs C B
/-- A set of blocks is taken over: what is more was laid anew. -/
def Anew (C C' : Nat → Prop) (W W' : World) : Prop := ∀ k, C' k → C k ∨ (W.heap.size ≤ k ∧ k < W'.heap.size)
/-- The iterator's contract. -/
def SeqSep {α : Type} (F : Fence) (n : Nat) (P : Program) (g : Nat) (lb : Array Value) (encs : α → Array Value) (Fin Sp : List α → Prop) (N : Nat) (w0 : World) (R : Nat → Prop) (Pre : World → Prop) : Prop :=
  ∀ (l : Nat) (J Jx : List α → (Nat → Prop) → World → Prop) (W : World) (C : Nat → Prop), Below w0.heap.size w0 W → Pre W → (∀ k, R k → k < W.heap.size) → Stable w0.heap.size J → Stable w0.heap.size Jx →
    (∀ pre x C1 W1, J pre C1 W1 → pre.length < N → YieldAt F (n - 1) P l (encs x) W1 fun e W' =>
      Kept C1 W1 W' ∧ ∃ C', Anew C1 C' W1 W' ∧ ((e = .returned (.bool true) ∧ J (pre ++ [x]) C' W') ∨ (e = .returned (.bool false) ∧ Jx (pre ++ [x]) C' W'))) →
    J [] C W → (∀ k, C k → w0.heap.size ≤ k ∧ k < W.heap.size ∧ ¬ R k) →
    CallsIn F n P g (#[.func (.yield l) #[] #[]] ++ lb) W fun e W' => (∃ v, e = .returned v) ∧ ((∃ xs C', Fin xs ∧ J xs C' W') ∨ (∃ pre C', Sp pre ∧ Jx pre C' W'))
/-- How a round's body may be left. -/
def sepPost {α : Type} (I : List α → (Nat → Prop) → World → Prop) (Ix : Code → List α → (Nat → Prop) → World → Prop) (C : Nat → Prop) (xs : List α) (W : World) : Exit → Act → World → Prop
  | .normal, _, W' => Kept C W W' ∧ ∃ C', Anew C C' W W' ∧ I xs C' W'
  | .ret, _, W' => Kept C W W' ∧ ∃ C', Anew C C' W W' ∧ Ix .ret xs C' W'
  | .exit id, _, W' => Kept C W W' ∧ ∃ C', Anew C C' W W' ∧ Ix (.exit id) xs C' W'
  | .goto t, _, W' => Kept C W W' ∧ ∃ C', Anew C C' W W' ∧ Ix (.goto t) xs C' W'
  | .panic _, _, _ => False
  | .outgrown, _, _ => False

variable {F : Fence} {n : Nat} {P : Program} {w : World}
theorem putObj_below {B l : Nat} {W : World} {o : Obj} (h : B ≤ l) : Below B W (W.putObj l o) := ⟨rfl, rfl, rfl, by simp, fun k hk => World.putObj_heap_other (by omega)⟩
theorem putObj_kept {S : Nat → Prop} {l : Nat} {W : World} {o : Obj} (h : S l) : Kept S W (W.putObj l o) := ⟨rfl, rfl, rfl, by simp, fun k _ hn => World.putObj_heap_other (fun e => hn (by rw [e]; exact h))⟩

set_option maxHeartbeats 1000000 in
theorem wpIn_rangeFunc_sep {α : Type} {g : Operand} {ps : Array Tmp} {assign body : Code} {Q : Exit → Act → World → Prop} {a : Act} {w : World}
    (hro : F.round = none) (h1 : 1 ≤ n) {gf : Nat} {lb : Array Value} (hg : a.eval g = .func (.func gf) #[] lb) (hFg : F.fn gf) (eg : ∀ args w, (callFunc gf args).run P w = .ok (.enter gf args) w)
    {encs : α → Array Value} {Fin Sp : List α → Prop} {N : Nat} {w0 : World} {R : Nat → Prop} {Pre : World → Prop} (hseq : SeqSep F (n - 1) P gf lb encs Fin Sp N w0 R Pre) (hpre : ∀ W, Below w.heap.size w W → Pre W) (hR : ∀ k, R k → k < w.heap.size) (hb0 : Below w0.heap.size w0 w) (hps : ∀ x, (encs x).size = ps.size)
    (I : List α → (Nat → Prop) → World → Prop) (Ix : Code → List α → (Nat → Prop) → World → Prop) (hI : Stable w0.heap.size I) (hIx : ∀ c, Stable w0.heap.size (Ix c)) (C0 : Nat → Prop) (hC0 : ∀ k, C0 k → w0.heap.size ≤ k ∧ k < w.heap.size ∧ ¬ R k) (h0 : I [] C0 w)
    (hround : ∀ (l : Nat) (pre : List α) (x : α) (C : Nat → Prop) (W : World), w.heap.size ≤ l → l < W.heap.size → I pre C W → (∀ k, C k → w0.heap.size ≤ k ∧ k < W.heap.size) → pre.length < N →
      assign.wpIn (F.inRound l) (n - 1 - 1) P (Exit.then (fun a' W1 => Kept C W W1 ∧ I pre C W1 ∧ ∀ W2, Kept (fun k => k = l) W1 W2 → I pre C W2 → (∀ k, C k → w0.heap.size ≤ k ∧ k < W2.heap.size) → W2.heap.size = W1.heap.size → body.wpIn (F.inRound l) (n - 1 - 1) P (sepPost I Ix C (pre ++ [x]) W2) a' W2) (fun _ _ _ => False))
        { tmps := (ps.zip (encs x)).foldl (fun t (p, v) => t.setIfInBounds p v) a.tmps, defers := [] } W)
    (hdone : ∀ (D : Nat) (xs : List α) (C : Nat → Prop) (W : World), w.heap.size ≤ D → ¬ C D → Fin xs → I xs C W → W.heap[D]? = some (.deferred (some [])) → Q .normal { a with defers := { target := .collected D, args := #[] } :: a.defers } W)
    (hstop : ∀ (D : Nat) (c : Code) (pre : List α) (C : Nat → Prop) (W : World), w.heap.size ≤ D → ¬ C D → Sp pre → Ix c pre C W → W.heap[D]? = some (.deferred (some [])) → c.wpIn F n P Q { a with defers := { target := .collected D, args := #[] } :: a.defers } W) :
    (Code.rangeFunc g ps assign body).wpIn F n P Q a w := by
  refine wpIn_rangeFunc ?_
  intro fn hfn
  rw [hro]
  obtain ⟨rec, hrec⟩ : ∃ rec : LoopState → Option Code → Loop, rec = fun st pe => { state := st, pending := pe, fn, tmps := a.tmps, params := ps, assign, body, defers := w.heap.size } := ⟨_, rfl⟩
  obtain ⟨W1, hW1⟩ : ∃ W1, (w.alloc (.deferred (some []))).alloc (.loop (rec .ready none)) = W1 := ⟨_, rfl⟩
  have hL1 : W1.heap[w.heap.size + 1]? = some (.loop (rec .ready none)) := by
    rw [← hW1]; have := World.alloc_heap_new (w.alloc (.deferred (some []))) (.loop (rec .ready none)); rwa [World.size_alloc] at this
  have hK1 : W1.heap[w.heap.size]? = some (.deferred (some [])) := by
    rw [← hW1]; exact (Below.heap_alloc _ _ _ (by simp)).trans (World.alloc_heap_new w _)
  have hz1 : W1.heap.size = w.heap.size + 2 := by rw [← hW1]; simp
  have hbw : Below w.heap.size w W1 := by rw [← hW1]; exact ((Below.refl _ w).alloc (Nat.le_refl _) _).alloc (by simp) _
  have hz0 := hb0.size
  have hI1 : I [] C0 W1 := hI _ _ _ _ h0 (hbw.mono hz0) (fun k hk => hbw.block k (hC0 k hk).2.1)
  have hb1 : Below w0.heap.size w0 W1 := hb0.trans (hbw.mono hz0)
  -- the law's own set
  let J : (List α → (Nat → Prop) → World → Prop) → (World → Prop) → List α → (Nat → Prop) → World → Prop := fun I R pre C W => ∃ Cu, (∀ k, C k ↔ Cu k ∨ k = w.heap.size ∨ k = w.heap.size + 1) ∧ I pre Cu W ∧ (∀ k, Cu k → w0.heap.size ≤ k ∧ k < W.heap.size ∧ k ≠ w.heap.size ∧ k ≠ w.heap.size + 1) ∧ R W ∧ W.heap[w.heap.size]? = some (.deferred (some []))
  have hJ : ∀ (I : List α → (Nat → Prop) → World → Prop) (R : World → Prop), Stable w0.heap.size I → (∀ A B : World, R A → B.heap[w.heap.size + 1]? = A.heap[w.heap.size + 1]? → R B) → Stable w0.heap.size (J I R) := by
    rintro I R hI hR xs C A B ⟨Cu, hC, hi, hbd, hl, hd⟩ hbel hsame
    exact ⟨Cu, hC, hI _ _ _ _ hi hbel (fun k hk => hsame k ((hC k).2 (.inl hk))), fun k hk => by have := hbd k hk; have := hbel.size; omega, hR _ _ hl (hsame _ ((hC _).2 (.inr (.inr rfl)))), (hsame _ ((hC _).2 (.inr (.inl rfl)))).trans hd⟩
  refine ⟨w.heap.size + 1, [{ target := .collected w.heap.size, args := #[] }], W1, { target := .fn (.func gf) lb, args := #[.func (.yield (w.heap.size + 1)) #[] #[]] }, W1, gf,
    #[.func (.yield (w.heap.size + 1)) #[] #[]] ++ lb, W1, ?_, ?_, ?_, ?_, fun _ => h1, ?_⟩
  · rw [← hW1, hrec]; exact run_enterLoop_outer _ _ _ _ _
  · simp only [resolve, hg]
    simp [go_sem]
  · intro f' hf'; simp [Target.leads] at hf'; subst hf'; exact hFg
  · simp [invoke, go_sem, eg]
  · refine (hseq (w.heap.size + 1) (J I (fun W => W.heap[w.heap.size + 1]? = some (.loop (rec .ready none)))) (J (fun xs C W => ∃ c, Ix c xs C W ∧ W.heap[w.heap.size + 1]? = some (.loop (rec .done (some c)))) (fun _ => True)) W1
      (fun k => C0 k ∨ k = w.heap.size ∨ k = w.heap.size + 1) hb1 (hpre W1 hbw) (fun k hk => by have := hR k hk; omega) (hJ _ _ hI (fun A B h e => e.trans h)) ?_ ?_ ⟨C0, fun k => Iff.rfl, hI1, fun k hk => by have := hC0 k hk; omega, hL1, hK1⟩ (fun k hk => by
        have hR' := hR k
        rcases hk with hk | hk | hk
        · have := hC0 k hk; exact ⟨this.1, by omega, this.2.2⟩
        · exact ⟨by omega, by omega, fun h => by have := hR' h; omega⟩
        · exact ⟨by omega, by omega, fun h => by have := hR' h; omega⟩)).mono ?_
    · rintro xs C A B ⟨Cu, hC, ⟨c, hc, hl⟩, hbd, -, hd⟩ hbel hsame
      exact ⟨Cu, hC, ⟨c, hIx c _ _ _ _ hc hbel (fun k hk => hsame k ((hC k).2 (.inl hk))), (hsame _ ((hC _).2 (.inr (.inr rfl)))).trans hl⟩, fun k hk => by have := hbd k hk; have := hbel.size; omega, trivial, (hsame _ ((hC _).2 (.inr (.inl rfl)))).trans hd⟩
    · -- one round
      rintro pre x C W ⟨Cu, hC, hi, hbd, hl, hk⟩ hlen
      have hlt : w.heap.size + 1 < W.heap.size := (Array.getElem?_eq_some_iff.1 hl).1
      have hy := run_yield (P := P) (args := encs x) hl (by rw [hrec]; exact hps x)
      rw [hrec] at hy
      refine ⟨fn, _, assign, body, hy, roundIn_of_wpIn hfn (wpIn_mono (hround (w.heap.size + 1) pre x Cu W (by omega) hlt hi (fun k hk => ⟨(hbd k hk).1, (hbd k hk).2.1⟩) hlen) ?_)⟩
      clear hy
      intro e a' Wa hp
      cases e with
      | normal =>
        obtain ⟨hka, hia, hb⟩ := hp
        have hla := (hka.block _ hlt (fun h => (hbd _ h).2.2.2 rfl)).trans hl
        have hda := (hka.block _ (by omega) (fun h => (hbd _ h).2.2.1 rfl)).trans hk
        have hza := hka.size
        refine ⟨_, run_beginRound hla (by rw [hrec]), ?_⟩
        obtain ⟨W2, hW2⟩ : ∃ W2, Wa.putObj (w.heap.size + 1) (.loop { rec .ready none with state := .busy }) = W2 := ⟨_, rfl⟩
        have hl2 : W2.heap[w.heap.size + 1]? = some (.loop { rec .ready none with state := .busy }) := by rw [← hW2]; exact World.putObj_heap_same (by omega)
        have hd2 : W2.heap[w.heap.size]? = some (.deferred (some [])) := by rw [← hW2]; exact (World.putObj_heap_other (by omega)).trans hda
        have hz2 : W2.heap.size = Wa.heap.size := by rw [← hW2]; simp
        have hk2 : Kept (fun k => k = w.heap.size + 1) Wa W2 := by rw [← hW2]; exact putObj_kept rfl
        have hi2 : I pre Cu W2 := by
          refine hI _ _ _ _ hia ?_ (fun k hk => ?_)
          · rw [← hW2]; exact putObj_below (by omega)
          · rw [← hW2]; exact World.putObj_heap_other (hbd k hk).2.2.2
        rw [hW2]
        refine wpIn_mono (hb W2 hk2 hi2 (fun k hk => by have := hbd k hk; omega) hz2) ?_
        have fin : ∀ (jump : Option Code) (W3 : World) (C' : Nat → Prop), Kept Cu W2 W3 → Anew Cu C' W2 W3 →
            (Instr.endRound (w.heap.size + 1) jump).run P W3 = .ok (.bool jump.isNone) (W3.putObj (w.heap.size + 1) (.loop (rec (if jump.isNone then .ready else .done) jump))) ∧
            (W3.putObj (w.heap.size + 1) (.loop (rec (if jump.isNone then .ready else .done) jump))).heap[w.heap.size + 1]? = some (.loop (rec (if jump.isNone then .ready else .done) jump)) ∧
            (W3.putObj (w.heap.size + 1) (.loop (rec (if jump.isNone then .ready else .done) jump))).heap[w.heap.size]? = some (.deferred (some [])) ∧
            Kept C W (W3.putObj (w.heap.size + 1) (.loop (rec (if jump.isNone then .ready else .done) jump))) ∧
            Anew C (fun k => C' k ∨ k = w.heap.size ∨ k = w.heap.size + 1) W (W3.putObj (w.heap.size + 1) (.loop (rec (if jump.isNone then .ready else .done) jump))) ∧
            (∀ k, C' k → w0.heap.size ≤ k ∧ k < (W3.putObj (w.heap.size + 1) (.loop (rec (if jump.isNone then .ready else .done) jump))).heap.size ∧ k ≠ w.heap.size ∧ k ≠ w.heap.size + 1) := fun jump W3 C' hk3 hn3 => by
          have hl3 := (hk3.block _ (by omega) (fun h => (hbd _ h).2.2.2 rfl)).trans hl2
          have hd3 := (hk3.block _ (by omega) (fun h => (hbd _ h).2.2.1 rfl)).trans hd2
          have hz3 := hk3.size
          have := run_endRound (P := P) jump hl3
          rw [hrec] at this ⊢
          refine ⟨this, World.putObj_heap_same (by omega), (World.putObj_heap_other (by omega)).trans hd3, ?_, ?_, ?_⟩
          · have c1 : Kept C W Wa := hka.mono (fun k hk => (hC k).2 (.inl hk))
            have c2 : Kept C Wa W2 := hk2.mono (fun k hk => (hC k).2 (.inr (.inr hk)))
            have c3 : Kept C W2 W3 := hk3.mono (fun k hk => (hC k).2 (.inl hk))
            exact ((c1.trans c2).trans c3).trans (putObj_kept ((hC _).2 (.inr (.inr rfl))))
          · intro k hk
            rw [World.putObj_size]
            rcases hk with hk | hk | hk
            · rcases hn3 k hk with h | h
              · exact .inl ((hC k).2 (.inl h))
              · exact .inr (by omega)
            · exact .inl ((hC k).2 (.inr (.inl hk)))
            · exact .inl ((hC k).2 (.inr (.inr hk)))
          · intro k hk
            rw [World.putObj_size]
            rcases hn3 k hk with h | h
            · have := hbd k h
              omega
            · omega
        have put : ∀ {J : List α → (Nat → Prop) → World → Prop} (xs : List α) (C' : Nat → Prop) (W3 : World) (o : Obj), Stable w0.heap.size J → J xs C' W3 → (∀ k, C' k → k ≠ w.heap.size + 1) → J xs C' (W3.putObj (w.heap.size + 1) o) := fun xs C' W3 o hJ h hk => hJ _ _ _ _ h (putObj_below (by omega)) (fun k h' => World.putObj_heap_other (hk k h'))
        rintro e a3 W3 hp
        cases e with
        | normal =>
          obtain ⟨hk3, C', hn3, hi3⟩ := hp
          obtain ⟨hr, hl4, hd4, c4, n4, b4⟩ := fin none W3 C' hk3 hn3
          exact ⟨_, _, hr, c4, _, n4, .inl ⟨rfl, C', fun k => Iff.rfl, put _ _ _ _ hI hi3 (fun k h => (b4 k h).2.2.2), b4, hl4, hd4⟩⟩
        | ret =>
          obtain ⟨hk3, C', hn3, hi3⟩ := hp
          obtain ⟨hr, hl4, hd4, c4, n4, b4⟩ := fin (some .ret) W3 C' hk3 hn3
          exact ⟨_, _, hr, c4, _, n4, .inr ⟨rfl, C', fun k => Iff.rfl, ⟨.ret, put _ _ _ _ (hIx _) hi3 (fun k h => (b4 k h).2.2.2), hl4⟩, b4, trivial, hd4⟩⟩
        | exit id =>
          obtain ⟨hk3, C', hn3, hi3⟩ := hp
          obtain ⟨hr, hl4, hd4, c4, n4, b4⟩ := fin (some (.exit id)) W3 C' hk3 hn3
          exact ⟨_, _, hr, c4, _, n4, .inr ⟨rfl, C', fun k => Iff.rfl, ⟨.exit id, put _ _ _ _ (hIx _) hi3 (fun k h => (b4 k h).2.2.2), hl4⟩, b4, trivial, hd4⟩⟩
        | goto t =>
          obtain ⟨hk3, C', hn3, hi3⟩ := hp
          obtain ⟨hr, hl4, hd4, c4, n4, b4⟩ := fin (some (.goto t)) W3 C' hk3 hn3
          exact ⟨_, _, hr, c4, _, n4, .inr ⟨rfl, C', fun k => Iff.rfl, ⟨.goto t, put _ _ _ _ (hIx _) hi3 (fun k h => (b4 k h).2.2.2), hl4⟩, b4, trivial, hd4⟩⟩
        | panic ch => exact hp.elim
        | outgrown => exact hp.elim
      | ret => exact hp.elim
      | exit id => exact hp.elim
      | goto t => exact hp.elim
      | panic ch => exact hp.elim
      | outgrown => exact hp.elim
    · -- behind the iterator
      rintro e W2 ⟨⟨v, rfl⟩, (⟨xs, C', hS, Cu, hC, hi, hbd, hl, hd⟩ | ⟨pre, C', hSp, Cu, hC, ⟨c, hi, hl⟩, hbd, -, hd⟩)⟩
      · exact ⟨none, _, by have := run_endLoop (P := P) hl (by rw [hrec]; simp); rw [hrec] at this; exact this, hdone _ xs Cu _ (Nat.le_refl _) (fun h => (hbd _ h).2.2.1 rfl) hS (hI _ _ _ _ hi (putObj_below (by omega)) (fun k hk => World.putObj_heap_other (hbd k hk).2.2.2)) ((World.putObj_heap_other (by omega)).trans hd)⟩
      · exact ⟨some c, _, by have := run_endLoop (P := P) hl (by rw [hrec]; simp); rw [hrec] at this; exact this, hstop _ c pre Cu _ (Nat.le_refl _) (fun h => (hbd _ h).2.2.1 rfl) hSp (hIx c _ _ _ _ hi (putObj_below (by omega)) (fun k hk => World.putObj_heap_other (hbd k hk).2.2.2)) ((World.putObj_heap_other (by omega)).trans hd)⟩
end Go.Proofs.YtpnkhgjjlionnaaGreat
namespace Go.Proofs.YtpnkhgjjlionnaaGreat
open Go.RowKit Go.Maps Go.Shelf
attribute [local go_sem] Oper.semAt_some

set_option maxHeartbeats 1000000 in
theorem edgesC_any (g : Nat) (N : Int) (T : List Tr) (w : World) (h : Tab w g N T) (hc : ClosedT T) : Calls Tryz.prog 118 #[.pointer (some ⟨g, 0, none⟩)] w fun e w' => e = .returned (.slice none 0 0) ∧ Below w.heap.size w w' := by
  have H0 := Lib.hid (triangles_any g N T w h.toTabS)
  have HO := Lib.hid (fun (W : World) (c : Int) (hW : Below w.heap.size w W) => opp_any g N c T W (h.below hW))
  have HP := Lib.hid (fun c (hk : c < 3 * T.length) => hc c hk)
  have hl := h.len
  obtain ⟨F, hF⟩ : ∃ F, T.length = F := ⟨_, rfl⟩
  rw [hF] at hl H0 HP
  clear hF h hc
  go_enter Tryz.func118, Tryz.ntmps118
  go_wp2_with fail
  refine H0.out.mono ?_
  rintro e w0 ⟨rfl, rfl⟩
  go_wp2
  go_loopw [3, 10] (fun v3 ix wr => ∃ k : Nat, k ≤ 3 * F ∧ v3 = .slice none 0 0 ∧ ix = .int .i64 k ∧ Below w.heap.size w wr) (fun _ ix _ => 3 * F - (intOf ix).toNat)
  case atStart => exact ⟨0, Nat.zero_le _, rfl, rfl, Below.refl _ _⟩
  case round =>
    obtain ⟨k, hk, rfl, rfl, hB⟩ := hrel
    rename World => wr
    by_cases hlt : k < 3 * F
    · have k3 : (k : Int) < 3 * (F : Int) := by omega
      have hp := HP.out k hlt
      have HB := Lib.hid hB
      clear hB
      go_wp2_with fail
      refine (HO.out wr k HB.out).mono ?_
      rintro e w2 ⟨rfl, hb2⟩
      have hB2 := HB.out.trans (hb2.mono HB.out.size)
      have HB2 := Lib.hid hB2
      clear hb2 hB2
      go_wp2
      go_roundw
      case measure => simp [intOf]; omega
      case rel => exact ⟨k + 1, by omega, rfl, by go_num, HB2.out⟩
    · obtain rfl : k = 3 * F := by omega
      go_wp2
      go_ret
      exact ⟨rfl, hB⟩

set_option maxHeartbeats 1000000 in
theorem behindC_any (g : Nat) (N : Int) (T : List Tr) (w : World) (h : Tab w g N T) (hc : ClosedT T) : Calls Tryz.prog 99 #[.pointer (some ⟨g, 0, none⟩)] w fun e w' => ∃ b, e = .returned (.map (some b)) ∧ w.heap.size ≤ b ∧ MapP Tryz.prog 3 w' b (fun _ => none) ∧ Below w.heap.size w w' := by
  have hB : Below w.heap.size w (w.alloc (.map #[] 0)) := (Below.refl _ _).alloc (Nat.le_refl _) _
  have HB := Lib.hid hB
  have HM := Lib.hid (MapP.made w Tryz.prog 3)
  have HE := Lib.hid (edgesC_any g N T _ (h.below hB) hc)
  clear hB h hc
  have hmm := @run_makeMap Tryz.prog
  go_enter Tryz.func99, Tryz.ntmps99
  go_wp2_with fail
  refine HE.out.mono ?_
  rintro e w1 ⟨rfl, hb1⟩
  go_wp2
  go_loopw [10] (fun ix wr => ix = .int .i64 0 ∧ wr = w1) (fun _ _ => 0)
  case atStart => exact ⟨rfl, rfl⟩
  case round =>
    obtain ⟨rfl, rfl⟩ := hrel
    go_wp2
    go_ret
    exact ⟨_, rfl, Nat.le_refl _, HM.out.below hb1 (by simp), HB.out.trans (hb1.mono HB.out.size)⟩

set_option maxHeartbeats 1000000 in
/-- border.Walk: the function value holds the table and the vertex in boxes. -/
theorem bwalk_any (F : Fence) (n : Nat) (h6 : F.fn 71) (hro : F.round = none) (g : Nat) (v : Int) (w : World) :
    CallsIn F n Tryz.prog 71 #[.pointer (some ⟨g, 0, none⟩), .int .i64 v] w fun e w' => e = .returned (.func (.func 98) #[] #[.pointer (some ⟨w.heap.size, 0, none⟩), .pointer (some ⟨w.heap.size + 1, 0, none⟩)]) ∧ w' = (w.alloc (.cells #[.pointer (some ⟨g, 0, none⟩)] 26)).alloc (.cells #[.int .i64 v] 3) := by
  refine callsIn_of_wp Tryz.func71 rfl h6 ?_ hro
  simp only [Tryz.ntmps71, List.size_toArray, List.length_cons, List.length_nil, Nat.reduceAdd, Nat.reduceSub, Array.replicate_succ, Array.replicate_zero, List.push_toArray, List.append_toArray, List.nil_append, List.cons_append]
  gi_wp2
  go_ret
  exact ⟨rfl, rfl⟩

set_option maxRecDepth 100000 in
set_option maxHeartbeats 1000000 in
/-- On a closed surface it yields nothing. -/
theorem bwalk1C_in (n : Nat) (l Bt Bv g : Nat) (N : Int) (T : List Tr) (v : Nat) (hv : v ≤ 5000) (hc : ClosedT T) (W : World) (hT : Tab W g N T) (ht : W.cell? ⟨Bt, 0, none⟩ = some (.pointer (some ⟨g, 0, none⟩))) (hvc : W.cell? ⟨Bv, 0, none⟩ = some (.int .i64 v)) (lt : Bt < W.heap.size) (lv : Bv < W.heap.size) :
    CallsIn Fence.wide n Tryz.prog 98 #[.func (.yield l) #[] #[], .pointer (some ⟨Bt, 0, none⟩), .pointer (some ⟨Bv, 0, none⟩)] W fun e W' => (∃ v, e = .returned v) ∧ Below W.heap.size W W' := by
  refine callsIn_of_wp Tryz.func98 rfl trivial ?_ rfl
  have HE := Lib.hid (behindC_any g N T W hT hc)
  clear hT hc
  simp only [Tryz.ntmps98, List.size_toArray, List.length_cons, List.length_nil, Nat.reduceAdd, Nat.reduceSub, Array.replicate_succ, Array.replicate_zero, List.push_toArray, List.append_toArray, List.nil_append, List.cons_append]
  gi_wp2_with fail
  refine ⟨trivial, fun h => (by simp [Fence.wide] at h), (callsIn_wide.2 HE.out).mono ?_⟩
  rintro e w1 ⟨b, rfl, hb, hm, hB⟩
  have hkeyv := keyOf_int_mk (P := Tryz.prog) (k := 3) (q := .i64) Tryz.underlying3 (wfV (x := (v : Int)) ⟨by omega, by omega⟩)
  have hlk := hm.lookOk (t := 97) (int_keyed Tryz.underlying3) Tryz.underlying97 (zero_int _) hkeyv
  have t1 := (hB.cell (p := ⟨Bt, 0, none⟩) lt).trans ht
  have v1 := (hB.cell (p := ⟨Bv, 0, none⟩) lv).trans hvc
  have HB := Lib.hid hB
  clear hB hm
  gi_wp2
  refine ⟨fun f h => (by cases h), ?_⟩
  gi_wp2
  refine bodyPost_ret (results_none rfl _ _ _) rfl ?_
  exact ⟨⟨_, rfl⟩, HB.out⟩
theorem bwalk_sep0 {w : World} {n Bt Bv g : Nat} {N : Int} {T : List Tr} {v : Nat} (hv : v ≤ 5000) (hc : ClosedT T) (hT : Tab w g N T) (ht : w.cell? ⟨Bt, 0, none⟩ = some (.pointer (some ⟨g, 0, none⟩))) (hvc : w.cell? ⟨Bv, 0, none⟩ = some (.int .i64 v)) (lt : Bt < w.heap.size) (lv : Bv < w.heap.size) :
    SeqSep Fence.wide n Tryz.prog 98 #[.pointer (some ⟨Bt, 0, none⟩), .pointer (some ⟨Bv, 0, none⟩)] (fun x : Int => #[.int .i64 x]) (fun _ => True) (fun _ => True) 0 w (fun _ => False) (fun _ => True) := by
  intro l J Jx W C hW _ _ hJ _ _ h0 hC
  have hz := hW.size
  refine (bwalk1C_in n l Bt Bv g N T v hv hc W (hT.below hW) ((hW.cell (p := ⟨Bt, 0, none⟩) lt).trans ht) ((hW.cell (p := ⟨Bv, 0, none⟩) lv).trans hvc) (by omega) (by omega)).mono ?_
  rintro e W' ⟨h1, h2⟩
  exact ⟨h1, .inl ⟨[], C, trivial, hJ _ _ _ _ h0 (h2.mono hz) (fun k hk => h2.block k (hC k hk).2.1)⟩⟩
theorem put_calm2 {W : World} {D : Nat} (o : Obj) : W.grownBy (W.putObj D o) (some D) := grownBy_putObj' W D o

set_option maxRecDepth 100000 in
set_option maxHeartbeats 1000000 in
theorem appendSeq0 (w : World) (gf : Nat) (lb : Array Value) (eg : ∀ args w, (callFunc gf args).run Tryz.prog w = .ok (.enter gf args) w) (hseq : SeqSep Fence.wide 8 Tryz.prog gf lb (fun x : Int => #[.int .i64 x]) (fun _ => True) (fun _ => True) 0 w (fun _ => False) (fun _ => True)) :
    Calls Tryz.prog 97 #[.slice none 0 0, .func (.func gf) #[] lb] w fun e w' => e = .returned (.slice none 0 0) ∧ Below w.heap.size w w' := by
  refine (callsIn_wide (n := 9)).1 ?_
  refine callsIn_of_wp_marks Tryz.func97 rfl trivial ?_ rfl
  simp only [Tryz.ntmps97, List.size_toArray, List.length_cons, List.length_nil, Nat.reduceAdd, Nat.reduceSub, Array.replicate_succ, Array.replicate_zero, List.push_toArray, List.append_toArray, List.nil_append, List.cons_append]
  gi_wp2
  have hB : Below w.heap.size w (w.alloc (.cells #[.slice none 0 0] 30)) := (Below.refl _ _).alloc (Nat.le_refl _) _
  have bx := Blk.new w 30 #[.slice none 0 0]
  refine wpIn_rangeFunc_sep rfl (by omega) (gf := gf) (lb := lb) rfl trivial eg hseq (fun _ _ => trivial) (fun _ h => h.elim) hB (fun _ => rfl)
    (fun _ C W => C w.heap.size ∧ Blk W w.heap.size 30 #[.slice none 0 0] ∧ Below w.heap.size w W) (fun _ _ _ _ => False) ?_ ?_ (fun k => k = w.heap.size) (fun k hk => by subst hk; simp) ⟨rfl, bx, hB⟩ ?_ ?_ ?_
  · rintro xs C A B ⟨h1, h2, h3⟩ hb hs
    exact ⟨h1, blk_same h2 (hs _ h1), h3.trans hb⟩
  · rintro c xs C A B h
    exact h.elim
  · intro l pre x C W _ _ _ _ hl
    exact absurd hl (by omega)
  · rintro D xs C W hD hCD _ ⟨h1, h2, h3⟩ hK
    obtain ⟨q0, q1, q2⟩ := h2.one
    have hDw : D ≠ w.heap.size := fun e => hCD (by rw [e]; exact h1)
    gi_wp2
    refine ⟨by simp, .inl ⟨_, _, rfl, run_takeDeferred hK, ?_⟩⟩
    have g1 := put_calm2 (W := W) (D := D) (.deferred none)
    refine ⟨_, ?_, rfl, h3.grown g1 h3.size (fun k e => by cases e; simp at hD; omega)⟩
    simp [results, Tryz.results97, go_sem]
  · intro D c pre C W _ _ _ h _
    exact h.elim
set_option maxHeartbeats 1000000 in
theorem collect0 (w : World) (gf : Nat) (lb : Array Value) (eg : ∀ args w, (callFunc gf args).run Tryz.prog w = .ok (.enter gf args) w) (hseq : SeqSep Fence.wide 8 Tryz.prog gf lb (fun x : Int => #[.int .i64 x]) (fun _ => True) (fun _ => True) 0 w (fun _ => False) (fun _ => True)) :
    Calls Tryz.prog 70 #[.func (.func gf) #[] lb] w fun e w' => e = .returned (.slice none 0 0) ∧ Below w.heap.size w w' := by
  have H := Lib.hid (appendSeq0 w gf lb eg hseq)
  clear hseq
  go_enter Tryz.func70, Tryz.ntmps70
  go_wp2_with fail
  refine H.out.mono ?_
  rintro e w1 ⟨rfl, hb⟩
  go_wp2
  go_ret
  exact ⟨rfl, hb⟩

/-- The marks that loops over functions have left. -/
def Mks (base : Nat) (W : World) (ds : List Deferred) : Prop := (∀ d ∈ ds, ∃ r, d.target = .collected r ∧ base ≤ r ∧ W.heap[r]? = some (.deferred (some []))) ∧ ds.Pairwise (fun a b => a.target ≠ b.target)
theorem Mks.nil (base : Nat) (W : World) : Mks base W [] := ⟨fun _ h => (List.not_mem_nil h).elim, .nil⟩
theorem Mks.below {base : Nat} {W W' : World} {ds : List Deferred} (h : Mks base W ds) (hb : Below W.heap.size W W') : Mks base W' ds :=
  ⟨fun d hd => by
    obtain ⟨r, h1, h2, h3⟩ := h.1 d hd
    exact ⟨r, h1, h2, (hb.block r (Array.getElem?_eq_some_iff.1 h3).1).trans h3⟩, h.2⟩
theorem Mks.cons {base D : Nat} {W : World} {ds : List Deferred} {args : Array Value} (h : Mks base W ds) (hK : W.heap[D]? = some (.deferred (some []))) (hD : base ≤ D) (hn : ∀ d ∈ ds, d.target ≠ .collected D) : Mks base W ({ target := .collected D, args := args } :: ds) :=
  ⟨fun d hd => by
    rcases List.mem_cons.1 hd with rfl | hd
    · exact ⟨D, rfl, hD, hK⟩
    · exact h.1 d hd, List.pairwise_cons.2 ⟨fun d hd e => hn d hd e.symm, h.2⟩⟩
theorem leaves_marks {F : Fence} {n : Nat} {P : Program} {fn : Func} {tmps : Array Value} {R : Ending → World → Prop} {base : Nat} : ∀ (ds : List Deferred) (W : World), Mks base W ds →
    (∀ W', Kept (fun k => base ≤ k ∧ ∃ d ∈ ds, d.target = .collected k) W W' → LeavesInM F n P fn tmps R [] .returning W') → LeavesInM F n P fn tmps R ds .returning W
  | [], W, _, h => h W (Kept.refl _ _)
  | d :: ds, W, hM, h => by
    obtain ⟨r, h1, h2, h3⟩ := hM.1 d (List.mem_cons_self ..)
    have hp := List.pairwise_cons.1 hM.2
    refine ⟨by simp, .inl ⟨r, _, h1, run_takeDeferred h3, leaves_marks (base := base) ds _ ⟨fun d' hd' => ?_, hp.2⟩ fun W' hk => h W' ?_⟩⟩
    · obtain ⟨r', k1, k2, k3⟩ := hM.1 d' (List.mem_cons_of_mem _ hd')
      refine ⟨r', k1, k2, (World.putObj_heap_other (fun e => ?_)).trans k3⟩
      exact hp.1 d' hd' (by rw [h1, k1, e])
    · refine Kept.trans (b := W.putObj r (.deferred none)) ?_ (hk.mono (fun k ⟨a, d', b, c⟩ => ⟨a, d', List.mem_cons_of_mem _ b, c⟩))
      exact putObj_kept ⟨h2, d, List.mem_cons_self .., h1⟩

set_option maxRecDepth 100000 in
set_option maxHeartbeats 2000000 in
theorem loopsC_any (g n : Nat) (T : List Tr) (w : World) (h : Tab w g n T) (hc : ClosedT T) (hn : n ≤ 4096) :
    Calls Tryz.prog 45 #[.pointer (some ⟨g, 0, none⟩)] w fun e w' => e = .returned (.slice none 0 0) ∧ Below w.heap.size w w' := by
  have H0 := Lib.hid (fun (W : World) (hW : Below w.heap.size w W) => vertices_any g n T W (h.below hW).toTabS)
  have HT := Lib.hid (fun (W : World) (hW : Below w.heap.size w W) => h.below hW)
  have HC := Lib.hid hc
  clear h hc
  have hmm := @run_makeMap Tryz.prog
  refine (callsIn_wide (n := 9)).1 ?_
  refine callsIn_of_wp_marks Tryz.func45 rfl trivial ?_ rfl
  simp only [Tryz.ntmps45, List.size_toArray, List.length_cons, List.length_nil, Nat.reduceAdd, Nat.reduceSub, Array.replicate_succ, Array.replicate_zero, List.push_toArray, List.append_toArray, List.nil_append, List.cons_append]
  have hB0 : Below w.heap.size w ((w.alloc (.map #[] 0)).alloc (.cells #[.map (some w.heap.size)] 123)) := ((Below.refl _ _).alloc (Nat.le_refl _) _).alloc (by simp) _
  have hm0 : MapP Tryz.prog 3 ((w.alloc (.map #[] 0)).alloc (.cells #[.map (some w.heap.size)] 123)) w.heap.size (fun _ => none) := (MapP.made w Tryz.prog 3).alloc _
  have b0 : Blk ((w.alloc (.map #[] 0)).alloc (.cells #[.map (some w.heap.size)] 123)) (w.heap.size + 1) 123 #[.map (some w.heap.size)] := by
    have := Blk.new (w.alloc (.map #[] 0)) 123 #[.map (some w.heap.size)]
    rwa [World.size_alloc] at this
  have HB0 := Lib.hid hB0
  have HM0 := Lib.hid hm0
  have HBb0 := Lib.hid b0
  clear hB0 hm0 b0
  gi_wp2_with fail
  refine ⟨trivial, (callsIn_wide.2 (H0.out _ HB0.out)).mono ?_⟩
  rintro e w1 ⟨rfl, rfl⟩
  gi_wp2
  refine wpIn_loop (fun a' W => ∃ (k : Nat) (u5 u6 u7 u14 u15 u16 u17 u18 u19 u20 u21 u22 u23 u24 u25 u29 u30 u31 u36 : Value) (ds : List Deferred), a' = { tmps := List.toArray (.pointer (some ⟨g, 0, none⟩) :: undef :: .slice none 0 0 :: .slice none 0 0 :: .pointer (some ⟨w.heap.size + 1, 0, none⟩) :: u5 :: u6 :: u7 :: .pointer (some ⟨g, 0, none⟩) :: .bool false :: .map (some w.heap.size) :: .pointer (some ⟨g, 0, none⟩) :: .int .i64 (n : Int) :: .int .i64 (k : Int) :: u14 :: u15 :: u16 :: u17 :: u18 :: u19 :: u20 :: u21 :: u22 :: u23 :: u24 :: u25 :: undef :: undef :: undef :: u29 :: u30 :: u31 :: undef :: undef :: undef :: undef :: u36 :: undef :: []), defers := ds } ∧
    k ≤ n ∧ Mks w.heap.size W ds ∧ Blk W (w.heap.size + 1) 123 #[.map (some w.heap.size)] ∧ MapP Tryz.prog 3 W w.heap.size (fun _ => none) ∧ Below w.heap.size w W)
    (fun a' _ => n - (intOf (a'.tmps.getD 13 undef)).toNat) ?_ ?_
  · exact ⟨0, _, _, _, _, _, _, _, _, _, _, _, _, _, _, _, _, _, _, _, _, rfl, Nat.zero_le _, Mks.nil _ _, HBb0.out, HM0.out, HB0.out⟩
  · rintro a' W ⟨k, u5, u6, u7, u14, u15, u16, u17, u18, u19, u20, u21, u22, u23, u24, u25, u29, u30, u31, u36, ds, rfl, hk, hM, hb, hmp, hB⟩
    clear HB0 HM0 HBb0
    obtain ⟨q0, q1, q2⟩ := hb.one
    have hsz := hB.size
    by_cases hlt : k < n
    · have k3 : (k : Int) < (n : Int) := by omega
      have hkeyv := keyOf_int_mk (P := Tryz.prog) (k := 3) (q := .i64) Tryz.underlying3 (wfV (x := (k : Int)) ⟨by omega, by omega⟩)
      have hlk := hmp.look (t := 123) (int_keyed Tryz.underlying3) Tryz.underlying123 (zero_bool _) hkeyv
      simp only [Option.getD_none] at hlk
      have HM := Lib.hid hM
      have HBb := Lib.hid hb
      have HMp := Lib.hid hmp
      have HB := Lib.hid hB
      clear hM hb hmp hB
      gi_wp2_with fail
      refine ⟨trivial, (callsIn_wide.2 (callsIn_wide.1 (bwalk_any Fence.wide 8 trivial rfl g (k : Int) W))).mono ?_⟩
      rintro e w2 ⟨rfl, rfl⟩
      have hB2 : Below W.heap.size W ((W.alloc (.cells #[.pointer (some ⟨g, 0, none⟩)] 26)).alloc (.cells #[.int .i64 (k : Int)] 3)) := ((Below.refl _ _).alloc (Nat.le_refl _) _).alloc (by simp) _
      have bt : Blk ((W.alloc (.cells #[.pointer (some ⟨g, 0, none⟩)] 26)).alloc (.cells #[.int .i64 (k : Int)] 3)) W.heap.size 26 #[.pointer (some ⟨g, 0, none⟩)] := (Blk.new _ _ _).alloc _
      have bv : Blk ((W.alloc (.cells #[.pointer (some ⟨g, 0, none⟩)] 26)).alloc (.cells #[.int .i64 (k : Int)] 3)) (W.heap.size + 1) 3 #[.int .i64 (k : Int)] := by
        have := Blk.new (W.alloc (.cells #[.pointer (some ⟨g, 0, none⟩)] 26)) 3 #[.int .i64 (k : Int)]
        rwa [World.size_alloc] at this
      generalize (W.alloc (.cells #[.pointer (some ⟨g, 0, none⟩)] 26)).alloc (.cells #[.int .i64 (k : Int)] 3) = W2 at *
      have hBw2 := HB.out.trans (hB2.mono hsz)
      gi_wp2_with fail
      refine ⟨trivial, (callsIn_wide.2 (collect0 W2 98 _ (enters_of Tryz.func98 (by kernel_rfl) rfl) (bwalk_sep0 (v := k) (by omega) HC.out (HT.out W2 hBw2) (bt.cell 0) (bv.cell 0) bt.lt bv.lt))).mono ?_⟩
      rintro e w3 ⟨rfl, hb3⟩
      have hB3 := hB2.trans (hb3.mono hB2.size)
      clear bt bv hb3 hB2 hBw2
      have hBw3 := HB.out.trans (hB3.mono hsz)
      have h3s := hB3.size
      gi_wp2_with fail
      refine ⟨trivial, (callsIn_wide.2 (callsIn_wide.1 (bwalk_any Fence.wide 8 trivial rfl g (k : Int) w3))).mono ?_⟩
      rintro e w4 ⟨rfl, rfl⟩
      have hB4 : Below w3.heap.size w3 ((w3.alloc (.cells #[.pointer (some ⟨g, 0, none⟩)] 26)).alloc (.cells #[.int .i64 (k : Int)] 3)) := ((Below.refl _ _).alloc (Nat.le_refl _) _).alloc (by simp) _
      have bt : Blk ((w3.alloc (.cells #[.pointer (some ⟨g, 0, none⟩)] 26)).alloc (.cells #[.int .i64 (k : Int)] 3)) w3.heap.size 26 #[.pointer (some ⟨g, 0, none⟩)] := (Blk.new _ _ _).alloc _
      have bv : Blk ((w3.alloc (.cells #[.pointer (some ⟨g, 0, none⟩)] 26)).alloc (.cells #[.int .i64 (k : Int)] 3)) (w3.heap.size + 1) 3 #[.int .i64 (k : Int)] := by
        have := Blk.new (w3.alloc (.cells #[.pointer (some ⟨g, 0, none⟩)] 26)) 3 #[.int .i64 (k : Int)]
        rwa [World.size_alloc] at this
      generalize (w3.alloc (.cells #[.pointer (some ⟨g, 0, none⟩)] 26)).alloc (.cells #[.int .i64 (k : Int)] 3) = W4 at *
      have hBw4 := hBw3.trans (hB4.mono hBw3.size)
      have hsep := bwalk_sep0 (n := 8) (v := k) (by omega) HC.out (HT.out W4 hBw4) (bt.cell 0) (bv.cell 0) bt.lt bv.lt
      have hBk4 := hB3.trans (hB4.mono h3s)
      have HBk := Lib.hid hBk4
      have HSep := Lib.hid hsep
      have HBw := Lib.hid hBw4
      have h4s := hBk4.size
      clear bt bv hB3 hBw3 hB4 hBw4 hsep hBk4
      gi_wp2
      refine wpIn_rangeFunc_sep rfl (by omega) (gf := 98) (lb := #[.pointer (some ⟨w3.heap.size, 0, none⟩), .pointer (some ⟨w3.heap.size + 1, 0, none⟩)]) rfl trivial (enters_of Tryz.func98 (by kernel_rfl) rfl) HSep.out (fun _ _ => trivial) (fun _ h => h.elim) (Below.refl _ _) (fun _ => rfl)
        (fun _ _ W' => Below W4.heap.size W4 W') (fun _ _ _ _ => False) ?_ ?_ (fun _ => False) (fun _ h => h.elim) (Below.refl _ _) ?_ ?_ ?_
      · rintro xs C A B h hb hs
        exact h.trans hb
      · rintro c xs C A B h
        exact h.elim
      · intro l pre x C W _ _ _ _ hl
        exact absurd hl (by omega)
      · rintro D xs C W5 hD _ _ h5 hK
        have hB5 := HBk.out.trans (h5.mono h4s)
        gi_wp2
        refine ⟨⟨k + 1, _, _, _, _, _, _, _, _, _, _, _, _, _, _, _, _, _, _, _, _, by go_num, by omega, (HM.out.below hB5).cons hK (by omega) ?_, HBb.out.below hB5 HBb.out.lt, HMp.out.below hB5 (by omega), HB.out.trans (hB5.mono hsz)⟩, ?_⟩
        · intro d hd e
          obtain ⟨r, e1, e2, e3⟩ := HM.out.1 d hd
          rw [e] at e1
          have := (Array.getElem?_eq_some_iff.1 e3).1
          injection e1 with e1
          omega
        · simp [intOf]
          omega
      · intro D c pre C W' _ _ _ h _
        exact h.elim
    · obtain rfl : k = n := by omega
      gi_wp2
      refine leaves_marks (base := w.heap.size) ds _ hM fun W' hk => ?_
      refine ⟨_, ?_, rfl, hB.trans (hk.below (fun k h => h.1) hsz)⟩
      simp [results, Tryz.results45, go_sem]
end Go.Proofs.YtpnkhgjjlionnaaGreat
namespace Go.Proofs.YtpnkhgjjlionnaaGreat
open Go.RowKit Go.Maps

theorem loopsPost_closed {n : Nat} {T : List Tr} {w : World} {g : Nat} (h : Tab w g n T) (hc : ClosedT T) (hn : n ≤ 4096) : Calls Tryz.prog 45 #[.pointer (some ⟨g, 0, none⟩)] w (LoopsPost n T w) := by
  refine (loopsC_any g n T w h hc hn).mono ?_
  rintro e w' ⟨rfl, hb⟩
  exact ⟨_, [], [], rfl, World.ownsRow_nil _ _ _ _, Nat.zero_le _, fun i u r hu => by simp at hu, ⟨fun _ => hc, fun _ => rfl⟩, hb⟩
/-- The decision: one part, no border, Euler number 1, 2 or 3. -/
def ChkOk (n : Nat) (T : List Tr) : Prop := ∃ out, Shl T out ∧ cntL out = 1 ∧ ClosedT T ∧ (2 - 0 - ((n : Int) - 3 * (T.length : Int) / 2 + T.length)).tdiv 2 = 0
open Classical in
set_option maxRecDepth 100000 in
set_option maxHeartbeats 2000000 in
theorem check_walk (g n : Nat) (T : List Tr) (w : World) (r : Int) (hT : Tab w g n T) (hS : Surf n T) (hr : -1000000 ≤ r ∧ r ≤ 1000000) (hL : ∀ W, Below w.heap.size w W → Calls Tryz.prog 45 #[.pointer (some ⟨g, 0, none⟩)] W (LoopsPost n T W)) :
    Calls Tryz.prog 34 #[.pointer (some ⟨g, 0, none⟩), .int .i64 r] w fun e w' => e = .returned (.int .i64 (if r < 0 ∨ 3 * (T.length : Int) ≤ r then 2 else if ChkOk n T then 0 else 12)) ∧ Below w.heap.size w w' := by
  have H0 := Lib.hid (triangles_any g n T w hT.toTabS)
  have HG := Lib.hid (genus_any g n T w hT hS hL)
  have hl := hT.len
  obtain ⟨F, hF⟩ : ∃ F, T.length = F := ⟨_, rfl⟩
  rw [hF] at hl H0 ⊢
  have HF := Lib.hid hF
  have HS := Lib.hid hS
  clear hT hS hL hF
  go_enter Tryz.func34, Tryz.ntmps34
  by_cases h0 : r < 0
  · rw [if_pos (.inl h0)]
    go_wp2
    go_ret
    exact ⟨rfl, Below.refl _ _⟩
  · by_cases h1 : 3 * (F : Int) ≤ r
    · rw [if_pos (.inr h1)]
      go_wp2_with fail
      refine H0.out.mono ?_
      rintro e w0 ⟨rfl, rfl⟩
      go_wp2
      go_ret
      exact ⟨rfl, Below.refl _ _⟩
    · rw [if_neg (by omega)]
      obtain ⟨A, hA⟩ : ∃ A : Int, A = if ChkOk n T then 0 else 12 := ⟨_, rfl⟩
      rw [← hA]
      go_wp2_with fail
      refine H0.out.mono ?_
      rintro e w0 ⟨rfl, rfl⟩
      go_wp2_with fail
      refine HG.out.mono ?_
      rintro e w1 ⟨v, out, m, cs, rfl, hSh, hm, hr1, h6, hb⟩
      obtain ⟨av, cv, rfl⟩ := ownsRow_slice hr1
      have HB := Lib.hid hb
      clear HG H0 hb
      by_cases hm1 : m = 1
      · subst hm1
        obtain ⟨E, b, rfl, hb0, hb1, hE⟩ := h6 rfl
        obtain ⟨gO, cap, e0, hg1, hg2⟩ := hr1.form (by omega)
        cases e0
        have c3 : w1.cell? ⟨gO, 3, none⟩ = some (.int .i64 b) := by rw [hr1.cellAt 3 (by omega)]; rfl
        have c5 : w1.cell? ⟨gO, 5, none⟩ = some (.int .i64 ((2 - b - ((n : Int) - E + T.length)).tdiv 2)) := by rw [hr1.cellAt 5 (by omega)]; rfl
        generalize hz : (2 - b - ((n : Int) - E + T.length)).tdiv 2 = z at *
        have hok : ChkOk n T ↔ b = 0 ∧ z = 0 := by
          constructor
          · rintro ⟨out', h1, h2, h3, h4⟩
            have hb' := hb1.2 h3
            refine ⟨hb', ?_⟩
            rw [← hz, hb', hE h3]
            exact h4
          · rintro ⟨h1, h2⟩
            have hc := hb1.1 h1
            refine ⟨out, hSh, by rw [hm]; rfl, hc, ?_⟩
            rw [h1, hE hc, h2] at hz
            exact hz
        clear hr1 h6 hb1 hE hz hSh hm
        by_cases hb2 : b = 0
        · by_cases hz2 : z = 0
          · rw [if_pos (hok.2 ⟨hb2, hz2⟩)] at hA
            subst hb2 hz2 hA
            clear hok
            go_wp2
            go_ret
            exact ⟨rfl, HB.out⟩
          · rw [if_neg (fun h => hz2 (hok.1 h).2)] at hA
            subst hb2 hA
            have nz : (z == 0) = false := by simpa using hz2
            clear hok
            go_wp2
            go_ret
            exact ⟨rfl, HB.out⟩
        · rw [if_neg (fun h => hb2 (hok.1 h).1)] at hA
          subst hA
          have nz : (b == 0) = false := by simpa using hb2
          clear hok
          go_wp2
          go_ret
          exact ⟨rfl, HB.out⟩
      · have hno : ¬ ChkOk n T := by
          rintro ⟨out', h1, h2, h3, h4⟩
          have := hSh.one h1
          subst this
          omega
        rw [if_neg hno] at hA
        subst hA
        have nm : ((m : Int) == 1) = false := by simp; omega
        clear hr1 h6 hSh hm hno
        go_wp2
        go_ret
        exact ⟨rfl, HB.out⟩
end Go.Proofs.YtpnkhgjjlionnaaGreat
namespace Go.Proofs.YtpnkhgjjlionnaaGreat
open Go.RowKit Go.Maps

theorem cnt_rep : ∀ (k : Nat), cntL (List.replicate (k + 1) 0) = 1
  | 0 => rfl
  | k + 1 => by
    have := cnt_rep k
    unfold cntL at this ⊢
    rw [List.replicate_succ', List.foldl_append, this]
    rfl
theorem chk_simp {n : Nat} {T : List Tr} (hS : Surf n T) : ChkOk n T ↔ Simp n T := by
  constructor
  · rintro ⟨out, h1, h2, h3, h4⟩
    have h0 : ∀ j, j < T.length → at_ out j = 0 := fun j hj => by
      have a := h1.nn j hj
      have b := at_lt (out := out) (j := j) (by rw [h1.len]; exact hj)
      omega
    have hpos : 0 < T.length := by
      rcases Nat.eq_zero_or_pos T.length with e | e
      · have : out = [] := List.eq_nil_of_length_eq_zero (by rw [h1.len, e])
        rw [this] at h2
        cases h2
      · exact e
    have hc := conn_of h1 h3 h0
    obtain ⟨m, e1, e2⟩ := even_of hS h3 hc
    refine ⟨hS, h3, hc, hpos, ?_⟩
    have e3 : 3 * (T.length : Int) / 2 = 3 * (m : Int) := by rw [e1]; push_cast; omega
    rw [e3, e1] at h4
    have h5 : -1 ≤ 2 - 0 - ((n : Int) - 3 * (m : Int) + ((2 * m : Nat) : Int)) ∧ 2 - 0 - ((n : Int) - 3 * (m : Int) + ((2 * m : Nat) : Int)) ≤ 1 := by
      generalize 2 - 0 - ((n : Int) - 3 * (m : Int) + ((2 * m : Nat) : Int)) = x at h4
      rcases Int.le_total 0 x with h | h
      · rw [Int.tdiv_eq_ediv_of_nonneg h] at h4
        omega
      · have h5 : (-x).tdiv 2 = 0 := by rw [Int.neg_tdiv, h4]; rfl
        rw [Int.tdiv_eq_ediv_of_nonneg (by omega)] at h5
        omega
    have e4 : ((n : Int)).toNat = n := Int.toNat_natCast n
    rw [e4] at e2
    omega
  · intro h
    obtain ⟨k, hk⟩ : ∃ k, T.length = k + 1 := ⟨T.length - 1, by have := h.pos; omega⟩
    have hat : ∀ j, j < T.length → at_ (List.replicate T.length 0) j = 0 := fun j hj => by
      unfold at_
      simp [List.getD_eq_getElem?_getD, hj]
    refine ⟨List.replicate T.length 0, ⟨by simp, fun j hj => by rw [hat j hj]; omega, fun c o hc ho => ?_, fun j hj => ?_⟩, by rw [hk]; exact cnt_rep k, h.closed, ?_⟩
    · have h1 := oppI_bd T (c : Int)
      rw [hat _ (by omega), hat _ (by omega)]
    · rcases Nat.eq_zero_or_pos j with e | e
      · subst e
        exact .inr ⟨fun i hi => by omega, .inl (hat 0 hj)⟩
      · refine .inl ⟨0, e, by rw [hat 0 (by omega), hat j hj], fun S s0 hs => h.conn S s0 (fun c hc hSc => hs c (oppN T c) hc (h.closed.opp hc) hSc) j hj⟩
    · have := h.euler
      obtain ⟨m, hm⟩ : ∃ m : Nat, T.length = 2 * m := ⟨T.length / 2, by omega⟩
      have e3 : 3 * (T.length : Int) / 2 = 3 * (m : Int) := by rw [hm]; push_cast; omega
      rw [e3, hm]
      have e5 : 2 - 0 - ((n : Int) - 3 * (m : Int) + ((2 * m : Nat) : Int)) = 0 := by omega
      rw [e5]
      rfl
end Go.Proofs.YtpnkhgjjlionnaaGreat
namespace Go.Proofs.YtpnkhgjjlionnaaGreat
open Go.RowKit Go.Maps Go.Shelf
attribute [local go_sem] Oper.semAt_some

/-- walk.Steps: the function value holds the table and the corner in boxes. -/
theorem wsteps_any (F : Fence) (n : Nat) (h6 : F.fn 35) (hro : F.round = none) (a : Option Addr) (r : Int) (w : World) :
    CallsIn F n Tryz.prog 35 #[.pointer a, .int .i64 r] w fun e w' => e = .returned (.func (.func 64) #[] #[.pointer (some ⟨w.heap.size, 0, none⟩), .pointer (some ⟨w.heap.size + 1, 0, none⟩)]) ∧ w' = (w.alloc (.cells #[.pointer a] 26)).alloc (.cells #[.int .i64 r] 3) := by
  refine callsIn_of_wp Tryz.func35 rfl h6 ?_ hro
  simp only [Tryz.ntmps35, List.size_toArray, List.length_cons, List.length_nil, Nat.reduceAdd, Nat.reduceSub, Array.replicate_succ, Array.replicate_zero, List.push_toArray, List.append_toArray, List.nil_append, List.cons_append]
  gi_wp2
  go_ret
  exact ⟨rfl, rfl⟩
/-- A step as it is yielded. -/
def encS (x : WStep) : Array Value := #[.agg #[.int .u8 x.letter, .int .i64 x.corner, .int .i64 x.loops, .int .i64 x.length]]
/-- The iterator's state between two rounds. -/
structure SteI (w : World) (g n : Nat) (T : List Tr) (c b : Nat) (base : Nat) (J : List WStep → (Nat → Prop) → World → Prop) (k : Nat) (W : World) : Prop where
  st : ∃ L s S C, Ran T (beginS T c) L s ∧ WayS W base g b n S s ∧ J L C W ∧ (∀ j, C j → w.heap.size ≤ j ∧ j < W.heap.size ∧ ¬ S j) ∧ k + L.length = T.length
  below : Below w.heap.size w W
set_option maxRecDepth 100000 in
set_option maxHeartbeats 4000000 in
theorem steps1_sep {w : World} {m Bt Bc g n c : Nat} {T : List Tr} (hs : Simp n T) (hT : Tab w g n T) (hc : c < 3 * T.length) :
    SeqSep Fence.wide m Tryz.prog 64 #[.pointer (some ⟨Bt, 0, none⟩), .pointer (some ⟨Bc, 0, none⟩)] encS (fun xs => xs = stepsM T c) (fun pre => ∃ s, Ran T (beginS T c) pre s) T.length w (fun _ => False) (fun W => W.cell? ⟨Bt, 0, none⟩ = some (.pointer (some ⟨g, 0, none⟩)) ∧ W.cell? ⟨Bc, 0, none⟩ = some (.int .i64 c) ∧ Bt < W.heap.size ∧ Bc < W.heap.size) := by
  rintro l J Jx W C hW ⟨t0, c0, lt, lc⟩ - hJ hJx hY h0 hC
  have hTl := hT.len
  have hn : n ≤ 4096 := by have := hs.surf.n1; omega
  have hz := hW.size
  have HCk := Lib.hid (check_walk g n T W (c : Int) (hT.below hW) hs.surf (by omega) (fun W' hW' => loopsPost_closed ((hT.below hW).below hW') hs.closed hn))
  rw [if_neg (by omega), if_pos ((chk_simp hs.surf).2 hs)] at HCk
  have HT := Lib.hid (fun (W' : World) (hW' : Below w.heap.size w W') => hT.below hW')
  have HS := Lib.hid hs
  have HJ := Lib.hid hJ
  have HY := Lib.hid hY
  have HJ0 := Lib.hid h0
  have HC := Lib.hid hC
  have HW := Lib.hid hW
  clear hs hT hJ hJx hY h0 hC hW
  refine callsIn_of_wp Tryz.func64 rfl trivial ?_ rfl
  simp only [Tryz.ntmps64, List.size_toArray, List.length_cons, List.length_nil, Nat.reduceAdd, Nat.reduceSub, Array.replicate_succ, Array.replicate_zero, List.push_toArray, List.append_toArray, List.nil_append, List.cons_append]
  gi_wp2_with fail
  refine ⟨trivial, fun h => (by simp [Fence.wide] at h), (callsIn_wide.2 HCk.out).mono ?_⟩
  rintro e w1 ⟨rfl, hb1⟩
  have t1 := (hb1.cell (p := ⟨Bt, 0, none⟩) (by simp only; omega)).trans t0
  have c1 := (hb1.cell (p := ⟨Bc, 0, none⟩) (by simp only; omega)).trans c0
  have HW1 := Lib.hid (HW.out.trans (hb1.mono hz))
  have HB1 := Lib.hid hb1
  clear hb1 HCk t0 c0
  gi_wp2_with fail
  refine ⟨trivial, fun h => (by simp [Fence.wide] at h), (callsIn_wide.2 (begin_any (HT.out w1 HW1.out) HS.out.surf hc)).mono ?_⟩
  rintro e w2 ⟨b, vC, vL, vW, vs, rfl, hA, hb2⟩
  have hb12 := HB1.out.trans (hb2.mono HB1.out.size)
  have HI := Lib.hid (show SteI w g n T c b w1.heap.size J T.length w2 from ⟨⟨[], beginS T c, OwnA b vC vL vW vs, C, .nil, ⟨fun j hj => hA.own_ge hj, .inl ⟨vC, vL, vW, vs, hA, fun _ h => h⟩⟩, HJ.out _ _ _ _ HJ0.out (hb12.mono hz) (fun j hj => hb12.block j (HC.out j hj).2.1),
    fun j hj => by
      have h1 := HC.out j hj
      have h2 := hb12.size
      have h3 := HB1.out.size
      exact ⟨h1.1, by omega, fun h => by have := (hA.own_ge h).1; omega⟩, by simp⟩, HW1.out.trans (hb2.mono HW1.out.size)⟩)
  have hz1 := HW1.out.size
  clear hA hb2 hb12 t1 c1 HB1
  gi_wp2
  gi_loopg [] T.length (fun k wr => SteI w g n T c b w1.heap.size J k wr)
  case atStart => exact HI.out
  case round =>
    clear HI HJ0 HC
    rename World => wr
    obtain ⟨⟨L, s, S, C1, R, hWs, hJL, hC1, hk⟩, hB⟩ := hrel
    obtain ⟨Xs, G⟩ := R.gone HS.out hc
    have hzr := hB.size
    have hbw1 : w.heap.size ≤ w1.heap.size := hz1
    have stab : ∀ (A : World), Kept S wr A → J L C1 A := fun A hK => HJ.out _ _ _ _ hJL (hK.below (fun j hj => by have := (hWs.1 j hj).1; omega) hzr) (fun j hj => hK.block j (hC1 j hj).2.1 (hC1 j hj).2.2)
    have HST := Lib.hid stab
    by_cases hl : s.loop = []
    · have HE := Lib.hid (step_end hWs hl (by
        obtain ⟨h1, ⟨vC, vL, vW, vs, h2, h3⟩ | ⟨h2, h3, h4⟩⟩ := hWs
        · exact h2.ble
        · have := h1 b h3
          omega))
      have HR := Lib.hid (R.steps HS.out hc hl)
      clear hWs hJL hC1 hB G R stab
      gi_wp2_with fail
      refine ⟨trivial, fun h => (by simp [Fence.wide] at h), (callsIn_wide.2 HE.out).mono ?_⟩
      rintro e w3 ⟨rfl, hK⟩
      have HJ3 := Lib.hid (HST.out _ (hK.alloc (.cells #[.int .u8 0, .int .i64 0, .int .i64 0, .int .i64 0] 82)))
      clear hK HE
      gi_wp2
      refine ⟨fun f h => (by cases h), ?_⟩
      gi_wp2
      refine bodyPost_ret (results_none rfl _ _ _) rfl ?_
      exact ⟨⟨_, rfl⟩, .inl ⟨L, C1, HR.out, HJ3.out⟩⟩
    · obtain ⟨x, s', Xs', hst, G', -⟩ := G.next HS.out hl
      obtain ⟨q1, q2, q3, q4, q5⟩ := G.wants HS.out
      have hlt := (G'.lt HS.out).1
      have HE := Lib.hid (step_any (HT.out wr hB) hWs hst q1 hn (by omega) (by omega) (q4 hl) q5)
      have HR := Lib.hid (Ran.snoc R hst)
      have HWs := Lib.hid hWs.1
      have HC1 := Lib.hid hC1
      have HBr := Lib.hid hB
      have hLx : (L ++ [x]).length = L.length + 1 := by simp
      clear hWs hJL hC1 hB G G' R stab q1 q2 q3 q4 q5 hst
      gi_wp2_with fail
      refine ⟨trivial, fun h => (by simp [Fence.wide] at h), (callsIn_wide.2 HE.out).mono ?_⟩
      rintro e w3 ⟨rfl, S', hWs', hS', hK⟩
      obtain ⟨xl, xc, xo, xn⟩ := x
      have hK4 := hK.alloc (.cells #[.int .u8 xl, .int .i64 xc, .int .i64 xo, .int .i64 xn] 82)
      have hJ4 := HST.out _ hK4
      have hz3 := hK.size
      have bs := Blk.new w3 82 #[.int .u8 xl, .int .i64 xc, .int .i64 xo, .int .i64 xn]
      obtain ⟨fn, tmps, assign, body, hy, hR⟩ := HY.out L ⟨xl, xc, xo, xn⟩ C1 _ hJ4 (by omega)
      have hz4 : (w3.alloc (.cells #[.int .u8 xl, .int .i64 xc, .int .i64 xo, .int .i64 xn] 82)).heap.size = w3.heap.size + 1 := World.size_alloc _ _
      have hWs4 := hWs'.same (w' := w3.alloc (.cells #[.int .u8 xl, .int .i64 xc, .int .i64 xo, .int .i64 xn] 82)) (by omega) (fun j hj => Below.heap_alloc _ _ _ (hWs'.1 j hj).2)
      have hB4 := HBr.out.trans ((hK4.below (fun j hj => by have := (HWs.out j hj).1; omega) hzr))
      have Hz4 := Lib.hid hz4
      have HWs4 := Lib.hid hWs4
      have HWb := Lib.hid hWs'.1
      have HS' := Lib.hid hS'
      have HB4 := Lib.hid hB4
      unfold encS at hy
      dsimp only at hy
      obtain ⟨-, b0, b1, b2, b3, -⟩ := four bs
      clear hWs' hS' hK hK4 hJ4 hWs4 hB4 HE bs hz4
      gi_wp2
      refine ⟨fun h => (by simp [Fence.wide] at h), hR.mono ?_⟩
      rintro e w5 ⟨hK5, C', hC', ⟨rfl, hJ5⟩ | ⟨rfl, hJ5⟩⟩
      · have hz5 := hK5.size
        have hSd : ∀ j, S' j → ¬ C1 j := fun j hj hc1 => by
          have h1 := HC1.out j hc1
          rcases HS'.out j hj with h | h
          · exact h1.2.2 h
          · omega
        have hWs5 := HWs4.out.same hz5 (fun j hj => hK5.block j (HWs4.out.1 j hj).2 (hSd j hj))
        have hB5 := HB4.out.trans (hK5.below (fun j hj => (HC1.out j hj).1) HB4.out.size)
        have HI5 := Lib.hid (show SteI w g n T c b w1.heap.size J (T.length - (L.length + 1)) w5 from ⟨⟨L ++ [⟨xl, xc, xo, xn⟩], s', S', C', HR.out, hWs5, hJ5, fun j hj => by
          rcases hC' j hj with h | h
          · have h1 := HC1.out j h
            exact ⟨h1.1, by have := Hz4.out; omega, fun h2 => hSd j h2 h⟩
          · have := Hz4.out
            have := HB4.out.size
            exact ⟨by omega, h.2, fun h2 => by have := (HWb.out j h2).2; omega⟩, by simp; omega⟩, hB5⟩)
        clear hK5 hC' hJ5 hWs5 hB5 hR hSd
        gi_wp2
        gi_roundg (T.length - (L.length + 1))
        case measure => omega
        case rel => exact HI5.out
      · have HJ5 := Lib.hid hJ5
        clear hJ5 hK5 hC' hR
        gi_wp2
        refine bodyPost_ret (results_none rfl _ _ _) rfl ?_
        exact ⟨⟨_, rfl⟩, .inr ⟨_, C', ⟨s', HR.out⟩, HJ5.out⟩⟩
end Go.Proofs.YtpnkhgjjlionnaaGreat
namespace Go.Proofs.YtpnkhgjjlionnaaGreat
open Go.RowKit

theorem countP_lt {p q : Nat → Bool} : ∀ {l : List Nat}, (∀ j, q j = true → p j = true) → ∀ i, i ∈ l → p i = true → q i = false → l.countP q < l.countP p
  | [], _, _, h, _, _ => (List.not_mem_nil h).elim
  | x :: l, hs, i, h, h1, h2 => by
    have hle : l.countP q ≤ l.countP p := List.countP_mono_left (fun j _ hj => hs j hj)
    rcases List.mem_cons.1 h with rfl | h
    · rw [List.countP_cons_of_neg (by rw [h2]; decide), List.countP_cons_of_pos h1]
      omega
    · have ih := countP_lt hs i h h1 h2
      rw [List.countP_cons, List.countP_cons]
      have : (if q x = true then 1 else 0) ≤ (if p x = true then 1 else 0) := by
        by_cases hq : q x = true
        · rw [if_pos hq, if_pos (hs x hq)]
          exact Nat.le_refl _
        · rw [if_neg hq]
          exact Nat.zero_le _
      omega
theorem all_listed {md : Region.Mode} {ops : Array Oper} {listed : Array Bool} (hord : ∀ (i : Nat) (o : Oper), ops[i]? = some o → ∀ e ∈ o.after, e.on < i) (hs : listed.size = ops.size) (hr : Region.ready md ops listed = []) : ∀ i, i < ops.size → listed.getD i false = true := by
  intro i
  induction i using Nat.strongRecOn with
  | _ i ih =>
    intro hi
    by_cases hl : listed.getD i true = false
    · have ho : ops[i]? = some ops[i] := Array.getElem?_eq_getElem hi
      have : i ∈ Region.ready md ops listed := mem_ready.2 ⟨hl, _, ho, fun e he _ => ih e.on (hord i _ ho e he) (by have := hord i _ ho e he; omega)⟩
      rw [hr] at this
      exact (List.not_mem_nil this).elim
    · have hi' : i < listed.size := by omega
      rw [Array.getD_eq_getD_getElem?, Array.getElem?_eq_getElem hi'] at hl ⊢
      simpa using hl
/-- The law. -/
theorem wpAnyIn_state {F : Fence} {n : Nat} {P : Program} {md : Region.Mode} {ops : Array Oper} {Q : Exit → Act → World → Prop} {I : Array Bool → Act → World → Prop} (hord : ∀ (i : Nat) (o : Oper), ops[i]? = some o → ∀ e ∈ o.after, e.on < i)
    (step : ∀ (i : Nat) (o : Oper) (listed : Array Bool) (a : Act) (w : World), ops[i]? = some o → listed.size = ops.size → listed.getD i true = false → (∀ e ∈ o.after, Region.binds md e = true → listed.getD e.on false = true) → I listed a w →
      ∀ K : Act → World → Prop, (∀ a' w', I (listed.setIfInBounds i true) a' w' → K a' w') → if Region.wanted o (yielded ops a.tmps) = true then o.wpIn F n P a w K Q else ((∀ f, o.about P w a.eval = some f → F.fn f) ∧ K (a.put o.dst undef) w))
    (done : ∀ (listed : Array Bool) (a : Act) (w : World), (∀ i, i < ops.size → listed.getD i false = true) → I listed a w → Q .normal a w) :
    ∀ (fuel : Nat) (listed : Array Bool) (a : Act) (w : World), listed.size = ops.size → (List.range ops.size).countP (fun i => !listed.getD i true) ≤ fuel → I listed a w → wpAnyIn F n P md ops Q fuel listed a w
  | 0, listed, a, w, hs, hc, hI => by
    have hr : Region.ready md ops listed = [] := by
      apply List.eq_nil_iff_forall_not_mem.2
      intro i hi
      obtain ⟨h1, o, ho, -⟩ := mem_ready.1 hi
      have hi' : i < ops.size := (Array.getElem?_eq_some_iff.1 ho).1
      have := List.countP_pos_iff (p := fun i => !listed.getD i true).2 ⟨i, List.mem_range.2 hi', by simp only [h1]; rfl⟩
      omega
    exact ⟨hr, done _ _ _ (all_listed hord hs hr) hI⟩
  | fuel + 1, listed, a, w, hs, hc, hI => by
    refine ⟨fun hr => done _ _ _ (all_listed hord hs hr) hI, fun i hi => ?_⟩
    obtain ⟨h1, o, ho, hd⟩ := mem_ready.1 hi
    have hi' : i < ops.size := (Array.getElem?_eq_some_iff.1 ho).1
    have hs' : (listed.setIfInBounds i true).size = ops.size := by rw [Array.size_setIfInBounds]; exact hs
    have hlt : (List.range ops.size).countP (fun j => !(listed.setIfInBounds i true).getD j true) < (List.range ops.size).countP (fun j => !listed.getD j true) :=
      countP_lt (fun j hj => by
        by_cases hij : i = j
        · subst hij
          simp [Array.getD_eq_getD_getElem?, hs, hi'] at hj
        · rw [getD_set_ne true hij] at hj
          exact hj) i (List.mem_range.2 hi') (by rw [h1]; rfl) (by simp [Array.getD_eq_getD_getElem?, hs, hi'])
    unfold wpOpIn
    rw [ho]
    exact step i o listed a w ho hs h1 hd hI _ (fun a' w' h => wpAnyIn_state hord step done fuel _ a' w' hs' (by omega) h)
theorem wpIn_region_state {F : Fence} {n : Nat} {P : Program} {id : Nat} {ops : Array Oper} {Q : Exit → Act → World → Prop} {a : Act} {w : World} (hm : P.follows .mixedOrders = true) (I : Array Bool → Act → World → Prop) (hord : ∀ (i : Nat) (o : Oper), ops[i]? = some o → ∀ e ∈ o.after, e.on < i)
    (h0 : I (Array.replicate ops.size false) a w.drew)
    (step : ∀ (i : Nat) (o : Oper) (listed : Array Bool) (a : Act) (w : World), ops[i]? = some o → listed.size = ops.size → listed.getD i true = false → (∀ e ∈ o.after, Region.binds .any e = true → listed.getD e.on false = true) → I listed a w →
      ∀ K : Act → World → Prop, (∀ a' w', I (listed.setIfInBounds i true) a' w' → K a' w') → if Region.wanted o (yielded ops a.tmps) = true then o.wpIn F n P a w K Q else ((∀ f, o.about P w a.eval = some f → F.fn f) ∧ K (a.put o.dst undef) w))
    (done : ∀ (listed : Array Bool) (a : Act) (w : World), (∀ i, i < ops.size → listed.getD i false = true) → I listed a w → Q .normal a w) : (Code.region id ops true).wpIn F n P Q a w := by
  refine wpIn_region_any hm (wpAnyIn_state hord step done ops.size _ _ _ (by simp) ?_ h0)
  have := List.countP_le_length (p := fun i => !(Array.replicate ops.size false).getD i true) (l := List.range ops.size)
  rwa [List.length_range] at this
end Go.Proofs.YtpnkhgjjlionnaaGreat
namespace Go.Proofs.YtpnkhgjjlionnaaGreat
open Go.RowKit

theorem operIn_append_lies {F : Fence} {n : Nat} {P : Program} {w : World} {o : Oper} {a : Act} {K : Act → World → Prop} {Q : Exit → Act → World → Prop} (s x : Operand) (t : TypeId)
    (hop : o.op = .call { callee := .builtin .append, args := #[s, x], argTypes := #[t, t] })
    (base : Nat) (e : TypeId) (i : TypeInfo) (z : Value) (size bytes : Nat) (ht : P.underlying t = some (.slice e)) (hi : P.info? e = some i) (hz : i.zero = some z)
    (hsize : i.size = size) (hby : i.bytes = bytes) (hzs : z.cells.size = size) (hsz : 0 < size)
    (v : Value) (k : Nat) (xs : List Value) (hs : a.eval s = v) (hown : w.ownsRow base e size v k xs)
    (ad : Addr) (m c : Nat) (news : List Value) (hx : a.eval x = .slice (some ad) m c) (hl : news.length = m * size) (hnews : ∀ j u, news[j]? = some u → w.cell? (ad.add j) = some u) (h1 : ∀ u ∈ news, u.oneCell' = true)
    (hm : 0 < m) (h63 : k + m ≤ maxLen) (hbytes : (k + m) * bytes ≤ 140737488355328) (hbase : base ≤ w.heap.size)
    (h : ∀ g cap w', w'.ownsRow base e size (.slice (some ⟨g, 0, none⟩) (k + m) cap) (k + m) (xs ++ news) → w.grownBy w' v.ownBlock → (v.ownBlock = some g ∨ g = w.heap.size) → g < w'.heap.size → K (a.put o.dst (.slice (some ⟨g, 0, none⟩) (k + m) cap)) w') :
    o.wpIn F n P a w K Q := by
  obtain ⟨g, cap, w', hrun, r1, r2, r3, r4⟩ := run_append_lies (P := P) (w := w) t o.type base e i z size bytes ht hi hz hsize hby hzs hsz v k xs hown ad m c news hl hnews h1 hm h63 hbytes hbase _ rfl
  unfold Oper.wpIn
  refine ⟨?_, ?_⟩
  · simp [Oper.about, hop, resolve, Target.leads, Sem.run_pure]
  · rw [Oper.semAt_plain F _ _ (by rw [hop]; intro c hc'; cases hc')]
    simp [execOp, hop, resolve, invoke, builtin, hs, hx, hrun, Result.andThen]
    exact h g cap w' r1 r2 r3 r4
theorem wpListIn_append_lies {F : Fence} {n : Nat} {P : Program} {w : World} {ops : Array Oper} {rest : List Oper} {o : Oper} {a : Act} {Q : Exit → Act → World → Prop} (hg : o.guard = none) (s x : Operand) (t : TypeId)
    (hop : o.op = .call { callee := .builtin .append, args := #[s, x], argTypes := #[t, t] })
    (base : Nat) (e : TypeId) (i : TypeInfo) (z : Value) (size bytes : Nat) (ht : P.underlying t = some (.slice e)) (hi : P.info? e = some i) (hz : i.zero = some z)
    (hsize : i.size = size) (hby : i.bytes = bytes) (hzs : z.cells.size = size) (hsz : 0 < size)
    (v : Value) (k : Nat) (xs : List Value) (hs : a.eval s = v) (hown : w.ownsRow base e size v k xs)
    (ad : Addr) (m c : Nat) (news : List Value) (hx : a.eval x = .slice (some ad) m c) (hl : news.length = m * size) (hnews : ∀ j u, news[j]? = some u → w.cell? (ad.add j) = some u) (h1 : ∀ u ∈ news, u.oneCell' = true)
    (hm : 0 < m) (h63 : k + m ≤ maxLen) (hbytes : (k + m) * bytes ≤ 140737488355328) (hbase : base ≤ w.heap.size)
    (h : ∀ g cap w', w'.ownsRow base e size (.slice (some ⟨g, 0, none⟩) (k + m) cap) (k + m) (xs ++ news) → w.grownBy w' v.ownBlock → (v.ownBlock = some g ∨ g = w.heap.size) → g < w'.heap.size → wpListIn F n P ops Q rest (a.put o.dst (.slice (some ⟨g, 0, none⟩) (k + m) cap)) w') :
    wpListIn F n P ops Q (o :: rest) a w :=
  wpListIn_plain hg fun _K hK' => operIn_append_lies s x t hop base e i z size bytes ht hi hz hsize hby hzs hsz v k xs hs hown ad m c news hx hl hnews h1 hm h63 hbytes hbase (fun g cap w' r1 r2 r3 r4 => hK' _ _ (h g cap w' r1 r2 r3 r4))

/-- What walk.Walk keeps while it ranges over the steps. -/
structure WkS (w : World) (base q bw g : Nat) (lV lC lB : List Value) (vV vC vB : Value) (W : World) : Prop where
  t : Blk W w.heap.size 26 #[.pointer (some ⟨g, 0, none⟩)]
  r : Blk W (w.heap.size + 1) 39 #[.string ByteArray.empty, .slice none 0 0, .slice none 0 0]
  tr : Blk W q 39 #[.string ByteArray.empty, vV, vC]
  bx : Blk W bw 25 #[vB]
  rV : W.ownsRow base 3 1 vV lV.length lV
  rC : W.ownsRow base 3 1 vC lC.length lC
  rB : W.ownsRow base 5 1 vB lB.length lB
  ne : vV.ownBlock ≠ vC.ownBlock
  below : Below w.heap.size w W
  hq : base ≤ q
  hbw : base ≤ bw
  hw : w.heap.size + 1 < base
/-- Its blocks. -/
def OwnW (w : World) (q bw : Nat) (vV vC vB : Value) (k : Nat) : Prop := k = w.heap.size ∨ k = w.heap.size + 1 ∨ k = q ∨ k = bw ∨ vV.ownBlock = some k ∨ vC.ownBlock = some k ∨ vB.ownBlock = some k
section
variable {w W W' : World} {base q bw g : Nat} {lV lC lB : List Value} {vV vC vB v' : Value}
theorem WkS.rng (h : WkS w base q bw g lV lC lB vV vC vB W) {k : Nat} (hk : OwnW w q bw vV vC vB k) : w.heap.size ≤ k ∧ k < W.heap.size := by
  have := h.hw
  have := h.hq
  have := h.hbw
  rcases hk with rfl | rfl | rfl | rfl | e | e | e
  · exact ⟨Nat.le_refl _, h.t.lt⟩
  · exact ⟨by omega, h.r.lt⟩
  · exact ⟨by omega, h.tr.lt⟩
  · exact ⟨by omega, h.bx.lt⟩
  · have := h.rV.lt k e; omega
  · have := h.rC.lt k e; omega
  · have := h.rB.lt k e; omega
theorem WkS.same (h : WkS w base q bw g lV lC lB vV vC vB W) (hb : Below w.heap.size W W') (hs : ∀ k, OwnW w q bw vV vC vB k → W'.heap[k]? = W.heap[k]?) : WkS w base q bw g lV lC lB vV vC vB W' :=
  ⟨blk_same h.t (hs _ (.inl rfl)), blk_same h.r (hs _ (.inr (.inl rfl))), blk_same h.tr (hs _ (.inr (.inr (.inl rfl)))), blk_same h.bx (hs _ (.inr (.inr (.inr (.inl rfl))))),
    own_same h.rV (fun k e => hs k (.inr (.inr (.inr (.inr (.inl e)))))), own_same h.rC (fun k e => hs k (.inr (.inr (.inr (.inr (.inr (.inl e))))))), own_same h.rB (fun k e => hs k (.inr (.inr (.inr (.inr (.inr (.inr e))))))), h.ne, h.below.trans hb, h.hq, h.hbw, h.hw⟩
theorem WkS.alloc (h : WkS w base q bw g lV lC lB vV vC vB W) (o : Obj) : WkS w base q bw g lV lC lB vV vC vB (W.alloc o) :=
  h.same ((Below.refl _ _).alloc h.below.size _) (fun _k hk => Below.heap_alloc _ _ _ (h.rng hk).2)
theorem WkS.drew (h : WkS w base q bw g lV lC lB vV vC vB W) : WkS w base q bw g lV lC lB vV vC vB W.drew := h.same (Below.refl _ _).drew (fun _ _ => rfl)
theorem WkS.bs (h : WkS w base q bw g lV lC lB vV vC vB W) : base ≤ W.heap.size := Nat.le_trans h.hq (Nat.le_of_lt h.tr.lt)
theorem own_blk_far {p : Nat} {t : TypeId} {cs : Array Value} {e : TypeId} {s k : Nat} {v u : Value} {xs : List Value} {b j : Nat} (h : W.ownsRow b e s v k xs) (hb : Blk W p t cs) (hne : e ≠ t) : (W.setCell ⟨p, j, none⟩ u).ownsRow b e s v k xs := own_alloc_st h hb hne
/-- The word is longer by a letter. -/
theorem WkS.appB (h : WkS w base q bw g lV lC lB vV vC vB W) {u : Value} {g' cap : Nat} {k : Nat} (hg : W.grownBy W' vB.ownBlock) (hr : W'.ownsRow base 5 1 (.slice (some ⟨g', 0, none⟩) k cap) k (lB ++ [u])) (hk : k = lB.length + 1) (hat : vB.ownBlock = some g' ∨ g' = W.heap.size) :
    WkS w base q bw g lV lC (lB ++ [u]) vV vC (.slice (some ⟨g', 0, none⟩) k cap) (W'.setCell ⟨bw, 0, none⟩ (.slice (some ⟨g', 0, none⟩) k cap)) ∧ Kept (OwnW w q bw vV vC vB) W (W'.setCell ⟨bw, 0, none⟩ (.slice (some ⟨g', 0, none⟩) k cap)) ∧
      Anew (OwnW w q bw vV vC vB) (OwnW w q bw vV vC (.slice (some ⟨g', 0, none⟩) k cap)) W (W'.setCell ⟨bw, 0, none⟩ (.slice (some ⟨g', 0, none⟩) k cap)) := by
  subst hk
  have nB : ∀ {p : Nat} {t : TypeId} {cs : Array Value}, Blk W p t cs → t ≠ 5 → some p ≠ vB.ownBlock := fun hb hne e => own_blk_ne h.rB hb (Ne.symm hne) e.symm
  have hx := h.bx.grown hg (nB h.bx (by decide))
  have hh := h.hw
  have hbw := h.hbw
  refine ⟨⟨(h.t.grown hg (nB h.t (by decide))).far (by simp only; omega) _, (h.r.grown hg (nB h.r (by decide))).far (by simp only; omega) _, ?_, hx.set1 _, own_blk_far (h.rV.kept hg (own_own_ne h.rV h.rB (by decide))) hx (by decide), own_blk_far (h.rC.kept hg (own_own_ne h.rC h.rB (by decide))) hx (by decide),
    by rw [List.length_append]; exact own_blk_far hr hx (by decide), h.ne, ?_, h.hq, h.hbw, h.hw⟩, ?_, ?_⟩
  · exact (h.tr.grown hg (nB h.tr (by decide))).far (fun e => Blk.ne_ h.bx h.tr (by decide) e.symm) _
  · exact (h.below.grown hg h.below.size (fun j e => by have := h.rB.lt j e; omega)).setCell (p := ⟨bw, 0, none⟩) (by simp only; omega) _
  · exact ((Kept.refl _ _).grown hg (fun j e => .inl (.inr (.inr (.inr (.inr (.inr (.inr e)))))))).setCell (p := ⟨bw, 0, none⟩) (.inl (.inr (.inr (.inr (.inl rfl))))) _
  · intro k hk
    rcases hk with e | e | e | e | e | e | e
    · exact .inl (.inl e)
    · exact .inl (.inr (.inl e))
    · exact .inl (.inr (.inr (.inl e)))
    · exact .inl (.inr (.inr (.inr (.inl e))))
    · exact .inl (.inr (.inr (.inr (.inr (.inl e)))))
    · exact .inl (.inr (.inr (.inr (.inr (.inr (.inl e))))))
    · have e' : g' = k := Option.some.inj e
      rcases hat with hat | hat
      · exact .inl (.inr (.inr (.inr (.inr (.inr (.inr (by rw [hat, e'])))))))
      · have := (own_blk_far (j := 0) (u := .slice (some ⟨g', 0, none⟩) (lB.length + 1) cap) hr hx (by decide)).lt g' rfl
        exact .inr (by omega)
/-- The row of corners is longer by one. -/
theorem WkS.appC (h : WkS w base q bw g lV lC lB vV vC vB W) {u : Value} {g' cap : Nat} {k : Nat} (hg : W.grownBy W' vC.ownBlock) (hr : W'.ownsRow base 3 1 (.slice (some ⟨g', 0, none⟩) k cap) k (lC ++ [u])) (hk : k = lC.length + 1) (hat : vC.ownBlock = some g' ∨ g' = W.heap.size) :
    WkS w base q bw g lV (lC ++ [u]) lB vV (.slice (some ⟨g', 0, none⟩) k cap) vB (W'.setCell ⟨q, 2, none⟩ (.slice (some ⟨g', 0, none⟩) k cap)) ∧ Kept (OwnW w q bw vV vC vB) W (W'.setCell ⟨q, 2, none⟩ (.slice (some ⟨g', 0, none⟩) k cap)) ∧
      Anew (OwnW w q bw vV vC vB) (OwnW w q bw vV (.slice (some ⟨g', 0, none⟩) k cap) vB) W (W'.setCell ⟨q, 2, none⟩ (.slice (some ⟨g', 0, none⟩) k cap)) := by
  subst hk
  have nB : ∀ {p : Nat} {t : TypeId} {cs : Array Value}, Blk W p t cs → t ≠ 3 → some p ≠ vC.ownBlock := fun hb hne e => own_blk_ne h.rC hb (Ne.symm hne) e.symm
  have hx := h.tr.grown hg (nB h.tr (by decide))
  have hh := h.hw
  have hq := h.hq
  refine ⟨⟨(h.t.grown hg (nB h.t (by decide))).far (by simp only; omega) _, (h.r.grown hg (nB h.r (by decide))).far (by simp only; omega) _, by simpa using hx.set_ 2 (.slice (some ⟨g', 0, none⟩) (lC.length + 1) cap), (h.bx.grown hg (nB h.bx (by decide))).far (fun e => Blk.ne_ h.bx h.tr (by decide) e) _, own_blk_far (h.rV.kept hg (.inr h.ne)) hx (by decide),
    by rw [List.length_append]; exact own_blk_far hr hx (by decide), own_blk_far (h.rB.kept hg (own_own_ne h.rB h.rC (by decide))) hx (by decide), ?_, ?_, h.hq, h.hbw, h.hw⟩, ?_, ?_⟩
  · intro e
    rcases hat with hat | hat
    · exact h.ne (by rw [e, hat]; rfl)
    · have := (h.rV.lt g' (by rw [e]; rfl)).2
      omega
  · exact (h.below.grown hg h.below.size (fun j e => by have := h.rC.lt j e; omega)).setCell (p := ⟨q, 2, none⟩) (by simp only; omega) _
  · exact ((Kept.refl _ _).grown hg (fun j e => .inl (.inr (.inr (.inr (.inr (.inr (.inl e)))))))).setCell (p := ⟨q, 2, none⟩) (.inl (.inr (.inr (.inl rfl)))) _
  · intro k hk
    rcases hk with e | e | e | e | e | e | e
    · exact .inl (.inl e)
    · exact .inl (.inr (.inl e))
    · exact .inl (.inr (.inr (.inl e)))
    · exact .inl (.inr (.inr (.inr (.inl e))))
    · exact .inl (.inr (.inr (.inr (.inr (.inl e)))))
    · have e' : g' = k := Option.some.inj e
      rcases hat with hat | hat
      · exact .inl (.inr (.inr (.inr (.inr (.inr (.inl (by rw [hat, e'])))))))
      · have := (own_blk_far (j := 2) (u := .slice (some ⟨g', 0, none⟩) (lC.length + 1) cap) hr hx (by decide)).lt g' rfl
        exact .inr (by omega)
    · exact .inl (.inr (.inr (.inr (.inr (.inr (.inr e))))))
/-- The row of vertices is longer by one. -/
theorem WkS.appV (h : WkS w base q bw g lV lC lB vV vC vB W) {u : Value} {g' cap : Nat} {k : Nat} (hg : W.grownBy W' vV.ownBlock) (hr : W'.ownsRow base 3 1 (.slice (some ⟨g', 0, none⟩) k cap) k (lV ++ [u])) (hk : k = lV.length + 1) (hat : vV.ownBlock = some g' ∨ g' = W.heap.size) :
    WkS w base q bw g (lV ++ [u]) lC lB (.slice (some ⟨g', 0, none⟩) k cap) vC vB (W'.setCell ⟨q, 1, none⟩ (.slice (some ⟨g', 0, none⟩) k cap)) ∧ Kept (OwnW w q bw vV vC vB) W (W'.setCell ⟨q, 1, none⟩ (.slice (some ⟨g', 0, none⟩) k cap)) ∧
      Anew (OwnW w q bw vV vC vB) (OwnW w q bw (.slice (some ⟨g', 0, none⟩) k cap) vC vB) W (W'.setCell ⟨q, 1, none⟩ (.slice (some ⟨g', 0, none⟩) k cap)) := by
  subst hk
  have nB : ∀ {p : Nat} {t : TypeId} {cs : Array Value}, Blk W p t cs → t ≠ 3 → some p ≠ vV.ownBlock := fun hb hne e => own_blk_ne h.rV hb (Ne.symm hne) e.symm
  have hx := h.tr.grown hg (nB h.tr (by decide))
  have hh := h.hw
  have hq := h.hq
  refine ⟨⟨(h.t.grown hg (nB h.t (by decide))).far (by simp only; omega) _, (h.r.grown hg (nB h.r (by decide))).far (by simp only; omega) _, by simpa using hx.set_ 1 (.slice (some ⟨g', 0, none⟩) (lV.length + 1) cap), (h.bx.grown hg (nB h.bx (by decide))).far (fun e => Blk.ne_ h.bx h.tr (by decide) e) _,
    by rw [List.length_append]; exact own_blk_far hr hx (by decide), own_blk_far (h.rC.kept hg (.inr (Ne.symm h.ne))) hx (by decide), own_blk_far (h.rB.kept hg (own_own_ne h.rB h.rV (by decide))) hx (by decide), ?_, ?_, h.hq, h.hbw, h.hw⟩, ?_, ?_⟩
  · intro e
    rcases hat with hat | hat
    · exact h.ne (by rw [← e, hat]; rfl)
    · have := (h.rC.lt g' (by rw [← e]; rfl)).2
      omega
  · exact (h.below.grown hg h.below.size (fun j e => by have := h.rV.lt j e; omega)).setCell (p := ⟨q, 1, none⟩) (by simp only; omega) _
  · exact ((Kept.refl _ _).grown hg (fun j e => .inl (.inr (.inr (.inr (.inr (.inl e))))))).setCell (p := ⟨q, 1, none⟩) (.inl (.inr (.inr (.inl rfl)))) _
  · intro k hk
    rcases hk with e | e | e | e | e | e | e
    · exact .inl (.inl e)
    · exact .inl (.inr (.inl e))
    · exact .inl (.inr (.inr (.inl e)))
    · exact .inl (.inr (.inr (.inr (.inl e))))
    · have e' : g' = k := Option.some.inj e
      rcases hat with hat | hat
      · exact .inl (.inr (.inr (.inr (.inr (.inl (by rw [hat, e']))))))
      · have := (own_blk_far (j := 1) (u := .slice (some ⟨g', 0, none⟩) (lV.length + 1) cap) hr hx (by decide)).lt g' rfl
        exact .inr (by omega)
    · exact .inl (.inr (.inr (.inr (.inr (.inr (.inl e))))))
    · exact .inl (.inr (.inr (.inr (.inr (.inr (.inr e))))))
theorem Anew.trans {A B C : Nat → Prop} {w1 w2 w3 : World} (h : Anew A B w1 w2) (k : Anew B C w2 w3) (h1 : w1.heap.size ≤ w2.heap.size) (h2 : w2.heap.size ≤ w3.heap.size) : Anew A C w1 w3 := fun j hj => by
  rcases k j hj with e | e
  · rcases h j e with e | e
    · exact .inl e
    · exact .inr (by omega)
  · exact .inr (by omega)
theorem Kept.then {A B : Nat → Prop} {w1 w2 w3 : World} (h : Kept A w1 w2) (k : Kept B w2 w3) (hn : Anew A B w1 w2) : Kept A w1 w3 := h.frown k (fun j hj => (hn j hj).imp id (fun e => e.1))
end
end Go.Proofs.YtpnkhgjjlionnaaGreat
