/-
  append inside a fence, where the row lies told; what a walk's caller keeps: three rows and their boxes.
-/
import Derived.Test.YtghlnknncahkgaaGreatK11
import Derived.Test.YtghlnknncahkgaaGreatK8
import Derived.Test.YtghlnknncahkgaaGreatK7
import Derived.Deep.AppendLies
import Derived.OwnWalkIn
namespace Go.Proofs.YtghlnknncahkgaaGreat
open Go.RowKit

theorem operIn_append_lies {F : Fence} {n : Nat} {P : Program} {w : World} {o : Oper} {a : Act} {K : Act → World → Prop} {Q : Exit → Act → World → Prop} (s x : Operand) (t : TypeId)
    (hop : o.op = .call { callee := .builtin .append, args := #[s, x], argTypes := #[t, t] })
    (base : Nat) (e : TypeId) (i : TypeInfo) (z : Value) (size bytes : Nat) (ht : P.underlying t = some (.slice e)) (hi : P.info? e = some i) (hz : i.zero = some z)
    (hsize : i.size = size) (hby : i.bytes = bytes) (hzs : z.cells.size = size) (hsz : 0 < size)
    (v : Value) (k : Nat) (xs : List Value) (hs : a.eval s = v) (hown : w.ownsRow base e size v k xs)
    (ad : Addr) (m c : Nat) (news : List Value) (hx : a.eval x = .slice (some ad) m c) (hl : news.length = m * size) (hnews : ∀ j u, news[j]? = some u → w.cell? (ad.add j) = some u) (h1 : ∀ u ∈ news, u.oneCell' = true)
    (hm : 0 < m) (h63 : k + m ≤ maxLen) (hbytes : (k + m) * bytes ≤ 140737488355328) (hbase : base ≤ w.heap.size)
    (h : ∀ g cap w', w'.ownsRow base e size (.slice (some ⟨g, 0, none⟩) (k + m) cap) (k + m) (xs ++ news) → w.grownBy w' v.ownBlock → (v.ownBlock = some g ∨ g = w.heap.size) → g < w'.heap.size → K (a.put o.dst (.slice (some ⟨g, 0, none⟩) (k + m) cap)) w') :
    o.wpIn F n P a w K Q := by
  obtain ⟨g, cap, w', hrun, r1, r2, r3, r4⟩ := run_append_lies (P := P) (w := w) t o.type base e i z size bytes ht hi hz hsize hby hzs hsz v k xs hown ad m c news hl hnews h1 hm h63 hbytes hbase _ rfl
  unfold Oper.wpIn
  refine ⟨?_, ?_⟩
  · simp [Oper.about, hop, resolve, Target.leads, Sem.run_pure]
  · rw [Oper.semAt_plain F _ _ (by rw [hop]; intro c hc'; cases hc')]
    simp [execOp, hop, resolve, invoke, builtin, hs, hx, hrun, Result.andThen]
    exact h g cap w' r1 r2 r3 r4
theorem wpListIn_append_lies {F : Fence} {n : Nat} {P : Program} {w : World} {ops : Array Oper} {rest : List Oper} {o : Oper} {a : Act} {Q : Exit → Act → World → Prop} (hg : o.guard = none) (s x : Operand) (t : TypeId)
    (hop : o.op = .call { callee := .builtin .append, args := #[s, x], argTypes := #[t, t] })
    (base : Nat) (e : TypeId) (i : TypeInfo) (z : Value) (size bytes : Nat) (ht : P.underlying t = some (.slice e)) (hi : P.info? e = some i) (hz : i.zero = some z)
    (hsize : i.size = size) (hby : i.bytes = bytes) (hzs : z.cells.size = size) (hsz : 0 < size)
    (v : Value) (k : Nat) (xs : List Value) (hs : a.eval s = v) (hown : w.ownsRow base e size v k xs)
    (ad : Addr) (m c : Nat) (news : List Value) (hx : a.eval x = .slice (some ad) m c) (hl : news.length = m * size) (hnews : ∀ j u, news[j]? = some u → w.cell? (ad.add j) = some u) (h1 : ∀ u ∈ news, u.oneCell' = true)
    (hm : 0 < m) (h63 : k + m ≤ maxLen) (hbytes : (k + m) * bytes ≤ 140737488355328) (hbase : base ≤ w.heap.size)
    (h : ∀ g cap w', w'.ownsRow base e size (.slice (some ⟨g, 0, none⟩) (k + m) cap) (k + m) (xs ++ news) → w.grownBy w' v.ownBlock → (v.ownBlock = some g ∨ g = w.heap.size) → g < w'.heap.size → wpListIn F n P ops Q rest (a.put o.dst (.slice (some ⟨g, 0, none⟩) (k + m) cap)) w') :
    wpListIn F n P ops Q (o :: rest) a w :=
  wpListIn_plain hg fun _K hK' => operIn_append_lies s x t hop base e i z size bytes ht hi hz hsize hby hzs hsz v k xs hs hown ad m c news hx hl hnews h1 hm h63 hbytes hbase (fun g cap w' r1 r2 r3 r4 => hK' _ _ (h g cap w' r1 r2 r3 r4))

/-- What walk.Walk keeps while it ranges over the steps. -/
structure WkS (w : World) (base q bw g : Nat) (lV lC lB : List Value) (vV vC vB : Value) (W : World) : Prop where
  t : Blk W w.heap.size 26 #[.pointer (some ⟨g, 0, none⟩)]
  r : Blk W (w.heap.size + 1) 45 #[.string ByteArray.empty, .slice none 0 0, .slice none 0 0]
  tr : Blk W q 45 #[.string ByteArray.empty, vV, vC]
  bx : Blk W bw 95 #[vB]
  rV : W.ownsRow base 3 1 vV lV.length lV
  rC : W.ownsRow base 3 1 vC lC.length lC
  rB : W.ownsRow base 5 1 vB lB.length lB
  ne : vV.ownBlock ≠ vC.ownBlock
  below : Below w.heap.size w W
  hq : base ≤ q
  hbw : base ≤ bw
  hw : w.heap.size + 1 < base
/-- Its blocks. -/
def OwnW (w : World) (q bw : Nat) (vV vC vB : Value) (k : Nat) : Prop := k = w.heap.size ∨ k = w.heap.size + 1 ∨ k = q ∨ k = bw ∨ vV.ownBlock = some k ∨ vC.ownBlock = some k ∨ vB.ownBlock = some k
section
variable {w W W' : World} {base q bw g : Nat} {lV lC lB : List Value} {vV vC vB v' : Value}
theorem WkS.rng (h : WkS w base q bw g lV lC lB vV vC vB W) {k : Nat} (hk : OwnW w q bw vV vC vB k) : w.heap.size ≤ k ∧ k < W.heap.size := by
  have := h.hw
  have := h.hq
  have := h.hbw
  rcases hk with rfl | rfl | rfl | rfl | e | e | e
  · exact ⟨Nat.le_refl _, h.t.lt⟩
  · exact ⟨by omega, h.r.lt⟩
  · exact ⟨by omega, h.tr.lt⟩
  · exact ⟨by omega, h.bx.lt⟩
  · have := h.rV.lt k e; omega
  · have := h.rC.lt k e; omega
  · have := h.rB.lt k e; omega
theorem WkS.same (h : WkS w base q bw g lV lC lB vV vC vB W) (hb : Below w.heap.size W W') (hs : ∀ k, OwnW w q bw vV vC vB k → W'.heap[k]? = W.heap[k]?) : WkS w base q bw g lV lC lB vV vC vB W' :=
  ⟨blk_same h.t (hs _ (.inl rfl)), blk_same h.r (hs _ (.inr (.inl rfl))), blk_same h.tr (hs _ (.inr (.inr (.inl rfl)))), blk_same h.bx (hs _ (.inr (.inr (.inr (.inl rfl))))),
    own_same h.rV (fun k e => hs k (.inr (.inr (.inr (.inr (.inl e)))))), own_same h.rC (fun k e => hs k (.inr (.inr (.inr (.inr (.inr (.inl e))))))), own_same h.rB (fun k e => hs k (.inr (.inr (.inr (.inr (.inr (.inr e))))))), h.ne, h.below.trans hb, h.hq, h.hbw, h.hw⟩
theorem WkS.alloc (h : WkS w base q bw g lV lC lB vV vC vB W) (o : Obj) : WkS w base q bw g lV lC lB vV vC vB (W.alloc o) :=
  h.same ((Below.refl _ _).alloc h.below.size _) (fun _k hk => Below.heap_alloc _ _ _ (h.rng hk).2)
theorem WkS.drew (h : WkS w base q bw g lV lC lB vV vC vB W) : WkS w base q bw g lV lC lB vV vC vB W.drew := h.same (Below.refl _ _).drew (fun _ _ => rfl)
theorem WkS.bs (h : WkS w base q bw g lV lC lB vV vC vB W) : base ≤ W.heap.size := Nat.le_trans h.hq (Nat.le_of_lt h.tr.lt)
theorem own_blk_far {p : Nat} {t : TypeId} {cs : Array Value} {e : TypeId} {s k : Nat} {v u : Value} {xs : List Value} {b j : Nat} (h : W.ownsRow b e s v k xs) (hb : Blk W p t cs) (hne : e ≠ t) : (W.setCell ⟨p, j, none⟩ u).ownsRow b e s v k xs := own_alloc_st h hb hne
/-- The word is longer by a letter. -/
theorem WkS.appB (h : WkS w base q bw g lV lC lB vV vC vB W) {u : Value} {g' cap : Nat} {k : Nat} (hg : W.grownBy W' vB.ownBlock) (hr : W'.ownsRow base 5 1 (.slice (some ⟨g', 0, none⟩) k cap) k (lB ++ [u])) (hk : k = lB.length + 1) (hat : vB.ownBlock = some g' ∨ g' = W.heap.size) :
    WkS w base q bw g lV lC (lB ++ [u]) vV vC (.slice (some ⟨g', 0, none⟩) k cap) (W'.setCell ⟨bw, 0, none⟩ (.slice (some ⟨g', 0, none⟩) k cap)) ∧ Kept (OwnW w q bw vV vC vB) W (W'.setCell ⟨bw, 0, none⟩ (.slice (some ⟨g', 0, none⟩) k cap)) ∧
      Anew (OwnW w q bw vV vC vB) (OwnW w q bw vV vC (.slice (some ⟨g', 0, none⟩) k cap)) W (W'.setCell ⟨bw, 0, none⟩ (.slice (some ⟨g', 0, none⟩) k cap)) := by
  subst hk
  have nB : ∀ {p : Nat} {t : TypeId} {cs : Array Value}, Blk W p t cs → t ≠ 5 → some p ≠ vB.ownBlock := fun hb hne e => own_blk_ne h.rB hb (Ne.symm hne) e.symm
  have hx := h.bx.grown hg (nB h.bx (by decide))
  have hh := h.hw
  have hbw := h.hbw
  refine ⟨⟨(h.t.grown hg (nB h.t (by decide))).far (by simp only; omega) _, (h.r.grown hg (nB h.r (by decide))).far (by simp only; omega) _, ?_, hx.set1 _, own_blk_far (h.rV.kept hg (own_own_ne h.rV h.rB (by decide))) hx (by decide), own_blk_far (h.rC.kept hg (own_own_ne h.rC h.rB (by decide))) hx (by decide),
    by rw [List.length_append]; exact own_blk_far hr hx (by decide), h.ne, ?_, h.hq, h.hbw, h.hw⟩, ?_, ?_⟩
  · exact (h.tr.grown hg (nB h.tr (by decide))).far (fun e => Blk.ne_ h.bx h.tr (by decide) e.symm) _
  · exact (h.below.grown hg h.below.size (fun j e => by have := h.rB.lt j e; omega)).setCell (p := ⟨bw, 0, none⟩) (by simp only; omega) _
  · exact ((Kept.refl _ _).grown hg (fun j e => .inl (.inr (.inr (.inr (.inr (.inr (.inr e)))))))).setCell (p := ⟨bw, 0, none⟩) (.inl (.inr (.inr (.inr (.inl rfl))))) _
  · intro k hk
    rcases hk with e | e | e | e | e | e | e
    · exact .inl (.inl e)
    · exact .inl (.inr (.inl e))
    · exact .inl (.inr (.inr (.inl e)))
    · exact .inl (.inr (.inr (.inr (.inl e))))
    · exact .inl (.inr (.inr (.inr (.inr (.inl e)))))
    · exact .inl (.inr (.inr (.inr (.inr (.inr (.inl e))))))
    · have e' : g' = k := Option.some.inj e
      rcases hat with hat | hat
      · exact .inl (.inr (.inr (.inr (.inr (.inr (.inr (by rw [hat, e'])))))))
      · have := (own_blk_far (j := 0) (u := .slice (some ⟨g', 0, none⟩) (lB.length + 1) cap) hr hx (by decide)).lt g' rfl
        exact .inr (by omega)
/-- The row of corners is longer by one. -/
theorem WkS.appC (h : WkS w base q bw g lV lC lB vV vC vB W) {u : Value} {g' cap : Nat} {k : Nat} (hg : W.grownBy W' vC.ownBlock) (hr : W'.ownsRow base 3 1 (.slice (some ⟨g', 0, none⟩) k cap) k (lC ++ [u])) (hk : k = lC.length + 1) (hat : vC.ownBlock = some g' ∨ g' = W.heap.size) :
    WkS w base q bw g lV (lC ++ [u]) lB vV (.slice (some ⟨g', 0, none⟩) k cap) vB (W'.setCell ⟨q, 2, none⟩ (.slice (some ⟨g', 0, none⟩) k cap)) ∧ Kept (OwnW w q bw vV vC vB) W (W'.setCell ⟨q, 2, none⟩ (.slice (some ⟨g', 0, none⟩) k cap)) ∧
      Anew (OwnW w q bw vV vC vB) (OwnW w q bw vV (.slice (some ⟨g', 0, none⟩) k cap) vB) W (W'.setCell ⟨q, 2, none⟩ (.slice (some ⟨g', 0, none⟩) k cap)) := by
  subst hk
  have nB : ∀ {p : Nat} {t : TypeId} {cs : Array Value}, Blk W p t cs → t ≠ 3 → some p ≠ vC.ownBlock := fun hb hne e => own_blk_ne h.rC hb (Ne.symm hne) e.symm
  have hx := h.tr.grown hg (nB h.tr (by decide))
  have hh := h.hw
  have hq := h.hq
  refine ⟨⟨(h.t.grown hg (nB h.t (by decide))).far (by simp only; omega) _, (h.r.grown hg (nB h.r (by decide))).far (by simp only; omega) _, by simpa using hx.set_ 2 (.slice (some ⟨g', 0, none⟩) (lC.length + 1) cap), (h.bx.grown hg (nB h.bx (by decide))).far (fun e => Blk.ne_ h.bx h.tr (by decide) e) _, own_blk_far (h.rV.kept hg (.inr h.ne)) hx (by decide),
    by rw [List.length_append]; exact own_blk_far hr hx (by decide), own_blk_far (h.rB.kept hg (own_own_ne h.rB h.rC (by decide))) hx (by decide), ?_, ?_, h.hq, h.hbw, h.hw⟩, ?_, ?_⟩
  · intro e
    rcases hat with hat | hat
    · exact h.ne (by rw [e, hat]; rfl)
    · have := (h.rV.lt g' (by rw [e]; rfl)).2
      omega
  · exact (h.below.grown hg h.below.size (fun j e => by have := h.rC.lt j e; omega)).setCell (p := ⟨q, 2, none⟩) (by simp only; omega) _
  · exact ((Kept.refl _ _).grown hg (fun j e => .inl (.inr (.inr (.inr (.inr (.inr (.inl e)))))))).setCell (p := ⟨q, 2, none⟩) (.inl (.inr (.inr (.inl rfl)))) _
  · intro k hk
    rcases hk with e | e | e | e | e | e | e
    · exact .inl (.inl e)
    · exact .inl (.inr (.inl e))
    · exact .inl (.inr (.inr (.inl e)))
    · exact .inl (.inr (.inr (.inr (.inl e))))
    · exact .inl (.inr (.inr (.inr (.inr (.inl e)))))
    · have e' : g' = k := Option.some.inj e
      rcases hat with hat | hat
      · exact .inl (.inr (.inr (.inr (.inr (.inr (.inl (by rw [hat, e'])))))))
      · have := (own_blk_far (j := 2) (u := .slice (some ⟨g', 0, none⟩) (lC.length + 1) cap) hr hx (by decide)).lt g' rfl
        exact .inr (by omega)
    · exact .inl (.inr (.inr (.inr (.inr (.inr (.inr e))))))
/-- The row of vertices is longer by one. -/
theorem WkS.appV (h : WkS w base q bw g lV lC lB vV vC vB W) {u : Value} {g' cap : Nat} {k : Nat} (hg : W.grownBy W' vV.ownBlock) (hr : W'.ownsRow base 3 1 (.slice (some ⟨g', 0, none⟩) k cap) k (lV ++ [u])) (hk : k = lV.length + 1) (hat : vV.ownBlock = some g' ∨ g' = W.heap.size) :
    WkS w base q bw g (lV ++ [u]) lC lB (.slice (some ⟨g', 0, none⟩) k cap) vC vB (W'.setCell ⟨q, 1, none⟩ (.slice (some ⟨g', 0, none⟩) k cap)) ∧ Kept (OwnW w q bw vV vC vB) W (W'.setCell ⟨q, 1, none⟩ (.slice (some ⟨g', 0, none⟩) k cap)) ∧
      Anew (OwnW w q bw vV vC vB) (OwnW w q bw (.slice (some ⟨g', 0, none⟩) k cap) vC vB) W (W'.setCell ⟨q, 1, none⟩ (.slice (some ⟨g', 0, none⟩) k cap)) := by
  subst hk
  have nB : ∀ {p : Nat} {t : TypeId} {cs : Array Value}, Blk W p t cs → t ≠ 3 → some p ≠ vV.ownBlock := fun hb hne e => own_blk_ne h.rV hb (Ne.symm hne) e.symm
  have hx := h.tr.grown hg (nB h.tr (by decide))
  have hh := h.hw
  have hq := h.hq
  refine ⟨⟨(h.t.grown hg (nB h.t (by decide))).far (by simp only; omega) _, (h.r.grown hg (nB h.r (by decide))).far (by simp only; omega) _, by simpa using hx.set_ 1 (.slice (some ⟨g', 0, none⟩) (lV.length + 1) cap), (h.bx.grown hg (nB h.bx (by decide))).far (fun e => Blk.ne_ h.bx h.tr (by decide) e) _,
    by rw [List.length_append]; exact own_blk_far hr hx (by decide), own_blk_far (h.rC.kept hg (.inr (Ne.symm h.ne))) hx (by decide), own_blk_far (h.rB.kept hg (own_own_ne h.rB h.rV (by decide))) hx (by decide), ?_, ?_, h.hq, h.hbw, h.hw⟩, ?_, ?_⟩
  · intro e
    rcases hat with hat | hat
    · exact h.ne (by rw [← e, hat]; rfl)
    · have := (h.rC.lt g' (by rw [← e]; rfl)).2
      omega
  · exact (h.below.grown hg h.below.size (fun j e => by have := h.rV.lt j e; omega)).setCell (p := ⟨q, 1, none⟩) (by simp only; omega) _
  · exact ((Kept.refl _ _).grown hg (fun j e => .inl (.inr (.inr (.inr (.inr (.inl e))))))).setCell (p := ⟨q, 1, none⟩) (.inl (.inr (.inr (.inl rfl)))) _
  · intro k hk
    rcases hk with e | e | e | e | e | e | e
    · exact .inl (.inl e)
    · exact .inl (.inr (.inl e))
    · exact .inl (.inr (.inr (.inl e)))
    · exact .inl (.inr (.inr (.inr (.inl e))))
    · have e' : g' = k := Option.some.inj e
      rcases hat with hat | hat
      · exact .inl (.inr (.inr (.inr (.inr (.inl (by rw [hat, e']))))))
      · have := (own_blk_far (j := 1) (u := .slice (some ⟨g', 0, none⟩) (lV.length + 1) cap) hr hx (by decide)).lt g' rfl
        exact .inr (by omega)
    · exact .inl (.inr (.inr (.inr (.inr (.inr (.inl e))))))
    · exact .inl (.inr (.inr (.inr (.inr (.inr (.inr e))))))
theorem Anew.trans {A B C : Nat → Prop} {w1 w2 w3 : World} (h : Anew A B w1 w2) (k : Anew B C w2 w3) (h1 : w1.heap.size ≤ w2.heap.size) (h2 : w2.heap.size ≤ w3.heap.size) : Anew A C w1 w3 := fun j hj => by
  rcases k j hj with e | e
  · rcases h j e with e | e
    · exact .inl e
    · exact .inr (by omega)
  · exact .inr (by omega)
theorem Kept.then {A B : Nat → Prop} {w1 w2 w3 : World} (h : Kept A w1 w2) (k : Kept B w2 w3) (hn : Anew A B w1 w2) : Kept A w1 w3 := h.frown k (fun j hj => (hn j hj).imp id (fun e => e.1))
end
end Go.Proofs.YtghlnknncahkgaaGreat
