/-
  Texts joined by program, what the law uses alone: TogM Pairs Rws Tog Pinch.
-/
import Derived.Deep.MidRow
import Derived.Deep.Onto
import Derived.Test.YtpnkhgjjlionnaaE1
namespace Go.Proofs.Ytpnkhgjjlionnaa
open Go.RowKit Go.Maps
open Go.MapKept (Stamped)

section
variable {P : Program} {w : World} {base : Nat} {v : Value} {zs : List Int}
theorem IQ.append (h : IQ w base v zs) (t ty : TypeId) (i : TypeInfo) (ht : P.underlying t = some (.slice 3)) (hi : P.info? 3 = some i) (hz : i.zero = some (.int .i64 0)) (h1 : i.size = 1) (h8 : i.bytes = 8)
    (B c : Nat) (z : Int) (hB : w.cell? ⟨B, 0, none⟩ = some (.int .i64 z)) (hn : zs.length + 1 ≤ 1000000000) (hb : base ≤ w.heap.size) :
    ∃ v' w' row, (Builtin.append_ #[t, t] ty #[v, .slice (some ⟨B, 0, none⟩) 1 c]).run P w = .ok v' w' ∧ IQ w' base v' (zs ++ [z]) ∧ w.grownBy w' row ∧ ∀ j, row = some j → base ≤ j ∧ ∃ C, w.heap[j]? = some (.cells C 3 (0, 0)) := by
  obtain ⟨ao, b, off, cap, cur, rfl, hnc, hcm, hpos⟩ := h
  have src : Src P i.size t (.slice (some ⟨B, 0, none⟩) 1 c) 1 [.int .i64 z] w := Src.ofSlice w ht ⟨B, 0, none⟩ 1 c [.int .i64 z] (by simp [h1]) (by
    intro j u hj
    cases j with
    | zero =>
      simp at hj
      subst hj
      rw [Addr.add_lit]
      exact hB
    | succ j => simp at hj) (by simp [Value.oneCell'])
  by_cases hroom : zs.length + 1 ≤ cap
  · obtain ⟨rfl, hbb, hcur, hsz, hcs⟩ := hpos (by omega)
    have hblk : Blk w b 3 cur := hcur
    have hin : off + zs.length < cur.size := by omega
    have hr := run_append_room_src (P := P) w t t ty 3 i ht hi b off zs.length cap _ 1 _ src hroom (by
      intro j hj
      simp only [List.length_singleton] at hj
      obtain rfl : j = 0 := by omega
      rw [hblk.cell, h1]
      simp
      omega) (fun j _ => hblk.frozen _)
    rw [h1, Nat.mul_one] at hr
    refine ⟨_, _, some b, hr, ?_, gSet (World.grownBy.refl _ _) ⟨b, off + zs.length, none⟩ (.int .i64 z) (.inl rfl), fun j e => by cases e; exact ⟨hbb, cur, hcur⟩⟩
    refine ⟨some ⟨b, off, none⟩, b, off, cap, _, by simp, by simpa using hroom, hcm, fun _ => ⟨rfl, hbb, hblk.set_ (off + zs.length) (.int .i64 z), by simpa using hsz, fun j hj => ?_⟩⟩
    simp only [List.length_append, List.length_singleton] at hj
    by_cases e : j = zs.length
    · subst e
      simp [intsV, hin]
    · have h2 : j < zs.length := by omega
      rw [Array.getElem?_setIfInBounds_ne (by omega), hcs j h2]
      simp [intsV, List.getElem?_append_left, h2]
  · have hc : cap = zs.length := by omega
    have hold : (Builtin.firstCells i.size zs.length (.slice ao zs.length cap)).run P w.drew = .ok (intsV zs).toArray w.drew := by
      rcases Nat.eq_zero_or_pos cap with h0 | h0
      · have : zs = [] := List.eq_nil_of_length_eq_zero (by omega)
        subst this
        cases ao with
        | none => exact run_firstCells_none w.drew i.size 0 0 cap
        | some a => exact run_firstCells_some w.drew i.size 0 a 0 cap [] (by simp) (by simp)
      · obtain ⟨rfl, hbb, hcur, hsz, hcs⟩ := hpos h0
        refine run_firstCells_some w.drew i.size zs.length ⟨b, off, none⟩ zs.length cap (intsV zs) (by simp [intsV, h1]) (fun j u hj => ?_)
        have hj' : j < zs.length := by have := (List.getElem?_eq_some_iff.1 hj).1; simpa [intsV] using this
        have hblk : Blk w.drew b 3 cur := hcur
        rw [Addr.add_lit, hblk.cell, hcs j hj', hj]
    have hr := run_append_grow_src (P := P) w t t ty 3 i (.int .i64 0) ht hi hz ao zs.length cap (intsV zs) hold _ 1 _ src (by omega) (by omega) (by
      have := growslice_fits (need := zs.length + 1) (old := cap) (bytes := i.bytes) (by omega) (by rw [h8]; omega)
      exact this)
    have hge := grownCap_ge w (zs.length + 1) cap 3
    have hmx := grownCap_le_maxLen w (zs.length + 1) cap 3 (by unfold maxLen; omega)
    refine ⟨_, _, none, hr, ?_, ⟨rfl, rfl, rfl, by simp, fun k hk _ => (Below.heap_alloc w.drew _ k hk)⟩, fun j e => by cases e⟩
    refine ⟨some ⟨w.heap.size, 0, none⟩, w.heap.size, 0, _, _, by simp, by simpa using hge, hmx, fun _ => ⟨rfl, hb, heap_alloc_new w.drew _, ?_, fun j hj => ?_⟩⟩
    · rw [Array.size_append, size_zeroCells]
      simp [intsV, Value.cells]
      omega
    · have e1 : (intsV zs ++ [Value.int .i64 z]) = intsV (zs ++ [z]) := by simp [intsV]
      rw [Nat.zero_add, Array.getElem?_append_left (by simp [intsV]; simpa using hj), e1]
      simp
theorem wpList_pushQ {ops : Array Oper} {rest : List Oper} {o : Oper} {a : Act} {Q : Exit → Act → World → Prop} (h : IQ w base v zs) (hg : o.guard = none) (s x : Operand) (t : TypeId)
    (hop : o.op = .call { callee := .builtin .append, args := #[s, x], argTypes := #[t, t] }) (i : TypeInfo) (ht : P.underlying t = some (.slice 3)) (hi : P.info? 3 = some i) (hz : i.zero = some (.int .i64 0)) (h1 : i.size = 1) (h8 : i.bytes = 8)
    (hs : a.eval s = v) (B c : Nat) (z : Int) (hx : a.eval x = .slice (some ⟨B, 0, none⟩) 1 c) (hB : w.cell? ⟨B, 0, none⟩ = some (.int .i64 z)) (hn : zs.length + 1 ≤ 1000000000) (hb : base ≤ w.heap.size)
    (hK : ∀ v' w' row, IQ w' base v' (zs ++ [z]) → w.grownBy w' row → (∀ j, row = some j → base ≤ j ∧ ∃ C, w.heap[j]? = some (.cells C 3 (0, 0))) → wpList P ops Q rest (a.put o.dst v') w') : wpList P ops Q (o :: rest) a w := by
  refine wpList_plain hg fun K' hK' => ?_
  obtain ⟨v', w', row, hrun, r1, r2, r3⟩ := h.append t o.type i ht hi hz h1 h8 B c z hB hn hb
  unfold Oper.wp execOp
  simp only [hop, resolve, invoke, builtin, Sem.run_bind, Sem.run_pure, Result.andThen_ok, List.map_toArray, List.map_cons, List.map_nil, hs, hx, hrun]
  exact hK' _ _ (hK v' w' row r1 r2 r3)
/-- The first one, and the others. -/
theorem IQ.cons {z : Int} (h : IQ w base v (z :: zs)) : ∃ b off cap, v = .slice (some ⟨b, off, none⟩) (zs.length + 1) cap ∧ zs.length + 1 ≤ cap ∧ b < w.heap.size ∧ base ≤ b ∧ w.cell? ⟨b, off, none⟩ = some (.int .i64 z) ∧
    IQ w base (.slice (some (if cap = 1 then ⟨b, off, none⟩ else ⟨b, off + 1, none⟩)) zs.length (cap - 1)) zs := by
  obtain ⟨ao, b, off, cap, cur, rfl, hnc, hcm, hpos⟩ := h
  simp only [List.length_cons] at hnc hpos
  obtain ⟨rfl, hbb, hcur, hsz, hcs⟩ := hpos (by omega)
  have hblk : Blk w b 3 cur := hcur
  refine ⟨b, off, cap, rfl, hnc, hblk.lt, hbb, ?_, ?_⟩
  · have := hcs 0 (by omega)
    rw [hblk.cell]
    simpa [intsV] using this
  · refine ⟨some _, b, off + 1, cap - 1, cur, rfl, by omega, by omega, fun hc => ⟨by rw [if_neg (by omega)], hbb, hcur, by omega, fun j hj => ?_⟩⟩
    have := hcs (j + 1) (by omega)
    rw [show off + 1 + j = off + (j + 1) from by omega, this]
    simp [intsV]
/-- A row that was made with one number. -/
theorem IQ.one {B : Nat} {z : Int} (hB : Blk w B 3 #[.int .i64 z]) (hb : base ≤ B) : IQ w base (.slice (some ⟨B, 0, none⟩) 1 1) [z] :=
  ⟨some ⟨B, 0, none⟩, B, 0, 1, _, rfl, Nat.le_refl _, by decide, fun _ => ⟨rfl, hb, hB, by simp, fun j hj => by
    simp only [List.length_singleton] at hj
    obtain rfl : j = 0 := by omega
    simp [intsV]⟩⟩
end

section
variable {P : Program} {k e : TypeId} {base b : Nat} {w : World} {f : Value → List Int}
/-- A row is stored at its key. -/
theorem Grp.update {t E : TypeId} (h : Grp P k base e w b f) (K : Keyed P k) (ht : P.underlying t = some (.map k E)) {key : Value} {kl : Lit} (hkey : keyOf P k key = some kl) {v : Value}
    (hv : w.ownsRow base e 1 v (f key).length (intsV (f key))) (hvk : ∀ es clock, w.heap[b]? = some (.map es clock) → ∀ x ∈ es.toList, x.key = key → x.val = v) (hvn : ∀ es clock, w.heap[b]? = some (.map es clock) → (∀ x ∈ es.toList, x.key ≠ key) → v = .slice none 0 0)
    (W2 : World) (v' : Value) (zs' : List Int) (hg : w.grownBy W2 v.ownBlock) (hown : W2.ownsRow base e 1 v' zs'.length (intsV zs')) (hloc : v'.ownBlock = v.ownBlock ∨ ∃ g, v'.ownBlock = some g ∧ w.heap.size ≤ g) :
    ∃ W3, (Instr.mapUpdate t (.map (some b)) key v').run P W2 = .ok () W3 ∧ Grp P k base e W3 b (upd f key zs') ∧ W2.grownBy W3 (some b) ∧ W3.heap.size = W2.heap.size := by
  have hblt := h.lt
  obtain ⟨es, clock, hb, h1, h2, h3, h4, h5, h6⟩ := h
  have hne_b : ∀ {u : World} {v : Value} {n : Nat} {xs : List Value}, u.ownsRow base e 1 v n xs → v.ownBlock = none ∨ v.ownBlock ≠ some b := fun {u v n xs} hv => by
    cases hb' : v.ownBlock
    · exact .inl rfl
    · refine .inr (fun e2 => ?_)
      have := (hv.lt _ hb').1
      cases e2
      omega
  have hvb : some b ≠ v.ownBlock := fun e2 => by
    rcases hne_b hv with h | h
    · rw [h] at e2; cases e2
    · exact h e2.symm
  have hm2 : W2.heap[b]? = some (.map es clock) := (hg.block b hblt hvb).trans hb
  obtain ⟨s1, s2, s3⟩ := (MapKept.stamped_iff es clock).1 h1
  have old : ∀ x ∈ es.toList, x.key ≠ key → x.val.ownBlock = none ∨ x.val.ownBlock ≠ v.ownBlock := by
    intro x hx hne
    by_cases hex : ∃ y ∈ es.toList, y.key = key
    · obtain ⟨y, hy, hyk⟩ := hex
      rw [← hvk es clock hb y hy hyk]
      exact h4 x hx y hy (by rw [hyk]; exact hne)
    · rw [hvn es clock hb (fun y hy e2 => hex ⟨y, hy, e2⟩)]
      cases hx' : x.val.ownBlock
      · exact .inl rfl
      · exact .inr (by simp [Value.ownBlock])
  have old_new : ∀ x ∈ es.toList, x.key ≠ key → x.val.ownBlock = none ∨ x.val.ownBlock ≠ v'.ownBlock := by
    intro x hx hne
    rcases hloc with g1 | ⟨g, g1, g2⟩
    · rw [g1]
      exact old x hx hne
    · cases hx' : x.val.ownBlock
      · exact .inl rfl
      · refine .inr (fun e2 => ?_)
        have := ((h3 x hx).lt _ hx').2
        rw [g1] at e2
        cases e2
        omega
  rcases K.find W2 hkey es.toList h2 with ⟨g1, g2⟩ | ⟨j, e0, g1, g2, g3⟩
  · have hgw := setBlock_grown hm2 (.map (es.push ⟨key, v', clock⟩) (clock + 1))
    refine ⟨ChangeMaps.setBlock W2 b (.map (es.push ⟨key, v', clock⟩) (clock + 1)), by simp [Instr.mapUpdate, run_underlying ht, MapKept.run_getObj_map hm2, K.check W2 _ hkey, g1, MapKept.run_setObj_map _ hm2, Result.andThen, ChangeMaps.setBlock],
      ⟨_, _, ChangeMaps.heap_setBlock_same hm2 _, MapKept.stamped_push h1 g2, ?_, ?_, ?_, ?_, h6⟩, hgw, by simp [ChangeMaps.setBlock]⟩
    · intro x hx
      simp only [Array.toList_push, List.mem_append, List.mem_singleton] at hx
      rcases hx with hx | rfl
      · exact h2 x hx
      · exact ⟨_, hkey⟩
    · intro x hx
      simp only [Array.toList_push, List.mem_append, List.mem_singleton] at hx
      rcases hx with hx | rfl
      · rw [upd_other (g2 x hx)]
        exact ((h3 x hx).kept hg (old x hx (g2 x hx))).kept hgw (hne_b (h3 x hx))
      · simp only [upd_same]
        exact hown.kept hgw (hne_b hown)
    · intro x hx y hy hne
      simp only [Array.toList_push, List.mem_append, List.mem_singleton] at hx hy
      rcases hx with hx | rfl <;> rcases hy with hy | rfl
      · exact h4 x hx y hy hne
      · exact old_new x hx (g2 x hx)
      · show v'.ownBlock = none ∨ v'.ownBlock ≠ y.val.ownBlock
        cases hv' : v'.ownBlock
        · exact .inl rfl
        · refine .inr (fun e2 => ?_)
          rcases old_new y hy (g2 y hy) with h | h
          · rw [h] at e2; cases e2
          · exact h (by rw [hv', e2])
      · exact absurd rfl hne
    · intro u hu
      have huk : u ≠ key := fun e2 => hu ⟨key, v', clock⟩ (by simp) e2.symm
      rw [upd_other huk]
      exact h5 u (fun x hx => hu x (by simp [hx]))
  · have hset : (es.modify j (fun e => { e with key := key, val := v' })).toList = es.toList.set j { e0 with val := v' } := by
      rw [Array.toList_modify, ChangeMaps.modify_eq_set _ _ _ _ g2, ← g3]
    have hset' : (es.modify j (fun e => { e with val := v' })).toList = es.toList.set j { e0 with val := v' } := by
      rw [Array.toList_modify, ChangeMaps.modify_eq_set _ _ _ _ g2]
    have hsame : es.modify j (fun e => { e with key := key, val := v' }) = es.modify j (fun e => { e with val := v' }) := by
      apply Array.ext'
      rw [hset, hset']
    have hj : es[j]? = some e0 := by simpa using g2
    have hgw := setBlock_grown hm2 (.map (es.modify j (fun e => { e with val := v' })) clock)
    have hmem : ∀ x ∈ (es.modify j (fun e => { e with val := v' })).toList, x = { e0 with val := v' } ∨ (x ∈ es.toList ∧ x.key ≠ key) := by
      intro x hx
      rw [hset'] at hx
      rcases mem_set_apart s3 g2 hx with h | ⟨h, h'⟩
      · exact .inl h
      · exact .inr ⟨h, by rw [← g3]; exact h'⟩
    have m0 := List.mem_of_getElem? g2
    refine ⟨ChangeMaps.setBlock W2 b (.map (es.modify j (fun e => { e with val := v' })) clock), ?_,
      ⟨_, _, ChangeMaps.heap_setBlock_same hm2 _, MapKept.stamped_modify h1 j _ (fun _ _ => rfl) (fun _ _ _ => rfl), ?_, ?_, ?_, ?_, h6⟩, hgw, by simp [ChangeMaps.setBlock]⟩
    · simp [Instr.mapUpdate, run_underlying ht, MapKept.run_getObj_map hm2, K.check W2 _ hkey, g1, hj, g3, K.stays W2 hkey, hsame, MapKept.run_setObj_map _ hm2, Result.andThen, ChangeMaps.setBlock]
    · intro x hx
      rcases hmem x hx with rfl | ⟨hx, _⟩
      · exact h2 e0 m0
      · exact h2 x hx
    · intro x hx
      rcases hmem x hx with rfl | ⟨hx, hne⟩
      · simp only [g3, upd_same]
        exact hown.kept hgw (hne_b hown)
      · simp only [upd_other hne]
        exact ((h3 x hx).kept hg (old x hx hne)).kept hgw (hne_b (h3 x hx))
    · intro x hx y hy hne
      rcases hmem x hx with rfl | ⟨hx, hxk⟩ <;> rcases hmem y hy with rfl | ⟨hy, hyk⟩
      · exact absurd rfl hne
      · show v'.ownBlock = none ∨ v'.ownBlock ≠ y.val.ownBlock
        cases hv' : v'.ownBlock
        · exact .inl rfl
        · refine .inr (fun e2 => ?_)
          rcases old_new y hy hyk with h | h
          · rw [h] at e2; cases e2
          · exact h (by rw [hv', e2])
      · exact old_new x hx hxk
      · exact h4 x hx y hy hne
    · intro u hu
      have huk : u ≠ key := fun e2 => hu { e0 with val := v' } (by rw [hset']; exact List.mem_iff_getElem?.2 ⟨j, by rw [List.getElem?_set, if_pos rfl, if_pos (List.getElem?_eq_some_iff.1 g2).1]⟩) (by rw [e2]; exact g3)
      rw [upd_other huk]
      refine h5 u (fun x hx e2 => ?_)
      obtain ⟨i, hi⟩ := List.mem_iff_getElem?.1 hx
      have hij : j ≠ i := fun e3 => by
        subst e3
        rw [g2] at hi
        cases hi
        exact huk (e2.symm.trans g3)
      exact hu x (by rw [hset']; exact List.mem_iff_getElem?.2 ⟨i, by rw [List.getElem?_set, if_neg hij]; exact hi⟩) e2
/-- Looked up, with what a later store wants to know. -/
theorem Grp.look2 {t E : TypeId} (h : Grp P k base e w b f) (K : Keyed P k) (ht : P.underlying t = some (.map k E)) (hz : (zeroValue E).run P w = .ok (.slice none 0 0) w) {key : Value} {kl : Lit} (hkey : keyOf P k key = some kl) :
    ∃ v, (Instr.lookup t (.map (some b)) key false).run P w = .ok v w ∧ w.ownsRow base e 1 v (f key).length (intsV (f key)) ∧
      ∀ (W2 : World) (v' : Value) (zs' : List Int), w.grownBy W2 v.ownBlock → W2.ownsRow base e 1 v' zs'.length (intsV zs') → (v'.ownBlock = v.ownBlock ∨ ∃ g, v'.ownBlock = some g ∧ w.heap.size ≤ g) →
        ∃ W3, (Instr.mapUpdate t (.map (some b)) key v').run P W2 = .ok () W3 ∧ Grp P k base e W3 b (upd f key zs') ∧ W2.grownBy W3 (some b) ∧ W3.heap.size = W2.heap.size := by
  have h0 := h
  obtain ⟨es, clock, hb, h1, h2, h3, h4, h5, h6⟩ := h
  obtain ⟨s1, s2, s3⟩ := (MapKept.stamped_iff es clock).1 h1
  rcases K.find w hkey es.toList h2 with ⟨g1, g2⟩ | ⟨j, e0, g1, g2, g3⟩
  · have hr : w.ownsRow base e 1 (.slice none 0 0) (f key).length (intsV (f key)) := by
      rw [h5 key g2]
      exact World.ownsRow_nil _ _ _ _
    refine ⟨.slice none 0 0, by simp [Instr.lookup, run_underlying ht, MapKept.run_getObj_map hb, K.check w _ hkey, g1, hz, Result.andThen], hr, fun W2 v' zs' a b' c => h0.update K ht hkey hr ?_ ?_ W2 v' zs' a b' c⟩
    · intro es' clock' hb' x hx hxk
      rw [hb] at hb'
      cases hb'
      exact absurd hxk (g2 x hx)
    · intro es' clock' hb' _
      rfl
  · have hr : w.ownsRow base e 1 e0.val (f key).length (intsV (f key)) := by
      have := h3 e0 (List.mem_of_getElem? g2)
      rw [g3] at this
      exact this
    refine ⟨e0.val, by simp [Instr.lookup, run_underlying ht, MapKept.run_getObj_map hb, K.check w _ hkey, g1, Result.andThen], hr, fun W2 v' zs' a b' c => h0.update K ht hkey hr ?_ ?_ W2 v' zs' a b' c⟩
    · intro es' clock' hb' x hx hxk
      rw [hb] at hb'
      cases hb'
      obtain ⟨i, hi⟩ := List.mem_iff_getElem?.1 hx
      by_cases hij : j = i
      · subst hij
        rw [g2] at hi
        cases hi
        rfl
      · exfalso
        obtain ⟨q1, e1⟩ := List.getElem?_eq_some_iff.1 hi
        obtain ⟨q2, e2⟩ := List.getElem?_eq_some_iff.1 g2
        have hp := List.pairwise_iff_getElem.1 s3
        rcases Nat.lt_or_gt_of_ne hij with hlt | hlt
        · have := hp j i q2 q1 hlt
          rw [e1, e2, g3, hxk] at this
          exact this rfl
        · have := hp i j q1 q2 hlt
          rw [e1, e2, g3, hxk] at this
          exact this rfl
    · intro es' clock' hb' hall
      rw [hb] at hb'
      cases hb'
      exact absurd g3 (hall e0 (List.mem_of_getElem? g2))
theorem wpList_lookupG2 {ops : Array Oper} {rest : List Oper} {o : Oper} {a : Act} {Q : Exit → Act → World → Prop} (h : Grp P k base e w b f)
    (hg : o.guard = none) (m x : Operand) (t E : TypeId) (hop : o.op = Op.lookup t m x false) (K : Keyed P k) (ht : P.underlying t = some (.map k E)) (hz : (zeroValue E).run P w = .ok (.slice none 0 0) w)
    (hm : a.eval m = .map (some b)) (key : Value) (hx : a.eval x = key) {kl : Lit} (hkey : keyOf P k key = some kl)
    (hK : ∀ v, w.ownsRow base e 1 v (f key).length (intsV (f key)) → (∀ (W2 : World) (v' : Value) (zs' : List Int), w.grownBy W2 v.ownBlock → W2.ownsRow base e 1 v' zs'.length (intsV zs') → (v'.ownBlock = v.ownBlock ∨ ∃ g, v'.ownBlock = some g ∧ w.heap.size ≤ g) →
        ∃ W3, (Instr.mapUpdate t (.map (some b)) key v').run P W2 = .ok () W3 ∧ Grp P k base e W3 b (upd f key zs') ∧ W2.grownBy W3 (some b) ∧ W3.heap.size = W2.heap.size) → wpList P ops Q rest (a.put o.dst v) w) : wpList P ops Q (o :: rest) a w := by
  refine wpList_plain hg fun K' hK' => ?_
  obtain ⟨v, hrun, r1, r2⟩ := h.look2 K ht hz hkey
  unfold Oper.wp
  simp [execOp, hop, hm, hx, hrun, Result.andThen]
  exact hK' _ _ (hK v r1 r2)
theorem wpList_mapUpdate {ops : Array Oper} {rest : List Oper} {o : Oper} {a : Act} {Q : Exit → Act → World → Prop}
    (hg : o.guard = none) (m s v : Operand) (t : TypeId) (hop : o.op = Op.mapUpdate t m s v) {vm vs vv : Value} (hm : a.eval m = vm) (hs : a.eval s = vs) (hv : a.eval v = vv) {w' : World}
    (hrun : (Instr.mapUpdate t vm vs vv).run P w = .ok () w') (hK : wpList P ops Q rest (a.put o.dst undef) w') : wpList P ops Q (o :: rest) a w := by
  refine wpList_plain hg fun K' hK' => ?_
  unfold Oper.wp
  simp [execOp, hop, hm, hs, hv, hrun, Result.andThen]
  exact hK' _ _ hK

theorem Grp.look_at {w0 : World} {t E : TypeId} (h : Grp P k base e w0 b f) (hb : Below w0.heap.size w0 w) (K : Keyed P k) (ht : P.underlying t = some (.map k E)) (hz : (zeroValue E).run P w = .ok (.slice none 0 0) w) {key : Value} {kl : Lit} (hkey : keyOf P k key = some kl) :
    ∃ v, (Instr.lookup t (.map (some b)) key false).run P w = .ok v w ∧ w0.ownsRow base e 1 v (f key).length (intsV (f key)) := by
  have hlt := h.lt
  obtain ⟨es, clock, hb0, h1, h2, h3, h4, h5, h6⟩ := h
  have hb := (hb.block b hlt).trans hb0
  rcases K.find w hkey es.toList h2 with ⟨g1, g2⟩ | ⟨j, e0, g1, g2, g3⟩
  · refine ⟨.slice none 0 0, by simp [Instr.lookup, run_underlying ht, MapKept.run_getObj_map hb, K.check w _ hkey, g1, hz, Result.andThen], ?_⟩
    rw [h5 key g2]
    exact World.ownsRow_nil _ _ _ _
  · refine ⟨e0.val, by simp [Instr.lookup, run_underlying ht, MapKept.run_getObj_map hb, K.check w _ hkey, g1, Result.andThen], ?_⟩
    have := h3 e0 (List.mem_of_getElem? g2)
    rw [g3] at this
    exact this
theorem wpList_lookupGB {w0 : World} {ops : Array Oper} {rest : List Oper} {o : Oper} {a : Act} {Q : Exit → Act → World → Prop} (h : Grp P k base e w0 b f) (hb : Below w0.heap.size w0 w)
    (hg : o.guard = none) (m x : Operand) (t E : TypeId) (hop : o.op = Op.lookup t m x false) (K : Keyed P k) (ht : P.underlying t = some (.map k E)) (hz : (zeroValue E).run P w = .ok (.slice none 0 0) w)
    (hm : a.eval m = .map (some b)) (key : Value) (hx : a.eval x = key) {kl : Lit} (hkey : keyOf P k key = some kl)
    (hK : ∀ v, w0.ownsRow base e 1 v (f key).length (intsV (f key)) → wpList P ops Q rest (a.put o.dst v) w) : wpList P ops Q (o :: rest) a w := by
  refine wpList_plain hg fun K' hK' => ?_
  obtain ⟨v, hrun, r1⟩ := h.look_at hb K ht hz hkey
  unfold Oper.wp
  simp [execOp, hop, hm, hx, hrun, Result.andThen]
  exact hK' _ _ (hK v r1)
theorem wpList_tailQ {v : Value} {z : Int} {zs : List Int} {ops : Array Oper} {rest : List Oper} {o : Oper} {a : Act} {Q : Exit → Act → World → Prop} (h : IQ w base v (z :: zs)) (hg : o.guard = none) (x : Operand) (t : TypeId)
    (hop : o.op = Op.slice t x (some (.const (.int .i64 1))) none none) (ht : P.underlying t = some (.slice 3)) {i : TypeInfo} (hi : P.info? 3 = some i) (h1 : i.size = 1) (hx : a.eval x = v)
    (hK : ∀ v', IQ w base v' zs → wpList P ops Q rest (a.put o.dst v') w) : wpList P ops Q (o :: rest) a w := by
  refine wpList_plain hg fun K' hK' => ?_
  obtain ⟨b, off, cap, rfl, hc1, _, _, _, hq⟩ := h.cons
  have hel : P.elem t = 3 := by simp [Program.elem, ht]
  have ht' : P.underlying t = some (.slice (P.elem t)) := by rw [hel]; exact ht
  have hrun : (Instr.sliceAt t (.slice (some ⟨b, off, none⟩) (zs.length + 1) cap) (some (.int .i64 1)) none none).run P w = .ok (.slice (some (if cap = 1 then ⟨b, off, none⟩ else ⟨b, off + 1, none⟩)) zs.length (cap - 1)) w := by
    rw [run_sliceAt_slice (w := w) t _ _ _ _ ht', run_slice_l (w := w) t (some ⟨b, off, none⟩) (zs.length + 1) cap ht' .i64 1 (by omega) (by omega), hel]
    have hs : (sizeOf 3).run P w = .ok 1 w := by simp [sizeOf, typeInfo, hi, h1]
    rw [hs]
    simp only [Result.andThen, sliced]
    by_cases e : cap = 1
    · simp [e]
    · have : ¬ cap = (1 : Int).toNat := e
      simp only [Option.map, if_neg e, Addr.add_mid, if_neg this]
      rfl
  have e1 : a.eval (.const (.int .i64 1)) = .int .i64 1 := rfl
  unfold Oper.wp
  simp only [execOp, hop, hx, Option.map, e1, Sem.run_bind, hrun, Result.andThen]
  exact hK' _ _ (hK _ hq)
end
section
variable {w : World} {base : Nat} {v : Value} {zs : List Int}
theorem IQ.len (h : IQ w base v zs) : (match v with | .slice _ n _ => n | _ => 0) = zs.length := by
  obtain ⟨ao, c, rfl⟩ := h.form
  rfl
end

/-! Which triangles of a vertex are connected. -/
def hasV (t : Tr) (x : Int) : Prop := x = t.1 ∨ x = t.2.1 ∨ x = t.2.2
def adjV (T : List Tr) (v : Int) (i k : Nat) : Prop := ∃ a b x, T[i]? = some a ∧ T[k]? = some b ∧ x ≠ v ∧ hasV a x ∧ hasV b x
def ConnV (T : List Tr) (v : Int) (l : List Nat) : Prop := ∀ S : Nat → Prop, (∀ i, l.head? = some i → S i) → (∀ i ∈ l, ∀ k ∈ l, S i → adjV T v i k → S k) → ∀ k ∈ l, S k
theorem mem_keys {R : List Nat} {k : Nat} : (Value.int .i64 (k : Int)) ∈ intsV (R.map fun i : Nat => (i : Int)) ↔ k ∈ R := by
  simp only [intsV, List.mem_map, Value.int.injEq, true_and]
  constructor
  · rintro ⟨a, ⟨b, hb, rfl⟩, e⟩
    have : b = k := by omega
    rw [← this]
    exact hb
  · intro h
    exact ⟨_, ⟨k, h, rfl⟩, rfl⟩
def nats (l : List Nat) : List Int := l.map fun i : Nat => (i : Int)
theorem nats_length (l : List Nat) : (nats l).length = l.length := by simp [nats]
/-- What the ends know: at a vertex the triangles that have it. -/
def Ends (f : Value → List Int) (pre : List (Int × Nat)) : Prop := ∀ x : Int, ∃ l : List Nat, f (.int .i64 x) = nats l ∧ (∀ k, k ∈ l ↔ (x, k) ∈ pre) ∧ l.length ≤ pre.length
theorem Ends.nil : Ends (fun _ => []) [] := fun x => ⟨[], rfl, by simp, by simp⟩
theorem Ends.put {f : Value → List Int} {pre : List (Int × Nat)} (h : Ends f pre) (x : Int) (i : Nat) : Ends (upd f (.int .i64 x) (f (.int .i64 x) ++ [(i : Int)])) (pre ++ [(x, i)]) := by
  intro y
  obtain ⟨l, h1, h2, h3⟩ := h y
  by_cases e : y = x
  · subst e
    rw [upd_same]
    refine ⟨l ++ [i], by rw [h1]; simp [nats], fun k => ?_, by simp; exact h3⟩
    simp only [List.mem_append, h2, List.mem_singleton, Prod.mk.injEq, true_and]
  · rw [upd_other (by simpa using e)]
    refine ⟨l, h1, fun k => ?_, by simp; omega⟩
    simp only [List.mem_append, h2, List.mem_singleton, Prod.mk.injEq, e, false_and, or_false]
/-- What one triangle adds. -/
def tells (v : Int) (t : Tr) (i : Nat) : List (Int × Nat) := ([t.1, t.2.1, t.2.2].filter (· != v)).map fun x => (x, i)
def told (T : List Tr) (v : Int) (l : List Nat) : List (Int × Nat) := l.flatMap fun i => tells v (T[i]?.getD (0, 0, 0)) i
theorem told_snoc (T : List Tr) (v : Int) (l : List Nat) (i : Nat) : told T v (l ++ [i]) = told T v l ++ tells v (T[i]?.getD (0, 0, 0)) i := by simp [told]
theorem tells_length (v : Int) (t : Tr) (i : Nat) : (tells v t i).length ≤ 3 := by
  unfold tells
  rw [List.length_map]
  have := List.length_filter_le (· != v) [t.1, t.2.1, t.2.2]
  simpa using this
theorem told_mem {T : List Tr} {v : Int} {l : List Nat} {x : Int} {k : Nat} : (x, k) ∈ told T v l ↔ k ∈ l ∧ x ≠ v ∧ hasV (T[k]?.getD (0, 0, 0)) x := by
  simp only [told, tells, List.mem_flatMap, List.mem_map, List.mem_filter, List.mem_cons, List.not_mem_nil, or_false, Prod.mk.injEq, bne_iff_ne, hasV]
  constructor
  · rintro ⟨i, hi, y, ⟨hy, hn⟩, rfl, rfl⟩
    exact ⟨hi, hn, hy⟩
  · rintro ⟨hk, hn, hx⟩
    exact ⟨k, hk, x, ⟨hx, hn⟩, rfl, rfl⟩

/-- The search: what was reached, and what of it waits. -/
structure Bfs (T : List Tr) (v : Int) (l R Q : List Nat) : Prop where
  le : Q.length ≤ R.length
  nd : R.Nodup
  sub : ∀ k ∈ R, k ∈ l
  wait : ∀ k ∈ Q, k ∈ R
  head : ∀ i, l.head? = some i → i ∈ R
  done : ∀ i ∈ R, i ∉ Q → ∀ k ∈ l, adjV T v i k → k ∈ R
  reach : ∀ S : Nat → Prop, (∀ i, l.head? = some i → S i) → (∀ i ∈ l, ∀ k ∈ l, S i → adjV T v i k → S k) → ∀ k ∈ R, S k
theorem Bfs.start {T : List Tr} {v : Int} {l : List Nat} {i : Nat} (h : l.head? = some i) : Bfs T v l [i] [i] where
  le := by simp
  nd := by simp
  sub := by
    intro k hk
    rw [List.mem_singleton.1 hk]
    exact List.mem_of_mem_head? h
  wait := fun k hk => hk
  head := by
    intro j hj
    rw [h] at hj
    cases hj
    simp
  done := fun j hj hn => absurd hj hn
  reach := by
    intro S h1 _ k hk
    rw [List.mem_singleton.1 hk]
    exact h1 i h
theorem nodup_full {R l : List Nat} (hn : R.Nodup) (hs : ∀ x ∈ R, x ∈ l) (hl : l.length ≤ R.length) : ∀ x ∈ l, x ∈ R := by
  intro x hx
  refine Classical.byContradiction fun hne => ?_
  have h2 := Jor.nodup_le (l := x :: R) (m := l) (List.nodup_cons.2 ⟨hne, hn⟩) (fun y hy => by
    rcases List.mem_cons.1 hy with rfl | hy
    · exact hx
    · exact hs y hy)
  simp only [List.length_cons] at h2
  omega
theorem Bfs.finish {T : List Tr} {v : Int} {l R : List Nat} (h : Bfs T v l R []) (hl : l.Nodup) : R.length = l.length ↔ ConnV T v l := by
  have hle : R.length ≤ l.length := Jor.nodup_le h.nd h.sub
  constructor
  · intro he S h1 h2 k hk
    exact h.reach S h1 h2 k (nodup_full h.nd h.sub (by omega) k hk)
  · intro hc
    have hall := hc (fun k => k ∈ R) h.head (fun i _ k hk hiR ha => h.done i hiR (by simp) k hk ha)
    have := Jor.nodup_le hl hall
    omega
/-- In the midst of one triangle: its vertices C are done. -/
structure BfsAt (T : List Tr) (v : Int) (l R Q : List Nat) (i : Nat) (C : List Int) : Prop where
  le : Q.length ≤ R.length
  nd : R.Nodup
  sub : ∀ k ∈ R, k ∈ l
  wait : ∀ k ∈ Q, k ∈ R
  head : ∀ i, l.head? = some i → i ∈ R
  cur : i ∈ R
  done : ∀ j ∈ R, j ∉ Q → j ≠ i → ∀ k ∈ l, adjV T v j k → k ∈ R
  part : ∀ k ∈ l, ∀ b, T[k]? = some b → ∀ x ∈ C, x ≠ v → hasV b x → k ∈ R
  reach : ∀ S : Nat → Prop, (∀ i, l.head? = some i → S i) → (∀ i ∈ l, ∀ k ∈ l, S i → adjV T v i k → S k) → ∀ k ∈ R, S k
theorem Bfs.pop {T : List Tr} {v : Int} {l R Q : List Nat} {i : Nat} (h : Bfs T v l R (i :: Q)) : BfsAt T v l R Q i [] where
  le := by have := h.le; simp at this; omega
  nd := h.nd
  sub := h.sub
  wait := fun k hk => h.wait k (List.mem_cons_of_mem _ hk)
  head := h.head
  cur := h.wait i (List.mem_cons_self ..)
  done := fun j hj hn hne k hk ha => h.done j hj (fun hm => by rcases List.mem_cons.1 hm with e | hm; exact hne e; exact hn hm) k hk ha
  part := fun k _ b _ x hx => by cases hx
  reach := h.reach
theorem BfsAt.add {T : List Tr} {v : Int} {l R Q : List Nat} {i k : Nat} {C : List Int} (h : BfsAt T v l R Q i C) (hk : k ∈ l) (hn : k ∉ R) (ha : adjV T v i k) : BfsAt T v l (R ++ [k]) (Q ++ [k]) i C where
  le := by have := h.le; simp; exact this
  nd := by
    rw [List.nodup_append]
    exact ⟨h.nd, by simp, fun a ha b hb e => by rw [List.mem_singleton.1 hb] at e; exact hn (by rw [← e]; exact ha)⟩
  sub := fun x hx => by
    rcases List.mem_append.1 hx with hx | hx
    · exact h.sub x hx
    · rw [List.mem_singleton.1 hx]; exact hk
  wait := fun x hx => by
    rcases List.mem_append.1 hx with hx | hx
    · exact List.mem_append_left _ (h.wait x hx)
    · exact List.mem_append_right _ hx
  head := fun j hj => List.mem_append_left _ (h.head j hj)
  cur := List.mem_append_left _ h.cur
  done := fun j hj hq hne x hx hax => by
    rcases List.mem_append.1 hj with hj | hj
    · exact List.mem_append_left _ (h.done j hj (fun hm => hq (List.mem_append_left _ hm)) hne x hx hax)
    · exact absurd (List.mem_append_right _ hj) hq
  part := fun x hx b hb y hy hyv hyb => List.mem_append_left _ (h.part x hx b hb y hy hyv hyb)
  reach := fun S h1 h2 x hx => by
    rcases List.mem_append.1 hx with hx | hx
    · exact h.reach S h1 h2 x hx
    · rw [List.mem_singleton.1 hx]
      exact h2 i (h.sub i h.cur) k hk (h.reach S h1 h2 i h.cur) ha
theorem BfsAt.skip {T : List Tr} {v : Int} {l R Q : List Nat} {i : Nat} {C : List Int} (h : BfsAt T v l R Q i C) : BfsAt T v l R Q i (C ++ [v]) := ⟨h.le, h.nd, h.sub, h.wait, h.head, h.cur, h.done, fun k hk b hb x hx hxv hxb => by
  rcases List.mem_append.1 hx with hx | hx
  · exact h.part k hk b hb x hx hxv hxb
  · exact absurd (List.mem_singleton.1 hx) hxv, h.reach⟩
theorem BfsAt.over {T : List Tr} {v : Int} {l R Q : List Nat} {i : Nat} {C : List Int} {y : Int} (h : BfsAt T v l R Q i C) (hy : ∀ k ∈ l, ∀ b, T[k]? = some b → hasV b y → k ∈ R) : BfsAt T v l R Q i (C ++ [y]) := ⟨h.le, h.nd, h.sub, h.wait, h.head, h.cur, h.done, fun k hk b hb x hx hxv hxb => by
  rcases List.mem_append.1 hx with hx | hx
  · exact h.part k hk b hb x hx hxv hxb
  · rw [List.mem_singleton.1 hx] at hxb
    exact hy k hk b hb hxb, h.reach⟩
theorem BfsAt.finish {T : List Tr} {v : Int} {l R Q : List Nat} {i : Nat} {x y z : Int} (h : BfsAt T v l R Q i [x, y, z]) (ht : T[i]? = some (x, y, z)) : Bfs T v l R Q where
  le := h.le
  nd := h.nd
  sub := h.sub
  wait := h.wait
  head := h.head
  done := fun j hj hq k hk ha => by
    by_cases e : j = i
    · subst e
      obtain ⟨a, b, u, h1, h2, h3, h4, h5⟩ := ha
      rw [ht] at h1
      cases h1
      refine h.part k hk b h2 u ?_ h3 h5
      rcases h4 with rfl | rfl | rfl <;> simp
    · exact h.done j hj hq e k hk ha
  reach := h.reach
def sliceLen : Value → Nat
  | .slice _ n _ => n
  | _ => 0
end Go.Proofs.Ytpnkhgjjlionnaa
namespace Go.Proofs.Ytpnkhgjjlionnaa
open Go.RowKit Go.Maps

def keyOk (κ : Tr) : Prop := (0 ≤ κ.1 ∧ κ.1 ≤ 8192) ∧ (0 ≤ κ.2.1 ∧ κ.2.1 ≤ 8192) ∧ (0 ≤ κ.2.2 ∧ κ.2.2 ≤ 8192)
/-- What the rows know: of each key whether it was, how many there are at most, and that the numbers are small. -/
def Had (f : Value → List Int) (P : List Tr) : Prop := (∀ κ, f (triV κ) = [] ↔ κ ∉ P) ∧ ∀ key, (f key).length ≤ P.length ∧ ∀ a ∈ f key, 0 ≤ a ∧ a ≤ 8192
theorem Had.nil : Had (fun _ => []) [] := ⟨by simp, by simp⟩
theorem Had.put {f : Value → List Int} {P : List Tr} (h : Had f P) (κ : Tr) {i : Int} (hi : 0 ≤ i ∧ i ≤ 8192) : Had (upd f (triV κ) (f (triV κ) ++ [i])) (P ++ [κ]) := by
  obtain ⟨h1, h2⟩ := h
  constructor
  · intro κ'
    by_cases e : triV κ' = triV κ
    · have e' := triV_inj e
      subst e'
      rw [upd_same]
      simp
    · rw [upd_other e, h1]
      have : κ' ≠ κ := fun e' => e (by rw [e'])
      simp [this]
  · intro key
    by_cases e : key = triV κ
    · subst e
      rw [upd_same]
      obtain ⟨a, b⟩ := h2 (triV κ)
      refine ⟨by simp; exact a, fun x hx => ?_⟩
      rcases List.mem_append.1 hx with hx | hx
      · exact b x hx
      · simp only [List.mem_singleton] at hx
        rw [hx]
        exact hi
    · rw [upd_other e]
      obtain ⟨a, b⟩ := h2 key
      exact ⟨by simp; omega, b⟩
theorem nodup_snoc {P : List Tr} {κ : Tr} : (P ++ [κ]).Nodup ↔ P.Nodup ∧ κ ∉ P := by
  rw [List.nodup_append]
  simp only [List.nodup_cons, List.not_mem_nil, not_false_eq_true, List.nodup_nil, true_and, List.mem_singleton]
  constructor
  · rintro ⟨h1, h3⟩
    exact ⟨h1, fun hm => h3 κ hm κ rfl rfl⟩
  · rintro ⟨h1, h2⟩
    refine ⟨h1, fun a ha b hb e => ?_⟩
    rw [hb] at e
    rw [e] at ha
    exact h2 ha
theorem rowSlice {w : World} {base n : Nat} {v : Value} {zs : List Int} (h : w.ownsRow base 3 1 v zs.length (intsV zs)) (hn : zs.length = n) : ∃ a c, v = .slice a n c ∧ ∀ (k : Nat) (x : Int), zs[k]? = some x → ∃ g, a = some ⟨g, 0, none⟩ ∧ g < w.heap.size ∧ w.cell? ⟨g, k, none⟩ = some (.int .i64 x) := by
  subst hn
  rcases Nat.eq_zero_or_pos zs.length with h0 | hpos
  · rcases h.2 with ⟨rfl, e0⟩ | ⟨g, cap, cur, rfl, _⟩
    · exact ⟨none, 0, by rw [h0], fun k x hk => by
        have := (List.getElem?_eq_some_iff.1 hk).1
        omega⟩
    · exact ⟨some ⟨g, 0, none⟩, cap, rfl, fun k x hk => by
        have := (List.getElem?_eq_some_iff.1 hk).1
        omega⟩
  · obtain ⟨g, cap, rfl, hb, hg⟩ := h.form hpos
    refine ⟨some ⟨g, 0, none⟩, cap, rfl, fun k x hk => ⟨g, rfl, hg, ?_⟩⟩
    have := (List.getElem?_eq_some_iff.1 hk).1
    rw [h.cellAt k (by omega), intsV, List.getElem?_map, hk]
    rfl

theorem ws3_at {ws : List Tr} {j : Nat} {a b c : Int} (h : ws[j]? = some (a, b, c)) : (ws3 ws)[j * 3]? = some (.int .i64 a) ∧ (ws3 ws)[j * 3 + 1]? = some (.int .i64 b) ∧ (ws3 ws)[j * 3 + 2]? = some (.int .i64 c) := by
  induction ws generalizing j with
  | nil => simp at h
  | cons t r ih =>
    have e : ws3 (t :: r) = [.int .i64 t.1, .int .i64 t.2.1, .int .i64 t.2.2] ++ ws3 r := by simp [ws3, flatT]
    cases j with
    | zero =>
      simp at h
      subst h
      rw [e]
      simp
    | succ j =>
      have := ih (j := j) (by simpa using h)
      rw [e]
      have h1 : (j + 1) * 3 = j * 3 + 3 := by omega
      rw [h1]
      simpa using this
theorem wfS {x : Int} (h : 0 ≤ x ∧ x ≤ 8192) : (Lit.int .i64 x).wf = true := WalkArith.wf_i64 (by omega)
theorem infoInt : (Try.prog.info? 3).map (fun i => (i.zero, i.size, i.bytes)) = some (some (.int .i64 0), 1, 8) := by kernel_rfl

set_option maxRecDepth 100000 in
set_option maxHeartbeats 4000000 in
theorem pairsTwice_any (kind : Int) (K : Tr → List Tr) (N : Int) (v : Value) (T : List Tr) (w : World) (h : TrisRd w v T) (hl : T.length ≤ 8192)
    (hK : ∀ (t : Tr) (W : World), t ∈ T → Calls Try.prog 122 #[triV t] W fun e W' => ∃ v', e = .returned v' ∧ W'.ownsRow W.heap.size 60 3 v' (K t).length (ws3 (K t)) ∧ Below W.heap.size W W')
    (hKl : ∀ t ∈ T, 0 < (K t).length ∧ (K t).length ≤ 3) (hKo : ∀ t ∈ T, ∀ κ ∈ K t, keyOk κ) :
    Calls Try.prog 121 #[.agg #[.int .i64 N, v], .int .i64 kind, .func (.func 122) #[] #[]] w fun e w' => ∃ v', e = .returned v' ∧ WitsIs w' w.heap.size v' kind (T.flatMap K).Nodup ∧ Below w.heap.size w w' := by
  obtain ⟨i1, hi', hy0, hy1, hy2⟩ := info_parts infoWit
  obtain ⟨i2, hj', hz0, hz1, hz2⟩ := info_parts infoInt
  obtain ⟨a, c, rfl, hc1, hc2, hr⟩ := h
  have HR := Lib.hid hr
  have HKc := Lib.hid hK
  have HKl := Lib.hid hKl
  have HKo := Lib.hid hKo
  have b1 := Blk.new w 24 #[.int .i64 N, .slice a T.length c]
  have hB0 : Below w.heap.size w (w.alloc (.cells #[.int .i64 N, .slice a T.length c] 24)) := (Below.refl _ _).alloc (Nat.le_refl _) _
  obtain ⟨n, hn⟩ : ∃ n, T.length = n := ⟨_, rfl⟩
  rw [hn] at hl hc1 hB0 b1 ⊢
  have HN := Lib.hid hn
  have st0 : PairSt w ((((w.alloc (.cells #[.int .i64 N, .slice a n c] 24)).alloc (.map #[] 0))).alloc (.map #[] 0)) kind (fun _ => []) [] (.slice none 0 0) [] := by
    have hm1 := Grp.made (w.alloc (.cells #[.int .i64 N, .slice a n c] 24)) Try.prog 60 3 (base := w.heap.size + 3) (by rw [size_alloc']; omega)
    have hm2 := MapB.made ((w.alloc (.cells #[.int .i64 N, .slice a n c] 24)).alloc (.map #[] 0)) Try.prog 87 4
    rw [size_alloc'] at hm1
    rw [size_alloc', size_alloc'] at hm2
    exact ⟨hm1.alloc _, hm2, World.ownsRow_nil _ _ _ _, (hB0.alloc (by rw [size_alloc']; omega) _).alloc (by rw [size_alloc', size_alloc']; omega) _, fun _ => rfl, by simp⟩
  obtain ⟨l0, x0, -, x1, -⟩ := ((b1.alloc (.map #[] 0)).alloc (.map #[] 0)).two
  have hmm := @run_makeMap Try.prog
  clear hr hn hK hKl hKo b1 hB0
  go_enter Try.func121, Try.ntmps121
  go_wp2
  clear hmm x0 x1 l0
  go_loopw [7, 22] (fun v7 i wr => ∃ (k : Nat) (v' : Value) (ws : List Tr) (f : Value → List Int) (S : List Value), v' = v7 ∧ k ≤ n ∧ i = .int .i64 k ∧ PairSt w wr kind f S v' ws ∧ Had f ((T.take k).flatMap K) ∧ ((T.take k).flatMap K).length ≤ 3 * k ∧ ws.length ≤ 3 * k * 24576 ∧ (ws = [] ↔ ((T.take k).flatMap K).Nodup)) (fun _ i _ => n - (intOf i).toNat)
  case atStart => exact ⟨0, _, [], _, _, rfl, Nat.zero_le _, rfl, st0, by simpa using Had.nil, by simp, by simp, by simp⟩
  case round =>
    clear st0
    obtain ⟨k, v', ws, f, S, rfl, hk, rfl, hst, hhad, hPl, hwl, hws⟩ := hrel
    rename World => wr
    by_cases hlt : k < n
    · obtain ⟨t, ht⟩ : ∃ t, T[k]? = some t := ⟨T[k]'(by have := HN.out; omega), List.getElem?_eq_getElem _⟩
      obtain ⟨x, y, z⟩ := t
      have hmem := List.mem_of_getElem? ht
      obtain ⟨b, o, rfl, hbl, s0, s1, s2⟩ := HR.out k x y z ht
      have s0' := (hst.b.cell (p := ⟨b, _, none⟩) hbl).trans s0
      have s1' := (hst.b.cell (p := ⟨b, _, none⟩) hbl).trans s1
      have s2' := (hst.b.cell (p := ⟨b, _, none⟩) hbl).trans s2
      have Hts : Hid ((T.take (k + 1)).flatMap K = (T.take k).flatMap K ++ K (x, y, z)) := by
        refine Lib.hid ?_
        obtain ⟨hk', he⟩ := List.getElem?_eq_some_iff.1 ht
        rw [List.take_succ_eq_append_getElem hk', he]
        simp
      have HkO := Lib.hid (HKo.out _ hmem)
      have HkC := Lib.hid (fun W => HKc.out (x, y, z) W hmem)
      obtain ⟨hL0, hL3⟩ := HKl.out _ hmem
      generalize hKt : K (x, y, z) = Kt at *
      obtain ⟨P, hP⟩ : ∃ P, (T.take k).flatMap K = P := ⟨_, rfl⟩
      rw [hP] at hhad hPl hws Hts
      have Hws := Lib.hid hws
      have Hhad := Lib.hid hhad
      have hk3 : (k : Int) < (n : Int) := by omega
      have hk0 : (0 : Int) ≤ (k : Int) := by omega
      have Hst := Lib.hid (hst.alloc (.cells #[.int .i64 x, .int .i64 y, .int .i64 z] 61))
      clear ht s0 s1 s2 hws hhad hst hmem hP hKt
      go_wp2_with fail
      refine (HkC.out _).mono ?_
      rintro e w2 ⟨vk, rfl, hrK, hbK⟩
      have Hst2 := Lib.hid (Hst.out.below hbK)
      obtain ⟨L, hL⟩ : ∃ L, Kt.length = L := ⟨_, rfl⟩
      rw [hL] at hrK hL0 hL3
      obtain ⟨gk, ck, rfl, hgk1, hgk2⟩ := hrK.form hL0
      rw [size_alloc'] at hgk1 hrK
      have Hr := Lib.hid hrK
      have HL := Lib.hid hL
      clear Hst hbK hrK hL HkC
      go_wp2
      rename World => wA
      go_loopw [7, 31] (fun v7 i wq => ∃ (j : Nat) (v' : Value) (ws : List Tr) (f : Value → List Int) (S : List Value), v' = v7 ∧ j ≤ L ∧ i = .int .i64 j ∧ PairSt w wq kind f S v' ws ∧ wq.ownsRow (wr.heap.size + 1) 60 3 (.slice (some ⟨gk, 0, none⟩) L ck) L (ws3 Kt) ∧ Had f (P ++ Kt.take j) ∧ ws.length ≤ (3 * k + j) * 24576 ∧ (ws = [] ↔ (P ++ Kt.take j).Nodup)) (fun _ i _ => L - (intOf i).toNat)
      case atStart => exact ⟨0, _, ws, f, S, rfl, Nat.zero_le _, rfl, Hst2.out, Hr.out, by simpa using Hhad.out, by omega, by simpa using Hws.out⟩
      case round =>
        clear Hst2 Hr Hws Hhad hwl
        clear ws f S
        obtain ⟨j, v', ws, f, S, rfl, hj, rfl, hst, hrK, hhad, hwl, hws⟩ := hrel
        rename World => wq
        by_cases hjl : j < L
        · obtain ⟨κ, hκ⟩ : ∃ κ, Kt[j]? = some κ := ⟨Kt[j]'(by have := HL.out; omega), List.getElem?_eq_getElem _⟩
          obtain ⟨κ1, κ2, κ3⟩ := κ
          obtain ⟨⟨o1, o2⟩, ⟨o3, o4⟩, ⟨o5, o6⟩⟩ := HkO.out _ (List.mem_of_getElem? hκ)
          simp only at o1 o2 o3 o4 o5 o6
          obtain ⟨d0, d1, d2⟩ := ws3_at hκ
          have c0 := hrK.cellAt (j * 3) (by omega)
          have c1 := hrK.cellAt (j * 3 + 1) (by omega)
          have c2 := hrK.cellAt (j * 3 + 2) (by omega)
          rw [d0] at c0
          rw [d1] at c1
          rw [d2] at c2
          have Hts2 : Hid (P ++ Kt.take (j + 1) = P ++ Kt.take j ++ [(κ1, κ2, κ3)]) := by
            refine Lib.hid ?_
            obtain ⟨hk', he⟩ := List.getElem?_eq_some_iff.1 hκ
            rw [List.take_succ_eq_append_getElem hk', he, List.append_assoc]
          have hj3 : (j : Int) < (L : Int) := by omega
          have hj0 : (0 : Int) ≤ (j : Int) := by omega
          have hPj : (P ++ Kt.take j).length ≤ 3 * k + j := by simp; omega
          have Hhad := Lib.hid hhad
          have Hws := Lib.hid hws
          have hgq := hrK.lt gk (by rfl)
          have hst1 := hst.alloc (.cells #[.int .i64 κ1, .int .i64 κ2, .int .i64 κ3] 60)
          have hrK1 := Lib.hid (hrK.alloc (.cells #[.int .i64 κ1, .int .i64 κ2, .int .i64 κ3] 60))
          have hkey := keyOf_three arrThree Try.underlying3 types_succ (wfS ⟨o1, o2⟩) (wfS ⟨o3, o4⟩) (wfS ⟨o5, o6⟩)
          have hbq := Blk.new wq 60 #[.int .i64 κ1, .int .i64 κ2, .int .i64 κ3]
          have hwq := hst.b.size
          obtain ⟨m, hm⟩ : ∃ m, (f (triV (κ1, κ2, κ3))).length = m := ⟨_, rfl⟩
          have hm1 : m ≤ 3 * k + j := by
            have := (hhad.2 (triV (κ1, κ2, κ3))).1
            omega
          have HM := Lib.hid hm
          have HMo := Lib.hid (hhad.2 (triV (κ1, κ2, κ3))).2
          clear d0 d1 d2 hws hhad hst hrK hm
          go_wp2_with (at_lookup; refine wpList_lookupG hst1.g rfl _ _ 188 35 rfl (Keyed.of_law arrThree.law) Try.underlying188 (zero_ints _) rfl _ rfl hkey ?_; intro v0 hr0; have hr0' := hr0; rw [show (.agg #[.int .i64 κ1, .int .i64 κ2, .int .i64 κ3] : Value) = triV (κ1, κ2, κ3) from rfl] at hr0'; obtain ⟨a0, c0', rfl, hc0⟩ := rowSlice hr0' HM.out)
          have Hst1 := Lib.hid hst1
          have Hr0 := Lib.hid hr0
          have hbq' := Lib.hid hbq
          clear hst1 hr0 hr0' hbq hc0 c0 c1 c2 hgq
          go_loopw [7, 39] (fun v7 i wz => ∃ (q : Nat) (v' : Value) (ws' : List Tr) (S' : List Value), v' = v7 ∧ q ≤ m ∧ i = .int .i64 q ∧ PairSt w wz kind f S' v' ws' ∧ wz.ownsRow (wr.heap.size + 1) 60 3 (.slice (some ⟨gk, 0, none⟩) L ck) L (ws3 Kt) ∧ wz.ownsRow (w.heap.size + 3) 3 1 (.slice a0 m c0') (f (triV (κ1, κ2, κ3))).length (intsV (f (triV (κ1, κ2, κ3)))) ∧ Blk wz wq.heap.size 60 #[.int .i64 κ1, .int .i64 κ2, .int .i64 κ3] ∧ ws'.length ≤ ws.length + q ∧ (ws' = [] ↔ ws = [] ∧ q = 0)) (fun _ i _ => m - (intOf i).toNat)
          case atStart => exact ⟨0, _, ws, S, rfl, Nat.zero_le _, rfl, Hst1.out, hrK1.out, Hr0.out, hbq'.out, by omega, by simp⟩
          case round =>
            clear Hst1 hrK1 Hr0 hbq'
            obtain ⟨q, v', ws', S', rfl, hq, rfl, hst, hrK, hr0, hbq, hwl', hws'⟩ := hrel
            rename World => wz
            have Hws' := Lib.hid hws'
            clear hws'
            by_cases hqm : q < m
            · obtain ⟨d, hd⟩ : ∃ d, (f (triV (κ1, κ2, κ3)))[q]? = some d := ⟨(f (triV (κ1, κ2, κ3)))[q]'(by have := HM.out; omega), List.getElem?_eq_getElem _⟩
              obtain ⟨d1, d2⟩ := HMo.out d (List.mem_of_getElem? hd)
              obtain ⟨a1, c1', e1, hcc⟩ := rowSlice hr0 HM.out
              cases e1
              obtain ⟨g0, rfl, hg0, hcell⟩ := hcc q d hd
              have hst2 := hst.alloc (.cells #[.int .i64 d, .int .i64 k] 87)
              have hkey2 := WideMaps.keyOf_pair arrPair Try.underlying3 types_succ (wfS ⟨d1, d2⟩) (wfS (x := (k : Int)) ⟨by omega, by omega⟩)
              have hq3 : (q : Int) < (m : Int) := by omega
              have hq0 : (0 : Int) ≤ (q : Int) := by omega
              have c3 : ws'.length + 1 ≤ maxLen := by unfold maxLen; omega
              have c4 : (ws'.length + 1) * 24 ≤ 140737488355328 := by omega
              have c5 : ws'.length < maxLen := by unfold maxLen; omega
              have hwz := hst.b.size
              clear hcc hd
              by_cases hp : (.agg #[.int .i64 d, .int .i64 k] : Value) ∈ S'
              · have hne : ws' ≠ [] := fun e0 => by
                  have := hst.c e0
                  rw [this] at hp
                  cases hp
                go_wp2_with (at_lookup; refine wpList_lookupB hst2.s rfl _ _ 189 rfl (Keyed.of_law arrPair.law) Try.underlying189 Try.underlying4 (zero_bool _) rfl _ rfl hkey2 ?_; intro r hir; obtain rfl : r = true := hir.2 hp)
                go_roundw
                case measure => simp [intOf]; omega
                case rel => exact ⟨q + 1, _, ws', S', rfl, by omega, by go_num, hst2, hrK.alloc _, hr0.alloc _, hbq.alloc _, by omega, ⟨fun e => absurd e hne, fun e => absurd e.2 (by omega)⟩⟩
              · go_wp2_with (first
                  | (at_lookup; refine wpList_lookupB hst2.s rfl _ _ 189 rfl (Keyed.of_law arrPair.law) Try.underlying189 Try.underlying4 (zero_bool _) rfl _ rfl hkey2 ?_; intro r hir; obtain rfl : r = false := (by cases r; rfl; exact absurd (hir.1 rfl) hp))
                  | (at_mapUpdate; refine wpList_storeB hst2.s rfl _ _ _ 189 rfl (Keyed.of_law arrPair.law) Try.underlying189 Try.underlying4 c5 rfl _ rfl rfl hkey2 ?_; intro w5 hm5 hg5; have hsz5 := hg5.size; rw [size_alloc'] at hsz5)
                  | (at_builtin; refine wpList_append_lies _ rfl (.tmp 52) (.tmp 57) 114 rfl w.heap.size 44 i1 _ 3 24 Try.underlying114 hi' hy0 hy1 hy2 rfl (by decide) _ _ _ rfl ((hst2.r.kept hg5 (row_map_ne hst2.r hst2.s.obj)).alloc _) ⟨w5.heap.size, 0, none⟩ 1 1 [.int .i64 kind, .int .i64 d, .int .i64 k] rfl rfl (World.news_of_block (heap_alloc_new _ _)) (by simp [Value.oneCell']) (by decide) c3 c4 (by rw [size_alloc']; omega) (w5.heap.size + 1) (by simp) ?_; intro g4 cap4 W4 hr4 hg4 _ _))
                go_roundw
                case measure => simp [intOf]; omega
                case rel => exact ⟨q + 1, _, ws' ++ [(kind, d, (k : Int))], _, rfl, by omega, by go_num, hst2.mark hm5 hg5 (by rw [ws3_snoc]; simpa using hr4) hg4 rfl, hst2.markRow hg5 hg4 (by decide) (hrK.alloc _), hst2.markRow hg5 hg4 (by decide) (hr0.alloc _), hst2.markBlk hg5 hg4 (by decide) (hbq.alloc _), by simp; omega, by simp⟩
            · obtain rfl : q = m := by omega
              have hst3 := hst.alloc (.cells #[.int .i64 k] 3)
              have hnb := Blk.new wz 3 #[.int .i64 k]
              have hglt := hst.g.lt
              have hrK3 := Lib.hid (hrK.alloc (.cells #[.int .i64 k] 3))
              have hmm := HM.out
              obtain ⟨bq0, bq1, -, bq2, -, bq3, -⟩ := hbq.three
              have hwz := hst.b.size
              have c6 : (f (triV (κ1, κ2, κ3))).length + 1 ≤ maxLen := by unfold maxLen; omega
              have c7 : ((f (triV (κ1, κ2, κ3))).length + 1) * 8 ≤ 140737488355328 := by omega
              clear hmm hst hrK hr0
              go_wp2_with (first
                | (refine wpList_entryG hst3.g rfl _ _ 188 35 rfl (Keyed.of_law arrThree.law) Try.underlying188 zero_ints rfl (triV (κ1, κ2, κ3)) rfl hkey ?_; intro v1 st W1 e1 e1s e1g e1r e1b; rw [size_alloc'] at e1s)
                | (at_builtin; refine wpList_append_lies _ rfl (.tmp 62) (.tmp 64) 35 rfl (w.heap.size + 3) 3 i2 _ 1 8 Try.underlying35 hj' hz0 hz1 hz2 rfl (by decide) v1 (f (triV (κ1, κ2, κ3))).length (intsV (f (triV (κ1, κ2, κ3)))) rfl e1r ⟨wz.heap.size, 0, none⟩ 1 1 [.int .i64 k] rfl rfl (World.news_of_block (hnb.grown e1 (by simp; omega))) (by simp [Value.oneCell']) (by decide) c6 c7 (by omega) (W1.heap.size) rfl ?_; intro g6 cap6 W6 hr6 hg6 hat6 _; obtain ⟨W7, hrun7, hG7, hg7⟩ := e1b W6 (.slice (some ⟨g6, 0, none⟩) ((f (triV (κ1, κ2, κ3))).length + 1) cap6) (f (triV (κ1, κ2, κ3)) ++ [(k : Int)]) hg6 (by simpa [intsV] using hr6) (hat6.imp (fun e => e.symm) (fun e => ⟨g6, rfl, by omega⟩)))
                | (refine wpList_entryStore rfl _ _ _ 188 rfl rfl rfl rfl hrun7 ?_))
              go_roundw
              case measure => simp [intOf]; omega
              case rel => exact ⟨j + 1, _, ws', _, S', rfl, by omega, by go_num, hst3.put e1 e1g e1r hg6 hg7 hG7, hst3.putRow e1 e1g e1r hg6 hg7 (by decide) hrK3.out, by rw [Hts2.out]; exact Hhad.out.put (κ1, κ2, κ3) ⟨by omega, by omega⟩, by omega, by
                rw [Hts2.out, nodup_snoc, Hws'.out, Hws.out, ← Hhad.out.1, ← HM.out, List.length_eq_zero_iff]⟩
        · obtain rfl : j = L := by omega
          have hll := HL.out
          rw [List.take_of_length_le (by omega)] at hhad hws
          have Hst := Lib.hid hst
          have Hws := Lib.hid hws
          have Hhad := Lib.hid hhad
          clear hst hws hhad hrK hll
          go_wp2
          go_roundw
          case measure => simp [intOf]; omega
          case rel => exact ⟨k + 1, _, ws, f, S, rfl, by omega, by go_num, Hst.out, by rw [Hts.out]; exact Hhad.out, by rw [Hts.out, List.length_append, HL.out]; omega, by omega, by rw [Hts.out]; exact Hws.out⟩
    · obtain rfl : k = n := by omega
      have hnn := HN.out
      rw [List.take_of_length_le (by omega)] at hws
      have Hst := Lib.hid hst
      have Hws := Lib.hid hws
      clear hst hnn hws hhad hPl
      go_wp2
      go_ret
      exact ⟨_, rfl, ⟨ws, Hst.out.r, Hws.out, Hst.out.k, by omega⟩, Hst.out.b⟩
end Go.Proofs.Ytpnkhgjjlionnaa
namespace Go.Proofs.Ytpnkhgjjlionnaa
open Go.RowKit

/-- Block g holds m slices vs, each owning its row. -/
structure Rws (w : World) (base g m : Nat) (vs : List Value) (rows : List (List Int)) : Prop where
  own : w.ownsRow base 35 1 (.slice (some ⟨g, 0, none⟩) m m) m vs
  len : rows.length = m
  row : ∀ (i : Nat) (v : Value) (r : List Int), vs[i]? = some v → rows[i]? = some r → w.ownsRow base 3 1 v r.length (intsV r)
  apart : ∀ (i j : Nat) (vi vj : Value), i ≠ j → vs[i]? = some vi → vs[j]? = some vj → vi.ownBlock = none ∨ vi.ownBlock ≠ vj.ownBlock
section
variable {w w' : World} {base g m : Nat} {vs : List Value} {rows : List (List Int)}
theorem Rws.vlen (h : Rws w base g m vs rows) : vs.length = m := by
  have := h.own.1
  omega
theorem Rws.kept {row : Option Nat} (h : Rws w base g m vs rows) (hg : w.grownBy w' row) (h1 : some g ≠ row) (h2 : ∀ v n xs, w.ownsRow base 3 1 v n xs → v.ownBlock = none ∨ v.ownBlock ≠ row) : Rws w' base g m vs rows :=
  ⟨h.own.kept hg (.inr h1), h.len, fun i v r hv hr => (h.row i v r hv hr).kept hg (h2 _ _ _ (h.row i v r hv hr)), h.apart⟩
theorem Rws.grown (h : Rws w base g m vs rows) (hg : w.grownBy w' none) : Rws w' base g m vs rows := h.kept hg (by simp) (fun v _ _ _ => by
  cases hb : v.ownBlock
  · exact .inl rfl
  · exact .inr (by simp))
theorem Rws.alloc (h : Rws w base g m vs rows) (o : Obj) : Rws (w.alloc o) base g m vs rows := h.grown (World.grownBy_alloc w o none)
/-- One row is longer. -/
theorem Rws.push (h : Rws w base g m vs rows) {u : Nat} {v v' : Value} {r : List Int} {i : Int} (hv : vs[u]? = some v) (hr : rows[u]? = some r) {W2 : World} (hg : w.grownBy W2 v.ownBlock) (hown : W2.ownsRow base 3 1 v' (r.length + 1) (intsV (r ++ [i])))
    (hloc : v'.ownBlock = v.ownBlock ∨ ∃ g, v'.ownBlock = some g ∧ w.heap.size ≤ g) : Rws (W2.setCell ⟨g, u, none⟩ v') base g m (vs.set u v') (rows.set u (r ++ [i])) ∧ W2.grownBy (W2.setCell ⟨g, u, none⟩ v') (some g) := by
  have hvlen := h.vlen
  have hu := (List.getElem?_eq_some_iff.1 hv).1
  have hne : (Value.slice (some ⟨g, 0, none⟩) m m).ownBlock = none ∨ (Value.slice (some ⟨g, 0, none⟩) m m).ownBlock ≠ v.ownBlock := own_own_ne h.own (h.row u v r hv hr) (by decide)
  have ho2 := h.own.kept hg hne
  obtain ⟨ho3, hg3⟩ := ho2.stored u v'
  have hgl : g < w.heap.size := (h.own.lt g rfl).2
  have nb : ∀ {x : Value} {n : Nat} {xs : List Value}, W2.ownsRow base 3 1 x n xs → x.ownBlock = none ∨ x.ownBlock ≠ some g := fun {x n xs} hx => own_own_ne hx ho2 (by decide)
  have old_new : ∀ (k : Nat) (x : Value), k ≠ u → vs[k]? = some x → x.ownBlock = none ∨ x.ownBlock ≠ v'.ownBlock := by
    intro k x hk hx
    rcases hloc with e | ⟨b, e, hb⟩
    · rw [e]
      exact h.apart k u x v hk hx hv
    · cases hx' : x.ownBlock with
      | none => exact .inl rfl
      | some b' =>
        refine .inr (fun e2 => ?_)
        have hk' : k < rows.length := by rw [h.len, ← hvlen]; exact (List.getElem?_eq_some_iff.1 hx).1
        have := ((h.row k x _ hx (List.getElem?_eq_getElem hk')).lt _ hx').2
        rw [e] at e2
        cases e2
        omega
  refine ⟨⟨ho3, by simp [h.len], ?_, ?_⟩, hg3⟩
  · intro k x q hx hq
    by_cases e : u = k
    · subst e
      rw [List.getElem?_set_self hu] at hx
      rw [List.getElem?_set_self (by rw [h.len, ← hvlen]; exact hu)] at hq
      cases hx
      cases hq
      rw [List.length_append]
      exact hown.kept hg3 (nb hown)
    · rw [List.getElem?_set_ne e] at hx hq
      have := (h.row k x q hx hq).kept hg (h.apart k u x v (fun e' => e e'.symm) hx hv)
      exact this.kept hg3 (nb this)
  · intro k j x y hkj hx hy
    by_cases e : u = k
    · subst e
      rw [List.getElem?_set_self hu] at hx
      cases hx
      rw [List.getElem?_set_ne hkj] at hy
      have := old_new j y (fun e => hkj e.symm) hy
      cases hv' : v'.ownBlock with
      | none => exact .inl rfl
      | some b =>
        refine .inr (fun e2 => ?_)
        rcases this with h | h
        · rw [h] at e2; cases e2
        · exact h (by rw [hv', e2])
    · rw [List.getElem?_set_ne e] at hx
      by_cases e' : u = j
      · subst e'
        rw [List.getElem?_set_self hu] at hy
        cases hy
        exact old_new k x (fun e => hkj e) hx
      · rw [List.getElem?_set_ne e'] at hy
        exact h.apart k j x y hkj hx hy
/-- Made: all nil. -/
theorem Rws.made (hown : w.ownsRow base 35 1 (.slice (some ⟨g, 0, none⟩) m m) m (List.replicate m (.slice none 0 0))) : Rws w base g m (List.replicate m (.slice none 0 0)) (List.replicate m []) where
  own := hown
  len := by simp
  row := by
    intro i v r hv hr
    rw [List.getElem?_replicate] at hv hr
    by_cases hi : i < m
    · rw [if_pos hi] at hv hr
      cases hv
      cases hr
      exact World.ownsRow_nil _ _ _ _
    · rw [if_neg hi] at hv
      cases hv
  apart := by
    intro i j vi vj _ hi _
    rw [List.getElem?_replicate] at hi
    split at hi <;> simp at hi
    subst hi
    exact .inl rfl
end
theorem made_rows (m : Nat) : (madeCells (Value.slice none 0 0).cells (m * 1)).toList = List.replicate m (.slice none 0 0) := by
  rw [Nat.mul_one]
  show (madeCells #[Value.slice none 0 0] m).toList = _
  rw [toList_madeCells_one]
theorem infoInts : (Try.prog.info? 35).map (fun i => (i.zero, i.size, i.bytes)) = some (some (.slice none 0 0), 1, 24) := by kernel_rfl

/-! Which triangles stand at a vertex. -/
def three (t : Tr) (i : Nat) : List (Int × Nat) := [(t.1, i), (t.2.1, i), (t.2.2, i)]
def preT (T : List Tr) (k : Nat) : List (Int × Nat) := (List.range k).flatMap fun i => three (T[i]?.getD (0, 0, 0)) i
def sieve (pre : List (Int × Nat)) (u : Int) : List Nat := (pre.filter fun p => p.1 == u).map (·.2)
def rowsOf (pre : List (Int × Nat)) (m : Nat) : List (List Int) := (List.range m).map fun u : Nat => nats (sieve pre u)
def atV (T : List Tr) (u : Int) : List Nat := sieve (preT T T.length) u
theorem preT_succ {T : List Tr} {k : Nat} {t : Tr} (h : T[k]? = some t) : preT T (k + 1) = preT T k ++ three t k := by
  unfold preT
  rw [List.range_succ, List.flatMap_append]
  simp [h]
theorem rowsOf_at {pre : List (Int × Nat)} {m u : Nat} (h : u < m) : (rowsOf pre m)[u]? = some (nats (sieve pre u)) := by simp [rowsOf, h]
theorem rowsOf_snoc {pre : List (Int × Nat)} {m u i : Nat} : rowsOf (pre ++ [((u : Int), i)]) m = (rowsOf pre m).set u (nats (sieve pre u) ++ [(i : Int)]) := by
  apply List.ext_getElem?
  intro k
  rw [List.getElem?_set]
  by_cases hk : k < m
  · rw [rowsOf_at hk]
    by_cases e : u = k
    · subst e
      rw [if_pos rfl, if_pos (by simp [rowsOf]; exact hk)]
      simp [sieve, nats]
    · rw [if_neg e, rowsOf_at hk]
      have : ((u : Int) == (k : Int)) = false := by simp; omega
      simp [sieve, this]
  · rw [List.getElem?_eq_none (by simp [rowsOf]; omega)]
    by_cases e : u = k
    · subst e
      rw [if_pos rfl, if_neg (by simp [rowsOf]; omega)]
    · rw [if_neg e, List.getElem?_eq_none (by simp [rowsOf]; omega)]
theorem rowsOf_nil (m : Nat) : rowsOf [] m = List.replicate m [] := by
  apply List.ext_getElem?
  intro k
  by_cases hk : k < m
  · rw [rowsOf_at hk, List.getElem?_replicate, if_pos hk]
    rfl
  · rw [List.getElem?_eq_none (by simp [rowsOf]; omega), List.getElem?_eq_none (by simp; omega)]
theorem sieve_length (pre : List (Int × Nat)) (u : Int) : (sieve pre u).length ≤ pre.length := by
  unfold sieve
  rw [List.length_map]
  exact List.length_filter_le _ _
theorem preT_length (T : List Tr) (k : Nat) : (preT T k).length = 3 * k := by
  induction k with
  | zero => rfl
  | succ k ih =>
    unfold preT at ih ⊢
    rw [List.range_succ, List.flatMap_append, List.length_append, ih]
    simp [three]
    omega
theorem preT_mem {T : List Tr} {k : Nat} {u : Int} {i : Nat} : (u, i) ∈ preT T k ↔ i < k ∧ hasV (T[i]?.getD (0, 0, 0)) u := by
  simp only [preT, three, List.mem_flatMap, List.mem_range, List.mem_cons, List.not_mem_nil, or_false, Prod.mk.injEq, hasV]
  constructor
  · rintro ⟨j, hj, h⟩
    rcases h with ⟨rfl, rfl⟩ | ⟨rfl, rfl⟩ | ⟨rfl, rfl⟩
    · exact ⟨hj, .inl rfl⟩
    · exact ⟨hj, .inr (.inl rfl)⟩
    · exact ⟨hj, .inr (.inr rfl)⟩
  · rintro ⟨hi, h⟩
    refine ⟨i, hi, ?_⟩
    rcases h with rfl | rfl | rfl
    · exact .inl ⟨rfl, rfl⟩
    · exact .inr (.inl ⟨rfl, rfl⟩)
    · exact .inr (.inr ⟨rfl, rfl⟩)
theorem sieve_mem {pre : List (Int × Nat)} {u : Int} {i : Nat} : i ∈ sieve pre u ↔ (u, i) ∈ pre := by
  simp only [sieve, List.mem_map, List.mem_filter, beq_iff_eq]
  constructor
  · rintro ⟨⟨a, b⟩, ⟨h1, h2⟩, h3⟩
    simp only at h2 h3
    subst h2
    subst h3
    exact h1
  · intro h
    exact ⟨(u, i), ⟨h, rfl⟩, rfl⟩
theorem atV_mem {T : List Tr} {u : Int} {i : Nat} : i ∈ atV T u ↔ ∃ t, T[i]? = some t ∧ hasV t u := by
  unfold atV
  rw [sieve_mem, preT_mem]
  constructor
  · rintro ⟨h1, h2⟩
    rw [List.getElem?_eq_getElem h1] at h2
    exact ⟨_, List.getElem?_eq_getElem h1, h2⟩
  · rintro ⟨t, h1, h2⟩
    refine ⟨(List.getElem?_eq_some_iff.1 h1).1, ?_⟩
    rw [h1]
    exact h2
theorem sieve_three (t : Tr) (i : Nat) (u : Int) (h : simple3 t) : sieve (three t i) u = [] ∨ sieve (three t i) u = [i] := by
  obtain ⟨x, y, z⟩ := t
  obtain ⟨h1, h2, h3⟩ := h
  simp only at h1 h2 h3
  by_cases a : x = u
  · subst a
    have b : (y == x) = false := by simpa using fun e => h1 e.symm
    have c : (z == x) = false := by simpa using h3
    right
    simp [sieve, three, b, c]
  · have a' : (x == u) = false := by simpa using a
    by_cases b : y = u
    · subst b
      have c : (z == y) = false := by simpa using fun e => h2 e.symm
      right
      simp [sieve, three, a', c]
    · have b' : (y == u) = false := by simpa using b
      by_cases c : z = u
      · subst c
        right
        simp [sieve, three, a', b']
      · have c' : (z == u) = false := by simpa using c
        left
        simp [sieve, three, a', b', c']
theorem sieve_nodup {T : List Tr} (h : ∀ t ∈ T, simple3 t) (u : Int) : ∀ k, k ≤ T.length → (sieve (preT T k) u).Nodup
  | 0, _ => by simp [preT, sieve]
  | k + 1, hk => by
    have ht : T[k]? = some T[k] := List.getElem?_eq_getElem (by omega)
    rw [preT_succ ht]
    have e : sieve (preT T k ++ three T[k] k) u = sieve (preT T k) u ++ sieve (three T[k] k) u := by simp [sieve]
    rw [e, List.nodup_append]
    refine ⟨sieve_nodup h u k (by omega), ?_, ?_⟩
    · rcases sieve_three T[k] k u (h _ (List.getElem_mem _)) with e | e <;> simp [e]
    · intro a ha b hb e2
      subst e2
      rw [sieve_mem, preT_mem] at ha
      rcases sieve_three T[k] k u (h _ (List.getElem_mem _)) with e | e
      · rw [e] at hb; cases hb
      · rw [e, List.mem_singleton] at hb
        omega
theorem atV_nodup {T : List Tr} (h : ∀ t ∈ T, simple3 t) (u : Int) : (atV T u).Nodup := sieve_nodup h u _ (Nat.le_refl _)
theorem atV_some {T : List Tr} {u : Int} (h : u ∈ flatT T) : atV T u ≠ [] := by
  simp only [flatT, List.mem_flatMap] at h
  obtain ⟨t, ht, hu⟩ := h
  obtain ⟨i, hi⟩ := List.mem_iff_getElem?.1 ht
  have : i ∈ atV T u := atV_mem.2 ⟨t, hi, by simpa [hasV] using hu⟩
  intro e
  rw [e] at this
  cases this
theorem atV_lt {T : List Tr} {u : Int} : ∀ i ∈ atV T u, i < T.length := fun i hi => by
  obtain ⟨t, ht, _⟩ := atV_mem.1 hi
  exact (List.getElem?_eq_some_iff.1 ht).1
theorem atV_length {T : List Tr} (h : ∀ t ∈ T, simple3 t) (u : Int) : (atV T u).length ≤ T.length := by
  have := Jor.nodup_le (m := List.range T.length) (atV_nodup h u) (fun i hi => List.mem_range.2 (atV_lt i hi))
  simpa using this
end Go.Proofs.Ytpnkhgjjlionnaa
namespace Go.Proofs.Ytpnkhgjjlionnaa
open Go.RowKit Go.Maps

theorem IQ.slen {w : World} {base : Nat} {v : Value} {zs : List Int} (h : IQ w base v zs) : sliceLen v = zs.length := by
  obtain ⟨ao, c, rfl⟩ := h.form
  rfl
theorem nats_at {l : List Nat} {j i : Nat} (h : l[j]? = some i) : (nats l)[j]? = some (i : Int) := by simp [nats, h]
theorem told_take {T : List Tr} {v : Int} {l : List Nat} {j i : Nat} {x y z : Int} (h : l[j]? = some i) (ht : T[i]? = some (x, y, z)) : told T v (l.take (j + 1)) = told T v (l.take j) ++ tells v (x, y, z) i := by
  obtain ⟨hk, he⟩ := List.getElem?_eq_some_iff.1 h
  rw [List.take_succ_eq_append_getElem hk, he, told_snoc, ht]
  rfl
def tells1 (v x : Int) (i : Nat) : List (Int × Nat) := if x = v then [] else [(x, i)]
theorem tells_eq (v x y z : Int) (i : Nat) : tells v (x, y, z) i = tells1 v x i ++ tells1 v y i ++ tells1 v z i := by
  unfold tells tells1
  by_cases a : x = v <;> by_cases b : y = v <;> by_cases c : z = v <;> simp [a, b, c]
def tellsN (v x y z : Int) (i j : Nat) : List (Int × Nat) := (if 1 ≤ j then tells1 v x i else []) ++ (if 2 ≤ j then tells1 v y i else []) ++ (if 3 ≤ j then tells1 v z i else [])
theorem told_length (T : List Tr) (v : Int) (l : List Nat) : (told T v l).length ≤ 3 * l.length := by
  unfold told
  induction l with
  | nil => simp
  | cons a l ih =>
    rw [List.flatMap_cons, List.length_append, List.length_cons]
    have := tells_length v (T[a]?.getD (0, 0, 0)) a
    omega

theorem tellsN_length (v x y z : Int) (i j : Nat) : (tellsN v x y z i j).length ≤ 3 := by
  have h1 : ∀ u, (tells1 v u i).length ≤ 1 := fun u => by unfold tells1; split <;> simp
  have a := h1 x
  have b := h1 y
  have c := h1 z
  unfold tellsN
  simp only [List.length_append]
  split <;> split <;> split <;> simp <;> omega
theorem Ends.len {f : Value → List Int} {pre : List (Int × Nat)} (h : Ends f pre) (x : Int) : (f (.int .i64 x)).length ≤ pre.length := by
  obtain ⟨l, h1, _, h3⟩ := h x
  rw [h1, nats_length]
  exact h3
set_option maxRecDepth 100000 in
set_option maxHeartbeats 4000000 in
theorem together_any (N v : Int) (vT vl : Value) (T : List Tr) (l : List Nat) (w : World) (h : TrisRd w vT T) (hr : IntsRd w vl (nats l)) (hT : T.length ≤ 8192) (hll : l.length ≤ 8192) (hi : ∀ i ∈ l, i < T.length) (h0 : l ≠ []) (hnd : l.Nodup) (hin : ∀ t ∈ T, in3 N t) (hN : N ≤ 4096) :
    Calls Try.prog 124 #[.agg #[.int .i64 N, vT], .int .i64 v, vl] w fun e w' => ∃ b : Bool, e = .returned (.bool b) ∧ (b = true ↔ ConnV T v l) ∧ Below w.heap.size w w' := by
  obtain ⟨i2, hj', hz0, hz1, hz2⟩ := info_parts infoInt
  obtain ⟨aT, cT, rfl, hc1, hc2, hrT⟩ := h
  obtain ⟨al, cl, rfl, hl1, hrl⟩ := hr
  rw [nats_length] at hl1 ⊢
  have HT := Lib.hid hrT
  have HL := Lib.hid hrl
  have HI := Lib.hid hi
  have HIN := Lib.hid hin
  have HND := Lib.hid hnd
  have b1 := Blk.new w 24 #[.int .i64 N, .slice aT T.length cT]
  have hB0 : Below w.heap.size w (w.alloc (.cells #[.int .i64 N, .slice aT T.length cT] 24)) := (Below.refl _ _).alloc (Nat.le_refl _) _
  have g0 := Grp.made (w.alloc (.cells #[.int .i64 N, .slice aT T.length cT] 24)) Try.prog 3 3 (base := w.heap.size + 2) (by rw [size_alloc']; omega)
  rw [size_alloc'] at g0
  have hB1 := hB0.alloc hB0.size (.map #[] 0)
  have b2 := b1.alloc (.map #[] 0)
  obtain ⟨n, hn⟩ : ∃ n, T.length = n := ⟨_, rfl⟩
  obtain ⟨m, hm⟩ : ∃ m, l.length = m := ⟨_, rfl⟩
  rw [hn] at hT hc1 hB1 b2 g0 ⊢
  rw [hm] at hll hl1 ⊢
  have HN := Lib.hid hn
  have HM := Lib.hid hm
  have hm0 : 0 < m := by
    rw [← hm]
    exact List.length_pos_iff.2 h0
  have ix0 := @index_t0
  have ix1 := @index_t1
  have ix2 := @index_t2
  have hmm := @run_makeMap Try.prog
  clear hrT hrl hi hin hnd hn hm h0 b1 hB0
  go_enter Try.func124, Try.ntmps124
  go_wp2
  clear hmm
  go_loopw [22] (fun i wr => ∃ (j : Nat) (f : Value → List Int), j ≤ m ∧ i = .int .i64 j ∧ Grp Try.prog 3 (w.heap.size + 2) 3 wr (w.heap.size + 1) f ∧ Ends f (told T v (l.take j)) ∧ Blk wr w.heap.size 24 #[.int .i64 N, .slice aT n cT] ∧ Below w.heap.size w wr) (fun i _ => m - (intOf i).toNat)
  case atStart => exact ⟨0, _, Nat.zero_le _, rfl, g0, by simpa [told] using Ends.nil, b2, hB1⟩
  case round =>
    clear g0 b2 hB1
    obtain ⟨j, f, hj, rfl, hg, hE, hb, hB⟩ := hrel
    rename World => wr
    by_cases hlt : j < m
    · obtain ⟨i, hil⟩ : ∃ i, l[j]? = some i := ⟨l[j]'(by have := HM.out; omega), List.getElem?_eq_getElem _⟩
      have hin := HI.out i (List.mem_of_getElem? hil)
      obtain ⟨bl, ol, rfl, hbl, sl⟩ := HL.out j _ (nats_at hil)
      have sl' := (hB.cell (p := ⟨bl, _, none⟩) hbl).trans sl
      obtain ⟨t, ht⟩ : ∃ t, T[i]? = some t := ⟨T[i], List.getElem?_eq_getElem _⟩
      obtain ⟨x, y, z⟩ := t
      obtain ⟨⟨o1, o2⟩, ⟨o3, o4⟩, ⟨o5, o6⟩⟩ := HIN.out _ (List.mem_of_getElem? ht)
      simp only at o1 o2 o3 o4 o5 o6
      obtain ⟨b, o, rfl, hbT, s0, s1, s2⟩ := HT.out i x y z ht
      have s0' := (hB.cell (p := ⟨b, _, none⟩) hbT).trans s0
      have s1' := (hB.cell (p := ⟨b, _, none⟩) hbT).trans s1
      have s2' := (hB.cell (p := ⟨b, _, none⟩) hbT).trans s2
      obtain ⟨ly, y0, -, y1, -⟩ := hb.two
      rw [HN.out] at hin
      have hi3 : (i : Int) < (n : Int) := by omega
      have hi0 : (0 : Int) ≤ (i : Int) := by omega
      have hk3 : (j : Int) < (m : Int) := by omega
      have hk0 : (0 : Int) ≤ (j : Int) := by omega
      have Hts := Lib.hid (told_take (v := v) hil ht)
      have Htl : Hid ((told T v (l.take j)).length ≤ 3 * j) := Lib.hid (by
        have := told_length T v (l.take j)
        have := List.length_take_le j l
        omega)
      have HE := Lib.hid hE
      have Hg := Lib.hid hg
      have Hb := Lib.hid hb
      clear sl s0 s1 s2 hil ht hE hg hb
      go_wp2
      rename World => wA
      go_loopw [31] (fun ix wq => ∃ (q : Nat) (f' : Value → List Int), q ≤ 3 ∧ ix = .int .i64 q ∧ Grp Try.prog 3 (w.heap.size + 2) 3 wq (w.heap.size + 1) f' ∧ Ends f' (told T v (l.take j) ++ tellsN v x y z i q) ∧ Blk wq w.heap.size 24 #[.int .i64 N, .slice (some ⟨b, o, none⟩) n cT] ∧ Below w.heap.size w wq) (fun ix _ => 3 - (intOf ix).toNat)
      case atStart => exact ⟨0, f, by omega, rfl, Hg.out, by simpa [tellsN] using HE.out, Hb.out, hB⟩
      case round =>
        clear Hg HE Hb hB y0 y1 ly s0' s1' s2' sl'
        clear f
        obtain ⟨q, f', hq, rfl, hg, hE2, hb, hB⟩ := hrel
        rename World => wq
        have HE2 := Lib.hid hE2
        clear hE2
        have hq' : q = 0 ∨ q = 1 ∨ q = 2 ∨ q = 3 := by omega
        rcases hq' with rfl | rfl | rfl | rfl
        · have hts : tellsN v x y z i 1 = tellsN v x y z i 0 ++ tells1 v x i := by simp [tellsN]
          by_cases hcv : x = v
          · have hb1 : (x != v) = false := by simp [hcv]
            have Hn : Hid (tells1 v x i = []) := Lib.hid (by simp [tells1, hcv])
            have Hts2 := Lib.hid hts
            have Hgq := Lib.hid hg
            clear hcv hts hg
            go_wp2
            go_roundw
            case measure => simp [intOf]
            case rel => exact ⟨1, f', by omega, by simp, Hgq.out, by rw [Hts2.out, Hn.out, List.append_nil]; exact HE2.out, hb, hB⟩
          · have hb1 : (x != v) = true := by simp [hcv]
            have Hn : Hid (tells1 v x i = [(x, i)]) := Lib.hid (by simp [tells1, hcv])
            have Hts2 := Lib.hid hts
            have hln := HE2.out.len x
            have hln2 := tellsN_length v x y z i 0
            rw [List.length_append] at hln
            have htl := Htl.out
            have c6 : (f' (.int .i64 x)).length + 1 ≤ maxLen := by unfold maxLen; omega
            have c7 : ((f' (.int .i64 x)).length + 1) * 8 ≤ 140737488355328 := by omega
            have hkey := keyOf_int_mk (P := Try.prog) (k := 3) (q := .i64) Try.underlying3 (wfS (x := x) ⟨by omega, by omega⟩)
            have hszq := hB.size
            have hgl := hg.lt
            clear hcv hts hln hln2 htl
            go_wp2_with (first
              | (at_lookup; refine wpList_lookupG2 hg rfl _ _ 190 35 rfl (int_keyed Try.underlying3) Try.underlying190 (zero_ints _) rfl (.int .i64 x) rfl hkey ?_; intro v0 hr0 hup)
              | (at_builtin; refine wpList_append_lies _ rfl (.tmp 41) (.tmp 43) 35 rfl (w.heap.size + 2) 3 i2 _ 1 8 Try.underlying35 hj' hz0 hz1 hz2 rfl (by decide) v0 (f' (.int .i64 x)).length (intsV (f' (.int .i64 x))) rfl (hr0.alloc _) ⟨wq.heap.size, 0, none⟩ 1 1 [.int .i64 i] rfl rfl (World.news_of_block (heap_alloc_new _ _)) (by simp [Value.oneCell']) (by decide) c6 c7 (by rw [size_alloc']; omega) (wq.heap.size + 1) (by simp) ?_; intro g6 cap6 W6 hr6 hg6 hat6 _; have hz6 := hg6.size; rw [size_alloc'] at hz6; obtain ⟨W7, hrun7, hG7, hg7, hs7⟩ := hup W6 (.slice (some ⟨g6, 0, none⟩) ((f' (.int .i64 x)).length + 1) cap6) (f' (.int .i64 x) ++ [(i : Int)]) (gGrown (World.grownBy_alloc _ _ _) hg6 (row := v0.ownBlock) (fun _ e => .inl e)) (by simpa [intsV] using hr6) (hat6.imp (fun e => e.symm) (fun e => ⟨g6, rfl, by omega⟩)))
              | (at_mapUpdate; refine wpList_mapUpdate rfl _ _ _ 190 rfl rfl rfl rfl hrun7 ?_))
            go_roundw
            case measure => simp [intOf]
            case rel => exact ⟨1, _, by omega, by simp, hG7, by rw [Hts2.out, Hn.out, ← List.append_assoc]; exact HE2.out.put x i, ((hb.alloc _).grown hg6 (fun e => by have := (hr0.lt _ e.symm).1; omega)).grown hg7 (by simp), ((hB.alloc hszq _).grown hg6 (by rw [size_alloc']; omega) (fun j e => by have := (hr0.lt j e).1; omega)).grown hg7 (by omega) (fun j e => by cases e; omega)⟩
        · have hts : tellsN v x y z i 2 = tellsN v x y z i 1 ++ tells1 v y i := by simp [tellsN]
          by_cases hcv : y = v
          · have hb1 : (y != v) = false := by simp [hcv]
            have Hn : Hid (tells1 v y i = []) := Lib.hid (by simp [tells1, hcv])
            have Hts2 := Lib.hid hts
            have Hgq := Lib.hid hg
            clear hcv hts hg
            go_wp2
            go_roundw
            case measure => simp [intOf]
            case rel => exact ⟨2, f', by omega, by simp, Hgq.out, by rw [Hts2.out, Hn.out, List.append_nil]; exact HE2.out, hb, hB⟩
          · have hb1 : (y != v) = true := by simp [hcv]
            have Hn : Hid (tells1 v y i = [(y, i)]) := Lib.hid (by simp [tells1, hcv])
            have Hts2 := Lib.hid hts
            have hln := HE2.out.len y
            have hln2 := tellsN_length v x y z i 1
            rw [List.length_append] at hln
            have htl := Htl.out
            have c6 : (f' (.int .i64 y)).length + 1 ≤ maxLen := by unfold maxLen; omega
            have c7 : ((f' (.int .i64 y)).length + 1) * 8 ≤ 140737488355328 := by omega
            have hkey := keyOf_int_mk (P := Try.prog) (k := 3) (q := .i64) Try.underlying3 (wfS (x := y) ⟨by omega, by omega⟩)
            have hszq := hB.size
            have hgl := hg.lt
            clear hcv hts hln hln2 htl
            go_wp2_with (first
              | (at_lookup; refine wpList_lookupG2 hg rfl _ _ 190 35 rfl (int_keyed Try.underlying3) Try.underlying190 (zero_ints _) rfl (.int .i64 y) rfl hkey ?_; intro v0 hr0 hup)
              | (at_builtin; refine wpList_append_lies _ rfl (.tmp 41) (.tmp 43) 35 rfl (w.heap.size + 2) 3 i2 _ 1 8 Try.underlying35 hj' hz0 hz1 hz2 rfl (by decide) v0 (f' (.int .i64 y)).length (intsV (f' (.int .i64 y))) rfl (hr0.alloc _) ⟨wq.heap.size, 0, none⟩ 1 1 [.int .i64 i] rfl rfl (World.news_of_block (heap_alloc_new _ _)) (by simp [Value.oneCell']) (by decide) c6 c7 (by rw [size_alloc']; omega) (wq.heap.size + 1) (by simp) ?_; intro g6 cap6 W6 hr6 hg6 hat6 _; have hz6 := hg6.size; rw [size_alloc'] at hz6; obtain ⟨W7, hrun7, hG7, hg7, hs7⟩ := hup W6 (.slice (some ⟨g6, 0, none⟩) ((f' (.int .i64 y)).length + 1) cap6) (f' (.int .i64 y) ++ [(i : Int)]) (gGrown (World.grownBy_alloc _ _ _) hg6 (row := v0.ownBlock) (fun _ e => .inl e)) (by simpa [intsV] using hr6) (hat6.imp (fun e => e.symm) (fun e => ⟨g6, rfl, by omega⟩)))
              | (at_mapUpdate; refine wpList_mapUpdate rfl _ _ _ 190 rfl rfl rfl rfl hrun7 ?_))
            go_roundw
            case measure => simp [intOf]
            case rel => exact ⟨2, _, by omega, by simp, hG7, by rw [Hts2.out, Hn.out, ← List.append_assoc]; exact HE2.out.put y i, ((hb.alloc _).grown hg6 (fun e => by have := (hr0.lt _ e.symm).1; omega)).grown hg7 (by simp), ((hB.alloc hszq _).grown hg6 (by rw [size_alloc']; omega) (fun j e => by have := (hr0.lt j e).1; omega)).grown hg7 (by omega) (fun j e => by cases e; omega)⟩
        · have hts : tellsN v x y z i 3 = tellsN v x y z i 2 ++ tells1 v z i := by simp [tellsN]
          by_cases hcv : z = v
          · have hb1 : (z != v) = false := by simp [hcv]
            have Hn : Hid (tells1 v z i = []) := Lib.hid (by simp [tells1, hcv])
            have Hts2 := Lib.hid hts
            have Hgq := Lib.hid hg
            clear hcv hts hg
            go_wp2
            go_roundw
            case measure => simp [intOf]
            case rel => exact ⟨3, f', by omega, by simp, Hgq.out, by rw [Hts2.out, Hn.out, List.append_nil]; exact HE2.out, hb, hB⟩
          · have hb1 : (z != v) = true := by simp [hcv]
            have Hn : Hid (tells1 v z i = [(z, i)]) := Lib.hid (by simp [tells1, hcv])
            have Hts2 := Lib.hid hts
            have hln := HE2.out.len z
            have hln2 := tellsN_length v x y z i 2
            rw [List.length_append] at hln
            have htl := Htl.out
            have c6 : (f' (.int .i64 z)).length + 1 ≤ maxLen := by unfold maxLen; omega
            have c7 : ((f' (.int .i64 z)).length + 1) * 8 ≤ 140737488355328 := by omega
            have hkey := keyOf_int_mk (P := Try.prog) (k := 3) (q := .i64) Try.underlying3 (wfS (x := z) ⟨by omega, by omega⟩)
            have hszq := hB.size
            have hgl := hg.lt
            clear hcv hts hln hln2 htl
            go_wp2_with (first
              | (at_lookup; refine wpList_lookupG2 hg rfl _ _ 190 35 rfl (int_keyed Try.underlying3) Try.underlying190 (zero_ints _) rfl (.int .i64 z) rfl hkey ?_; intro v0 hr0 hup)
              | (at_builtin; refine wpList_append_lies _ rfl (.tmp 41) (.tmp 43) 35 rfl (w.heap.size + 2) 3 i2 _ 1 8 Try.underlying35 hj' hz0 hz1 hz2 rfl (by decide) v0 (f' (.int .i64 z)).length (intsV (f' (.int .i64 z))) rfl (hr0.alloc _) ⟨wq.heap.size, 0, none⟩ 1 1 [.int .i64 i] rfl rfl (World.news_of_block (heap_alloc_new _ _)) (by simp [Value.oneCell']) (by decide) c6 c7 (by rw [size_alloc']; omega) (wq.heap.size + 1) (by simp) ?_; intro g6 cap6 W6 hr6 hg6 hat6 _; have hz6 := hg6.size; rw [size_alloc'] at hz6; obtain ⟨W7, hrun7, hG7, hg7, hs7⟩ := hup W6 (.slice (some ⟨g6, 0, none⟩) ((f' (.int .i64 z)).length + 1) cap6) (f' (.int .i64 z) ++ [(i : Int)]) (gGrown (World.grownBy_alloc _ _ _) hg6 (row := v0.ownBlock) (fun _ e => .inl e)) (by simpa [intsV] using hr6) (hat6.imp (fun e => e.symm) (fun e => ⟨g6, rfl, by omega⟩)))
              | (at_mapUpdate; refine wpList_mapUpdate rfl _ _ _ 190 rfl rfl rfl rfl hrun7 ?_))
            go_roundw
            case measure => simp [intOf]
            case rel => exact ⟨3, _, by omega, by simp, hG7, by rw [Hts2.out, Hn.out, ← List.append_assoc]; exact HE2.out.put z i, ((hb.alloc _).grown hg6 (fun e => by have := (hr0.lt _ e.symm).1; omega)).grown hg7 (by simp), ((hB.alloc hszq _).grown hg6 (by rw [size_alloc']; omega) (fun j e => by have := (hr0.lt j e).1; omega)).grown hg7 (by omega) (fun j e => by cases e; omega)⟩
        · have HE3 : Hid (Ends f' (told T v (l.take (j + 1)))) := Lib.hid (by
            rw [Hts.out, tells_eq]
            have := HE2.out
            simpa [tellsN] using this)
          have Hgq := Lib.hid hg
          clear hg
          go_wp2
          go_roundw
          case measure => simp [intOf]; omega
          case rel => exact ⟨j + 1, f', by omega, by go_num, Hgq.out, HE3.out, hb, hB⟩
    · obtain rfl : j = m := by omega
      obtain ⟨i, hil⟩ : ∃ i, l[0]? = some i := ⟨l[0]'(by have := HM.out; omega), List.getElem?_eq_getElem _⟩
      have hin := HI.out i (List.mem_of_getElem? hil)
      obtain ⟨bl, ol, rfl, hbl, sl⟩ := HL.out 0 _ (nats_at hil)
      rw [Nat.add_zero] at sl
      have sl' := (hB.cell (p := ⟨bl, _, none⟩) hbl).trans sl
      have hbl2 : bl < wr.heap.size := Nat.lt_of_lt_of_le hbl hB.size
      rw [HN.out] at hin
      have hmm2 := HM.out
      rw [List.take_of_length_le (by omega)] at hE
      have HE := Lib.hid hE
      have Hg := Lib.hid hg
      have Hb := Lib.hid hb
      have hks := KSet.made wr Try.prog 3
      have hkey := keyOf_int_mk (P := Try.prog) (k := 3) (q := .i64) Try.underlying3 (wfS (x := (i : Int)) ⟨by omega, by omega⟩)
      have hB1x := hB
      have sl2 := ((Below.refl _ wr).alloc (Nat.le_refl _) (.map #[] 0)).cell (p := ⟨bl, ol, none⟩) hbl2
      have sl3 := sl2.trans sl'
      have hmk := @run_makeMap Try.prog
      have hB2 := hB.size
      have HIL := Lib.hid hil
      clear sl sl2 hE hg hb hmm2 hil
      go_wp2_with (refine wpList_storeK hks rfl _ _ _ 109 (.inr rfl) (int_keyed Try.underlying3) Try.underlying109 rfl (.int .i64 i) rfl rfl hkey (by simp) ?_; intro w5 hk5 hg5 hs5; clear hmk; rw [size_alloc'] at hs5; have sl5 := (hg5.cell sl3 (by simp; omega)))
      have hbq := Blk.new w5 3 #[.int .i64 i]
      rw [hs5] at hbq
      have hq0 : IQ (w5.alloc (.cells #[.int .i64 i] 3)) (wr.heap.size + 1) (.slice (some ⟨wr.heap.size + 1, 0, none⟩) 1 1) (nats [i]) := IQ.one hbq (Nat.le_refl _)
      have hk0 : KSet Try.prog 3 (w5.alloc (.cells #[.int .i64 i] 3)) wr.heap.size (intsV (nats [i])) := by
        have := hk5.alloc (.cells #[.int .i64 i] 3)
        simpa [intsV, nats] using this
      have hB5 : Below wr.heap.size wr (w5.alloc (.cells #[.int .i64 i] 3)) := (((Below.refl _ wr).alloc (Nat.le_refl _) (.map #[] 0)).grown hg5 (by rw [size_alloc']; omega) (fun j e => by cases e; omega)).alloc (by omega) _
      have hbf : Bfs T v l [i] [i] := Bfs.start (by have := HIL.out; rw [List.head?_eq_getElem?]; exact this)
      have Hq0 := Lib.hid hq0
      have Hk0 := Lib.hid hk0
      have Hb0 := Lib.hid hbf
      clear hbq hq0 hk0 hbf hks hk5 hg5 hs5 sl5 sl3 hkey HIL
      go_loopw [13] (fun v13 wz => ∃ (v' : Value) (R Q : List Nat), v' = v13 ∧ IQ wz (wr.heap.size + 1) v' (nats Q) ∧ KSet Try.prog 3 wz wr.heap.size (intsV (nats R)) ∧ Bfs T v l R Q ∧ Below wr.heap.size wr wz) (fun v13 wz => 2 * (j - mapSize wz wr.heap.size) + sliceLen v13)
      case atStart => exact ⟨_, [i], [i], rfl, Hq0.out, Hk0.out, Hb0.out, hB5⟩
      case round =>
        clear Hq0 Hk0 Hb0 hB5
        obtain ⟨v13, R, Q, rfl, hIQ, hks, hbf, hB5⟩ := hrel
        rename World => wz
        cases Q with
        | nil =>
          obtain ⟨ao, cq, rfl⟩ := hIQ.form
          have hfin := hbf.finish HND.out
          rw [HM.out] at hfin
          obtain ⟨ks, hke⟩ : ∃ ks, ks = intsV (nats R) := ⟨_, rfl⟩
          have hkl : ks.length = R.length := by rw [hke]; simp [intsV, nats]
          rw [← hke] at hks
          have hB6 := hB1x.trans (hB5.mono hB1x.size)
          have HB6 := Lib.hid hB6
          have Hks := Lib.hid hks
          by_cases hfe : R.length = j
          · have hb1 : ((ks.length : Int) == (j : Int)) = true := by rw [hkl, hfe]; simp
            have Hc := Lib.hid (hfin.1 hfe)
            clear hfe hfin hkl hke hbf hIQ hB5 hks hB6
            go_wp2_with (refine wpList_lenK Hks.out rfl _ 109 rfl Try.underlying109 rfl ?_)
            go_ret
            exact ⟨true, rfl, by simp [Hc.out], HB6.out⟩
          · have hb1 : ((ks.length : Int) == (j : Int)) = false := by rw [hkl]; simp; omega
            have Hc := Lib.hid (fun h => hfe (hfin.2 h))
            clear hfe hfin hkl hke hbf hIQ hB5 hks hB6
            go_wp2_with (refine wpList_lenK Hks.out rfl _ 109 rfl Try.underlying109 rfl ?_)
            go_ret
            exact ⟨false, rfl, ⟨fun e => Bool.noConfusion e, fun h => (Hc.out h).elim⟩, HB6.out⟩
        | cons i Q =>
          have hin : i < n := by
            have := HI.out i (hbf.sub i (hbf.wait i (List.mem_cons_self ..)))
            rw [HN.out] at this
            exact this
          obtain ⟨bq, oq, cq, rfl, hcq, hbq, hbq2, hqc, _⟩ := (show IQ wz (wr.heap.size + 1) v13 ((i : Int) :: nats Q) from hIQ).cons
          rw [nats_length] at hcq hIQ ⊢
          obtain ⟨t, ht⟩ : ∃ t, T[i]? = some t := ⟨T[i]'(by rw [HN.out]; exact hin), List.getElem?_eq_getElem _⟩
          obtain ⟨x, y, z⟩ := t
          obtain ⟨⟨o1, o2⟩, ⟨o3, o4⟩, ⟨o5, o6⟩⟩ := HIN.out _ (List.mem_of_getElem? ht)
          simp only at o1 o2 o3 o4 o5 o6
          obtain ⟨b, o, rfl, hbT, s0, s1, s2⟩ := HT.out i x y z ht
          have hBz := hB1x.trans (hB5.mono hB1x.size)
          have s0' := (hBz.cell (p := ⟨b, _, none⟩) hbT).trans s0
          have s1' := (hBz.cell (p := ⟨b, _, none⟩) hbT).trans s1
          have s2' := (hBz.cell (p := ⟨b, _, none⟩) hbT).trans s2
          obtain ⟨ly, y0, -, y1, -⟩ := (Hb.out.below hB5 Hb.out.lt).two
          have HTi := Lib.hid ht
          have hi3 : (i : Int) < (n : Int) := by omega
          have hi0 : (0 : Int) ≤ (i : Int) := by omega
          have hat := hbf.pop
          have hRm : R.length ≤ j := by
            have := Jor.nodup_le hbf.nd hbf.sub
            rw [HM.out] at this
            exact this
          have hszk : mapSize wz wr.heap.size = R.length := by rw [hks.size]; simp [intsV, nats]
          have Hszk := Lib.hid hszk
          obtain ⟨M, hM⟩ : ∃ M, 2 * (j - R.length) + Q.length = M := ⟨_, rfl⟩
          have HMM := Lib.hid hM
          have hQl : Q.length ≤ 1000000 := by have := hat.le; omega
          have hmu : 2 * (j - R.length) + Q.length ≤ M := by omega
          have Hat := Lib.hid hat
          have Hks := Lib.hid hks
          have hIQ' : IQ wz (wr.heap.size + 1) (.slice (some ⟨bq, oq, none⟩) (Q.length + 1) cq) ((i : Int) :: nats Q) := hIQ
          have HIQ := Lib.hid hIQ'
          clear s0 s1 s2 ht hat hszk hM hks hIQ hIQ' hbf
          go_wp2_with (refine wpList_tailQ HIQ.out rfl _ 35 rfl Try.underlying35 hj' hz1 rfl ?_; intro v13 hq13)
          have Hq13 := Lib.hid hq13
          clear hq13
          go_loopw [13, 69] (fun v13 ix wx => ∃ (v' : Value) (R Q : List Nat) (q : Nat), v' = v13 ∧ q ≤ 3 ∧ ix = .int .i64 q ∧ IQ wx (wr.heap.size + 1) v' (nats Q) ∧ KSet Try.prog 3 wx wr.heap.size (intsV (nats R)) ∧ BfsAt T v l R Q i ([x, y, z].take q) ∧ 2 * (j - R.length) + Q.length ≤ M ∧ Below wr.heap.size wr wx) (fun _ ix _ => 3 - (intOf ix).toNat)
          case atStart => exact ⟨_, R, Q, 0, rfl, by omega, rfl, Hq13.out, Hks.out, Hat.out, hmu, hB5⟩
          case round =>
            rename World => wx
            clear Hq13 Hks Hat hmu hB5 HIQ s0' s1' s2' y0 y1 ly hqc hRm hbq hbq2 hcq hBz hQl
            have HM0 := HMM
            have HR0 := Hszk
            clear HMM Hszk
            obtain ⟨v13, R, Q, q, rfl, hq, rfl, hIQ, hks, hat, hmu, hB⟩ := hrel
            have hq' : q = 0 ∨ q = 1 ∨ q = 2 ∨ q = 3 := by omega
            rcases hq' with rfl | rfl | rfl | rfl
            · by_cases hcv : x = v
              · have hb1 : (x == v) = true := by simp [hcv]
                have Hat2 : Hid (BfsAt T v l R Q i ([x, y, z].take 1)) := Lib.hid (by
                  have e : [x, y, z].take 1 = [x, y, z].take 0 ++ [v] := by simp [hcv]
                  rw [e]
                  exact hat.skip)
                have Hq := Lib.hid hIQ
                have Hk := Lib.hid hks
                clear hcv hat hIQ hks
                go_wp2
                go_roundw
                case measure => simp [intOf]
                case rel => exact ⟨v13, R, Q, 1, rfl, by omega, by simp, Hq.out, Hk.out, Hat2.out, hmu, hB⟩
              · have hb1 : (x == v) = false := by simp [hcv]
                have hkey := keyOf_int_mk (P := Try.prog) (k := 3) (q := .i64) Try.underlying3 (wfS (x := x) ⟨by omega, by omega⟩)
                obtain ⟨le, e1, e2, e3⟩ := HE.out x
                have hlen : (f (.int .i64 x)).length = le.length := by rw [e1, nats_length]
                have hLl : le.length ≤ 3 * 8192 := by
                  have := told_length T v l
                  have := HM.out
                  omega
                obtain ⟨L, hL⟩ : ∃ L, le.length = L := ⟨_, rfl⟩
                rw [hL] at hlen hLl
                have HLe := Lib.hid hL
                have HLen := Lib.hid hlen
                have He1 := Lib.hid e1
                have He2 := Lib.hid e2
                have Hcv := Lib.hid hcv
                have Hq := Lib.hid hIQ
                have Hk := Lib.hid hks
                have Hat := Lib.hid hat
                clear hcv hat hIQ hks e1 e2 e3 hlen hL
                go_wp2_with (at_lookup; refine wpList_lookupGB Hg.out hB rfl _ _ 190 35 rfl (int_keyed Try.underlying3) Try.underlying190 (zero_ints _) rfl (.int .i64 x) rfl hkey ?_; intro v0 hr0; obtain ⟨a0, c0, rfl, hc0⟩ := rowSlice hr0 HLen.out)
                have Hc0 := Lib.hid hc0
                clear hc0 hr0 hkey
                go_loopw [13, 79] (fun v13 ix wy => ∃ (v' : Value) (R Q : List Nat) (p : Nat), v' = v13 ∧ p ≤ L ∧ ix = .int .i64 p ∧ IQ wy (wr.heap.size + 1) v' (nats Q) ∧ KSet Try.prog 3 wy wr.heap.size (intsV (nats R)) ∧ BfsAt T v l R Q i ([x, y, z].take 0) ∧ (∀ k ∈ le.take p, k ∈ R) ∧ 2 * (j - R.length) + Q.length ≤ M ∧ Below wr.heap.size wr wy) (fun _ ix _ => L - (intOf ix).toNat)
                case atStart => exact ⟨_, R, Q, 0, rfl, Nat.zero_le _, rfl, Hq.out, Hk.out, Hat.out, by simp, hmu, hB⟩
                case round =>
                  rename World => wy
                  clear Hq Hk Hat hmu hB
                  obtain ⟨v13, R, Q, p, rfl, hp, rfl, hIQ, hks, hat, hcov, hmu, hB⟩ := hrel
                  by_cases hpl : p < L
                  · obtain ⟨k, hkp⟩ : ∃ k, le[p]? = some k := ⟨le[p]'(by have := HLe.out; omega), List.getElem?_eq_getElem _⟩
                    obtain ⟨g0, rfl, hg0, hcell⟩ := Hc0.out p (k : Int) (by rw [He1.out]; exact nats_at hkp)
                    have hcell' := (hB.cell (p := ⟨g0, _, none⟩) hg0).trans hcell
                    obtain ⟨hkl, _, hkh⟩ := told_mem.1 ((He2.out k).1 (List.mem_of_getElem? hkp))
                    have hkn := HI.out k hkl
                    have hadj : adjV T v i k := ⟨(x, y, z), T[k], x, HTi.out, List.getElem?_eq_getElem hkn, Hcv.out, by simp [hasV], by rw [List.getElem?_eq_getElem hkn] at hkh; exact hkh⟩
                    have hkey := keyOf_int_mk (P := Try.prog) (k := 3) (q := .i64) Try.underlying3 (wfS (x := (k : Int)) ⟨by omega, by have := HN.out; omega⟩)
                    have htk : ∀ RR : List Nat, (∀ k ∈ le.take p, k ∈ RR) → k ∈ RR → ∀ k' ∈ le.take (p + 1), k' ∈ RR := by
                      intro RR h1 h2 k' hk'
                      obtain ⟨hk1, he⟩ := List.getElem?_eq_some_iff.1 hkp
                      rw [List.take_succ_eq_append_getElem hk1, he] at hk'
                      rcases List.mem_append.1 hk' with h | h
                      · exact h1 k' h
                      · rw [List.mem_singleton.1 h]; exact h2
                    have Htk := Lib.hid htk
                    have Hcov := Lib.hid hcov
                    have Hadj := Lib.hid hadj
                    have hp3 : (p : Int) < (L : Int) := by omega
                    have hp0 : (0 : Int) ≤ (p : Int) := by omega
                    have hszy := hB.size
                    have hlt := hks.lt
                    clear htk hcov hadj hcell hkp hkh hkn
                    by_cases hkR : k ∈ R
                    · have Hq := Lib.hid hIQ
                      have Hat := Lib.hid hat
                      clear hIQ hat
                      go_wp2_with (at_lookup; refine wpList_lookupK hks rfl _ _ 109 rfl (int_keyed Try.underlying3) Try.underlying109 (zero_bool _) rfl _ rfl hkey ?_; intro r hir; obtain rfl : r = true := hir.2 (mem_keys.2 hkR))
                      go_roundw
                      case measure => simp [intOf]; omega
                      case rel => exact ⟨v13, R, Q, p + 1, rfl, by omega, by go_num, Hq.out, hks, Hat.out, Htk.out R Hcov.out hkR, hmu, hB⟩
                    · have hat2 := hat.add hkl hkR Hadj.out
                      have hRm : R.length + 1 ≤ j := by
                        have := Jor.nodup_le hat2.nd hat2.sub
                        have := HM.out
                        simp at *
                        omega
                      have hQm := hat.le
                      have hqn : (nats Q).length + 1 ≤ 1000000000 := by rw [nats_length]; omega
                      have Hat2 := Lib.hid hat2
                      have HkR := Lib.hid hkR
                      clear hat hat2 hkR
                      go_wp2_with (first
                        | (at_lookup; refine wpList_lookupK hks rfl _ _ 109 rfl (int_keyed Try.underlying3) Try.underlying109 (zero_bool _) rfl _ rfl hkey ?_; intro r hir; obtain rfl : r = false := (by cases r; rfl; exact absurd (mem_keys.1 (hir.1 rfl)) HkR.out))
                        | (at_mapUpdate; refine wpList_storeK hks rfl _ _ _ 109 (.inl rfl) (int_keyed Try.underlying3) Try.underlying109 rfl (.int .i64 k) rfl rfl hkey (fun h => HkR.out (mem_keys.1 h)) ?_; intro w6 hk6 hg6 hs6; clear hs6; have hs6 := hg6.size)
                        | (at_builtin; refine wpList_pushQ ((hIQ.kept hg6 (fun jj e => by cases e; exact .inl (by omega))).alloc (.cells #[.int .i64 k] 3)) rfl (.tmp 89) (.tmp 91) 35 rfl i2 Try.underlying35 hj' hz0 hz1 hz2 rfl w6.heap.size 1 (k : Int) rfl ((Blk.new w6 3 #[.int .i64 k]).cell 0) hqn (by rw [size_alloc']; omega) ?_; intro v7 w7 row7 hq7 hg7 hr7))
                      go_roundw
                      case measure => simp [intOf]; omega
                      case rel =>
                        have hg67 : (w6.alloc (.cells #[.int .i64 k] 3)).grownBy w7 row7 := hg7
                        refine ⟨v7, R ++ [k], Q ++ [k], p + 1, rfl, by omega, by go_num, by simpa [nats] using hq7, ?_, Hat2.out, Htk.out _ (fun k' h' => List.mem_append_left _ (Hcov.out k' h')) (by simp), by simp; omega, ?_⟩
                        · have h8 : KSet Try.prog 3 w7 wr.heap.size (intsV (nats R) ++ [.int .i64 k]) := (hk6.alloc _).kept hg7 (fun e => by have := (hr7 _ e.symm).1; omega)
                          simpa [intsV, nats] using h8
                        · exact ((hB.grown hg6 (by omega) (fun jj e => by cases e; omega)).alloc (by omega) _).grown hg7 (by rw [size_alloc']; omega) (fun jj e => by have := (hr7 jj e).1; omega)
                  · obtain rfl : p = L := by omega
                    have Hat2 : Hid (BfsAt T v l R Q i ([x, y, z].take 1)) := Lib.hid (by
                      have e : [x, y, z].take 1 = [x, y, z].take 0 ++ [x] := by simp
                      rw [e]
                      refine hat.over (fun k hk b hb hh => hcov k ?_)
                      rw [List.take_of_length_le (by have := HLe.out; omega), He2.out]
                      exact told_mem.2 ⟨hk, Hcv.out, by rw [hb]; exact hh⟩)
                    have Hq := Lib.hid hIQ
                    have Hk := Lib.hid hks
                    clear hat hIQ hks hcov
                    go_wp2
                    go_roundw
                    case measure => simp [intOf]
                    case rel => exact ⟨v13, R, Q, 1, rfl, by omega, by simp, Hq.out, Hk.out, Hat2.out, hmu, hB⟩
            · by_cases hcv : y = v
              · have hb1 : (y == v) = true := by simp [hcv]
                have Hat2 : Hid (BfsAt T v l R Q i ([x, y, z].take 2)) := Lib.hid (by
                  have e : [x, y, z].take 2 = [x, y, z].take 1 ++ [v] := by simp [hcv]
                  rw [e]
                  exact hat.skip)
                have Hq := Lib.hid hIQ
                have Hk := Lib.hid hks
                clear hcv hat hIQ hks
                go_wp2
                go_roundw
                case measure => simp [intOf]
                case rel => exact ⟨v13, R, Q, 2, rfl, by omega, by simp, Hq.out, Hk.out, Hat2.out, hmu, hB⟩
              · have hb1 : (y == v) = false := by simp [hcv]
                have hkey := keyOf_int_mk (P := Try.prog) (k := 3) (q := .i64) Try.underlying3 (wfS (x := y) ⟨by omega, by omega⟩)
                obtain ⟨le, e1, e2, e3⟩ := HE.out y
                have hlen : (f (.int .i64 y)).length = le.length := by rw [e1, nats_length]
                have hLl : le.length ≤ 3 * 8192 := by
                  have := told_length T v l
                  have := HM.out
                  omega
                obtain ⟨L, hL⟩ : ∃ L, le.length = L := ⟨_, rfl⟩
                rw [hL] at hlen hLl
                have HLe := Lib.hid hL
                have HLen := Lib.hid hlen
                have He1 := Lib.hid e1
                have He2 := Lib.hid e2
                have Hcv := Lib.hid hcv
                have Hq := Lib.hid hIQ
                have Hk := Lib.hid hks
                have Hat := Lib.hid hat
                clear hcv hat hIQ hks e1 e2 e3 hlen hL
                go_wp2_with (at_lookup; refine wpList_lookupGB Hg.out hB rfl _ _ 190 35 rfl (int_keyed Try.underlying3) Try.underlying190 (zero_ints _) rfl (.int .i64 y) rfl hkey ?_; intro v0 hr0; obtain ⟨a0, c0, rfl, hc0⟩ := rowSlice hr0 HLen.out)
                have Hc0 := Lib.hid hc0
                clear hc0 hr0 hkey
                go_loopw [13, 79] (fun v13 ix wy => ∃ (v' : Value) (R Q : List Nat) (p : Nat), v' = v13 ∧ p ≤ L ∧ ix = .int .i64 p ∧ IQ wy (wr.heap.size + 1) v' (nats Q) ∧ KSet Try.prog 3 wy wr.heap.size (intsV (nats R)) ∧ BfsAt T v l R Q i ([x, y, z].take 1) ∧ (∀ k ∈ le.take p, k ∈ R) ∧ 2 * (j - R.length) + Q.length ≤ M ∧ Below wr.heap.size wr wy) (fun _ ix _ => L - (intOf ix).toNat)
                case atStart => exact ⟨_, R, Q, 0, rfl, Nat.zero_le _, rfl, Hq.out, Hk.out, Hat.out, by simp, hmu, hB⟩
                case round =>
                  rename World => wy
                  clear Hq Hk Hat hmu hB
                  obtain ⟨v13, R, Q, p, rfl, hp, rfl, hIQ, hks, hat, hcov, hmu, hB⟩ := hrel
                  by_cases hpl : p < L
                  · obtain ⟨k, hkp⟩ : ∃ k, le[p]? = some k := ⟨le[p]'(by have := HLe.out; omega), List.getElem?_eq_getElem _⟩
                    obtain ⟨g0, rfl, hg0, hcell⟩ := Hc0.out p (k : Int) (by rw [He1.out]; exact nats_at hkp)
                    have hcell' := (hB.cell (p := ⟨g0, _, none⟩) hg0).trans hcell
                    obtain ⟨hkl, _, hkh⟩ := told_mem.1 ((He2.out k).1 (List.mem_of_getElem? hkp))
                    have hkn := HI.out k hkl
                    have hadj : adjV T v i k := ⟨(x, y, z), T[k], y, HTi.out, List.getElem?_eq_getElem hkn, Hcv.out, by simp [hasV], by rw [List.getElem?_eq_getElem hkn] at hkh; exact hkh⟩
                    have hkey := keyOf_int_mk (P := Try.prog) (k := 3) (q := .i64) Try.underlying3 (wfS (x := (k : Int)) ⟨by omega, by have := HN.out; omega⟩)
                    have htk : ∀ RR : List Nat, (∀ k ∈ le.take p, k ∈ RR) → k ∈ RR → ∀ k' ∈ le.take (p + 1), k' ∈ RR := by
                      intro RR h1 h2 k' hk'
                      obtain ⟨hk1, he⟩ := List.getElem?_eq_some_iff.1 hkp
                      rw [List.take_succ_eq_append_getElem hk1, he] at hk'
                      rcases List.mem_append.1 hk' with h | h
                      · exact h1 k' h
                      · rw [List.mem_singleton.1 h]; exact h2
                    have Htk := Lib.hid htk
                    have Hcov := Lib.hid hcov
                    have Hadj := Lib.hid hadj
                    have hp3 : (p : Int) < (L : Int) := by omega
                    have hp0 : (0 : Int) ≤ (p : Int) := by omega
                    have hszy := hB.size
                    have hlt := hks.lt
                    clear htk hcov hadj hcell hkp hkh hkn
                    by_cases hkR : k ∈ R
                    · have Hq := Lib.hid hIQ
                      have Hat := Lib.hid hat
                      clear hIQ hat
                      go_wp2_with (at_lookup; refine wpList_lookupK hks rfl _ _ 109 rfl (int_keyed Try.underlying3) Try.underlying109 (zero_bool _) rfl _ rfl hkey ?_; intro r hir; obtain rfl : r = true := hir.2 (mem_keys.2 hkR))
                      go_roundw
                      case measure => simp [intOf]; omega
                      case rel => exact ⟨v13, R, Q, p + 1, rfl, by omega, by go_num, Hq.out, hks, Hat.out, Htk.out R Hcov.out hkR, hmu, hB⟩
                    · have hat2 := hat.add hkl hkR Hadj.out
                      have hRm : R.length + 1 ≤ j := by
                        have := Jor.nodup_le hat2.nd hat2.sub
                        have := HM.out
                        simp at *
                        omega
                      have hQm := hat.le
                      have hqn : (nats Q).length + 1 ≤ 1000000000 := by rw [nats_length]; omega
                      have Hat2 := Lib.hid hat2
                      have HkR := Lib.hid hkR
                      clear hat hat2 hkR
                      go_wp2_with (first
                        | (at_lookup; refine wpList_lookupK hks rfl _ _ 109 rfl (int_keyed Try.underlying3) Try.underlying109 (zero_bool _) rfl _ rfl hkey ?_; intro r hir; obtain rfl : r = false := (by cases r; rfl; exact absurd (mem_keys.1 (hir.1 rfl)) HkR.out))
                        | (at_mapUpdate; refine wpList_storeK hks rfl _ _ _ 109 (.inl rfl) (int_keyed Try.underlying3) Try.underlying109 rfl (.int .i64 k) rfl rfl hkey (fun h => HkR.out (mem_keys.1 h)) ?_; intro w6 hk6 hg6 hs6; clear hs6; have hs6 := hg6.size)
                        | (at_builtin; refine wpList_pushQ ((hIQ.kept hg6 (fun jj e => by cases e; exact .inl (by omega))).alloc (.cells #[.int .i64 k] 3)) rfl (.tmp 89) (.tmp 91) 35 rfl i2 Try.underlying35 hj' hz0 hz1 hz2 rfl w6.heap.size 1 (k : Int) rfl ((Blk.new w6 3 #[.int .i64 k]).cell 0) hqn (by rw [size_alloc']; omega) ?_; intro v7 w7 row7 hq7 hg7 hr7))
                      go_roundw
                      case measure => simp [intOf]; omega
                      case rel =>
                        have hg67 : (w6.alloc (.cells #[.int .i64 k] 3)).grownBy w7 row7 := hg7
                        refine ⟨v7, R ++ [k], Q ++ [k], p + 1, rfl, by omega, by go_num, by simpa [nats] using hq7, ?_, Hat2.out, Htk.out _ (fun k' h' => List.mem_append_left _ (Hcov.out k' h')) (by simp), by simp; omega, ?_⟩
                        · have h8 : KSet Try.prog 3 w7 wr.heap.size (intsV (nats R) ++ [.int .i64 k]) := (hk6.alloc _).kept hg7 (fun e => by have := (hr7 _ e.symm).1; omega)
                          simpa [intsV, nats] using h8
                        · exact ((hB.grown hg6 (by omega) (fun jj e => by cases e; omega)).alloc (by omega) _).grown hg7 (by rw [size_alloc']; omega) (fun jj e => by have := (hr7 jj e).1; omega)
                  · obtain rfl : p = L := by omega
                    have Hat2 : Hid (BfsAt T v l R Q i ([x, y, z].take 2)) := Lib.hid (by
                      have e : [x, y, z].take 2 = [x, y, z].take 1 ++ [y] := by simp
                      rw [e]
                      refine hat.over (fun k hk b hb hh => hcov k ?_)
                      rw [List.take_of_length_le (by have := HLe.out; omega), He2.out]
                      exact told_mem.2 ⟨hk, Hcv.out, by rw [hb]; exact hh⟩)
                    have Hq := Lib.hid hIQ
                    have Hk := Lib.hid hks
                    clear hat hIQ hks hcov
                    go_wp2
                    go_roundw
                    case measure => simp [intOf]
                    case rel => exact ⟨v13, R, Q, 2, rfl, by omega, by simp, Hq.out, Hk.out, Hat2.out, hmu, hB⟩
            · by_cases hcv : z = v
              · have hb1 : (z == v) = true := by simp [hcv]
                have Hat2 : Hid (BfsAt T v l R Q i ([x, y, z].take 3)) := Lib.hid (by
                  have e : [x, y, z].take 3 = [x, y, z].take 2 ++ [v] := by simp [hcv]
                  rw [e]
                  exact hat.skip)
                have Hq := Lib.hid hIQ
                have Hk := Lib.hid hks
                clear hcv hat hIQ hks
                go_wp2
                go_roundw
                case measure => simp [intOf]
                case rel => exact ⟨v13, R, Q, 3, rfl, by omega, by simp, Hq.out, Hk.out, Hat2.out, hmu, hB⟩
              · have hb1 : (z == v) = false := by simp [hcv]
                have hkey := keyOf_int_mk (P := Try.prog) (k := 3) (q := .i64) Try.underlying3 (wfS (x := z) ⟨by omega, by omega⟩)
                obtain ⟨le, e1, e2, e3⟩ := HE.out z
                have hlen : (f (.int .i64 z)).length = le.length := by rw [e1, nats_length]
                have hLl : le.length ≤ 3 * 8192 := by
                  have := told_length T v l
                  have := HM.out
                  omega
                obtain ⟨L, hL⟩ : ∃ L, le.length = L := ⟨_, rfl⟩
                rw [hL] at hlen hLl
                have HLe := Lib.hid hL
                have HLen := Lib.hid hlen
                have He1 := Lib.hid e1
                have He2 := Lib.hid e2
                have Hcv := Lib.hid hcv
                have Hq := Lib.hid hIQ
                have Hk := Lib.hid hks
                have Hat := Lib.hid hat
                clear hcv hat hIQ hks e1 e2 e3 hlen hL
                go_wp2_with (at_lookup; refine wpList_lookupGB Hg.out hB rfl _ _ 190 35 rfl (int_keyed Try.underlying3) Try.underlying190 (zero_ints _) rfl (.int .i64 z) rfl hkey ?_; intro v0 hr0; obtain ⟨a0, c0, rfl, hc0⟩ := rowSlice hr0 HLen.out)
                have Hc0 := Lib.hid hc0
                clear hc0 hr0 hkey
                go_loopw [13, 79] (fun v13 ix wy => ∃ (v' : Value) (R Q : List Nat) (p : Nat), v' = v13 ∧ p ≤ L ∧ ix = .int .i64 p ∧ IQ wy (wr.heap.size + 1) v' (nats Q) ∧ KSet Try.prog 3 wy wr.heap.size (intsV (nats R)) ∧ BfsAt T v l R Q i ([x, y, z].take 2) ∧ (∀ k ∈ le.take p, k ∈ R) ∧ 2 * (j - R.length) + Q.length ≤ M ∧ Below wr.heap.size wr wy) (fun _ ix _ => L - (intOf ix).toNat)
                case atStart => exact ⟨_, R, Q, 0, rfl, Nat.zero_le _, rfl, Hq.out, Hk.out, Hat.out, by simp, hmu, hB⟩
                case round =>
                  rename World => wy
                  clear Hq Hk Hat hmu hB
                  obtain ⟨v13, R, Q, p, rfl, hp, rfl, hIQ, hks, hat, hcov, hmu, hB⟩ := hrel
                  by_cases hpl : p < L
                  · obtain ⟨k, hkp⟩ : ∃ k, le[p]? = some k := ⟨le[p]'(by have := HLe.out; omega), List.getElem?_eq_getElem _⟩
                    obtain ⟨g0, rfl, hg0, hcell⟩ := Hc0.out p (k : Int) (by rw [He1.out]; exact nats_at hkp)
                    have hcell' := (hB.cell (p := ⟨g0, _, none⟩) hg0).trans hcell
                    obtain ⟨hkl, _, hkh⟩ := told_mem.1 ((He2.out k).1 (List.mem_of_getElem? hkp))
                    have hkn := HI.out k hkl
                    have hadj : adjV T v i k := ⟨(x, y, z), T[k], z, HTi.out, List.getElem?_eq_getElem hkn, Hcv.out, by simp [hasV], by rw [List.getElem?_eq_getElem hkn] at hkh; exact hkh⟩
                    have hkey := keyOf_int_mk (P := Try.prog) (k := 3) (q := .i64) Try.underlying3 (wfS (x := (k : Int)) ⟨by omega, by have := HN.out; omega⟩)
                    have htk : ∀ RR : List Nat, (∀ k ∈ le.take p, k ∈ RR) → k ∈ RR → ∀ k' ∈ le.take (p + 1), k' ∈ RR := by
                      intro RR h1 h2 k' hk'
                      obtain ⟨hk1, he⟩ := List.getElem?_eq_some_iff.1 hkp
                      rw [List.take_succ_eq_append_getElem hk1, he] at hk'
                      rcases List.mem_append.1 hk' with h | h
                      · exact h1 k' h
                      · rw [List.mem_singleton.1 h]; exact h2
                    have Htk := Lib.hid htk
                    have Hcov := Lib.hid hcov
                    have Hadj := Lib.hid hadj
                    have hp3 : (p : Int) < (L : Int) := by omega
                    have hp0 : (0 : Int) ≤ (p : Int) := by omega
                    have hszy := hB.size
                    have hlt := hks.lt
                    clear htk hcov hadj hcell hkp hkh hkn
                    by_cases hkR : k ∈ R
                    · have Hq := Lib.hid hIQ
                      have Hat := Lib.hid hat
                      clear hIQ hat
                      go_wp2_with (at_lookup; refine wpList_lookupK hks rfl _ _ 109 rfl (int_keyed Try.underlying3) Try.underlying109 (zero_bool _) rfl _ rfl hkey ?_; intro r hir; obtain rfl : r = true := hir.2 (mem_keys.2 hkR))
                      go_roundw
                      case measure => simp [intOf]; omega
                      case rel => exact ⟨v13, R, Q, p + 1, rfl, by omega, by go_num, Hq.out, hks, Hat.out, Htk.out R Hcov.out hkR, hmu, hB⟩
                    · have hat2 := hat.add hkl hkR Hadj.out
                      have hRm : R.length + 1 ≤ j := by
                        have := Jor.nodup_le hat2.nd hat2.sub
                        have := HM.out
                        simp at *
                        omega
                      have hQm := hat.le
                      have hqn : (nats Q).length + 1 ≤ 1000000000 := by rw [nats_length]; omega
                      have Hat2 := Lib.hid hat2
                      have HkR := Lib.hid hkR
                      clear hat hat2 hkR
                      go_wp2_with (first
                        | (at_lookup; refine wpList_lookupK hks rfl _ _ 109 rfl (int_keyed Try.underlying3) Try.underlying109 (zero_bool _) rfl _ rfl hkey ?_; intro r hir; obtain rfl : r = false := (by cases r; rfl; exact absurd (mem_keys.1 (hir.1 rfl)) HkR.out))
                        | (at_mapUpdate; refine wpList_storeK hks rfl _ _ _ 109 (.inl rfl) (int_keyed Try.underlying3) Try.underlying109 rfl (.int .i64 k) rfl rfl hkey (fun h => HkR.out (mem_keys.1 h)) ?_; intro w6 hk6 hg6 hs6; clear hs6; have hs6 := hg6.size)
                        | (at_builtin; refine wpList_pushQ ((hIQ.kept hg6 (fun jj e => by cases e; exact .inl (by omega))).alloc (.cells #[.int .i64 k] 3)) rfl (.tmp 89) (.tmp 91) 35 rfl i2 Try.underlying35 hj' hz0 hz1 hz2 rfl w6.heap.size 1 (k : Int) rfl ((Blk.new w6 3 #[.int .i64 k]).cell 0) hqn (by rw [size_alloc']; omega) ?_; intro v7 w7 row7 hq7 hg7 hr7))
                      go_roundw
                      case measure => simp [intOf]; omega
                      case rel =>
                        have hg67 : (w6.alloc (.cells #[.int .i64 k] 3)).grownBy w7 row7 := hg7
                        refine ⟨v7, R ++ [k], Q ++ [k], p + 1, rfl, by omega, by go_num, by simpa [nats] using hq7, ?_, Hat2.out, Htk.out _ (fun k' h' => List.mem_append_left _ (Hcov.out k' h')) (by simp), by simp; omega, ?_⟩
                        · have h8 : KSet Try.prog 3 w7 wr.heap.size (intsV (nats R) ++ [.int .i64 k]) := (hk6.alloc _).kept hg7 (fun e => by have := (hr7 _ e.symm).1; omega)
                          simpa [intsV, nats] using h8
                        · exact ((hB.grown hg6 (by omega) (fun jj e => by cases e; omega)).alloc (by omega) _).grown hg7 (by rw [size_alloc']; omega) (fun jj e => by have := (hr7 jj e).1; omega)
                  · obtain rfl : p = L := by omega
                    have Hat2 : Hid (BfsAt T v l R Q i ([x, y, z].take 3)) := Lib.hid (by
                      have e : [x, y, z].take 3 = [x, y, z].take 2 ++ [z] := by simp
                      rw [e]
                      refine hat.over (fun k hk b hb hh => hcov k ?_)
                      rw [List.take_of_length_le (by have := HLe.out; omega), He2.out]
                      exact told_mem.2 ⟨hk, Hcv.out, by rw [hb]; exact hh⟩)
                    have Hq := Lib.hid hIQ
                    have Hk := Lib.hid hks
                    clear hat hIQ hks hcov
                    go_wp2
                    go_roundw
                    case measure => simp [intOf]
                    case rel => exact ⟨v13, R, Q, 3, rfl, by omega, by simp, Hq.out, Hk.out, Hat2.out, hmu, hB⟩
            · have hbf := BfsAt.finish (x := x) (y := y) (z := z) hat HTi.out
              have hsl := hIQ.slen
              have hmz := hks.size
              have Hsl := Lib.hid hsl
              have Hmz := Lib.hid hmz
              have Hq := Lib.hid hIQ
              have Hk := Lib.hid hks
              clear hat hIQ hks hsl hmz
              go_wp2
              go_roundw
              case measure =>
                have e1 := Hsl.out
                have e2 := Hmz.out
                have e3 := HR0.out
                have e4 := HM0.out
                have e5 : (intsV (nats R)).length = R.length := by simp [intsV, nats]
                rw [nats_length] at e1
                rw [e2, e3, e5, e1]
                simp only [sliceLen]
                omega
              case rel => exact ⟨v13, R, Q, rfl, Hq.out, Hk.out, hbf, hB⟩
end Go.Proofs.Ytpnkhgjjlionnaa
namespace Go.Proofs.Ytpnkhgjjlionnaa
open Go.RowKit

set_option maxRecDepth 100000 in
set_option maxHeartbeats 4000000 in
theorem pinch_any (N : Int) (v : Value) (T : List Tr) (w : World) (h : TrisRd w v T) (hN : 0 ≤ N ∧ N ≤ 4096) (hl : T.length ≤ 8192) (hin : ∀ t ∈ T, in3 N t) (hsi : ∀ t ∈ T, simple3 t) (hlo : ∀ u : Int, inR N u → u ∈ flatT T) : Calls Try.prog 99 #[.agg #[.int .i64 N, v]] w fun e w' => ∃ v', e = .returned v' ∧ WitsIs w' w.heap.size v' 6 (∀ u : Int, inR N u → ConnV T u (atV T u)) ∧ Below w.heap.size w w' := by
  obtain ⟨i1, hi', hy0, hy1, hy2⟩ := info_parts infoWit
  obtain ⟨i2, hj', hz0, hz1, hz2⟩ := info_parts infoInts
  obtain ⟨i3, hk', hu0, hu1, hu2⟩ := info_parts infoInt
  have HTR := Lib.hid h
  obtain ⟨a, c, rfl, hc1, hc2, hr⟩ := h
  have HR := Lib.hid hr
  obtain ⟨hN0, hN1⟩ := hN
  obtain ⟨m, rfl⟩ : ∃ m : Nat, N = m := ⟨N.toNat, by omega⟩
  have b1 := Blk.new w 24 #[.int .i64 m, .slice a T.length c]
  obtain ⟨l0, x0, -, x1, -⟩ := b1.two
  have hB0 : Below w.heap.size w (w.alloc (.cells #[.int .i64 m, .slice a T.length c] 24)) := (Below.refl _ _).alloc (Nat.le_refl _) _
  have HIN := Lib.hid hin
  have HSI := Lib.hid hsi
  have HLO := Lib.hid hlo
  obtain ⟨n, hn⟩ : ∃ n, T.length = n := ⟨_, rfl⟩
  have HTl := Lib.hid hl
  rw [hn] at hl hc1 x0 x1 hB0 b1 l0 HTR ⊢
  have HN := Lib.hid hn
  have ix0 := @index_t0
  have ix1 := @index_t1
  have ix2 := @index_t2
  clear hr hn hin hsi hlo
  go_enter Try.func99, Try.ntmps99
  go_wp2_with (at_make; refine wpList_make_full _ rfl (.tmp 12) (.tmp 12) 78 rfl w.heap.size 35 i2 _ 1 Try.underlying78 hj' hz0 hz1 .i64 .i64 _ _ m rfl rfl rfl rfl (by rw [hz2]; omega) (by unfold maxLen; omega) (by rw [size_alloc']; omega) ?_; intro w1 hr1 hg1; have k1 := b1.grown hg1 (by simp); obtain ⟨l1, y0, -, y1, -⟩ := k1.two)
  rw [made_rows, size_alloc'] at hr1
  have hR1 := Rws.made hr1
  rw [← rowsOf_nil] at hR1
  have hB1 : Below w.heap.size w w1 := hB0.grown hg1 (by rw [size_alloc']; omega) (fun j e => by cases e)
  clear b1 x0 x1 l0 hg1 hB0 hr1
  go_loopw [17] (fun i wr => ∃ (k : Nat) (vs : List Value), k ≤ n ∧ i = .int .i64 k ∧ Rws wr w.heap.size (w.heap.size + 1) m vs (rowsOf (preT T k) m) ∧ Blk wr w.heap.size 24 #[.int .i64 m, .slice a n c] ∧ Below w.heap.size w wr) (fun i _ => n - (intOf i).toNat)
  case atStart => exact ⟨0, _, Nat.zero_le _, rfl, hR1, k1, hB1⟩
  case round =>
    clear hR1 hB1 k1 l1 y0 y1
    obtain ⟨k, vs, hk, rfl, hR, hbx, hB⟩ := hrel
    obtain ⟨lbx, yb0, -, yb1, -⟩ := hbx.two
    rename World => wr
    by_cases hlt : k < n
    · obtain ⟨t, ht⟩ : ∃ t, T[k]? = some t := ⟨T[k]'(by have := HN.out; omega), List.getElem?_eq_getElem _⟩
      obtain ⟨x, y, z⟩ := t
      obtain ⟨⟨ix1', ix2'⟩, ⟨iy1, iy2⟩, ⟨iz1, iz2⟩⟩ := HIN.out _ (List.mem_of_getElem? ht)
      simp only at ix1' ix2' iy1 iy2 iz1 iz2
      obtain ⟨x, rfl⟩ : ∃ q : Nat, x = q := ⟨x.toNat, by omega⟩
      obtain ⟨y, rfl⟩ : ∃ q : Nat, y = q := ⟨y.toNat, by omega⟩
      obtain ⟨z, rfl⟩ : ∃ q : Nat, z = q := ⟨z.toNat, by omega⟩
      obtain ⟨b, o, rfl, hbl, s0, s1, s2⟩ := HR.out k x y z ht
      have s0' := (hB.cell (p := ⟨b, _, none⟩) hbl).trans s0
      have s1' := (hB.cell (p := ⟨b, _, none⟩) hbl).trans s1
      have s2' := (hB.cell (p := ⟨b, _, none⟩) hbl).trans s2
      have Hts := Lib.hid (preT_succ ht)
      have hpl : (preT T k).length = 3 * k := preT_length T k
      have Hpl := Lib.hid hpl
      have hsz := hB.size
      have hk3 : (k : Int) < (n : Int) := by omega
      have hk0 : (0 : Int) ≤ (k : Int) := by omega
      clear ht s0 s1 s2 hpl
      go_wp2
      rename World => wA
      go_loopw [23] (fun i wq => ∃ (j : Nat) (vs : List Value) (pre : List (Int × Nat)), j ≤ 3 ∧ i = .int .i64 j ∧ Rws wq w.heap.size (w.heap.size + 1) m vs (rowsOf pre m) ∧ pre.length ≤ 3 * k + j ∧ pre = preT T k ++ (three ((x : Int), (y : Int), (z : Int)) k).take j ∧ Blk wq w.heap.size 24 #[.int .i64 m, .slice (some ⟨b, o, none⟩) n c] ∧ Below w.heap.size w wq) (fun i _ => 3 - (intOf i).toNat)
      case atStart => exact ⟨0, _, _, by omega, rfl, hR.alloc _, by rw [Hpl.out]; omega, by simp, hbx.alloc _, hB.alloc hB.size _⟩
      case round =>
        rename World => wq
        clear hR hB hbx yb0 yb1 lbx
        clear vs
        obtain ⟨j, vs, pre, hj, rfl, hR, hprl, hpre, hbx, hB⟩ := hrel
        have Hpre := Lib.hid hpre
        clear hpre
        have hj4 : j = 0 ∨ j = 1 ∨ j = 2 ∨ j = 3 := by omega
        have hsz' := hB.size
        rcases hj4 with rfl | rfl | rfl | rfl
        · obtain ⟨vv, hvv⟩ : ∃ vv, vs[x]? = some vv := ⟨vs[x]'(by rw [hR.vlen]; omega), List.getElem?_eq_getElem _⟩
          have hrr := rowsOf_at (pre := pre) (m := m) (u := x) (by omega)
          have hc : wq.cell? ⟨w.heap.size + 1, x, none⟩ = some vv := by rw [hR.own.cellAt x (by omega), hvv]
          have hf := hR.own.frozenAt x
          have hrv := hR.row x vv _ hvv hrr
          have hlr : (nats (sieve pre x)).length ≤ 3 * 8192 + 3 := by
            rw [nats_length]
            have := sieve_length pre x
            omega
          have c6 : (nats (sieve pre x)).length + 1 ≤ maxLen := by unfold maxLen; omega
          have c7 : ((nats (sieve pre x)).length + 1) * 8 ≤ 140737488355328 := by omega
          have hv3 : (x : Int) < (m : Int) := by omega
          have hgl := (hR.own.lt _ rfl).2
          have hR2 := Lib.hid hR
          have Hvv := Lib.hid hvv
          have Hrr := Lib.hid hrr
          clear hvv hrr hR
          go_wp2_with (at_builtin; refine wpList_append_lies _ rfl (.tmp 31) (.tmp 33) 35 rfl w.heap.size 3 i3 _ 1 8 Try.underlying35 hk' hu0 hu1 hu2 rfl (by decide) vv (nats (sieve pre x)).length (intsV (nats (sieve pre x))) rfl (hrv.alloc _) ⟨wq.heap.size, 0, none⟩ 1 1 [.int .i64 k] rfl rfl (World.news_of_block (heap_alloc_new _ _)) (by simp [Value.oneCell']) (by decide) c6 c7 (by rw [size_alloc']; omega) (wq.heap.size + 1) (by simp) ?_; intro g6 cap6 W6 hr6 hg6 hat6 _; have hP := (hR2.out.alloc (.cells #[.int .i64 k] 3)).push (v' := .slice (some ⟨g6, 0, none⟩) ((nats (sieve pre x)).length + 1) cap6) Hvv.out Hrr.out (i := (k : Int)) hg6 (by simpa [intsV] using hr6) (hat6.imp (fun e => e.symm) (fun e => ⟨g6, rfl, by rw [size_alloc']; omega⟩)); have HP := Lib.hid hP; have hne6 : some (w.heap.size + 1) ≠ vv.ownBlock := (fun e => by rcases own_own_ne hR2.out.own hrv (by decide) with h | h; simp [Value.ownBlock] at h; exact h e); have hc6 := hg6.cell (a := ⟨w.heap.size + 1, x, none⟩) (show (wq.alloc (.cells #[.int .i64 k] 3)).cell? ⟨w.heap.size + 1, x, none⟩ = some vv by rw [← hc]; exact World.cell?_of_block (Below.heap_alloc wq _ _ hgl)) hne6; have hf6 : W6.frozen? ⟨w.heap.size + 1, x, none⟩ = false := (hR2.out.own.kept (gGrown (World.grownBy_alloc wq _ vv.ownBlock) hg6 (fun _ e => .inl e)) (.inr hne6)).frozenAt x; clear hP hr6)
          go_roundw
          case measure => simp [intOf]
          case rel =>
            have hB6 := hB.grown (gGrown (World.grownBy_alloc wq (.cells #[.int .i64 k] 3) vv.ownBlock) hg6 (fun _ e => .inl e)) hB.size (fun j e => (hrv.lt j e).1)
            exact ⟨1, _, _, by omega, by simp, by rw [← rowsOf_snoc] at HP; exact HP.out.1, by simp; omega, by simp [three, Hpre.out], ((hbx.alloc _).grown hg6 (fun e => own_blk_ne hrv hbx (by decide) e.symm)).far (by simp) _, hB6.grown HP.out.2 hB6.size (fun j e => by cases e; omega)⟩
        · obtain ⟨vv, hvv⟩ : ∃ vv, vs[y]? = some vv := ⟨vs[y]'(by rw [hR.vlen]; omega), List.getElem?_eq_getElem _⟩
          have hrr := rowsOf_at (pre := pre) (m := m) (u := y) (by omega)
          have hc : wq.cell? ⟨w.heap.size + 1, y, none⟩ = some vv := by rw [hR.own.cellAt y (by omega), hvv]
          have hf := hR.own.frozenAt y
          have hrv := hR.row y vv _ hvv hrr
          have hlr : (nats (sieve pre y)).length ≤ 3 * 8192 + 3 := by
            rw [nats_length]
            have := sieve_length pre y
            omega
          have c6 : (nats (sieve pre y)).length + 1 ≤ maxLen := by unfold maxLen; omega
          have c7 : ((nats (sieve pre y)).length + 1) * 8 ≤ 140737488355328 := by omega
          have hv3 : (y : Int) < (m : Int) := by omega
          have hgl := (hR.own.lt _ rfl).2
          have hR2 := Lib.hid hR
          have Hvv := Lib.hid hvv
          have Hrr := Lib.hid hrr
          clear hvv hrr hR
          go_wp2_with (at_builtin; refine wpList_append_lies _ rfl (.tmp 31) (.tmp 33) 35 rfl w.heap.size 3 i3 _ 1 8 Try.underlying35 hk' hu0 hu1 hu2 rfl (by decide) vv (nats (sieve pre y)).length (intsV (nats (sieve pre y))) rfl (hrv.alloc _) ⟨wq.heap.size, 0, none⟩ 1 1 [.int .i64 k] rfl rfl (World.news_of_block (heap_alloc_new _ _)) (by simp [Value.oneCell']) (by decide) c6 c7 (by rw [size_alloc']; omega) (wq.heap.size + 1) (by simp) ?_; intro g6 cap6 W6 hr6 hg6 hat6 _; have hP := (hR2.out.alloc (.cells #[.int .i64 k] 3)).push (v' := .slice (some ⟨g6, 0, none⟩) ((nats (sieve pre y)).length + 1) cap6) Hvv.out Hrr.out (i := (k : Int)) hg6 (by simpa [intsV] using hr6) (hat6.imp (fun e => e.symm) (fun e => ⟨g6, rfl, by rw [size_alloc']; omega⟩)); have HP := Lib.hid hP; have hne6 : some (w.heap.size + 1) ≠ vv.ownBlock := (fun e => by rcases own_own_ne hR2.out.own hrv (by decide) with h | h; simp [Value.ownBlock] at h; exact h e); have hc6 := hg6.cell (a := ⟨w.heap.size + 1, y, none⟩) (show (wq.alloc (.cells #[.int .i64 k] 3)).cell? ⟨w.heap.size + 1, y, none⟩ = some vv by rw [← hc]; exact World.cell?_of_block (Below.heap_alloc wq _ _ hgl)) hne6; have hf6 : W6.frozen? ⟨w.heap.size + 1, y, none⟩ = false := (hR2.out.own.kept (gGrown (World.grownBy_alloc wq _ vv.ownBlock) hg6 (fun _ e => .inl e)) (.inr hne6)).frozenAt y; clear hP hr6)
          go_roundw
          case measure => simp [intOf]
          case rel =>
            have hB6 := hB.grown (gGrown (World.grownBy_alloc wq (.cells #[.int .i64 k] 3) vv.ownBlock) hg6 (fun _ e => .inl e)) hB.size (fun j e => (hrv.lt j e).1)
            exact ⟨2, _, _, by omega, by simp, by rw [← rowsOf_snoc] at HP; exact HP.out.1, by simp; omega, by simp [three, Hpre.out], ((hbx.alloc _).grown hg6 (fun e => own_blk_ne hrv hbx (by decide) e.symm)).far (by simp) _, hB6.grown HP.out.2 hB6.size (fun j e => by cases e; omega)⟩
        · obtain ⟨vv, hvv⟩ : ∃ vv, vs[z]? = some vv := ⟨vs[z]'(by rw [hR.vlen]; omega), List.getElem?_eq_getElem _⟩
          have hrr := rowsOf_at (pre := pre) (m := m) (u := z) (by omega)
          have hc : wq.cell? ⟨w.heap.size + 1, z, none⟩ = some vv := by rw [hR.own.cellAt z (by omega), hvv]
          have hf := hR.own.frozenAt z
          have hrv := hR.row z vv _ hvv hrr
          have hlr : (nats (sieve pre z)).length ≤ 3 * 8192 + 3 := by
            rw [nats_length]
            have := sieve_length pre z
            omega
          have c6 : (nats (sieve pre z)).length + 1 ≤ maxLen := by unfold maxLen; omega
          have c7 : ((nats (sieve pre z)).length + 1) * 8 ≤ 140737488355328 := by omega
          have hv3 : (z : Int) < (m : Int) := by omega
          have hgl := (hR.own.lt _ rfl).2
          have hR2 := Lib.hid hR
          have Hvv := Lib.hid hvv
          have Hrr := Lib.hid hrr
          clear hvv hrr hR
          go_wp2_with (at_builtin; refine wpList_append_lies _ rfl (.tmp 31) (.tmp 33) 35 rfl w.heap.size 3 i3 _ 1 8 Try.underlying35 hk' hu0 hu1 hu2 rfl (by decide) vv (nats (sieve pre z)).length (intsV (nats (sieve pre z))) rfl (hrv.alloc _) ⟨wq.heap.size, 0, none⟩ 1 1 [.int .i64 k] rfl rfl (World.news_of_block (heap_alloc_new _ _)) (by simp [Value.oneCell']) (by decide) c6 c7 (by rw [size_alloc']; omega) (wq.heap.size + 1) (by simp) ?_; intro g6 cap6 W6 hr6 hg6 hat6 _; have hP := (hR2.out.alloc (.cells #[.int .i64 k] 3)).push (v' := .slice (some ⟨g6, 0, none⟩) ((nats (sieve pre z)).length + 1) cap6) Hvv.out Hrr.out (i := (k : Int)) hg6 (by simpa [intsV] using hr6) (hat6.imp (fun e => e.symm) (fun e => ⟨g6, rfl, by rw [size_alloc']; omega⟩)); have HP := Lib.hid hP; have hne6 : some (w.heap.size + 1) ≠ vv.ownBlock := (fun e => by rcases own_own_ne hR2.out.own hrv (by decide) with h | h; simp [Value.ownBlock] at h; exact h e); have hc6 := hg6.cell (a := ⟨w.heap.size + 1, z, none⟩) (show (wq.alloc (.cells #[.int .i64 k] 3)).cell? ⟨w.heap.size + 1, z, none⟩ = some vv by rw [← hc]; exact World.cell?_of_block (Below.heap_alloc wq _ _ hgl)) hne6; have hf6 : W6.frozen? ⟨w.heap.size + 1, z, none⟩ = false := (hR2.out.own.kept (gGrown (World.grownBy_alloc wq _ vv.ownBlock) hg6 (fun _ e => .inl e)) (.inr hne6)).frozenAt z; clear hP hr6)
          go_roundw
          case measure => simp [intOf]
          case rel =>
            have hB6 := hB.grown (gGrown (World.grownBy_alloc wq (.cells #[.int .i64 k] 3) vv.ownBlock) hg6 (fun _ e => .inl e)) hB.size (fun j e => (hrv.lt j e).1)
            exact ⟨3, _, _, by omega, by simp, by rw [← rowsOf_snoc] at HP; exact HP.out.1, by simp; omega, by simp [three, Hpre.out], ((hbx.alloc _).grown hg6 (fun e => own_blk_ne hrv hbx (by decide) e.symm)).far (by simp) _, hB6.grown HP.out.2 hB6.size (fun j e => by cases e; omega)⟩
        · have hR2 : Hid (Rws wq w.heap.size (w.heap.size + 1) m vs (rowsOf (preT T (k + 1)) m)) := Lib.hid (by
            rw [Hts.out]
            have := Hpre.out
            rw [this] at hR
            exact hR)
          clear hR
          go_wp2
          go_roundw
          case measure => simp [intOf]; omega
          case rel => exact ⟨k + 1, vs, by omega, by go_num, hR2.out, hbx, hB⟩
    · obtain rfl : k = n := by omega
      have hnn := HN.out
      have HR2 : Hid (∀ (i : Nat) (v : Value), vs[i]? = some v → i < m → wr.ownsRow w.heap.size 3 1 v (nats (atV T i)).length (intsV (nats (atV T i)))) := Lib.hid (fun i v hv hi => by
        refine hR.row i v _ hv ?_
        rw [rowsOf_at hi]
        unfold atV
        rw [hnn])
      have HRO := Lib.hid hR.own
      have hvl := hR.vlen
      have Hvl := Lib.hid hvl
      have hszr := hB.size
      have hgl := (hR.own.lt _ rfl).2
      clear hR hvl hnn
      go_wp2
      clear ix0 ix1 ix2
      go_loopw [8, 40] (fun v3 i wz => ∃ (j : Nat) (v' : Value) (ws : List Tr), v' = v3 ∧ j ≤ m ∧ i = .int .i64 j ∧ wz.ownsRow wr.heap.size 44 3 v' ws.length (ws3 ws) ∧ ws.length ≤ j ∧ (ws = [] ↔ ∀ u : Nat, u < j → ConnV T u (atV T u)) ∧ (∀ x ∈ ws, x.1 = 6) ∧ Below wr.heap.size wr wz) (fun _ i _ => m - (intOf i).toNat)
      case atStart => exact ⟨0, _, [], rfl, Nat.zero_le _, rfl, World.ownsRow_nil _ _ _ _, Nat.le_refl _, by simp, by simp, Below.refl _ _⟩
      case round =>
        obtain ⟨j, v', ws, rfl, hj, rfl, hrw, hwl, hws, hkd, hBz⟩ := hrel
        rename World => wC
        have Hws := Lib.hid hws
        have hsz := hBz.size
        clear hws
        by_cases hjm : j < m
        · obtain ⟨vv, hvv⟩ : ∃ vv, vs[j]? = some vv := ⟨vs[j]'(by rw [Hvl.out]; exact hjm), List.getElem?_eq_getElem _⟩
          have hc0 : wr.cell? ⟨w.heap.size + 1, j, none⟩ = some vv := by rw [HRO.out.cellAt j (by omega), hvv]
          have hc := (hBz.cell (p := ⟨w.heap.size + 1, j, none⟩) hgl).trans hc0
          have hrow := HR2.out j vv hvv hjm
          have hrd : IntsRd wC vv (nats (atV T j)) := by
            have := IntsRd.of_row (w := wC) (base := w.heap.size) (v := vv) (xs := nats (atV T j)) (hrow.kept (grown_of_below hBz none) (by cases e : vv.ownBlock; exact .inl rfl; exact .inr (by simp))) rfl
            exact this
          have hBC := hB.trans (hBz.mono hB.size)
          have htr := HTR.out.below hBC
          have hbz := hbx.below hBz hbx.lt
          obtain ⟨lz, z0, -, z1, -⟩ := hbz.two
          have H := Lib.hid (together_any (m : Int) (j : Int) (.slice a k c) vv T (atV T j) wC htr hrd HTl.out (Nat.le_trans (atV_length HSI.out j) HTl.out) atV_lt (atV_some (HLO.out j ⟨by omega, by omega⟩)) (atV_nodup HSI.out j) HIN.out hN1)
          have hv3 : (j : Int) < (m : Int) := by omega
          have hv0 : (0 : Int) ≤ (j : Int) := by omega
          have c3 : ws.length + 1 ≤ maxLen := by unfold maxLen; omega
          have c4 : (ws.length + 1) * 24 ≤ 140737488355328 := by omega
          have HBC := Lib.hid hBz
          clear hvv hc0 hrow hrd hBC htr hbz hB
          go_wp2_with fail
          refine H.out.mono ?_
          rintro e w2 ⟨bb, rfl, hbb, hb2⟩
          have hrw2 := hrw.kept (grown_of_below hb2 none) (by cases e : v'.ownBlock; exact .inl rfl; exact .inr (by simp))
          have hB2 := HBC.out.trans (hb2.mono hsz)
          have hsz2 := hB2.size
          have Hbb := Lib.hid hbb
          clear hbb hc z0 z1 lz hrw hb2
          cases bb
          · have hn' : Hid (¬ ConnV T j (atV T j)) := Lib.hid (fun e => by have := Hbb.out.2 e; cases this)
            clear Hbb
            go_wp2_with (at_builtin; refine wpList_append_lies _ rfl (.tmp 50) (.tmp 53) 114 rfl wr.heap.size 44 i1 _ 3 24 Try.underlying114 hi' hy0 hy1 hy2 rfl (by decide) _ _ _ rfl (hrw2.alloc _) ⟨w2.heap.size, 0, none⟩ 1 1 [.int .i64 6, .int .i64 j, .int .i64 0] rfl rfl (World.news_of_block (heap_alloc_new _ _)) (by simp [Value.oneCell']) (by decide) c3 c4 (by rw [size_alloc']; omega) (w2.heap.size + 1) (by simp) ?_; intro g4 cap4 W4 hr4 hg4 _ _)
            go_roundw
            case measure => simp [intOf]; omega
            case rel =>
              refine ⟨j + 1, _, ws ++ [(6, (j : Int), 0)], rfl, by omega, by go_num, by rw [ws3_snoc]; simpa using hr4, by simp; omega, ?_, snoc_kind hkd rfl, hB2.grown (gGrown (World.grownBy_alloc _ _ _) hg4 (row := v'.ownBlock) (fun _ e => .inl e)) hsz2 (fun j e => (hrw2.lt j e).1)⟩
              constructor
              · intro h; simp at h
              · intro h; exact absurd (h j (by omega)) hn'.out
          · have hn' : Hid (ConnV T j (atV T j)) := Lib.hid (Hbb.out.1 rfl)
            clear Hbb
            go_wp2
            go_roundw
            case measure => simp [intOf]; omega
            case rel =>
              refine ⟨j + 1, _, ws, rfl, by omega, by go_num, hrw2, by omega, ?_, hkd, hB2⟩
              rw [Hws.out]
              constructor
              · intro h u hu
                by_cases e : u = j
                · rw [e]; exact hn'.out
                · exact h u (by omega)
              · intro h u hu
                exact h u (by omega)
        · obtain rfl : j = m := by omega
          have HRow := Lib.hid hrw
          have HB := Lib.hid (hB.trans (hBz.mono hB.size))
          have hrs := hrw.mono hB.size
          have HRs := Lib.hid hrs
          clear hB hBz hrw hrs
          go_wp2
          go_ret
          refine ⟨_, rfl, ⟨ws, HRs.out, ?_, hkd, by omega⟩, HB.out⟩
          rw [Hws.out]
          constructor
          · intro h u hu
            obtain ⟨q, rfl⟩ : ∃ q : Nat, u = q := ⟨u.toNat, by have := hu.1; omega⟩
            exact h q (by have := hu.2; omega)
          · intro h u hu
            exact h u ⟨by omega, by omega⟩
end Go.Proofs.Ytpnkhgjjlionnaa
