/-
  slices.Grow of nil and slices.Concat over slices of numbers, by walking their text.
-/
import Derived.Test.YtgjcigokjfhfkaaRefR
import Derived.Lib.AppendZerosOnto
namespace Go.Proofs.Ytgjcigokjfhfkaa
open Go.RowKit

theorem wpList_append_run {P : Program} {w w' : World} {ops : Array Oper} {rest : List Oper} {o : Oper} {a : Act} {Q : Exit → Act → World → Prop} (hgd : o.guard = none) (s x : Operand) (t tn : TypeId)
    (ho : o.op = .call { callee := .builtin .append, args := #[s, x], argTypes := #[t, tn] }) (v u r : Value) (hs : a.eval s = v) (hx : a.eval x = u) (hrun : ∀ ty, (Builtin.append_ #[t, tn] ty #[v, u]).run P w = .ok r w')
    (hK : wpList P ops Q rest (a.put o.dst r) w') : wpList P ops Q (o :: rest) a w := by
  refine wpList_plain hgd fun K hk => ?_
  unfold Oper.wp execOp
  simp only [ho, resolve, invoke, builtin, Sem.run_bind, Sem.run_pure, Result.andThen_ok, List.map_toArray, List.map_cons, List.map_nil, hs, hx, hrun]
  exact hk _ _ hK

set_option maxRecDepth 100000 in
theorem grow_nil (n : Nat) (hn : n ≤ 1000000) (w : World) :
    Calls Try.prog 55 #[.slice none 0 0, .int .i64 n] w fun e w' => ∃ v, e = .returned v ∧ w'.ownsRow w.heap.size 3 1 v 0 [] ∧ Below w.heap.size w w' := by
  obtain ⟨i1, hi', hy0, hy1, hy2⟩ := info_parts info_int
  rcases Nat.eq_zero_or_pos n with rfl | hpos
  · go_enter Try.func55, Try.ntmps55
    go_wp2
    go_ret
    exact ⟨_, rfl, World.ownsRow_nil _ _ _ _, Below.refl _ _⟩
  · have hap := fun ty => Lib.run_append_grow_zeros (P := Try.prog) w 52 3 ty 3 i1 (.int .i64 0) .i64 .i64 Try.underlying52 Try.underlying3 hi' hy0 none 0 0 [] (run_firstCells_none _ _ _ _ _) n hpos (by omega) (by omega) (by omega) (by rw [hy2]; omega) (by rw [hy2, Nat.zero_add, nextslicecap_zero hpos]; omega)
    have hw1 : wrap64 (n : Int) = n := by unfold wrap64; omega
    simp only [Nat.zero_add] at hap
    have h1 : (0 : Int) < (n : Int) := by omega
    go_enter Try.func55, Try.ntmps55
    go_wp2_with (at_builtin; refine wpList_append_run rfl (.tmp 20) (.tmp 21) 52 3 rfl _ _ _ rfl rfl hap ?_)
    go_ret
    refine ⟨_, rfl, World.ownsRow_made w.drew _ _ (Nat.le_refl _) (grownCap_le_maxLen _ _ _ _ (by unfold maxLen; omega)) ?_, (Below.refl _ _).drew.alloc (Nat.le_refl _) _⟩
    have hge := grownCap_ge w n 0 3
    simp [size_zeroCells]
    omega

/-- A slice of numbers that is only read: where its cells lie. -/
def IntsAt (w : World) (v : Value) (xs : List Int) : Prop := ∃ ad cap, v = .slice (some ad) xs.length cap ∧ ad.block < w.heap.size ∧ ∀ j u, (xs.map (Value.int .i64))[j]? = some u → w.cell? (ad.add j) = some u
def flatOf (parts : List (Value × List Int)) : List Int := (parts.map (·.2)).flatten
theorem flatOf_take (parts : List (Value × List Int)) (k : Nat) (h : k < parts.length) : flatOf (parts.take (k + 1)) = flatOf (parts.take k) ++ parts[k].2 := by
  unfold flatOf
  rw [List.take_succ_eq_append_getElem h, List.map_append, List.flatten_append]
  simp
theorem flatOf_le (parts : List (Value × List Int)) (k : Nat) : (flatOf (parts.take k)).length ≤ (flatOf parts).length := by
  have : flatOf parts = flatOf (parts.take k) ++ flatOf (parts.drop k) := by
    unfold flatOf
    rw [← List.flatten_append, ← List.map_append, List.take_append_drop]
  rw [this]
  simp

set_option maxRecDepth 100000 in
set_option maxHeartbeats 1000000 in
theorem concat_any (parts : List (Value × List Int)) (h : Nat) (w : World) (hb : ∀ j (hj : j < parts.length), w.cell? ⟨h, j, none⟩ = some parts[j].1) (hh : h < w.heap.size) (hp : ∀ p ∈ parts, IntsAt w p.1 p.2) (hlen : (flatOf parts).length ≤ 1000000) (hm : parts.length ≤ 1000) (hpos : 0 < parts.length) :
    Calls Try.prog 48 #[.slice (some ⟨h, 0, none⟩) parts.length parts.length] w fun e w' => ∃ v, e = .returned v ∧ w'.ownsRow w.heap.size 3 1 v (flatOf parts).length ((flatOf parts).map (Value.int .i64)) ∧ Below w.heap.size w w' := by
  obtain ⟨i1, hi', hy0, hy1, hy2⟩ := info_parts info_int
  have Hb := Lib.hid hb
  have Hp := Lib.hid hp
  clear hb hp
  go_enter Try.func48, Try.ntmps48
  go_wp2
  go_loop [3, 11] (fun n i => ∃ k : Nat, k ≤ parts.length ∧ i = .int .i64 k ∧ n = .int .i64 ((flatOf (parts.take k)).length : Nat)) (fun _ i => parts.length - (intOf i).toNat)
  case atStart => exact ⟨0, Nat.zero_le _, rfl, by simp [flatOf]⟩
  case round =>
    obtain ⟨k, hk, rfl, rfl⟩ := hrel
    by_cases hlt : k < parts.length
    · obtain ⟨ad, cap, hv, hbl, hcells⟩ := Hp.out parts[k] (List.getElem_mem hlt)
      have hc := Hb.out k hlt
      rw [hv] at hc
      have hft := flatOf_take parts k hlt
      have hl1 := flatOf_le parts (k + 1)
      have hl2 := flatOf_le parts k
      have hl3 : (flatOf (parts.take (k + 1))).length = (flatOf (parts.take k)).length + parts[k].2.length := by rw [hft]; simp
      have Hcells := Lib.hid hcells
      have Hl3 := Lib.hid hl3
      clear hcells hft
      go_wp2
      go_round
      case rel => exact ⟨k + 1, by omega, by go_num, by rw [Hl3.out]; go_num⟩
      case measure => simp [intOf]; omega
    · obtain rfl : k = parts.length := by omega
      rw [List.take_length]
      go_wp2_with fail
      refine (grow_nil _ hlen _).mono ?_
      rintro e w1 ⟨v1, rfl, hr1, hB1⟩
      go_wp2
      go_loopw [6, 27] (fun v i wr => ∃ (k : Nat) (v' : Value), v' = v ∧ k ≤ parts.length ∧ i = .int .i64 k ∧ wr.ownsRow w.heap.size 3 1 v' (flatOf (parts.take k)).length ((flatOf (parts.take k)).map (Value.int .i64)) ∧ Below w.heap.size w wr) (fun _ i _ => parts.length - (intOf i).toNat)
      case atStart => exact ⟨0, _, rfl, Nat.zero_le _, rfl, by simpa [flatOf] using hr1, hB1⟩
      case round =>
        obtain ⟨k, v, rfl, hk, rfl, hr, hB⟩ := hrel
        by_cases hlt : k < parts.length
        · obtain ⟨ad, cap, hv, hbl, hcells⟩ := Hp.out parts[k] (List.getElem_mem hlt)
          have hc0 := Hb.out k hlt
          rw [hv] at hc0
          have hc : wr.cell? ⟨h, k, none⟩ = some (.slice (some ad) parts[k].2.length cap) := by rw [hB.cell hh]; exact hc0
          have hcl : ∀ j u, (parts[k].2.map (Value.int .i64))[j]? = some u → wr.cell? (ad.add j) = some u := fun j u hu => by
            have := hcells j u hu
            exact (hB.cell (block_lt_of_cell this)).trans this
          have hft := flatOf_take parts k hlt
          have hl1 := flatOf_le parts (k + 1)
          have hl3 : (flatOf (parts.take (k + 1))).length = (flatOf (parts.take k)).length + parts[k].2.length := by rw [hft]; simp
          have Hcl := Lib.hid hcl
          have Hl3 := Lib.hid hl3
          have Hft := Lib.hid hft
          have c3 : (flatOf (parts.take k)).length + parts[k].2.length ≤ maxLen := by unfold maxLen; omega
          have c4 : ((flatOf (parts.take k)).length + parts[k].2.length) * 8 ≤ 140737488355328 := by omega
          clear hcells hft hcl hc0
          go_wp2_with (at_builtin; refine wpList_append_own _ rfl (.tmp 31) (.tmp 32) 52 rfl w.heap.size 3 i1 _ 1 8 Try.underlying52 hi' hy0 hy1 hy2 rfl (by decide) _ _ _ rfl hr ad parts[k].2.length cap (parts[k].2.map (Value.int .i64)) rfl (by simp) Hcl.out (by simp [Value.oneCell']) c3 c4 hB.size ?_; intro v4 W4 hr4 hg4 _)
          go_roundw
          case measure => simp [intOf]; omega
          case rel =>
            refine ⟨k + 1, _, rfl, by omega, by go_num, ?_, hB.grown hg4 hB.size (fun j e => (hr.lt j e).1)⟩
            rw [Hl3.out, Hft.out, List.map_append]
            exact hr4
        · obtain rfl : k = parts.length := by omega
          rw [List.take_length] at hr
          go_wp2
          go_ret
          exact ⟨_, rfl, hr, hB⟩
end Go.Proofs.Ytgjcigokjfhfkaa
