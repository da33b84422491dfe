/-
  Texts joined by program: Wlk Solid SurA SurB SurC.
-/
import Derived.Test.YtghlnknncahkgaaGreatQ6
import Derived.Lib.ConvBytes
import Derived.Laws.IdiomStrings
import Derived.Stop.RegionWithIn
import Derived.Sort.CutIn
import Derived.WalkHide
import Derived.Deep.RegionHeld3
import Derived.Test.YtghlnknncahkgaaGreatQ1
import Derived.RegionTactic
import Derived.BigRegion
import Derived.BigQuiet
import Derived.Deep.QuietTactic
import Derived.Deep.DeepCutAuto
/-
  walk.Walk on a simple surface, by walking its text.
-/
namespace Go.Proofs.YtghlnknncahkgaaGreat
open Go.RowKit Go.Maps Go.Shelf
attribute [local go_sem] Oper.semAt_some

/-- The letters, as a text. -/
def wordS (L : List WStep) : ByteArray := ⟨(L.map fun x => UInt8.ofNat x.letter.toNat).toArray⟩
/-- What a walk answers. -/
def WalkPost (w : World) (T : List Tr) (c : Nat) (e : Ending) (w' : World) : Prop :=
  ∃ vV vC, e = .returned (.tuple #[.agg #[.string (wordS (stepsM T c)), vV, vC], .int .i64 0]) ∧ w'.ownsRow w.heap.size 3 1 vV ((beginS T c).come ++ newV T (stepsM T c)).length (intsV ((beginS T c).come ++ newV T (stepsM T c))) ∧
    w'.ownsRow w.heap.size 3 1 vC (stepsM T c).length.succ (intsV ((c : Int) :: (stepsM T c).map (·.corner))) ∧ Below w.heap.size w w'
theorem infoU8W : (Tryz.prog.info? 5).map (fun i => (i.zero, i.size, i.bytes)) = some (some (.int .u8 0), 1, 1) := by kernel_rfl
theorem intsV_snoc (l : List Int) (x : Int) : intsV (l ++ [x]) = intsV l ++ [.int .i64 x] := by simp [intsV]
/-- What holds behind the steps so far. -/
def WkI (w : World) (base q bw g c : Nat) (T : List Tr) (L : List WStep) (C : Nat → Prop) (W : World) : Prop :=
  ∃ vV vC vB, (∀ k, C k ↔ OwnW w q bw vV vC vB k) ∧ WkS w base q bw g (intsV ((beginS T c).come ++ newV T L)) (intsV ((c : Int) :: L.map (·.corner))) (L.map fun x => Value.int .u8 x.letter) vV vC vB W
theorem wkI_stable {w : World} {base q bw g c : Nat} {T : List Tr} : Stable w.heap.size (WkI w base q bw g c T) := by
  rintro L C A B ⟨vV, vC, vB, hC, h⟩ hb hs
  exact ⟨vV, vC, vB, hC, h.same hb (fun k hk => hs k ((hC k).2 hk))⟩
theorem Anew.of_alloc {A B : Nat → Prop} {W W' : World} {o : Obj} (h : Anew A B (W.alloc o) W') : Anew A B W W' := fun j hj => (h j hj).imp id (fun e => ⟨by have := e.1; simp at this; omega, e.2⟩)
theorem stepsM_facts {n c : Nat} {T : List Tr} (h : Simp n T) (hc : c < 3 * T.length) : 0 < (stepsM T c).length ∧ ∀ x ∈ stepsM T c, 0 ≤ x.letter ∧ x.letter < 256 := by
  obtain ⟨L, s, R, e⟩ := ends h hc
  have hL := R.steps h hc e
  obtain ⟨Xs, G⟩ := R.gone h hc
  have h1 := (G.lt h).2.1 e
  have h2 := h.euler
  have h3 := h.pos
  rw [← hL]
  refine ⟨by omega, fun x hx => ?_⟩
  obtain ⟨d, _, _, _, _, _, h4⟩ := G.each x hx
  omega
theorem word_conv {P : Program} {W : World} {src dst e : TypeId} {base : Nat} {v : Value} {L : List WStep} (hs : P.underlying src = some (.slice e)) (he : P.underlying e = some (.int .u8)) (hd : P.underlying dst = some .string)
    (hr : W.ownsRow base e 1 v (L.map fun x => Value.int .u8 x.letter).length (L.map fun x => Value.int .u8 x.letter)) (hl : 0 < L.length) (hb : ∀ x ∈ L, 0 ≤ x.letter ∧ x.letter < 256) :
    (convert src dst v).run P W = .ok (.string (wordS L)) W := by
  rw [List.length_map] at hr
  obtain ⟨g, cap, rfl, -, -⟩ := hr.form hl
  have := run_convert_bytes_back (P := P) W src dst e ⟨g, 0, none⟩ cap (L.map fun x => UInt8.ofNat x.letter.toNat) hs he hd (fun j hj => by
    have hj' : j < L.length := by simpa using hj
    rw [Addr.add_lit]
    show W.cell? ⟨g, 0 + j, none⟩ = _
    rw [Nat.zero_add, hr.cellAt j (by omega)]
    obtain ⟨h1, h2⟩ := hb L[j] (List.getElem_mem hj')
    have h3 : ((UInt8.ofNat (L[j]).letter.toNat).toNat : Int) = (L[j]).letter := by
      rw [UInt8.toNat_ofNat']
      omega
    rw [List.getElem_map, h3, List.getElem?_map, List.getElem?_eq_getElem hj']
    rfl)
  rw [List.length_map] at this
  exact this
theorem own_three {w : World} {base q : Nat} {a b c : Int} (h : Blk w q 3 #[.int .i64 a, .int .i64 b, .int .i64 c]) (hb : base ≤ q) : w.ownsRow base 3 1 (.slice (some ⟨q, 0, none⟩) 3 3) 3 [.int .i64 a, .int .i64 b, .int .i64 c] :=
  ⟨rfl, .inr ⟨q, 3, _, rfl, hb, h, Nat.le_refl _, by decide, rfl, rfl⟩⟩
set_option maxRecDepth 100000 in
set_option maxHeartbeats 4000000 in
theorem walk_any {w : World} {g n c : Nat} {T : List Tr} (hs : Simp n T) (hT : Tab w g n T) (hc : c < 3 * T.length) :
    Calls Tryz.prog 23 #[.pointer (some ⟨g, 0, none⟩), .int .i64 c] w (WalkPost w T c) := by
  have hTl := hT.len
  have hn : n ≤ 4096 := by have := hs.surf.n1; omega
  have hnx := Jor.nx_lt hc
  have hpv := Jor.pv_lt hc
  have hB0 : Below w.heap.size w ((w.alloc (.cells #[.pointer (some ⟨g, 0, none⟩)] 26)).alloc (.cells #[.string ByteArray.empty, .slice none 0 0, .slice none 0 0] 45)) := ((Below.refl _ _).alloc (Nat.le_refl _) _).alloc (by simp) _
  have bt := (Blk.new w 26 #[.pointer (some ⟨g, 0, none⟩)]).alloc (.cells #[.string ByteArray.empty, .slice none 0 0, .slice none 0 0] 45)
  have br : Blk ((w.alloc (.cells #[.pointer (some ⟨g, 0, none⟩)] 26)).alloc (.cells #[.string ByteArray.empty, .slice none 0 0, .slice none 0 0] 45)) (w.heap.size + 1) 45 #[.string ByteArray.empty, .slice none 0 0, .slice none 0 0] := blk_new_at (by simp)
  have HCk := Lib.hid (fun (W : World) (hW : Below w.heap.size w W) => (show Calls Tryz.prog 52 #[.pointer (some ⟨g, 0, none⟩), .int .i64 (c : Int)] W fun e w' => e = .returned (.int .i64 0) ∧ Below W.heap.size W w' from by
    have := check_walk g n T W (c : Int) (hT.below hW) hs.surf (by omega) (fun W' hW' => loopsPost_closed ((hT.below hW).below hW') hs.closed hn)
    rwa [if_neg (by omega), if_pos ((chk_simp hs.surf).2 hs)] at this))
  have HV := Lib.hid (fun (W : World) (d : Nat) (hd : d < 3 * T.length) (hW : Below w.heap.size w W) => (show Calls Tryz.prog 36 #[.pointer (some ⟨g, 0, none⟩), .int .i64 (d : Int)] W fun e w' => e = .returned (.int .i64 (vertN T d)) ∧ W = w' from by
    have := vertex_any g n (d : Int) T W (hT.below hW).toTabS
    rw [vertI_nat hd] at this
    exact this))
  have HN := Lib.hid (fun (W : World) (hW : Below w.heap.size w W) => (show Calls Tryz.prog 38 #[.pointer (some ⟨g, 0, none⟩), .int .i64 (c : Int)] W fun e w' => e = .returned (.int .i64 ((Jor.nx c : Nat) : Int)) ∧ W = w' from by
    have := next_any g n (c : Int) T W (hT.below hW).toTabS
    unfold nextI at this
    rw [hasC_true (by omega) (by omega), if_pos rfl, Int.toNat_natCast] at this
    exact this))
  have HP := Lib.hid (fun (W : World) (hW : Below w.heap.size w W) => (show Calls Tryz.prog 39 #[.pointer (some ⟨g, 0, none⟩), .int .i64 (c : Int)] W fun e w' => e = .returned (.int .i64 ((Jor.pv c : Nat) : Int)) ∧ W = w' from by
    have := prev_any g n (c : Int) T W (hT.below hW).toTabS
    unfold prevI at this
    rw [hasC_true (by omega) (by omega), if_pos rfl, Int.toNat_natCast] at this
    exact this))
  have HT := Lib.hid (fun (W : World) (hW : Below w.heap.size w W) => hT.below hW)
  have HS := Lib.hid hs
  have HB0 := Lib.hid hB0
  have HBt := Lib.hid bt
  have HBr := Lib.hid br
  clear hB0 bt br hs hT
  refine (callsIn_wide (n := 9)).1 ?_
  refine callsIn_of_wp_marks Tryz.func23 rfl trivial ?_ rfl
  simp only [Tryz.ntmps23, List.size_toArray, List.length_cons, List.length_nil, Nat.reduceAdd, Nat.reduceSub, Array.replicate_succ, Array.replicate_zero, List.push_toArray, List.append_toArray, List.nil_append, List.cons_append]
  gi_hideQ
  gi_wp2_with fail
  refine ⟨trivial, (callsIn_wide.2 (HCk.out _ HB0.out)).mono ?_⟩
  rintro e w1 ⟨rfl, hb1⟩
  have HBt1 := Lib.hid (HBt.out.below hb1 HBt.out.lt)
  have HBr1 := Lib.hid (HBr.out.below hb1 HBr.out.lt)
  have HB1 := Lib.hid (HB0.out.trans (hb1.mono HB0.out.size))
  clear HB0 HBt HBr hb1
  obtain ⟨lt1, x1, fx1⟩ := HBt1.out.one
  have hz1 := HB1.out.size
  obtain ⟨va, hva⟩ : ∃ v, vertN T c = v := ⟨_, rfl⟩
  obtain ⟨vb, hvb⟩ : ∃ v, vertN T (Jor.nx c) = v := ⟨_, rfl⟩
  obtain ⟨vd, hvd⟩ : ∃ v, vertN T (Jor.pv c) = v := ⟨_, rfl⟩
  have HVa := Lib.hid (fun (W : World) (hW : Below w.heap.size w W) => HV.out W c hc hW)
  have HVb := Lib.hid (fun (W : World) (hW : Below w.heap.size w W) => HV.out W _ hnx hW)
  have HVd := Lib.hid (fun (W : World) (hW : Below w.heap.size w W) => HV.out W _ hpv hW)
  have hcome : (beginS T c).come = [va, vb, vd] := by unfold beginS; rw [hva, hvb, hvd]
  have HCm := Lib.hid hcome
  rw [hva] at HVa
  rw [hvb] at HVb
  rw [hvd] at HVd
  clear hva hvb hvd hcome
  obtain ⟨nb, hnb⟩ : ∃ k, Jor.nx c = k := ⟨_, rfl⟩
  obtain ⟨nd, hnd⟩ : ∃ k, Jor.pv c = k := ⟨_, rfl⟩
  rw [hnb] at HVb HN
  rw [hnd] at HVd HP
  clear hnb hnd hnx hpv
  gi_upto_region 4 with fail
  gi_cut [7] from 66 (fun v7 W => ∃ q vV vC, v7 = .pointer (some ⟨q, 0, none⟩) ∧ Below w1.heap.size w1 W ∧ w1.heap.size ≤ q ∧ Blk W q 45 #[.string ByteArray.empty, vV, vC] ∧ W.ownsRow w1.heap.size 3 1 vV 3 [.int .i64 va, .int .i64 vb, .int .i64 vd] ∧ W.ownsRow w1.heap.size 3 1 vC 1 [.int .i64 c] ∧ vV.ownBlock ≠ vC.ownBlock)
  case first =>
    refine wpIn_region_state (by kernel_rfl) (fun listed a W => ∃ u7 u17 u18 u19 u20 u21 u22 u23 u24 u25 u26 u27 u28 u29 u30 u31 u32 u33 : Value, a = { tmps := List.toArray (.pointer (some ⟨g, 0, none⟩) :: .int .i64 (c : Int) :: .pointer (some ⟨w.heap.size, 0, none⟩) :: undef :: .pointer (some ⟨w.heap.size + 1, 0, none⟩) :: .int .i64 0 :: .int .i64 0 :: u7 :: undef :: undef :: .pointer (some ⟨g, 0, none⟩) :: .int .i64 (c : Int) :: .int .i64 0 :: .int .i64 0 :: .bool false :: undef :: undef :: u17 :: u18 :: u19 :: u20 :: u21 :: u22 :: u23 :: u24 :: u25 :: u26 :: u27 :: u28 :: u29 :: u30 :: u31 :: u32 :: u33 :: undef :: undef :: undef :: undef :: undef :: undef :: undef :: undef :: undef :: undef :: undef :: undef :: undef :: undef :: undef :: undef :: undef :: undef :: undef :: undef :: undef :: undef :: undef :: undef :: undef :: undef :: undef :: undef :: undef :: undef :: undef :: undef :: []), defers := [] } ∧ Below w1.heap.size w1 W ∧ (listed.getD 0 false = true → u17 = .pointer (some ⟨g, 0, none⟩)) ∧ (listed.getD 1 false = true → u18 = .int .i64 (c : Int)) ∧ (listed.getD 2 false = true → u19 = .int .i64 va) ∧ (listed.getD 3 false = true → u20 = .pointer (some ⟨g, 0, none⟩)) ∧ (listed.getD 4 false = true → u21 = .pointer (some ⟨g, 0, none⟩)) ∧ (listed.getD 5 false = true → u22 = .int .i64 (c : Int)) ∧ (listed.getD 6 false = true → u23 = .int .i64 (nb : Int)) ∧ (listed.getD 7 false = true → u24 = .int .i64 vb) ∧ (listed.getD 8 false = true → u25 = .pointer (some ⟨g, 0, none⟩)) ∧ (listed.getD 9 false = true → u26 = .pointer (some ⟨g, 0, none⟩)) ∧ (listed.getD 10 false = true → u27 = .int .i64 (c : Int)) ∧ (listed.getD 11 false = true → u28 = .int .i64 (nd : Int)) ∧ (listed.getD 12 false = true → u29 = .int .i64 vd) ∧ (listed.getD 13 false = true → ∃ q, u30 = .slice (some ⟨q, 0, none⟩) 3 3 ∧ w1.heap.size ≤ q ∧ Blk W q 3 #[.int .i64 va, .int .i64 vb, .int .i64 vd]) ∧ (listed.getD 14 false = true → u31 = .int .i64 (c : Int)) ∧ (listed.getD 15 false = true → ∃ q, u32 = .slice (some ⟨q, 0, none⟩) 1 1 ∧ w1.heap.size ≤ q ∧ Blk W q 3 #[.int .i64 c]) ∧ (listed.getD 16 false = true → u33 = .agg #[.string ByteArray.empty, u30, u32]) ∧ (listed.getD 17 false = true → ∃ q, u7 = .pointer (some ⟨q, 0, none⟩) ∧ w1.heap.size ≤ q ∧ ∃ x y z, Blk W q 45 #[x, y, z]) ∧ (listed.getD 18 false = true → ∃ q, u7 = .pointer (some ⟨q, 0, none⟩) ∧ w1.heap.size ≤ q ∧ Blk W q 45 #[.string ByteArray.empty, u30, u32]) ∧ (listed.getD 13 false = true → listed.getD 15 false = true → u30.ownBlock ≠ u32.ownBlock) ∧ (listed.getD 16 false = true → listed.getD 13 false = true ∧ listed.getD 15 false = true) ∧ (listed.getD 18 false = true → listed.getD 17 false = true ∧ listed.getD 16 false = true)) ?_ ?_ ?_ ?_
    · intro i o ho e he
      have hi : i < 19 := (Array.getElem?_eq_some_iff.1 ho).1
      rcases (by omega : i = 0 ∨ i = 1 ∨ i = 2 ∨ i = 3 ∨ i = 4 ∨ i = 5 ∨ i = 6 ∨ i = 7 ∨ i = 8 ∨ i = 9 ∨ i = 10 ∨ i = 11 ∨ i = 12 ∨ i = 13 ∨ i = 14 ∨ i = 15 ∨ i = 16 ∨ i = 17 ∨ i = 18) with rfl | rfl | rfl | rfl | rfl | rfl | rfl | rfl | rfl | rfl | rfl | rfl | rfl | rfl | rfl | rfl | rfl | rfl | rfl <;> (obtain rfl := Option.some.inj ho; revert e; decide)
    · refine ⟨_, _, _, _, _, _, _, _, _, _, _, _, _, _, _, _, _, _, rfl, (Below.refl _ _).drew, fun h => absurd h (by decide), fun h => absurd h (by decide), fun h => absurd h (by decide), fun h => absurd h (by decide), fun h => absurd h (by decide), fun h => absurd h (by decide), fun h => absurd h (by decide), fun h => absurd h (by decide), fun h => absurd h (by decide), fun h => absurd h (by decide), fun h => absurd h (by decide), fun h => absurd h (by decide), fun h => absurd h (by decide), fun h => absurd h (by decide), fun h => absurd h (by decide), fun h => absurd h (by decide), fun h => absurd h (by decide), fun h => absurd h (by decide), fun h => absurd h (by decide), fun h => absurd h (by decide), fun h => absurd h (by decide), fun h => absurd h (by decide)⟩
    · intro i o listed a W ho hsz hun hd hI K hK
      have hi : i < 19 := (Array.getElem?_eq_some_iff.1 ho).1
      have hsz' : listed.size = 19 := hsz
      obtain ⟨u7, u17, u18, u19, u20, u21, u22, u23, u24, u25, u26, u27, u28, u29, u30, u31, u32, u33, rfl, hB, p0, p1, p2, p3, p4, p5, p6, p7, p8, p9, p10, p11, p12, p13, p14, p15, p16, p17, p18, pa, z16, z18⟩ := hI
      have xB := (hB.cell (p := ⟨w.heap.size, 0, none⟩) lt1).trans x1
      have hzB := hB.size
      have hBW := HB1.out.trans (hB.mono hz1)
      have st : ∀ j k, j ≠ k → (listed.setIfInBounds j true).getD k false = true → listed.getD k false = true := fun j k h e => by rw [getD_set_ne false h] at e; exact e
      have nl : listed.getD i false = true → False := fun h => by
        have h2 : i < listed.size := by omega
        simp only [Array.getD_eq_getD_getElem?, Array.getElem?_eq_getElem h2, Option.getD_some] at h hun
        rw [h] at hun
        cases hun
      rcases (by omega : i = 0 ∨ i = 1 ∨ i = 2 ∨ i = 3 ∨ i = 4 ∨ i = 5 ∨ i = 6 ∨ i = 7 ∨ i = 8 ∨ i = 9 ∨ i = 10 ∨ i = 11 ∨ i = 12 ∨ i = 13 ∨ i = 14 ∨ i = 15 ∨ i = 16 ∨ i = 17 ∨ i = 18) with rfl | rfl | rfl | rfl | rfl | rfl | rfl | rfl | rfl | rfl | rfl | rfl | rfl | rfl | rfl | rfl | rfl | rfl | rfl
      · obtain rfl := Option.some.inj ho
        go_simp
        exact hK _ _ ⟨_, _, _, _, _, _, _, _, _, _, _, _, _, _, _, _, _, _, rfl, hB, fun _ => rfl, fun h => p1 (st 0 1 (by decide) h), fun h => p2 (st 0 2 (by decide) h), fun h => p3 (st 0 3 (by decide) h), fun h => p4 (st 0 4 (by decide) h), fun h => p5 (st 0 5 (by decide) h), fun h => p6 (st 0 6 (by decide) h), fun h => p7 (st 0 7 (by decide) h), fun h => p8 (st 0 8 (by decide) h), fun h => p9 (st 0 9 (by decide) h), fun h => p10 (st 0 10 (by decide) h), fun h => p11 (st 0 11 (by decide) h), fun h => p12 (st 0 12 (by decide) h), fun h => p13 (st 0 13 (by decide) h), fun h => p14 (st 0 14 (by decide) h), fun h => p15 (st 0 15 (by decide) h), fun h => p16 (st 0 16 (by decide) h), fun h => p17 (st 0 17 (by decide) h), fun h => p18 (st 0 18 (by decide) h), fun h h2 => pa (st 0 13 (by decide) h) (st 0 15 (by decide) h2), fun h => ⟨getD_set_true (z16 (st 0 16 (by decide) h)).1, getD_set_true (z16 (st 0 16 (by decide) h)).2⟩, fun h => ⟨getD_set_true (z18 (st 0 18 (by decide) h)).1, getD_set_true (z18 (st 0 18 (by decide) h)).2⟩⟩
      · obtain rfl := Option.some.inj ho
        go_simp
        exact hK _ _ ⟨_, _, _, _, _, _, _, _, _, _, _, _, _, _, _, _, _, _, rfl, hB, fun h => p0 (st 1 0 (by decide) h), fun _ => rfl, fun h => p2 (st 1 2 (by decide) h), fun h => p3 (st 1 3 (by decide) h), fun h => p4 (st 1 4 (by decide) h), fun h => p5 (st 1 5 (by decide) h), fun h => p6 (st 1 6 (by decide) h), fun h => p7 (st 1 7 (by decide) h), fun h => p8 (st 1 8 (by decide) h), fun h => p9 (st 1 9 (by decide) h), fun h => p10 (st 1 10 (by decide) h), fun h => p11 (st 1 11 (by decide) h), fun h => p12 (st 1 12 (by decide) h), fun h => p13 (st 1 13 (by decide) h), fun h => p14 (st 1 14 (by decide) h), fun h => p15 (st 1 15 (by decide) h), fun h => p16 (st 1 16 (by decide) h), fun h => p17 (st 1 17 (by decide) h), fun h => p18 (st 1 18 (by decide) h), fun h h2 => pa (st 1 13 (by decide) h) (st 1 15 (by decide) h2), fun h => ⟨getD_set_true (z16 (st 1 16 (by decide) h)).1, getD_set_true (z16 (st 1 16 (by decide) h)).2⟩, fun h => ⟨getD_set_true (z18 (st 1 18 (by decide) h)).1, getD_set_true (z18 (st 1 18 (by decide) h)).2⟩⟩
      · obtain rfl := Option.some.inj ho
        obtain rfl := p0 (hd ⟨0, .data⟩ (by simp) rfl)
        obtain rfl := p1 (hd ⟨1, .data⟩ (by simp) rfl)
        go_simp
        refine ⟨trivial, (callsIn_wide.2 (HVa.out W hBW)).mono ?_⟩
        rintro e w2 ⟨rfl, rfl⟩
        exact hK _ _ ⟨_, _, _, _, _, _, _, _, _, _, _, _, _, _, _, _, _, _, rfl, hB, fun h => p0 (st 2 0 (by decide) h), fun h => p1 (st 2 1 (by decide) h), fun _ => rfl, fun h => p3 (st 2 3 (by decide) h), fun h => p4 (st 2 4 (by decide) h), fun h => p5 (st 2 5 (by decide) h), fun h => p6 (st 2 6 (by decide) h), fun h => p7 (st 2 7 (by decide) h), fun h => p8 (st 2 8 (by decide) h), fun h => p9 (st 2 9 (by decide) h), fun h => p10 (st 2 10 (by decide) h), fun h => p11 (st 2 11 (by decide) h), fun h => p12 (st 2 12 (by decide) h), fun h => p13 (st 2 13 (by decide) h), fun h => p14 (st 2 14 (by decide) h), fun h => p15 (st 2 15 (by decide) h), fun h => p16 (st 2 16 (by decide) h), fun h => p17 (st 2 17 (by decide) h), fun h => p18 (st 2 18 (by decide) h), fun h h2 => pa (st 2 13 (by decide) h) (st 2 15 (by decide) h2), fun h => ⟨getD_set_true (z16 (st 2 16 (by decide) h)).1, getD_set_true (z16 (st 2 16 (by decide) h)).2⟩, fun h => ⟨getD_set_true (z18 (st 2 18 (by decide) h)).1, getD_set_true (z18 (st 2 18 (by decide) h)).2⟩⟩
      · obtain rfl := Option.some.inj ho
        go_simp
        exact hK _ _ ⟨_, _, _, _, _, _, _, _, _, _, _, _, _, _, _, _, _, _, rfl, hB, fun h => p0 (st 3 0 (by decide) h), fun h => p1 (st 3 1 (by decide) h), fun h => p2 (st 3 2 (by decide) h), fun _ => rfl, fun h => p4 (st 3 4 (by decide) h), fun h => p5 (st 3 5 (by decide) h), fun h => p6 (st 3 6 (by decide) h), fun h => p7 (st 3 7 (by decide) h), fun h => p8 (st 3 8 (by decide) h), fun h => p9 (st 3 9 (by decide) h), fun h => p10 (st 3 10 (by decide) h), fun h => p11 (st 3 11 (by decide) h), fun h => p12 (st 3 12 (by decide) h), fun h => p13 (st 3 13 (by decide) h), fun h => p14 (st 3 14 (by decide) h), fun h => p15 (st 3 15 (by decide) h), fun h => p16 (st 3 16 (by decide) h), fun h => p17 (st 3 17 (by decide) h), fun h => p18 (st 3 18 (by decide) h), fun h h2 => pa (st 3 13 (by decide) h) (st 3 15 (by decide) h2), fun h => ⟨getD_set_true (z16 (st 3 16 (by decide) h)).1, getD_set_true (z16 (st 3 16 (by decide) h)).2⟩, fun h => ⟨getD_set_true (z18 (st 3 18 (by decide) h)).1, getD_set_true (z18 (st 3 18 (by decide) h)).2⟩⟩
      · obtain rfl := Option.some.inj ho
        go_simp
        exact hK _ _ ⟨_, _, _, _, _, _, _, _, _, _, _, _, _, _, _, _, _, _, rfl, hB, fun h => p0 (st 4 0 (by decide) h), fun h => p1 (st 4 1 (by decide) h), fun h => p2 (st 4 2 (by decide) h), fun h => p3 (st 4 3 (by decide) h), fun _ => rfl, fun h => p5 (st 4 5 (by decide) h), fun h => p6 (st 4 6 (by decide) h), fun h => p7 (st 4 7 (by decide) h), fun h => p8 (st 4 8 (by decide) h), fun h => p9 (st 4 9 (by decide) h), fun h => p10 (st 4 10 (by decide) h), fun h => p11 (st 4 11 (by decide) h), fun h => p12 (st 4 12 (by decide) h), fun h => p13 (st 4 13 (by decide) h), fun h => p14 (st 4 14 (by decide) h), fun h => p15 (st 4 15 (by decide) h), fun h => p16 (st 4 16 (by decide) h), fun h => p17 (st 4 17 (by decide) h), fun h => p18 (st 4 18 (by decide) h), fun h h2 => pa (st 4 13 (by decide) h) (st 4 15 (by decide) h2), fun h => ⟨getD_set_true (z16 (st 4 16 (by decide) h)).1, getD_set_true (z16 (st 4 16 (by decide) h)).2⟩, fun h => ⟨getD_set_true (z18 (st 4 18 (by decide) h)).1, getD_set_true (z18 (st 4 18 (by decide) h)).2⟩⟩
      · obtain rfl := Option.some.inj ho
        go_simp
        exact hK _ _ ⟨_, _, _, _, _, _, _, _, _, _, _, _, _, _, _, _, _, _, rfl, hB, fun h => p0 (st 5 0 (by decide) h), fun h => p1 (st 5 1 (by decide) h), fun h => p2 (st 5 2 (by decide) h), fun h => p3 (st 5 3 (by decide) h), fun h => p4 (st 5 4 (by decide) h), fun _ => rfl, fun h => p6 (st 5 6 (by decide) h), fun h => p7 (st 5 7 (by decide) h), fun h => p8 (st 5 8 (by decide) h), fun h => p9 (st 5 9 (by decide) h), fun h => p10 (st 5 10 (by decide) h), fun h => p11 (st 5 11 (by decide) h), fun h => p12 (st 5 12 (by decide) h), fun h => p13 (st 5 13 (by decide) h), fun h => p14 (st 5 14 (by decide) h), fun h => p15 (st 5 15 (by decide) h), fun h => p16 (st 5 16 (by decide) h), fun h => p17 (st 5 17 (by decide) h), fun h => p18 (st 5 18 (by decide) h), fun h h2 => pa (st 5 13 (by decide) h) (st 5 15 (by decide) h2), fun h => ⟨getD_set_true (z16 (st 5 16 (by decide) h)).1, getD_set_true (z16 (st 5 16 (by decide) h)).2⟩, fun h => ⟨getD_set_true (z18 (st 5 18 (by decide) h)).1, getD_set_true (z18 (st 5 18 (by decide) h)).2⟩⟩
      · obtain rfl := Option.some.inj ho
        obtain rfl := p4 (hd ⟨4, .data⟩ (by simp) rfl)
        obtain rfl := p5 (hd ⟨5, .data⟩ (by simp) rfl)
        go_simp
        refine ⟨trivial, (callsIn_wide.2 (HN.out W hBW)).mono ?_⟩
        rintro e w2 ⟨rfl, rfl⟩
        exact hK _ _ ⟨_, _, _, _, _, _, _, _, _, _, _, _, _, _, _, _, _, _, rfl, hB, fun h => p0 (st 6 0 (by decide) h), fun h => p1 (st 6 1 (by decide) h), fun h => p2 (st 6 2 (by decide) h), fun h => p3 (st 6 3 (by decide) h), fun h => p4 (st 6 4 (by decide) h), fun h => p5 (st 6 5 (by decide) h), fun _ => rfl, fun h => p7 (st 6 7 (by decide) h), fun h => p8 (st 6 8 (by decide) h), fun h => p9 (st 6 9 (by decide) h), fun h => p10 (st 6 10 (by decide) h), fun h => p11 (st 6 11 (by decide) h), fun h => p12 (st 6 12 (by decide) h), fun h => p13 (st 6 13 (by decide) h), fun h => p14 (st 6 14 (by decide) h), fun h => p15 (st 6 15 (by decide) h), fun h => p16 (st 6 16 (by decide) h), fun h => p17 (st 6 17 (by decide) h), fun h => p18 (st 6 18 (by decide) h), fun h h2 => pa (st 6 13 (by decide) h) (st 6 15 (by decide) h2), fun h => ⟨getD_set_true (z16 (st 6 16 (by decide) h)).1, getD_set_true (z16 (st 6 16 (by decide) h)).2⟩, fun h => ⟨getD_set_true (z18 (st 6 18 (by decide) h)).1, getD_set_true (z18 (st 6 18 (by decide) h)).2⟩⟩
      · obtain rfl := Option.some.inj ho
        obtain rfl := p3 (hd ⟨3, .data⟩ (by simp) rfl)
        obtain rfl := p6 (hd ⟨6, .data⟩ (by simp) rfl)
        go_simp
        refine ⟨trivial, (callsIn_wide.2 (HVb.out W hBW)).mono ?_⟩
        rintro e w2 ⟨rfl, rfl⟩
        exact hK _ _ ⟨_, _, _, _, _, _, _, _, _, _, _, _, _, _, _, _, _, _, rfl, hB, fun h => p0 (st 7 0 (by decide) h), fun h => p1 (st 7 1 (by decide) h), fun h => p2 (st 7 2 (by decide) h), fun h => p3 (st 7 3 (by decide) h), fun h => p4 (st 7 4 (by decide) h), fun h => p5 (st 7 5 (by decide) h), fun h => p6 (st 7 6 (by decide) h), fun _ => rfl, fun h => p8 (st 7 8 (by decide) h), fun h => p9 (st 7 9 (by decide) h), fun h => p10 (st 7 10 (by decide) h), fun h => p11 (st 7 11 (by decide) h), fun h => p12 (st 7 12 (by decide) h), fun h => p13 (st 7 13 (by decide) h), fun h => p14 (st 7 14 (by decide) h), fun h => p15 (st 7 15 (by decide) h), fun h => p16 (st 7 16 (by decide) h), fun h => p17 (st 7 17 (by decide) h), fun h => p18 (st 7 18 (by decide) h), fun h h2 => pa (st 7 13 (by decide) h) (st 7 15 (by decide) h2), fun h => ⟨getD_set_true (z16 (st 7 16 (by decide) h)).1, getD_set_true (z16 (st 7 16 (by decide) h)).2⟩, fun h => ⟨getD_set_true (z18 (st 7 18 (by decide) h)).1, getD_set_true (z18 (st 7 18 (by decide) h)).2⟩⟩
      · obtain rfl := Option.some.inj ho
        go_simp
        exact hK _ _ ⟨_, _, _, _, _, _, _, _, _, _, _, _, _, _, _, _, _, _, rfl, hB, fun h => p0 (st 8 0 (by decide) h), fun h => p1 (st 8 1 (by decide) h), fun h => p2 (st 8 2 (by decide) h), fun h => p3 (st 8 3 (by decide) h), fun h => p4 (st 8 4 (by decide) h), fun h => p5 (st 8 5 (by decide) h), fun h => p6 (st 8 6 (by decide) h), fun h => p7 (st 8 7 (by decide) h), fun _ => rfl, fun h => p9 (st 8 9 (by decide) h), fun h => p10 (st 8 10 (by decide) h), fun h => p11 (st 8 11 (by decide) h), fun h => p12 (st 8 12 (by decide) h), fun h => p13 (st 8 13 (by decide) h), fun h => p14 (st 8 14 (by decide) h), fun h => p15 (st 8 15 (by decide) h), fun h => p16 (st 8 16 (by decide) h), fun h => p17 (st 8 17 (by decide) h), fun h => p18 (st 8 18 (by decide) h), fun h h2 => pa (st 8 13 (by decide) h) (st 8 15 (by decide) h2), fun h => ⟨getD_set_true (z16 (st 8 16 (by decide) h)).1, getD_set_true (z16 (st 8 16 (by decide) h)).2⟩, fun h => ⟨getD_set_true (z18 (st 8 18 (by decide) h)).1, getD_set_true (z18 (st 8 18 (by decide) h)).2⟩⟩
      · obtain rfl := Option.some.inj ho
        go_simp
        exact hK _ _ ⟨_, _, _, _, _, _, _, _, _, _, _, _, _, _, _, _, _, _, rfl, hB, fun h => p0 (st 9 0 (by decide) h), fun h => p1 (st 9 1 (by decide) h), fun h => p2 (st 9 2 (by decide) h), fun h => p3 (st 9 3 (by decide) h), fun h => p4 (st 9 4 (by decide) h), fun h => p5 (st 9 5 (by decide) h), fun h => p6 (st 9 6 (by decide) h), fun h => p7 (st 9 7 (by decide) h), fun h => p8 (st 9 8 (by decide) h), fun _ => rfl, fun h => p10 (st 9 10 (by decide) h), fun h => p11 (st 9 11 (by decide) h), fun h => p12 (st 9 12 (by decide) h), fun h => p13 (st 9 13 (by decide) h), fun h => p14 (st 9 14 (by decide) h), fun h => p15 (st 9 15 (by decide) h), fun h => p16 (st 9 16 (by decide) h), fun h => p17 (st 9 17 (by decide) h), fun h => p18 (st 9 18 (by decide) h), fun h h2 => pa (st 9 13 (by decide) h) (st 9 15 (by decide) h2), fun h => ⟨getD_set_true (z16 (st 9 16 (by decide) h)).1, getD_set_true (z16 (st 9 16 (by decide) h)).2⟩, fun h => ⟨getD_set_true (z18 (st 9 18 (by decide) h)).1, getD_set_true (z18 (st 9 18 (by decide) h)).2⟩⟩
      · obtain rfl := Option.some.inj ho
        go_simp
        exact hK _ _ ⟨_, _, _, _, _, _, _, _, _, _, _, _, _, _, _, _, _, _, rfl, hB, fun h => p0 (st 10 0 (by decide) h), fun h => p1 (st 10 1 (by decide) h), fun h => p2 (st 10 2 (by decide) h), fun h => p3 (st 10 3 (by decide) h), fun h => p4 (st 10 4 (by decide) h), fun h => p5 (st 10 5 (by decide) h), fun h => p6 (st 10 6 (by decide) h), fun h => p7 (st 10 7 (by decide) h), fun h => p8 (st 10 8 (by decide) h), fun h => p9 (st 10 9 (by decide) h), fun _ => rfl, fun h => p11 (st 10 11 (by decide) h), fun h => p12 (st 10 12 (by decide) h), fun h => p13 (st 10 13 (by decide) h), fun h => p14 (st 10 14 (by decide) h), fun h => p15 (st 10 15 (by decide) h), fun h => p16 (st 10 16 (by decide) h), fun h => p17 (st 10 17 (by decide) h), fun h => p18 (st 10 18 (by decide) h), fun h h2 => pa (st 10 13 (by decide) h) (st 10 15 (by decide) h2), fun h => ⟨getD_set_true (z16 (st 10 16 (by decide) h)).1, getD_set_true (z16 (st 10 16 (by decide) h)).2⟩, fun h => ⟨getD_set_true (z18 (st 10 18 (by decide) h)).1, getD_set_true (z18 (st 10 18 (by decide) h)).2⟩⟩
      · obtain rfl := Option.some.inj ho
        obtain rfl := p9 (hd ⟨9, .data⟩ (by simp) rfl)
        obtain rfl := p10 (hd ⟨10, .data⟩ (by simp) rfl)
        go_simp
        refine ⟨trivial, (callsIn_wide.2 (HP.out W hBW)).mono ?_⟩
        rintro e w2 ⟨rfl, rfl⟩
        exact hK _ _ ⟨_, _, _, _, _, _, _, _, _, _, _, _, _, _, _, _, _, _, rfl, hB, fun h => p0 (st 11 0 (by decide) h), fun h => p1 (st 11 1 (by decide) h), fun h => p2 (st 11 2 (by decide) h), fun h => p3 (st 11 3 (by decide) h), fun h => p4 (st 11 4 (by decide) h), fun h => p5 (st 11 5 (by decide) h), fun h => p6 (st 11 6 (by decide) h), fun h => p7 (st 11 7 (by decide) h), fun h => p8 (st 11 8 (by decide) h), fun h => p9 (st 11 9 (by decide) h), fun h => p10 (st 11 10 (by decide) h), fun _ => rfl, fun h => p12 (st 11 12 (by decide) h), fun h => p13 (st 11 13 (by decide) h), fun h => p14 (st 11 14 (by decide) h), fun h => p15 (st 11 15 (by decide) h), fun h => p16 (st 11 16 (by decide) h), fun h => p17 (st 11 17 (by decide) h), fun h => p18 (st 11 18 (by decide) h), fun h h2 => pa (st 11 13 (by decide) h) (st 11 15 (by decide) h2), fun h => ⟨getD_set_true (z16 (st 11 16 (by decide) h)).1, getD_set_true (z16 (st 11 16 (by decide) h)).2⟩, fun h => ⟨getD_set_true (z18 (st 11 18 (by decide) h)).1, getD_set_true (z18 (st 11 18 (by decide) h)).2⟩⟩
      · obtain rfl := Option.some.inj ho
        obtain rfl := p8 (hd ⟨8, .data⟩ (by simp) rfl)
        obtain rfl := p11 (hd ⟨11, .data⟩ (by simp) rfl)
        go_simp
        refine ⟨trivial, (callsIn_wide.2 (HVd.out W hBW)).mono ?_⟩
        rintro e w2 ⟨rfl, rfl⟩
        exact hK _ _ ⟨_, _, _, _, _, _, _, _, _, _, _, _, _, _, _, _, _, _, rfl, hB, fun h => p0 (st 12 0 (by decide) h), fun h => p1 (st 12 1 (by decide) h), fun h => p2 (st 12 2 (by decide) h), fun h => p3 (st 12 3 (by decide) h), fun h => p4 (st 12 4 (by decide) h), fun h => p5 (st 12 5 (by decide) h), fun h => p6 (st 12 6 (by decide) h), fun h => p7 (st 12 7 (by decide) h), fun h => p8 (st 12 8 (by decide) h), fun h => p9 (st 12 9 (by decide) h), fun h => p10 (st 12 10 (by decide) h), fun h => p11 (st 12 11 (by decide) h), fun _ => rfl, fun h => p13 (st 12 13 (by decide) h), fun h => p14 (st 12 14 (by decide) h), fun h => p15 (st 12 15 (by decide) h), fun h => p16 (st 12 16 (by decide) h), fun h => p17 (st 12 17 (by decide) h), fun h => p18 (st 12 18 (by decide) h), fun h h2 => pa (st 12 13 (by decide) h) (st 12 15 (by decide) h2), fun h => ⟨getD_set_true (z16 (st 12 16 (by decide) h)).1, getD_set_true (z16 (st 12 16 (by decide) h)).2⟩, fun h => ⟨getD_set_true (z18 (st 12 18 (by decide) h)).1, getD_set_true (z18 (st 12 18 (by decide) h)).2⟩⟩
      · obtain rfl := Option.some.inj ho
        obtain rfl := p2 (hd ⟨2, .data⟩ (by simp) rfl)
        obtain rfl := p7 (hd ⟨7, .data⟩ (by simp) rfl)
        obtain rfl := p12 (hd ⟨12, .data⟩ (by simp) rfl)
        go_simp
        exact hK _ _ ⟨_, _, _, _, _, _, _, _, _, _, _, _, _, _, _, _, _, _, rfl, hB.alloc hzB _, fun h => p0 (st 13 0 (by decide) h), fun h => p1 (st 13 1 (by decide) h), fun h => p2 (st 13 2 (by decide) h), fun h => p3 (st 13 3 (by decide) h), fun h => p4 (st 13 4 (by decide) h), fun h => p5 (st 13 5 (by decide) h), fun h => p6 (st 13 6 (by decide) h), fun h => p7 (st 13 7 (by decide) h), fun h => p8 (st 13 8 (by decide) h), fun h => p9 (st 13 9 (by decide) h), fun h => p10 (st 13 10 (by decide) h), fun h => p11 (st 13 11 (by decide) h), fun h => p12 (st 13 12 (by decide) h), fun _ => ⟨W.heap.size, rfl, hzB, Blk.new _ _ _⟩, fun h => p14 (st 13 14 (by decide) h), fun h => by obtain ⟨q, e, l, b⟩ := p15 (st 13 15 (by decide) h); exact ⟨q, e, l, b.alloc _⟩, fun h => (nl (z16 (st 13 16 (by decide) h)).1).elim, fun h => by obtain ⟨q, e, l, y0, y1, y2, b⟩ := p17 (st 13 17 (by decide) h); exact ⟨q, e, l, y0, y1, y2, b.alloc _⟩, fun h => (nl (z16 (z18 (st 13 18 (by decide) h)).2).1).elim, fun _ h => by obtain ⟨q, e, l, b⟩ := p15 (st 13 15 (by decide) h); have := b.lt; rw [e]; simp [Value.ownBlock]; omega, fun h => ⟨getD_set_true (z16 (st 13 16 (by decide) h)).1, getD_set_true (z16 (st 13 16 (by decide) h)).2⟩, fun h => ⟨getD_set_true (z18 (st 13 18 (by decide) h)).1, getD_set_true (z18 (st 13 18 (by decide) h)).2⟩⟩
      · obtain rfl := Option.some.inj ho
        go_simp
        exact hK _ _ ⟨_, _, _, _, _, _, _, _, _, _, _, _, _, _, _, _, _, _, rfl, hB, fun h => p0 (st 14 0 (by decide) h), fun h => p1 (st 14 1 (by decide) h), fun h => p2 (st 14 2 (by decide) h), fun h => p3 (st 14 3 (by decide) h), fun h => p4 (st 14 4 (by decide) h), fun h => p5 (st 14 5 (by decide) h), fun h => p6 (st 14 6 (by decide) h), fun h => p7 (st 14 7 (by decide) h), fun h => p8 (st 14 8 (by decide) h), fun h => p9 (st 14 9 (by decide) h), fun h => p10 (st 14 10 (by decide) h), fun h => p11 (st 14 11 (by decide) h), fun h => p12 (st 14 12 (by decide) h), fun h => p13 (st 14 13 (by decide) h), fun _ => rfl, fun h => p15 (st 14 15 (by decide) h), fun h => p16 (st 14 16 (by decide) h), fun h => p17 (st 14 17 (by decide) h), fun h => p18 (st 14 18 (by decide) h), fun h h2 => pa (st 14 13 (by decide) h) (st 14 15 (by decide) h2), fun h => ⟨getD_set_true (z16 (st 14 16 (by decide) h)).1, getD_set_true (z16 (st 14 16 (by decide) h)).2⟩, fun h => ⟨getD_set_true (z18 (st 14 18 (by decide) h)).1, getD_set_true (z18 (st 14 18 (by decide) h)).2⟩⟩
      · obtain rfl := Option.some.inj ho
        obtain rfl := p14 (hd ⟨14, .data⟩ (by simp) rfl)
        go_simp
        exact hK _ _ ⟨_, _, _, _, _, _, _, _, _, _, _, _, _, _, _, _, _, _, rfl, hB.alloc hzB _, fun h => p0 (st 15 0 (by decide) h), fun h => p1 (st 15 1 (by decide) h), fun h => p2 (st 15 2 (by decide) h), fun h => p3 (st 15 3 (by decide) h), fun h => p4 (st 15 4 (by decide) h), fun h => p5 (st 15 5 (by decide) h), fun h => p6 (st 15 6 (by decide) h), fun h => p7 (st 15 7 (by decide) h), fun h => p8 (st 15 8 (by decide) h), fun h => p9 (st 15 9 (by decide) h), fun h => p10 (st 15 10 (by decide) h), fun h => p11 (st 15 11 (by decide) h), fun h => p12 (st 15 12 (by decide) h), fun h => by obtain ⟨q, e, l, b⟩ := p13 (st 15 13 (by decide) h); exact ⟨q, e, l, b.alloc _⟩, fun h => p14 (st 15 14 (by decide) h), fun _ => ⟨W.heap.size, rfl, hzB, Blk.new _ _ _⟩, fun h => (nl (z16 (st 15 16 (by decide) h)).2).elim, fun h => by obtain ⟨q, e, l, y0, y1, y2, b⟩ := p17 (st 15 17 (by decide) h); exact ⟨q, e, l, y0, y1, y2, b.alloc _⟩, fun h => (nl (z16 (z18 (st 15 18 (by decide) h)).2).2).elim, fun h _ => by obtain ⟨q, e, l, b⟩ := p13 (st 15 13 (by decide) h); have := b.lt; rw [e]; simp [Value.ownBlock]; omega, fun h => ⟨getD_set_true (z16 (st 15 16 (by decide) h)).1, getD_set_true (z16 (st 15 16 (by decide) h)).2⟩, fun h => ⟨getD_set_true (z18 (st 15 18 (by decide) h)).1, getD_set_true (z18 (st 15 18 (by decide) h)).2⟩⟩
      · obtain rfl := Option.some.inj ho
        have g13 := hd ⟨13, .data⟩ (by simp) rfl
        have g15 := hd ⟨15, .data⟩ (by simp) rfl
        obtain ⟨q13, rfl, l13, b13⟩ := p13 g13
        obtain ⟨q15, rfl, l15, b15⟩ := p15 g15
        go_simp
        exact hK _ _ ⟨_, _, _, _, _, _, _, _, _, _, _, _, _, _, _, _, _, _, rfl, hB, fun h => p0 (st 16 0 (by decide) h), fun h => p1 (st 16 1 (by decide) h), fun h => p2 (st 16 2 (by decide) h), fun h => p3 (st 16 3 (by decide) h), fun h => p4 (st 16 4 (by decide) h), fun h => p5 (st 16 5 (by decide) h), fun h => p6 (st 16 6 (by decide) h), fun h => p7 (st 16 7 (by decide) h), fun h => p8 (st 16 8 (by decide) h), fun h => p9 (st 16 9 (by decide) h), fun h => p10 (st 16 10 (by decide) h), fun h => p11 (st 16 11 (by decide) h), fun h => p12 (st 16 12 (by decide) h), fun h => ⟨q13, rfl, l13, b13⟩, fun h => p14 (st 16 14 (by decide) h), fun h => ⟨q15, rfl, l15, b15⟩, fun _ => rfl, fun h => p17 (st 16 17 (by decide) h), fun h => p18 (st 16 18 (by decide) h), fun h h2 => pa (st 16 13 (by decide) h) (st 16 15 (by decide) h2), fun _ => ⟨getD_set_true g13, getD_set_true g15⟩, fun h => ⟨getD_set_true (z18 (st 16 18 (by decide) h)).1, getD_set_true (z18 (st 16 18 (by decide) h)).2⟩⟩
      · obtain rfl := Option.some.inj ho
        go_simp
        exact hK _ _ ⟨_, _, _, _, _, _, _, _, _, _, _, _, _, _, _, _, _, _, rfl, hB.alloc hzB _, fun h => p0 (st 17 0 (by decide) h), fun h => p1 (st 17 1 (by decide) h), fun h => p2 (st 17 2 (by decide) h), fun h => p3 (st 17 3 (by decide) h), fun h => p4 (st 17 4 (by decide) h), fun h => p5 (st 17 5 (by decide) h), fun h => p6 (st 17 6 (by decide) h), fun h => p7 (st 17 7 (by decide) h), fun h => p8 (st 17 8 (by decide) h), fun h => p9 (st 17 9 (by decide) h), fun h => p10 (st 17 10 (by decide) h), fun h => p11 (st 17 11 (by decide) h), fun h => p12 (st 17 12 (by decide) h), fun h => by obtain ⟨q, e, l, b⟩ := p13 (st 17 13 (by decide) h); exact ⟨q, e, l, b.alloc _⟩, fun h => p14 (st 17 14 (by decide) h), fun h => by obtain ⟨q, e, l, b⟩ := p15 (st 17 15 (by decide) h); exact ⟨q, e, l, b.alloc _⟩, fun h => p16 (st 17 16 (by decide) h), fun _ => ⟨W.heap.size, rfl, hzB, _, _, _, Blk.new _ _ _⟩, fun h => (nl (z18 (st 17 18 (by decide) h)).1).elim, fun h h2 => pa (st 17 13 (by decide) h) (st 17 15 (by decide) h2), fun h => ⟨getD_set_true (z16 (st 17 16 (by decide) h)).1, getD_set_true (z16 (st 17 16 (by decide) h)).2⟩, fun h => ⟨getD_set_true (z18 (st 17 18 (by decide) h)).1, getD_set_true (z18 (st 17 18 (by decide) h)).2⟩⟩
      · obtain rfl := Option.some.inj ho
        have g17 := hd ⟨17, .data⟩ (by simp) rfl
        have g16 := hd ⟨16, .data⟩ (by simp) rfl
        obtain ⟨g13, g15⟩ := z16 g16
        obtain rfl := p16 g16
        obtain ⟨q13, rfl, l13, b13⟩ := p13 g13
        obtain ⟨q15, rfl, l15, b15⟩ := p15 g15
        obtain ⟨q17, rfl, l17, y0, y1, y2, b17⟩ := p17 g17
        obtain ⟨lq, k0, f0, k1, f1, k2, f2⟩ := b17.three
        have n13 := Blk.ne_ b13 b17 (by decide)
        have n15 := Blk.ne_ b15 b17 (by decide)
        go_simp
        exact hK _ _ ⟨_, _, _, _, _, _, _, _, _, _, _, _, _, _, _, _, _, _, rfl, ((hB.setCell (p := ⟨q17, 0, none⟩) l17 _).setCell (p := ⟨q17, 1, none⟩) l17 _).setCell (p := ⟨q17, 2, none⟩) l17 _, fun h => p0 (st 18 0 (by decide) h), fun h => p1 (st 18 1 (by decide) h), fun h => p2 (st 18 2 (by decide) h), fun h => p3 (st 18 3 (by decide) h), fun h => p4 (st 18 4 (by decide) h), fun h => p5 (st 18 5 (by decide) h), fun h => p6 (st 18 6 (by decide) h), fun h => p7 (st 18 7 (by decide) h), fun h => p8 (st 18 8 (by decide) h), fun h => p9 (st 18 9 (by decide) h), fun h => p10 (st 18 10 (by decide) h), fun h => p11 (st 18 11 (by decide) h), fun h => p12 (st 18 12 (by decide) h), fun h => ⟨q13, rfl, l13, ((b13.far (p := ⟨q17, 0, none⟩) n13 _).far (p := ⟨q17, 1, none⟩) n13 _).far (p := ⟨q17, 2, none⟩) n13 _⟩, fun h => p14 (st 18 14 (by decide) h), fun h => ⟨q15, rfl, l15, ((b15.far (p := ⟨q17, 0, none⟩) n15 _).far (p := ⟨q17, 1, none⟩) n15 _).far (p := ⟨q17, 2, none⟩) n15 _⟩, fun h => p16 (st 18 16 (by decide) h), fun h => ⟨q17, rfl, l17, _, _, _, by simpa using ((b17.set_ 0 _).set_ 1 _).set_ 2 _⟩, fun _ => ⟨q17, rfl, l17, by simpa using ((b17.set_ 0 _).set_ 1 _).set_ 2 _⟩, fun h h2 => pa (st 18 13 (by decide) h) (st 18 15 (by decide) h2), fun h => ⟨getD_set_true (z16 (st 18 16 (by decide) h)).1, getD_set_true (z16 (st 18 16 (by decide) h)).2⟩, fun _ => ⟨getD_set_true g17, getD_set_true g16⟩⟩
    · rintro listed a W hall ⟨u7, u17, u18, u19, u20, u21, u22, u23, u24, u25, u26, u27, u28, u29, u30, u31, u32, u33, rfl, hB, p0, p1, p2, p3, p4, p5, p6, p7, p8, p9, p10, p11, p12, p13, p14, p15, p16, p17, p18, pa, z16, z18⟩
      obtain ⟨q13, rfl, l13, b13⟩ := p13 (hall 13 (by decide))
      obtain ⟨q15, rfl, l15, b15⟩ := p15 (hall 15 (by decide))
      obtain ⟨q18, rfl, l18, b18⟩ := p18 (hall 18 (by decide))
      have hne := pa (hall 13 (by decide)) (hall 15 (by decide))
      clear p0 p1 p2 p3 p4 p5 p6 p7 p8 p9 p10 p11 p12 p13 p14 p15 p16 p17 p18 pa z16 z18 hall
      gi_wp2
      gi_meet
      exact ⟨q18, _, _, rfl, hB, l18, b18, own_three b13 l13, own_one b15 l15, hne⟩
  case rest =>
    obtain ⟨q, vV, vC, rfl, hBc, hq, bTr, hV, hC, hne⟩ := hcut
    have xC := (hBc.cell (p := ⟨w.heap.size, 0, none⟩) lt1).trans x1
    have lr := HBr1.out.lt
    have hzc := hBc.size
    have b3 := Blk.new wc 95 #[.slice none 0 0]
    have hB3 : Below w1.heap.size w1 (wc.alloc (.cells #[.slice none 0 0] 95)) := hBc.alloc hzc _
    have hWk : WkS w w1.heap.size q wc.heap.size g (intsV ((beginS T c).come ++ newV T [])) (intsV ((c : Int) :: ([] : List WStep).map (·.corner))) (([] : List WStep).map fun x => Value.int .u8 x.letter) vV vC (.slice none 0 0) (wc.alloc (.cells #[.slice none 0 0] 95)) :=
      ⟨HBt1.out.below hB3 lt1, HBr1.out.below hB3 lr, bTr.alloc _, b3, by rw [HCm.out]; exact hV.alloc _, hC.alloc _, World.ownsRow_nil _ _ _ _, hne, HB1.out.trans (hB3.mono hz1), hq, hzc, lr⟩
    have x3 := hWk.t.cell 0
    have HWk := Lib.hid hWk
    have hz3 : wc.heap.size < (wc.alloc (.cells #[.slice none 0 0] 95)).heap.size := by simp
    clear b3 hB3 hWk bTr hV hC hne hBc
    gi_upto_region 6 with fail
    generalize wc.alloc (.cells #[.slice none 0 0] 95) = W3 at *
    gi_wp2_with fail
    refine ⟨trivial, (callsIn_wide.2 (callsIn_wide.1 (wsteps_any Fence.wide 8 trivial rfl (some ⟨g, 0, none⟩) (c : Int) W3))).mono ?_⟩
    rintro e w4 ⟨rfl, rfl⟩
    have hz4 : W3.heap.size + 2 = ((W3.alloc (.cells #[.pointer (some ⟨g, 0, none⟩)] 26)).alloc (.cells #[.int .i64 (c : Int)] 3)).heap.size := by simp
    have bt : Blk ((W3.alloc (.cells #[.pointer (some ⟨g, 0, none⟩)] 26)).alloc (.cells #[.int .i64 (c : Int)] 3)) W3.heap.size 26 #[.pointer (some ⟨g, 0, none⟩)] := (Blk.new _ _ _).alloc _
    have bv : Blk ((W3.alloc (.cells #[.pointer (some ⟨g, 0, none⟩)] 26)).alloc (.cells #[.int .i64 (c : Int)] 3)) (W3.heap.size + 1) 3 #[.int .i64 (c : Int)] := blk_new_at (by simp)
    have HWk4 := Lib.hid ((HWk.out.alloc (.cells #[.pointer (some ⟨g, 0, none⟩)] 26)).alloc (.cells #[.int .i64 (c : Int)] 3))
    have Hbt := Lib.hid bt
    have Hbv := Lib.hid bv
    clear bt bv HWk x3 xC
    gi_wp2_with fail
    generalize (W3.alloc (.cells #[.pointer (some ⟨g, 0, none⟩)] 26)).alloc (.cells #[.int .i64 (c : Int)] 3) = W4 at *
    refine wpIn_rangeFunc_sep rfl (by omega) (gf := 58) (lb := #[.pointer (some ⟨W3.heap.size, 0, none⟩), .pointer (some ⟨W3.heap.size + 1, 0, none⟩)]) rfl trivial (enters_of Tryz.func58 (by kernel_rfl) rfl)
      (steps1_sep (w := w) (m := 8) (Bt := W3.heap.size) (Bc := W3.heap.size + 1) HS.out (HT.out w (Below.refl _ _)) hc) (fun W hW => ⟨(hW.cell (p := ⟨W3.heap.size, 0, none⟩) Hbt.out.lt).trans (Hbt.out.cell 0), (hW.cell (p := ⟨W3.heap.size + 1, 0, none⟩) Hbv.out.lt).trans (Hbv.out.cell 0), Nat.lt_of_lt_of_le Hbt.out.lt hW.size, Nat.lt_of_lt_of_le Hbv.out.lt hW.size⟩) (fun _ h => h.elim) HWk4.out.below (fun _ => rfl)
      (WkI w w1.heap.size q wc.heap.size g c T) (fun _ _ _ _ => False) wkI_stable (fun _ _ _ _ _ h => h.elim) (OwnW w q wc.heap.size vV vC (.slice none 0 0)) (fun k hk => ⟨(HWk4.out.rng hk).1, (HWk4.out.rng hk).2, fun h => h⟩) ⟨vV, vC, _, fun _ => Iff.rfl, HWk4.out⟩ ?_ ?_ ?_
    · intro l pre x C W hl hl2 hI hCb hlen
      obtain ⟨i8, hi8, a80, a81, a82⟩ := info_parts infoU8W
      obtain ⟨i3, hi3, a30, a31, a32⟩ := info_parts infoInt
      obtain ⟨xl, xc, xo, xn⟩ := x
      obtain ⟨vV2, vC2, vB2, hCi, hS⟩ := hI
      have HCi := Lib.hid hCi
      have HS2 := Lib.hid hS
      have HCb := Lib.hid hCb
      clear hCi hS hCb Hbt Hbv HWk4
      unfold encS
      gi_wp2
      refine ⟨(Kept.refl _ _).alloc _, ⟨vV2, vC2, vB2, HCi.out, HS2.out.alloc _⟩, ?_⟩
      intro W2 hk2 hI2 hCb2 hz2
      obtain ⟨vV3, vC3, vB3, hCi3, hS3⟩ := hI2
      have bs : Blk W2 W.heap.size 55 #[.int .u8 xl, .int .i64 xc, .int .i64 xo, .int .i64 xn] := blk_same (Blk.new W _ _) (hk2.block W.heap.size (by simp) (by omega))
      have hnS : ∀ k, OwnW w q wc.heap.size vV3 vC3 vB3 k → k < W.heap.size := fun k hk => (HCb.out k ((hCi3 k).2 hk)).2
      have HC3 := Lib.hid hCi3
      have HnS := Lib.hid hnS
      have HS3 := Lib.hid hS3
      have HBs := Lib.hid bs
      obtain ⟨lbx, bx0, bxf⟩ := hS3.bx.one
      obtain ⟨ls, s0, s1, s2, s3, -⟩ := four bs
      have HzW := Lib.hid (show W2.heap.size = W.heap.size + 1 from by rw [hz2]; simp)
      have hzW : W.heap.size < W2.heap.size := by rw [hz2]; simp
      have hlB : pre.length ≤ 8192 := by omega
      have hbs2 := hS3.bs
      clear hk2 hCi3 hS3 bs hCb2 hnS HCi HS2 hz2
      gi_upto_region 9 with (first
        | (gi_at_builtin; refine wpListIn_append_lies rfl (.tmp 38) (.tmp 41) 95 rfl w1.heap.size 5 i8 _ 1 1 Tryz.underlying95 hi8 a80 a81 a82 rfl (by decide) vB3 _ _ rfl (HS3.out.alloc (.cells #[.int .u8 xl] 5)).rB ⟨W2.heap.size, 0, none⟩ 1 1 [.int .u8 xl] rfl rfl (World.news_of_block (heap_alloc_new _ _)) (by simp [Value.oneCell']) (by decide) (by unfold maxLen; simp; omega) (by simp; omega) (by simp; omega) ?_; intro g8 cap8 W5 hr8 hg8 hat8 hlt8; obtain ⟨y0, y1, y2⟩ := ((HS3.out.alloc (.cells #[.int .u8 xl] 5)).bx.grown hg8 (fun e => own_blk_ne (HS3.out.alloc (.cells #[.int .u8 xl] 5)).rB (HS3.out.alloc (.cells #[.int .u8 xl] 5)).bx (by decide) e.symm)).one; have HR8 := Lib.hid hr8; have HG8 := Lib.hid hg8; have HA8 := Lib.hid hat8; clear hr8 hg8 hat8))
      have hr8 := HR8.out
      rw [List.length_map] at hr8
      obtain ⟨s6, k6, n6⟩ := (HS3.out.alloc (.cells #[.int .u8 xl] 5)).appB HG8.out hr8 (by simp) HA8.out
      have K6 := ((Kept.refl (OwnW w q wc.heap.size vV3 vC3 vB3) W2).alloc (.cells #[.int .u8 xl] 5)).trans k6
      have N6 := n6.of_alloc
      have bs6 := blk_same HBs.out (K6.block _ hzW (fun h => Nat.lt_irrefl _ (HnS.out _ h)))
      generalize W5.setCell ⟨wc.heap.size, 0, none⟩ (.slice (some ⟨g8, 0, none⟩) (pre.length + 1) cap8) = W6 at *
      have HK6 := Lib.hid K6
      have HN6 := Lib.hid N6
      have HS6 := Lib.hid s6
      have HB6 := Lib.hid bs6
      obtain ⟨lq6, t0, -, t1, -, t2, -⟩ := s6.tr.three
      obtain ⟨ls6, u0, u1, u2, u3, -⟩ := four bs6
      have hbs6 := s6.bs
      have hz6 := K6.size
      clear s6 k6 n6 K6 N6 bs6 hr8 HR8 HG8 HA8 y0 y1 y2 lbx bx0 bxf s0 s1 s2 s3 HBs HS3
      gi_upto_region 10 with (first
        | (gi_at_builtin; refine wpListIn_append_lies rfl (.tmp 44) (.tmp 47) 28 rfl w1.heap.size 3 i3 _ 1 8 Tryz.underlying28 hi3 a30 a31 a32 rfl (by decide) vC3 _ _ rfl (HS6.out.alloc (.cells #[.int .i64 xc] 3)).rC ⟨W6.heap.size, 0, none⟩ 1 1 [.int .i64 xc] rfl rfl (World.news_of_block (heap_alloc_new _ _)) (by simp [Value.oneCell']) (by decide) (by unfold maxLen; simp [intsV]; omega) (by simp [intsV]; omega) (by simp; omega) ?_; intro g9 cap9 W8 hr9 hg9 hat9 hlt9; obtain ⟨y0, z0, zf0, z1, zf1, z2, zf2⟩ := ((HS6.out.alloc (.cells #[.int .i64 xc] 3)).tr.grown hg9 (fun e => own_blk_ne (HS6.out.alloc (.cells #[.int .i64 xc] 3)).rC (HS6.out.alloc (.cells #[.int .i64 xc] 3)).tr (by decide) e.symm)).three; have HR9 := Lib.hid hr9; have HG9 := Lib.hid hg9; have HA9 := Lib.hid hat9; clear hr9 hg9 hat9))
      obtain ⟨s9, k9, n9⟩ := (HS6.out.alloc (.cells #[.int .i64 xc] 3)).appC HG9.out HR9.out rfl HA9.out
      have K9 := ((Kept.refl (OwnW w q wc.heap.size vV3 vC3 (.slice (some ⟨g8, 0, none⟩) (pre.length + 1) cap8)) W6).alloc (.cells #[.int .i64 xc] 3)).trans k9
      have N9 := n9.of_alloc
      have bs9 := blk_same HB6.out (K9.block W.heap.size (by omega) (fun h => by
        rcases HN6.out _ h with e | e
        · exact Nat.lt_irrefl _ (HnS.out _ e)
        · omega))
      have K29 := HK6.out.then K9 HN6.out
      have N29 := HN6.out.trans N9 hz6 K9.size
      obtain ⟨lV, hlV⟩ : ∃ l, intsV ((beginS T c).come ++ newV T pre) = l := ⟨_, rfl⟩
      obtain ⟨lC3, hlC⟩ : ∃ l, intsV ((c : Int) :: pre.map (·.corner)) = l := ⟨_, rfl⟩
      rw [hlC] at s9 k9 n9 K9 N9 bs9 K29 N29
      rw [hlV] at s9
      rw [hlC]
      have HlV := Lib.hid hlV
      have HlC := Lib.hid hlC
      generalize W8.setCell ⟨q, 2, none⟩ (.slice (some ⟨g9, 0, none⟩) (lC3.length + 1) cap9) = W9 at *
      have HS9 := Lib.hid s9
      have HB9 := Lib.hid bs9
      have HK9 := Lib.hid K29
      have HN9 := Lib.hid N29
      obtain ⟨ls9, u0, u1, u2, u3, -⟩ := four bs9
      have hz9 : W2.heap.size ≤ W9.heap.size := K29.size
      clear s9 k9 n9 K9 N9 bs9 K29 N29 HR9 HG9 HA9 hlV hlC y0 z0 zf0 z1 zf1 z2 zf2 t0 t1 t2 HS6 HB6 HK6 HN6
      by_cases h67 : xl = 67
      · subst h67
        have hlVl : lV.length ≤ 8200 := by
          rw [← HlV.out]
          have := List.length_filter_le (fun x : WStep => decide (x.letter = 67)) pre
          simp only [intsV, newV, beginS, List.length_map, List.length_append, List.length_cons, List.length_nil]
          omega
        gi_upto_region 11 with fail
        refine wpIn_region_state (by kernel_rfl) (fun listed a X => ∃ u53 u54 u55 u56 u57 u58 u59 u60 u61 : Value, a = { tmps := List.toArray (.pointer (some ⟨g, 0, none⟩) :: .int .i64 (c : Int) :: .pointer (some ⟨w.heap.size, 0, none⟩) :: undef :: .pointer (some ⟨w.heap.size + 1, 0, none⟩) :: .int .i64 0 :: .int .i64 0 :: .pointer (some ⟨q, 0, none⟩) :: .pointer (some ⟨wc.heap.size, 0, none⟩) :: .pointer (some ⟨W.heap.size, 0, none⟩) :: .pointer (some ⟨g, 0, none⟩) :: .int .i64 (c : Int) :: .int .i64 0 :: .int .i64 0 :: .bool false :: undef :: undef :: u17 :: u18 :: u19 :: u20 :: u21 :: u22 :: u23 :: u24 :: u25 :: u26 :: u27 :: u28 :: u29 :: u30 :: u31 :: u32 :: u33 :: .pointer (some ⟨g, 0, none⟩) :: .int .i64 (c : Int) :: .func (.func 58) #[] #[.pointer (some ⟨W3.heap.size, 0, none⟩), .pointer (some ⟨W3.heap.size + 1, 0, none⟩)] :: .agg #[.int .u8 67, .int .i64 xc, .int .i64 xo, .int .i64 xn] :: vB3 :: .pointer (some ⟨W.heap.size, 0, none⟩) :: .int .u8 67 :: .slice (some ⟨W2.heap.size, 0, none⟩) 1 1 :: .slice (some ⟨g8, 0, none⟩) (pre.length + 1) cap8 :: .pointer (some ⟨q, 2, none⟩) :: vC3 :: .pointer (some ⟨W.heap.size, 1, none⟩) :: .int .i64 xc :: .slice (some ⟨W6.heap.size, 0, none⟩) 1 1 :: .slice (some ⟨g9, 0, none⟩) (lC3.length + 1) cap9 :: .pointer (some ⟨q, 2, none⟩) :: .pointer (some ⟨W.heap.size, 0, none⟩) :: .int .u8 67 :: .bool true :: u53 :: u54 :: u55 :: u56 :: u57 :: u58 :: u59 :: u60 :: u61 :: undef :: undef :: undef :: undef :: []), defers := [] } ∧ (listed.getD 0 false = true → u53 = .pointer (some ⟨q, 1, none⟩)) ∧ (listed.getD 1 false = true → u54 = vV3) ∧ (listed.getD 2 false = true → u55 = .pointer (some ⟨g, 0, none⟩)) ∧ (listed.getD 3 false = true → u56 = .pointer (some ⟨W.heap.size, 1, none⟩)) ∧ (listed.getD 4 false = true → u57 = .int .i64 xc) ∧ (listed.getD 5 false = true → u58 = .int .i64 (vertI T xc)) ∧ (listed.getD 6 false = true → listed.getD 7 false = false → ∃ p, u59 = .slice (some ⟨p, 0, none⟩) 1 1 ∧ Blk X p 3 #[.int .i64 (vertI T xc)]) ∧ (listed.getD 8 false = true → u61 = .pointer (some ⟨q, 1, none⟩)) ∧ (listed.getD 7 false = false → WkS w w1.heap.size q wc.heap.size g lV (lC3 ++ [.int .i64 xc]) ((pre.map fun x => Value.int .u8 x.letter) ++ [.int .u8 67]) vV3 (.slice (some ⟨g9, 0, none⟩) (lC3.length + 1) cap9) (.slice (some ⟨g8, 0, none⟩) (pre.length + 1) cap8) X ∧ Blk X W.heap.size 55 #[.int .u8 67, .int .i64 xc, .int .i64 xo, .int .i64 xn] ∧ Kept (OwnW w q wc.heap.size vV3 (.slice (some ⟨g9, 0, none⟩) (lC3.length + 1) cap9) (.slice (some ⟨g8, 0, none⟩) (pre.length + 1) cap8)) W9 X) ∧ (listed.getD 7 false = true → listed.getD 9 false = false → ∃ Wm g1 cap1, u60 = .slice (some ⟨g1, 0, none⟩) (lV.length + 1) cap1 ∧ Wm.grownBy X vV3.ownBlock ∧ WkS w w1.heap.size q wc.heap.size g lV (lC3 ++ [.int .i64 xc]) ((pre.map fun x => Value.int .u8 x.letter) ++ [.int .u8 67]) vV3 (.slice (some ⟨g9, 0, none⟩) (lC3.length + 1) cap9) (.slice (some ⟨g8, 0, none⟩) (pre.length + 1) cap8) Wm ∧ Kept (OwnW w q wc.heap.size vV3 (.slice (some ⟨g9, 0, none⟩) (lC3.length + 1) cap9) (.slice (some ⟨g8, 0, none⟩) (pre.length + 1) cap8)) W9 Wm ∧ X.ownsRow w1.heap.size 3 1 (.slice (some ⟨g1, 0, none⟩) (lV.length + 1) cap1) (lV.length + 1) (lV ++ [.int .i64 (vertI T xc)]) ∧ (vV3.ownBlock = some g1 ∨ g1 = Wm.heap.size)) ∧ (listed.getD 9 false = true → ∃ g1 cap1, WkS w w1.heap.size q wc.heap.size g (lV ++ [.int .i64 (vertI T xc)]) (lC3 ++ [.int .i64 xc]) ((pre.map fun x => Value.int .u8 x.letter) ++ [.int .u8 67]) (.slice (some ⟨g1, 0, none⟩) (lV.length + 1) cap1) (.slice (some ⟨g9, 0, none⟩) (lC3.length + 1) cap9) (.slice (some ⟨g8, 0, none⟩) (pre.length + 1) cap8) X ∧ Kept (OwnW w q wc.heap.size vV3 (.slice (some ⟨g9, 0, none⟩) (lC3.length + 1) cap9) (.slice (some ⟨g8, 0, none⟩) (pre.length + 1) cap8)) W9 X ∧ Anew (OwnW w q wc.heap.size vV3 (.slice (some ⟨g9, 0, none⟩) (lC3.length + 1) cap9) (.slice (some ⟨g8, 0, none⟩) (pre.length + 1) cap8)) (OwnW w q wc.heap.size (.slice (some ⟨g1, 0, none⟩) (lV.length + 1) cap1) (.slice (some ⟨g9, 0, none⟩) (lC3.length + 1) cap9) (.slice (some ⟨g8, 0, none⟩) (pre.length + 1) cap8)) W9 X) ∧ (listed.getD 1 false = true → listed.getD 0 false = true) ∧ (listed.getD 4 false = true → listed.getD 3 false = true) ∧ (listed.getD 5 false = true → listed.getD 2 false = true) ∧ (listed.getD 5 false = true → listed.getD 4 false = true) ∧ (listed.getD 6 false = true → listed.getD 5 false = true) ∧ (listed.getD 7 false = true → listed.getD 1 false = true) ∧ (listed.getD 7 false = true → listed.getD 6 false = true) ∧ (listed.getD 9 false = true → listed.getD 7 false = true)) ?_ ?_ ?_ ?_
        · intro i o ho e he
          have hi : i < 10 := (Array.getElem?_eq_some_iff.1 ho).1
          rcases (by omega : i = 0 ∨ i = 1 ∨ i = 2 ∨ i = 3 ∨ i = 4 ∨ i = 5 ∨ i = 6 ∨ i = 7 ∨ i = 8 ∨ i = 9) with rfl | rfl | rfl | rfl | rfl | rfl | rfl | rfl | rfl | rfl <;> (obtain rfl := Option.some.inj ho; revert e; decide)
        · refine ⟨_, _, _, _, _, _, _, _, _, rfl, fun h => absurd h (by decide), fun h => absurd h (by decide), fun h => absurd h (by decide), fun h => absurd h (by decide), fun h => absurd h (by decide), fun h => absurd h (by decide), fun h => absurd h (by decide), fun h => absurd h (by decide), fun _ => ⟨HS9.out.drew, HB9.out.drew, (Kept.refl _ _).drew⟩, fun h => absurd h (by decide), fun h => absurd h (by decide), fun h => absurd h (by decide), fun h => absurd h (by decide), fun h => absurd h (by decide), fun h => absurd h (by decide), fun h => absurd h (by decide), fun h => absurd h (by decide), fun h => absurd h (by decide), fun h => absurd h (by decide)⟩
        · intro i o listed a X ho hsz hun hd hI K hK
          have hi : i < 10 := (Array.getElem?_eq_some_iff.1 ho).1
          have hsz' : listed.size = 10 := hsz
          obtain ⟨u53, u54, u55, u56, u57, u58, u59, u60, u61, rfl, p0, p1, p2, p3, p4, p5, p6, p8, pA, pB, pC, z1_0, z4_3, z5_2, z5_4, z6_5, z7_1, z7_6, z9_7⟩ := hI
          have st : ∀ j k, j ≠ k → (listed.setIfInBounds j true).getD k false = true → listed.getD k false = true := fun j k h e => by rw [getD_set_ne false h] at e; exact e
          have sf : ∀ j k, j ≠ k → (listed.setIfInBounds j true).getD k false = false → listed.getD k false = false := fun j k h e => by rw [getD_set_ne false h] at e; exact e
          have nl : listed.getD i false = true → False := fun h => by
            have h2 : i < listed.size := by omega
            simp only [Array.getD_eq_getD_getElem?, Array.getElem?_eq_getElem h2, Option.getD_some] at h hun
            rw [h] at hun
            cases hun
          have tt : (listed.setIfInBounds i true).getD i false = true := by simp [Array.getD_eq_getD_getElem?, hsz', hi]
          rcases (by omega : i = 0 ∨ i = 1 ∨ i = 2 ∨ i = 3 ∨ i = 4 ∨ i = 5 ∨ i = 6 ∨ i = 7 ∨ i = 8 ∨ i = 9) with rfl | rfl | rfl | rfl | rfl | rfl | rfl | rfl | rfl | rfl
          · obtain rfl := Option.some.inj ho
            have h7f : listed.getD 7 false = false := by
              cases h7 : listed.getD 7 false with
              | false => rfl
              | true => exact (nl (z1_0 (z7_1 h7))).elim
            obtain ⟨s9, b9, k9⟩ := pA h7f
            obtain ⟨lq, t0, -, t1, -, t2, -⟩ := s9.tr.three
            obtain ⟨ls, e0, e1, e2, e3, -⟩ := four b9
            obtain ⟨lt, x0, -⟩ := s9.t.one
            go_simp
            exact hK _ _ ⟨_, _, _, _, _, _, _, _, _, rfl, fun _ => rfl, fun h => p1 (st 0 1 (by decide) h), fun h => p2 (st 0 2 (by decide) h), fun h => p3 (st 0 3 (by decide) h), fun h => p4 (st 0 4 (by decide) h), fun h => p5 (st 0 5 (by decide) h), fun h h2 => p6 (st 0 6 (by decide) h) (sf 0 7 (by decide) h2), fun h => p8 (st 0 8 (by decide) h), fun h => pA (sf 0 7 (by decide) h), fun h h2 => pB (st 0 7 (by decide) h) (sf 0 9 (by decide) h2), fun h => pC (st 0 9 (by decide) h), fun h => getD_set_true (z1_0 (st 0 1 (by decide) h)), fun h => getD_set_true (z4_3 (st 0 4 (by decide) h)), fun h => getD_set_true (z5_2 (st 0 5 (by decide) h)), fun h => getD_set_true (z5_4 (st 0 5 (by decide) h)), fun h => getD_set_true (z6_5 (st 0 6 (by decide) h)), fun h => getD_set_true (z7_1 (st 0 7 (by decide) h)), fun h => getD_set_true (z7_6 (st 0 7 (by decide) h)), fun h => getD_set_true (z9_7 (st 0 9 (by decide) h))⟩
          · obtain rfl := Option.some.inj ho
            have h7f : listed.getD 7 false = false := by
              cases h7 : listed.getD 7 false with
              | false => rfl
              | true => exact (nl (z7_1 h7)).elim
            obtain ⟨s9, b9, k9⟩ := pA h7f
            obtain ⟨lq, t0, -, t1, -, t2, -⟩ := s9.tr.three
            obtain ⟨ls, e0, e1, e2, e3, -⟩ := four b9
            obtain ⟨lt, x0, -⟩ := s9.t.one
            obtain rfl := p0 (hd ⟨0, .data⟩ (by simp) rfl)
            go_simp
            exact hK _ _ ⟨_, _, _, _, _, _, _, _, _, rfl, fun h => p0 (st 1 0 (by decide) h), fun _ => rfl, fun h => p2 (st 1 2 (by decide) h), fun h => p3 (st 1 3 (by decide) h), fun h => p4 (st 1 4 (by decide) h), fun h => p5 (st 1 5 (by decide) h), fun h h2 => p6 (st 1 6 (by decide) h) (sf 1 7 (by decide) h2), fun h => p8 (st 1 8 (by decide) h), fun h => pA (sf 1 7 (by decide) h), fun h h2 => pB (st 1 7 (by decide) h) (sf 1 9 (by decide) h2), fun h => pC (st 1 9 (by decide) h), fun _ => getD_set_true (hd ⟨0, .data⟩ (by simp) rfl), fun h => getD_set_true (z4_3 (st 1 4 (by decide) h)), fun h => getD_set_true (z5_2 (st 1 5 (by decide) h)), fun h => getD_set_true (z5_4 (st 1 5 (by decide) h)), fun h => getD_set_true (z6_5 (st 1 6 (by decide) h)), fun h => getD_set_true (z7_1 (st 1 7 (by decide) h)), fun h => getD_set_true (z7_6 (st 1 7 (by decide) h)), fun h => getD_set_true (z9_7 (st 1 9 (by decide) h))⟩
          · obtain rfl := Option.some.inj ho
            have h7f : listed.getD 7 false = false := by
              cases h7 : listed.getD 7 false with
              | false => rfl
              | true => exact (nl (z5_2 (z6_5 (z7_6 h7)))).elim
            obtain ⟨s9, b9, k9⟩ := pA h7f
            obtain ⟨lq, t0, -, t1, -, t2, -⟩ := s9.tr.three
            obtain ⟨ls, e0, e1, e2, e3, -⟩ := four b9
            obtain ⟨lt, x0, -⟩ := s9.t.one
            go_simp
            exact hK _ _ ⟨_, _, _, _, _, _, _, _, _, rfl, fun h => p0 (st 2 0 (by decide) h), fun h => p1 (st 2 1 (by decide) h), fun _ => rfl, fun h => p3 (st 2 3 (by decide) h), fun h => p4 (st 2 4 (by decide) h), fun h => p5 (st 2 5 (by decide) h), fun h h2 => p6 (st 2 6 (by decide) h) (sf 2 7 (by decide) h2), fun h => p8 (st 2 8 (by decide) h), fun h => pA (sf 2 7 (by decide) h), fun h h2 => pB (st 2 7 (by decide) h) (sf 2 9 (by decide) h2), fun h => pC (st 2 9 (by decide) h), fun h => getD_set_true (z1_0 (st 2 1 (by decide) h)), fun h => getD_set_true (z4_3 (st 2 4 (by decide) h)), fun h => getD_set_true (z5_2 (st 2 5 (by decide) h)), fun h => getD_set_true (z5_4 (st 2 5 (by decide) h)), fun h => getD_set_true (z6_5 (st 2 6 (by decide) h)), fun h => getD_set_true (z7_1 (st 2 7 (by decide) h)), fun h => getD_set_true (z7_6 (st 2 7 (by decide) h)), fun h => getD_set_true (z9_7 (st 2 9 (by decide) h))⟩
          · obtain rfl := Option.some.inj ho
            have h7f : listed.getD 7 false = false := by
              cases h7 : listed.getD 7 false with
              | false => rfl
              | true => exact (nl (z4_3 (z5_4 (z6_5 (z7_6 h7))))).elim
            obtain ⟨s9, b9, k9⟩ := pA h7f
            obtain ⟨lq, t0, -, t1, -, t2, -⟩ := s9.tr.three
            obtain ⟨ls, e0, e1, e2, e3, -⟩ := four b9
            obtain ⟨lt, x0, -⟩ := s9.t.one
            go_simp
            exact hK _ _ ⟨_, _, _, _, _, _, _, _, _, rfl, fun h => p0 (st 3 0 (by decide) h), fun h => p1 (st 3 1 (by decide) h), fun h => p2 (st 3 2 (by decide) h), fun _ => rfl, fun h => p4 (st 3 4 (by decide) h), fun h => p5 (st 3 5 (by decide) h), fun h h2 => p6 (st 3 6 (by decide) h) (sf 3 7 (by decide) h2), fun h => p8 (st 3 8 (by decide) h), fun h => pA (sf 3 7 (by decide) h), fun h h2 => pB (st 3 7 (by decide) h) (sf 3 9 (by decide) h2), fun h => pC (st 3 9 (by decide) h), fun h => getD_set_true (z1_0 (st 3 1 (by decide) h)), fun h => getD_set_true (z4_3 (st 3 4 (by decide) h)), fun h => getD_set_true (z5_2 (st 3 5 (by decide) h)), fun h => getD_set_true (z5_4 (st 3 5 (by decide) h)), fun h => getD_set_true (z6_5 (st 3 6 (by decide) h)), fun h => getD_set_true (z7_1 (st 3 7 (by decide) h)), fun h => getD_set_true (z7_6 (st 3 7 (by decide) h)), fun h => getD_set_true (z9_7 (st 3 9 (by decide) h))⟩
          · obtain rfl := Option.some.inj ho
            have h7f : listed.getD 7 false = false := by
              cases h7 : listed.getD 7 false with
              | false => rfl
              | true => exact (nl (z5_4 (z6_5 (z7_6 h7)))).elim
            obtain ⟨s9, b9, k9⟩ := pA h7f
            obtain ⟨lq, t0, -, t1, -, t2, -⟩ := s9.tr.three
            obtain ⟨ls, e0, e1, e2, e3, -⟩ := four b9
            obtain ⟨lt, x0, -⟩ := s9.t.one
            obtain rfl := p3 (hd ⟨3, .data⟩ (by simp) rfl)
            go_simp
            exact hK _ _ ⟨_, _, _, _, _, _, _, _, _, rfl, fun h => p0 (st 4 0 (by decide) h), fun h => p1 (st 4 1 (by decide) h), fun h => p2 (st 4 2 (by decide) h), fun h => p3 (st 4 3 (by decide) h), fun _ => rfl, fun h => p5 (st 4 5 (by decide) h), fun h h2 => p6 (st 4 6 (by decide) h) (sf 4 7 (by decide) h2), fun h => p8 (st 4 8 (by decide) h), fun h => pA (sf 4 7 (by decide) h), fun h h2 => pB (st 4 7 (by decide) h) (sf 4 9 (by decide) h2), fun h => pC (st 4 9 (by decide) h), fun h => getD_set_true (z1_0 (st 4 1 (by decide) h)), fun _ => getD_set_true (hd ⟨3, .data⟩ (by simp) rfl), fun h => getD_set_true (z5_2 (st 4 5 (by decide) h)), fun h => getD_set_true (z5_4 (st 4 5 (by decide) h)), fun h => getD_set_true (z6_5 (st 4 6 (by decide) h)), fun h => getD_set_true (z7_1 (st 4 7 (by decide) h)), fun h => getD_set_true (z7_6 (st 4 7 (by decide) h)), fun h => getD_set_true (z9_7 (st 4 9 (by decide) h))⟩
          · obtain rfl := Option.some.inj ho
            have h7f : listed.getD 7 false = false := by
              cases h7 : listed.getD 7 false with
              | false => rfl
              | true => exact (nl (z6_5 (z7_6 h7))).elim
            obtain ⟨s9, b9, k9⟩ := pA h7f
            obtain ⟨lq, t0, -, t1, -, t2, -⟩ := s9.tr.three
            obtain ⟨ls, e0, e1, e2, e3, -⟩ := four b9
            obtain ⟨lt, x0, -⟩ := s9.t.one
            obtain rfl := p2 (hd ⟨2, .data⟩ (by simp) rfl)
            obtain rfl := p4 (hd ⟨4, .data⟩ (by simp) rfl)
            go_simp
            refine ⟨trivial, (CallsIn.inRound l (callsIn_wide.2 (vertex_any g n xc T X (HT.out X s9.below).toTabS))).mono ?_⟩
            rintro e w2 ⟨rfl, rfl⟩
            exact hK _ _ ⟨_, _, _, _, _, _, _, _, _, rfl, fun h => p0 (st 5 0 (by decide) h), fun h => p1 (st 5 1 (by decide) h), fun h => p2 (st 5 2 (by decide) h), fun h => p3 (st 5 3 (by decide) h), fun h => p4 (st 5 4 (by decide) h), fun _ => rfl, fun h h2 => p6 (st 5 6 (by decide) h) (sf 5 7 (by decide) h2), fun h => p8 (st 5 8 (by decide) h), fun h => pA (sf 5 7 (by decide) h), fun h h2 => pB (st 5 7 (by decide) h) (sf 5 9 (by decide) h2), fun h => pC (st 5 9 (by decide) h), fun h => getD_set_true (z1_0 (st 5 1 (by decide) h)), fun h => getD_set_true (z4_3 (st 5 4 (by decide) h)), fun _ => getD_set_true (hd ⟨2, .data⟩ (by simp) rfl), fun _ => getD_set_true (hd ⟨4, .data⟩ (by simp) rfl), fun h => getD_set_true (z6_5 (st 5 6 (by decide) h)), fun h => getD_set_true (z7_1 (st 5 7 (by decide) h)), fun h => getD_set_true (z7_6 (st 5 7 (by decide) h)), fun h => getD_set_true (z9_7 (st 5 9 (by decide) h))⟩
          · obtain rfl := Option.some.inj ho
            have h7f : listed.getD 7 false = false := by
              cases h7 : listed.getD 7 false with
              | false => rfl
              | true => exact (nl (z7_6 h7)).elim
            obtain ⟨s9, b9, k9⟩ := pA h7f
            obtain ⟨lq, t0, -, t1, -, t2, -⟩ := s9.tr.three
            obtain ⟨ls, e0, e1, e2, e3, -⟩ := four b9
            obtain ⟨lt, x0, -⟩ := s9.t.one
            obtain rfl := p5 (hd ⟨5, .data⟩ (by simp) rfl)
            go_simp
            exact hK _ _ ⟨_, _, _, _, _, _, _, _, _, rfl, fun h => p0 (st 6 0 (by decide) h), fun h => p1 (st 6 1 (by decide) h), fun h => p2 (st 6 2 (by decide) h), fun h => p3 (st 6 3 (by decide) h), fun h => p4 (st 6 4 (by decide) h), fun h => p5 (st 6 5 (by decide) h), fun _ _ => ⟨_, rfl, Blk.new _ _ _⟩, fun h => p8 (st 6 8 (by decide) h), fun _ => ⟨s9.alloc _, b9.alloc _, k9.alloc _⟩, fun h _ => (by have := st 6 7 (by decide) h; rw [h7f] at this; cases this), fun h => (by have := z9_7 (st 6 9 (by decide) h); rw [h7f] at this; cases this), fun h => getD_set_true (z1_0 (st 6 1 (by decide) h)), fun h => getD_set_true (z4_3 (st 6 4 (by decide) h)), fun h => getD_set_true (z5_2 (st 6 5 (by decide) h)), fun h => getD_set_true (z5_4 (st 6 5 (by decide) h)), fun _ => getD_set_true (hd ⟨5, .data⟩ (by simp) rfl), fun h => getD_set_true (z7_1 (st 6 7 (by decide) h)), fun h => getD_set_true (z7_6 (st 6 7 (by decide) h)), fun h => getD_set_true (z9_7 (st 6 9 (by decide) h))⟩
          · obtain rfl := Option.some.inj ho
            have h7f : listed.getD 7 false = false := by
              cases h7 : listed.getD 7 false with
              | false => rfl
              | true => exact (nl h7).elim
            obtain ⟨s9, b9, k9⟩ := pA h7f
            have g1 := hd ⟨1, .data⟩ (by simp) rfl
            have g6 := hd ⟨6, .data⟩ (by simp) rfl
            have e54 := p1 g1
            obtain ⟨p, e59, bp⟩ := p6 g6 h7f
            rw [if_pos (by rfl)]
            refine operIn_append_lies (.tmp 54) (.tmp 59) 28 rfl w1.heap.size 3 i3 _ 1 8 Tryz.underlying28 hi3 a30 a31 a32 rfl (by decide) vV3 _ _ e54 s9.rV ⟨p, 0, none⟩ 1 1 [.int .i64 (vertI T xc)] e59 rfl (World.news_of_block bp) (by simp [Value.oneCell']) (by decide) (by unfold maxLen; omega) (by omega) s9.bs ?_
            intro g1 cap1 Wm hr hg hat hlt
            exact hK _ _ ⟨_, _, _, _, _, _, _, _, _, rfl, fun h => p0 (st 7 0 (by decide) h), fun h => p1 (st 7 1 (by decide) h), fun h => p2 (st 7 2 (by decide) h), fun h => p3 (st 7 3 (by decide) h), fun h => p4 (st 7 4 (by decide) h), fun h => p5 (st 7 5 (by decide) h), fun _ h2 => (by rw [tt] at h2; cases h2), fun h => p8 (st 7 8 (by decide) h), fun h => (by rw [tt] at h; cases h), fun _ _ => ⟨X, g1, cap1, rfl, hg, s9, k9, hr, hat⟩, fun h => (nl (z9_7 (st 7 9 (by decide) h))).elim, fun h => getD_set_true (z1_0 (st 7 1 (by decide) h)), fun h => getD_set_true (z4_3 (st 7 4 (by decide) h)), fun h => getD_set_true (z5_2 (st 7 5 (by decide) h)), fun h => getD_set_true (z5_4 (st 7 5 (by decide) h)), fun h => getD_set_true (z6_5 (st 7 6 (by decide) h)), fun _ => getD_set_true (hd ⟨1, .data⟩ (by simp) rfl), fun _ => getD_set_true (hd ⟨6, .data⟩ (by simp) rfl), fun h => getD_set_true (z9_7 (st 7 9 (by decide) h))⟩
          · obtain rfl := Option.some.inj ho
            go_simp
            exact hK _ _ ⟨_, _, _, _, _, _, _, _, _, rfl, fun h => p0 (st 8 0 (by decide) h), fun h => p1 (st 8 1 (by decide) h), fun h => p2 (st 8 2 (by decide) h), fun h => p3 (st 8 3 (by decide) h), fun h => p4 (st 8 4 (by decide) h), fun h => p5 (st 8 5 (by decide) h), fun h h2 => p6 (st 8 6 (by decide) h) (sf 8 7 (by decide) h2), fun _ => rfl, fun h => pA (sf 8 7 (by decide) h), fun h h2 => pB (st 8 7 (by decide) h) (sf 8 9 (by decide) h2), fun h => pC (st 8 9 (by decide) h), fun h => getD_set_true (z1_0 (st 8 1 (by decide) h)), fun h => getD_set_true (z4_3 (st 8 4 (by decide) h)), fun h => getD_set_true (z5_2 (st 8 5 (by decide) h)), fun h => getD_set_true (z5_4 (st 8 5 (by decide) h)), fun h => getD_set_true (z6_5 (st 8 6 (by decide) h)), fun h => getD_set_true (z7_1 (st 8 7 (by decide) h)), fun h => getD_set_true (z7_6 (st 8 7 (by decide) h)), fun h => getD_set_true (z9_7 (st 8 9 (by decide) h))⟩
          · obtain rfl := Option.some.inj ho
            have g7 := hd ⟨7, .data⟩ (by simp) rfl
            have h9f : listed.getD 9 false = false := by
              cases h9 : listed.getD 9 false with
              | false => rfl
              | true => exact (nl h9).elim
            obtain ⟨Wm, g1, cap1, rfl, hg, s9, k9, hr, hat⟩ := pB g7 h9f
            obtain rfl := p8 (hd ⟨8, .data⟩ (by simp) rfl)
            obtain ⟨lq, t0, -, t1, tf1, t2, -⟩ := (s9.tr.grown hg (fun e => own_blk_ne s9.rV s9.tr (by decide) e.symm)).three
            obtain ⟨a1, a2, a3⟩ := s9.appV hg hr rfl hat
            have a4 := k9.trans a2
            have a5 : Anew (OwnW w q wc.heap.size vV3 (.slice (some ⟨g9, 0, none⟩) (lC3.length + 1) cap9) (.slice (some ⟨g8, 0, none⟩) (pre.length + 1) cap8)) (OwnW w q wc.heap.size (.slice (some ⟨g1, 0, none⟩) (lV.length + 1) cap1) (.slice (some ⟨g9, 0, none⟩) (lC3.length + 1) cap9) (.slice (some ⟨g8, 0, none⟩) (pre.length + 1) cap8)) W9 (X.setCell ⟨q, 1, none⟩ (.slice (some ⟨g1, 0, none⟩) (lV.length + 1) cap1)) := fun j hj => (a3 j hj).imp id (fun e => ⟨Nat.le_trans k9.size e.1, e.2⟩)
            go_simp
            exact hK _ _ ⟨_, _, _, _, _, _, _, _, _, rfl, fun h => p0 (st 9 0 (by decide) h), fun h => (by first | rfl | exact p1 (st 9 1 (by decide) h)), fun h => p2 (st 9 2 (by decide) h), fun h => p3 (st 9 3 (by decide) h), fun h => p4 (st 9 4 (by decide) h), fun h => p5 (st 9 5 (by decide) h), fun _ h2 => (by have := sf 9 7 (by decide) h2; rw [g7] at this; cases this), fun h => p8 (st 9 8 (by decide) h), fun h => (by have := sf 9 7 (by decide) h; rw [g7] at this; cases this), fun _ h => (by rw [tt] at h; cases h), fun _ => ⟨g1, cap1, a1, a4, a5⟩, fun h => getD_set_true (z1_0 (st 9 1 (by decide) h)), fun h => getD_set_true (z4_3 (st 9 4 (by decide) h)), fun h => getD_set_true (z5_2 (st 9 5 (by decide) h)), fun h => getD_set_true (z5_4 (st 9 5 (by decide) h)), fun h => getD_set_true (z6_5 (st 9 6 (by decide) h)), fun h => getD_set_true (z7_1 (st 9 7 (by decide) h)), fun h => getD_set_true (z7_6 (st 9 7 (by decide) h)), fun _ => getD_set_true (hd ⟨7, .data⟩ (by simp) rfl)⟩
        · rintro listed a X hall ⟨u53, u54, u55, u56, u57, u58, u59, u60, u61, rfl, p0, p1, p2, p3, p4, p5, p6, p8, pA, pB, pC, z1_0, z4_3, z5_2, z5_4, z6_5, z7_1, z7_6, z9_7⟩
          obtain ⟨g1, cap1, a1, a4, a5⟩ := pC (hall 9 (by decide))
          clear p0 p1 p2 p3 p4 p5 p6 p8 pA pB pC z1_0 z4_3 z5_2 z5_4 z6_5 z7_1 z7_6 z9_7 hall
          gi_wp2
          refine ⟨(HK9.out.then a4 HN9.out).mono (fun k h => (HC3.out k).2 h), _, fun k h => ((HN9.out.trans a5 hz9 a4.size) k h).imp (HC3.out k).2 id, _, _, _, fun _ => Iff.rfl, ?_⟩
          have e1 : intsV ((beginS T c).come ++ newV T (pre ++ [(⟨67, xc, xo, xn⟩ : WStep)])) = lV ++ [.int .i64 (vertI T xc)] := by
            rw [newV_snoc, if_pos rfl, ← List.append_assoc, intsV_snoc, HlV.out]
          have e2 : intsV ((c : Int) :: (pre ++ [(⟨67, xc, xo, xn⟩ : WStep)]).map (fun x : WStep => x.corner)) = lC3 ++ [.int .i64 xc] := by
            rw [← HlC.out, List.map_append, ← List.cons_append]
            exact intsV_snoc _ _
          rw [e1, e2, List.map_append]
          exact a1
      · have n67 : (xl == 67) = false := by simpa using h67
        gi_wp2
        refine ⟨HK9.out.mono (fun k h => (HC3.out k).2 h), _, fun k h => (HN9.out k h).imp (HC3.out k).2 id, _, _, _, fun _ => Iff.rfl, ?_⟩
        have e1 : intsV ((beginS T c).come ++ newV T (pre ++ [(⟨xl, xc, xo, xn⟩ : WStep)])) = lV := by
          rw [newV_snoc, if_neg h67, List.append_nil, HlV.out]
        have e2 : intsV ((c : Int) :: (pre ++ [(⟨xl, xc, xo, xn⟩ : WStep)]).map (fun x : WStep => x.corner)) = lC3 ++ [.int .i64 xc] := by
          rw [← HlC.out, List.map_append, ← List.cons_append]
          exact intsV_snoc _ _
        rw [e1, e2, List.map_append]
        exact HS9.out
    · rintro D xs C W hD hCD rfl ⟨vV5, vC5, vB5, hC5, hS5⟩ hK
      obtain ⟨aV, cV, rfl⟩ := ownsRow_slice hS5.rV
      obtain ⟨aC, cC, rfl⟩ := ownsRow_slice hS5.rC
      have hle := stepsM_facts HS.out hc
      have hcv := word_conv (P := Tryz.prog) Tryz.underlying95 Tryz.underlying5 Tryz.underlying9 hS5.rB hle.1 hle.2
      have hnD : ∀ k, OwnW w q wc.heap.size (.slice aV _ cV) (.slice aC _ cC) vB5 k → k ≠ D := fun k hk e => hCD (e ▸ (hC5 k).2 hk)
      obtain ⟨lq, t0, tf0, t1, -, t2, -⟩ := hS5.tr.three
      obtain ⟨lr5, r0, rf0, r1, rf1, r2, rf2⟩ := hS5.r.three
      obtain ⟨lb5, b0, -⟩ := hS5.bx.one
      have nq1 : q ≠ w.heap.size + 1 := by have := hS5.hq; omega
      have nq2 : w.heap.size + 1 ≠ q := fun e => nq1 e.symm
      have HS5 := Lib.hid hS5
      have HnD := Lib.hid hnD
      have hDq : D ≠ q := fun e => hnD q (.inr (.inr (.inl rfl))) e.symm
      have hDr : D ≠ w.heap.size + 1 := fun e => hnD _ (.inr (.inl rfl)) e.symm
      obtain ⟨nV, hnV⟩ : ∃ k, (intsV ((beginS T c).come ++ newV T (stepsM T c))).length = k := ⟨_, rfl⟩
      obtain ⟨nC, hnC⟩ : ∃ k, (intsV ((c : Int) :: (stepsM T c).map (·.corner))).length = k := ⟨_, rfl⟩
      rw [hnV] at HS5 HnD t1
      rw [hnC] at HS5 HnD t2
      have HnV := Lib.hid hnV
      have HnC := Lib.hid hnC
      clear hS5 hnD hC5 hCD Hbt Hbv HWk4 hnV hnC
      gi_wp2
      have hF : ∀ k, k ≠ q → k ≠ w.heap.size + 1 → ((((W.setCell ⟨q, 0, none⟩ (.string (wordS (stepsM T c)))).setCell ⟨w.heap.size + 1, 0, none⟩ (.string (wordS (stepsM T c)))).setCell ⟨w.heap.size + 1, 1, none⟩ (.slice aV nV cV)).setCell ⟨w.heap.size + 1, 2, none⟩ (.slice aC nC cC)).heap[k]? = W.heap[k]? := fun k h1 h2 =>
        (Below.heap_setCell _ _ _ k h2).trans ((Below.heap_setCell _ _ _ k h2).trans ((Below.heap_setCell _ _ _ k h2).trans (Below.heap_setCell _ _ _ k h1)))
      have hKF := (hF D hDq hDr).trans hK
      have bF : Blk ((((W.setCell ⟨q, 0, none⟩ (.string (wordS (stepsM T c)))).setCell ⟨w.heap.size + 1, 0, none⟩ (.string (wordS (stepsM T c)))).setCell ⟨w.heap.size + 1, 1, none⟩ (.slice aV nV cV)).setCell ⟨w.heap.size + 1, 2, none⟩ (.slice aC nC cC)) (w.heap.size + 1) 45 #[.string (wordS (stepsM T c)), .slice aV nV cV, .slice aC nC cC] := by
        have := ((((HS5.out.r.far (p := ⟨q, 0, none⟩) (by simp only; omega) (.string (wordS (stepsM T c)))).set_ 0 (.string (wordS (stepsM T c)))).set_ 1 (.slice aV nV cV)).set_ 2 (.slice aC nC cC))
        simpa using this
      have hBF : Below w.heap.size w ((((W.setCell ⟨q, 0, none⟩ (.string (wordS (stepsM T c)))).setCell ⟨w.heap.size + 1, 0, none⟩ (.string (wordS (stepsM T c)))).setCell ⟨w.heap.size + 1, 1, none⟩ (.slice aV nV cV)).setCell ⟨w.heap.size + 1, 2, none⟩ (.slice aC nC cC)) := (((HS5.out.below.setCell (p := ⟨q, 0, none⟩) (by simp only; omega) _).setCell (p := ⟨w.heap.size + 1, 0, none⟩) (by simp only; omega) _).setCell (p := ⟨w.heap.size + 1, 1, none⟩) (by simp only; omega) _).setCell (p := ⟨w.heap.size + 1, 2, none⟩) (by simp only; omega) _
      have hDw : w.heap.size ≤ D := by have := HS5.out.below.size; omega
      generalize ((((W.setCell ⟨q, 0, none⟩ (.string (wordS (stepsM T c)))).setCell ⟨w.heap.size + 1, 0, none⟩ (.string (wordS (stepsM T c)))).setCell ⟨w.heap.size + 1, 1, none⟩ (.slice aV nV cV)).setCell ⟨w.heap.size + 1, 2, none⟩ (.slice aC nC cC)) = WE at *
      refine ⟨by simp, .inl ⟨_, _, rfl, run_takeDeferred hKF, ?_⟩⟩
      have bG : Blk (WE.putObj D (.deferred none)) (w.heap.size + 1) 45 #[.string (wordS (stepsM T c)), .slice aV nV cV, .slice aC nC cC] := blk_same bF (World.putObj_heap_other (fun e => hDr e.symm))
      obtain ⟨-, p0, -, p1, -, p2, -⟩ := bG.three
      have sV : (WE.putObj D (.deferred none)).ownsRow w1.heap.size 3 1 (.slice aV nV cV) nV (intsV ((beginS T c).come ++ newV T (stepsM T c))) := by
        have := HS5.out.rV
        rw [HnV.out] at this
        exact own_same this (fun k e => (World.putObj_heap_other (HnD.out k (.inr (.inr (.inr (.inr (.inl e))))))).trans (hF k (fun e2 => own_blk_ne this HS5.out.tr (by decide) (by rw [e, e2])) (fun e2 => own_blk_ne this HS5.out.r (by decide) (by rw [e, e2]))))
      have sC : (WE.putObj D (.deferred none)).ownsRow w1.heap.size 3 1 (.slice aC nC cC) nC (intsV ((c : Int) :: (stepsM T c).map (·.corner))) := by
        have := HS5.out.rC
        rw [HnC.out] at this
        exact own_same this (fun k e => (World.putObj_heap_other (HnD.out k (.inr (.inr (.inr (.inr (.inr (.inl e)))))))).trans (hF k (fun e2 => own_blk_ne this HS5.out.tr (by decide) (by rw [e, e2])) (fun e2 => own_blk_ne this HS5.out.r (by decide) (by rw [e, e2]))))
      have eV : ((beginS T c).come ++ newV T (stepsM T c)).length = nV := by rw [← HnV.out]; simp [intsV]
      have eC : (stepsM T c).length.succ = nC := by rw [← HnC.out]; simp [intsV]
      refine ⟨.tuple #[.agg #[.string (wordS (stepsM T c)), .slice aV nV cV, .slice aC nC cC], .int .i64 0], ?_, ⟨.slice aV nV cV, .slice aC nC cC, rfl, ?_, ?_, hBF.trans (putObj_below hDw)⟩⟩
      · simp [results, Tryz.results23, go_sem, p0, p1, p2]
      · rw [eV]
        exact own_base sV (by omega)
      · rw [eC]
        exact own_base sC (by omega)
    · intro D cd pre C W _ _ _ h _
      exact h.elim
end Go.Proofs.YtghlnknncahkgaaGreat
/-
  The document's example for layer 9: a tetrahedron; it is a simple surface, and its walk.
-/
namespace Go.Proofs.YtghlnknncahkgaaGreat
open Go.RowKit Go.Maps

def T0 : List Tr := [(0, 1, 2), (0, 3, 1), (1, 3, 2), (2, 3, 0)]
theorem keys0 : T0.flatMap key3 = [(0, 1, 2), (0, 1, 3), (1, 2, 3), (0, 2, 3)] := by
  simp [T0, key3, sort3, sortL, List.mergeSort, List.MergeSort.Internal.splitInTwo]
theorem surf0 : Surf 4 T0 where
  n0 := by decide
  n1 := by decide
  len := by decide
  inr := by unfold in3 inR; decide
  simple := by unfold simple3; decide
  twice := by decide
  mirrored := by rw [keys0]; decide
  lonely := by
    intro u hu
    have h : u = 0 ∨ u = 1 ∨ u = 2 ∨ u = 3 := by unfold inR at hu; omega
    rcases h with rfl | rfl | rfl | rfl <;> decide
  pinch := by
    intro u hu
    have h : u = 0 ∨ u = 1 ∨ u = 2 ∨ u = 3 := by unfold inR at hu; omega
    rcases h with rfl | rfl | rfl | rfl <;> intro S h0 hs k hk
    · have e : atV T0 0 = [0, 1, 3] := by decide
      rw [e] at h0 hs hk
      have a0 := h0 0 rfl
      have a1 := hs 0 (by simp) 1 (by simp) a0 ⟨_, _, 1, rfl, rfl, by decide, by unfold hasV; decide, by unfold hasV; decide⟩
      have a3 := hs 0 (by simp) 3 (by simp) a0 ⟨_, _, 2, rfl, rfl, by decide, by unfold hasV; decide, by unfold hasV; decide⟩
      simp only [List.mem_cons, List.not_mem_nil, or_false] at hk
      rcases hk with rfl | rfl | rfl <;> assumption
    · have e : atV T0 1 = [0, 1, 2] := by decide
      rw [e] at h0 hs hk
      have a0 := h0 0 rfl
      have a1 := hs 0 (by simp) 1 (by simp) a0 ⟨_, _, 0, rfl, rfl, by decide, by unfold hasV; decide, by unfold hasV; decide⟩
      have a3 := hs 0 (by simp) 2 (by simp) a0 ⟨_, _, 2, rfl, rfl, by decide, by unfold hasV; decide, by unfold hasV; decide⟩
      simp only [List.mem_cons, List.not_mem_nil, or_false] at hk
      rcases hk with rfl | rfl | rfl <;> assumption
    · have e : atV T0 2 = [0, 2, 3] := by decide
      rw [e] at h0 hs hk
      have a0 := h0 0 rfl
      have a1 := hs 0 (by simp) 2 (by simp) a0 ⟨_, _, 1, rfl, rfl, by decide, by unfold hasV; decide, by unfold hasV; decide⟩
      have a3 := hs 0 (by simp) 3 (by simp) a0 ⟨_, _, 0, rfl, rfl, by decide, by unfold hasV; decide, by unfold hasV; decide⟩
      simp only [List.mem_cons, List.not_mem_nil, or_false] at hk
      rcases hk with rfl | rfl | rfl <;> assumption
    · have e : atV T0 3 = [1, 2, 3] := by decide
      rw [e] at h0 hs hk
      have a0 := h0 1 rfl
      have a1 := hs 1 (by simp) 2 (by simp) a0 ⟨_, _, 1, rfl, rfl, by decide, by unfold hasV; decide, by unfold hasV; decide⟩
      have a3 := hs 1 (by simp) 3 (by simp) a0 ⟨_, _, 0, rfl, rfl, by decide, by unfold hasV; decide, by unfold hasV; decide⟩
      simp only [List.mem_cons, List.not_mem_nil, or_false] at hk
      rcases hk with rfl | rfl | rfl <;> assumption
theorem simp0 : Simp ((4 : Nat) : Int) T0 where
  surf := surf0
  closed := by
    intro c hc
    have h : c < 12 := hc
    have : ∀ c : Fin 12, 0 ≤ oppI T0 (c.val : Int) := by decide
    exact this ⟨c, h⟩
  conn := by
    intro S s0 hs t ht
    have h1 : S 1 := by have := hs 2 (by decide) s0; have e : oppN T0 2 / 3 = 1 := by decide
                        rwa [e] at this
    have h2 : S 2 := by have := hs 0 (by decide) s0; have e : oppN T0 0 / 3 = 2 := by decide
                        rwa [e] at this
    have h3 : S 3 := by have := hs 1 (by decide) s0; have e : oppN T0 1 / 3 = 3 := by decide
                        rwa [e] at this
    have ht' : t < 4 := ht
    have : t = 0 ∨ t = 1 ∨ t = 2 ∨ t = 3 := by omega
    rcases this with rfl | rfl | rfl | rfl <;> assumption
  pos := by decide
  euler := by decide
theorem steps0 : stepsM T0 0 = [⟨67, 4, 0, 3⟩, ⟨76, 8, 0, 4⟩, ⟨69, 11, 0, 3⟩] := by kernel_rfl
set_option maxHeartbeats 1000000 in
theorem solid_any (w : World) : Calls Tryz.prog 51 #[] w fun e w' => ∃ v, e = .returned (.agg #[.int .i64 4, v]) ∧ TrisRd w' v T0 ∧ Below w.heap.size w w' := by
  go_enter Tryz.func51, Tryz.ntmps51
  go_wp2
  have b0 : Blk ((w.alloc (.cells #[.int .i64 4, .slice (some ⟨w.heap.size + 1, 0, none⟩) 4 4] 24)).alloc (.cells #[.int .i64 0, .int .i64 1, .int .i64 2, .int .i64 0, .int .i64 3, .int .i64 1, .int .i64 1, .int .i64 3, .int .i64 2, .int .i64 2, .int .i64 3, .int .i64 0] 72)) w.heap.size 24 #[.int .i64 4, .slice (some ⟨w.heap.size + 1, 0, none⟩) 4 4] := (Blk.new _ _ _).alloc _
  have b1 : Blk ((w.alloc (.cells #[.int .i64 4, .slice (some ⟨w.heap.size + 1, 0, none⟩) 4 4] 24)).alloc (.cells #[.int .i64 0, .int .i64 1, .int .i64 2, .int .i64 0, .int .i64 3, .int .i64 1, .int .i64 1, .int .i64 3, .int .i64 2, .int .i64 2, .int .i64 3, .int .i64 0] 72)) (w.heap.size + 1) 72 #[.int .i64 0, .int .i64 1, .int .i64 2, .int .i64 0, .int .i64 3, .int .i64 1, .int .i64 1, .int .i64 3, .int .i64 2, .int .i64 2, .int .i64 3, .int .i64 0] := blk_new_at (by simp)
  have hr : ((w.alloc (.cells #[.int .i64 4, .slice (some ⟨w.heap.size + 1, 0, none⟩) 4 4] 24)).alloc (.cells #[.int .i64 0, .int .i64 1, .int .i64 2, .int .i64 0, .int .i64 3, .int .i64 1, .int .i64 1, .int .i64 3, .int .i64 2, .int .i64 2, .int .i64 3, .int .i64 0] 72)).ownsRow w.heap.size 72 3 (.slice (some ⟨w.heap.size + 1, 0, none⟩) 4 4) T0.length (ws3 T0) :=
    ⟨rfl, .inr ⟨_, 4, _, rfl, by omega, b1, Nat.le_refl _, by decide, rfl, rfl⟩⟩
  obtain ⟨-, p0, -, p1, -⟩ := b0.two
  exact bodyPost_ret (v := .agg #[.int .i64 4, .slice (some ⟨w.heap.size + 1, 0, none⟩) 4 4]) (by simp [results, Tryz.results51, go_sem, p0, p1]) rfl ⟨_, rfl, TrisRd.of_row hr, ((Below.refl _ _).alloc (Nat.le_refl _) _).alloc (by simp) _⟩
/-- The walk of the example. -/
theorem walk0 {w : World} {g : Nat} (hT : Tab w g ((4 : Nat) : Int) T0) : Calls Tryz.prog 23 #[.pointer (some ⟨g, 0, none⟩), .int .i64 0] w fun e w' => ∃ gV gC cV cC, e = .returned (.tuple #[.agg #[.string ⟨#[67, 76, 69]⟩, .slice (some ⟨gV, 0, none⟩) 4 cV, .slice (some ⟨gC, 0, none⟩) 4 cC], .int .i64 0]) ∧
    w'.ownsRow w.heap.size 3 1 (.slice (some ⟨gV, 0, none⟩) 4 cV) 4 [.int .i64 0, .int .i64 1, .int .i64 2, .int .i64 3] ∧ w'.ownsRow w.heap.size 3 1 (.slice (some ⟨gC, 0, none⟩) 4 cC) 4 [.int .i64 0, .int .i64 4, .int .i64 8, .int .i64 11] ∧ Below w.heap.size w w' := by
  refine (walk_any (c := 0) simp0 hT (by decide)).mono ?_
  rintro e w' ⟨vV, vC, rfl, h1, h2, h3⟩
  have e1 : (beginS T0 0).come ++ newV T0 (stepsM T0 0) = [0, 1, 2, 3] := by rw [steps0]; decide
  have e2 : ((0 : Nat) : Int) :: (stepsM T0 0).map (·.corner) = [0, 4, 8, 11] := by rw [steps0]; rfl
  have e3 : (stepsM T0 0).length.succ = 4 := by rw [steps0]; rfl
  have e4 : wordS (stepsM T0 0) = ⟨#[67, 76, 69]⟩ := by rw [steps0]; rfl
  rw [e1] at h1
  rw [e2, e3] at h2
  rw [e4]
  obtain ⟨gV, cV, rfl, -, -⟩ := h1.form (by decide)
  obtain ⟨gC, cC, rfl, -, -⟩ := h2.form (by decide)
  exact ⟨gV, gC, cV, cC, rfl, h1, h2, h3⟩
set_option maxRecDepth 100000 in
set_option maxHeartbeats 2000000 in
theorem awake21_any (w : World) : Calls Tryz.prog 22 #[] w fun e w' => e = .returned (.bool true) ∧ Below w.heap.size w w' := by
  have HSo := Lib.hid (solid_any w)
  go_enter Tryz.func22, Tryz.ntmps22
  go_wp2_with fail
  refine HSo.out.mono ?_
  rintro e w1 ⟨v, rfl, hrd, hb1⟩
  have HN := Lib.hid (new_any 4 v T0 w1 hrd (by decide))
  have HB1 := Lib.hid hb1
  clear hrd hb1 HSo
  go_wp2_with fail
  refine HN.out.mono ?_
  rintro e w2 ⟨⟨-, g, rfl, hT, hg⟩ | ⟨hno, -⟩, hb2⟩
  rotate_left
  · exact absurd surf0 hno
  have hB2 := HB1.out.trans (hb2.mono HB1.out.size)
  have bw := Blk.new w2 74 #[.int .i64 0, .int .i64 0, .int .i64 0]
  have HW := Lib.hid (walk0 (hT.alloc (.cells #[.int .i64 0, .int .i64 0, .int .i64 0] 74)))
  have HB2 := Lib.hid (hB2.alloc (hB2.size) (.cells #[.int .i64 0, .int .i64 0, .int .i64 0] 74))
  have hz2 := hB2.size
  have hzw : w2.heap.size < (w2.alloc (.cells #[.int .i64 0, .int .i64 0, .int .i64 0] 74)).heap.size := by simp
  unfold witV
  clear hT hb2 hB2 HB1 HN
  go_wp2_with fail
  refine HW.out.mono ?_
  rintro e w3 ⟨gV, gC, cV, cC, rfl, hV, hC, hb3⟩
  have hB3 := HB2.out.trans (hb3.mono HB2.out.size)
  have bw3 := bw.below hb3 bw.lt
  have hz3 := hb3.size
  obtain ⟨l0, x0, f0, x1, f1, x2, f2⟩ := (bw3.alloc (.cells #[.string ⟨#[67, 76, 69]⟩, .slice (some ⟨gV, 0, none⟩) 4 cV, .slice (some ⟨gC, 0, none⟩) 4 cC] 45)).three
  have bT := Blk.new w3 45 #[.string ⟨#[67, 76, 69]⟩, .slice (some ⟨gV, 0, none⟩) 4 cV, .slice (some ⟨gC, 0, none⟩) 4 cC]
  obtain ⟨lT, y0, -, y1, -, y2, -⟩ := bT.three
  have hV' := hV.alloc (.cells #[.string ⟨#[67, 76, 69]⟩, .slice (some ⟨gV, 0, none⟩) 4 cV, .slice (some ⟨gC, 0, none⟩) 4 cC] 45)
  have hC' := hC.alloc (.cells #[.string ⟨#[67, 76, 69]⟩, .slice (some ⟨gV, 0, none⟩) 4 cV, .slice (some ⟨gC, 0, none⟩) 4 cC] 45)
  have v0 := hV'.cellAt 0 (by decide)
  have v1 := hV'.cellAt 1 (by decide)
  have v2 := hV'.cellAt 2 (by decide)
  have v3 := hV'.cellAt 3 (by decide)
  have c0 := hC'.cellAt 0 (by decide)
  have c1 := hC'.cellAt 1 (by decide)
  have c2 := hC'.cellAt 2 (by decide)
  have c3 := hC'.cellAt 3 (by decide)
  simp only [List.getElem?_cons_zero, List.getElem?_cons_succ] at v0 v1 v2 v3 c0 c1 c2 c3
  have HBF := Lib.hid (hB3.alloc hB3.size (.cells #[.string ⟨#[67, 76, 69]⟩, .slice (some ⟨gV, 0, none⟩) 4 cV, .slice (some ⟨gC, 0, none⟩) 4 cC] 45))
  clear hV hC hb3 bw bw3 hB3 HW HB2
  go_wp2
  go_ret
  exact ⟨rfl, HBF.out⟩
end Go.Proofs.YtghlnknncahkgaaGreat
/-
  gypsumref09: whatever the triangles, its functions come to an end (what they answer is not said).
-/
namespace Go.Proofs.YtghlnknncahkgaaGreat
open Go.RowKit

theorem TrisRd.at9 {w : World} {a : Option Addr} {m c : Nat} {T : List Tr} (h : TrisRd w (.slice a m c) T) {t k : Nat} (ht : t < T.length) (hk : k < 3) :
    ∃ b o x, a = some ⟨b, o, none⟩ ∧ b < w.heap.size ∧ w.cell? ⟨b, o + t * 3 + k, none⟩ = some (.int .i64 x) := by
  obtain ⟨a', c', e, -, -, hr⟩ := h
  cases e
  obtain ⟨⟨x, y, z⟩, hx⟩ : ∃ q, T[t]? = some q := ⟨T[t], List.getElem?_eq_getElem _⟩
  obtain ⟨b, o, rfl, hb, s0, s1, s2⟩ := hr t x y z hx
  have : k = 0 ∨ k = 1 ∨ k = 2 := by omega
  rcases this with rfl | rfl | rfl
  · exact ⟨b, o, x, rfl, hb, s0⟩
  · exact ⟨b, o, y, rfl, hb, s1⟩
  · exact ⟨b, o, z, rfl, hb, s2⟩
theorem below_dn {B : Nat} {w a : World} (h : Below B w a) (n : Nat) : Below B w (a.drewN n) := ⟨h.os, h.tape, h.output, h.size, h.block⟩
theorem below_d {B : Nat} {w a : World} (h : Below B w a) : Below B w a.drew := ⟨h.os, h.tape, h.output, h.size, h.block⟩
theorem own_below9 {w w' : World} {base n s : Nat} {e : TypeId} {v : Value} {xs : List Value} (h : w.ownsRow base e s v n xs) (hb : Below w.heap.size w w') : w'.ownsRow base e s v n xs :=
  h.kept (grown_of_below hb none) (by cases e : v.ownBlock; exact .inl rfl; exact .inr (by simp))
theorem blk_new9 {w : World} {g : Nat} {t : TypeId} {cs : Array Value} (h : g = w.heap.size) : Blk (w.alloc (.cells cs t)) g t cs := by
  rw [h]
  exact Blk.new w t cs
/-- A call that hands back some bool. -/
def RetB (w : World) (e : Ending) (w' : World) : Prop := (∃ b : Bool, e = .returned (.bool b)) ∧ Below w.heap.size w w'
set_option maxHeartbeats 1000000 in
theorem edge9_any (x y z a b : Int) (w : World) : Calls Tryz.prog 143 #[.agg #[.int .i64 x, .int .i64 y, .int .i64 z], .int .i64 a, .int .i64 b] w (RetB w) := by
  have b1 := Blk.new w 72 #[.int .i64 x, .int .i64 y, .int .i64 z]
  obtain ⟨l0, p0, -, p1, -, p2, -⟩ := b1.three
  clear b1
  go_enter Tryz.func143, Tryz.ntmps143
  go_wp2
  all_goals
    go_ret
    exact ⟨⟨_, rfl⟩, (Below.refl _ _).alloc (Nat.le_refl _) _⟩
set_option maxHeartbeats 1000000 in
theorem has9_any (x y z a : Int) (w : World) : Calls Tryz.prog 105 #[.agg #[.int .i64 x, .int .i64 y, .int .i64 z], .int .i64 a] w (RetB w) := by
  have b1 := Blk.new w 72 #[.int .i64 x, .int .i64 y, .int .i64 z]
  obtain ⟨l0, p0, -, p1, -, p2, -⟩ := b1.three
  clear b1
  go_enter Tryz.func105, Tryz.ntmps105
  go_wp2
  all_goals
    go_ret
    exact ⟨⟨_, rfl⟩, (Below.refl _ _).alloc (Nat.le_refl _) _⟩
theorem infoWit9 : (Tryz.prog.info? 155).map (fun i => (i.zero, i.size, i.bytes)) = some (some (.agg #[.int .i64 0, .int .i64 0, .int .i64 0]), 3, 24) := by kernel_rfl
/-- A call that hands back a row of witnesses. -/
def RetW (w : World) (m : Nat) (e : Ending) (w' : World) : Prop := ∃ v n xs, e = .returned v ∧ w'.ownsRow w.heap.size 155 3 v n xs ∧ n ≤ m ∧ Below w.heap.size w w'
set_option maxHeartbeats 1000000 in
theorem twice9_any (x y z x' y' z' : Int) (w : World) : Calls Tryz.prog 126 #[.agg #[.int .i64 x, .int .i64 y, .int .i64 z], .agg #[.int .i64 x', .int .i64 y', .int .i64 z']] w (RetB w) := by
  have HE := Lib.hid edge9_any
  have bt := (Blk.new w 72 #[.int .i64 x, .int .i64 y, .int .i64 z]).alloc (.cells #[.int .i64 x', .int .i64 y', .int .i64 z'] 72)
  have bu : Blk ((w.alloc (.cells #[.int .i64 x, .int .i64 y, .int .i64 z] 72)).alloc (.cells #[.int .i64 x', .int .i64 y', .int .i64 z'] 72)) (w.heap.size + 1) 72 #[.int .i64 x', .int .i64 y', .int .i64 z'] := blk_new9 (by simp)
  have hB : Below w.heap.size w ((w.alloc (.cells #[.int .i64 x, .int .i64 y, .int .i64 z] 72)).alloc (.cells #[.int .i64 x', .int .i64 y', .int .i64 z'] 72)) := ((Below.refl _ _).alloc (Nat.le_refl _) _).alloc (by simp) _
  obtain ⟨l0, p0, -, p1, -, p2, -⟩ := bt.three
  obtain ⟨l1, q0, -, q1, -, q2, -⟩ := bu.three
  go_enter Tryz.func126, Tryz.ntmps126
  go_wp2_with fail
  generalize (w.alloc (.cells #[.int .i64 x, .int .i64 y, .int .i64 z] 72)).alloc (.cells #[.int .i64 x', .int .i64 y', .int .i64 z'] 72) = W0 at *
  have HX := Lib.hid (fun (W : World) (hW : Below W0.heap.size W0 W) => And.intro (bt.below hW l0) (bu.below hW l1))
  have HB := Lib.hid hB
  clear bt bu p0 p1 p2 q0 q1 q2 hB
  refine (HE.out _ _ _ _ _ _).mono ?_
  rintro e w1 ⟨⟨b1, rfl⟩, hb1⟩
  obtain ⟨bt, bu⟩ := HX.out _ hb1
  obtain ⟨m0, p0, -, p1, -, p2, -⟩ := bt.three
  obtain ⟨m1, q0, -, q1, -, q2, -⟩ := bu.three
  have HB1 := Lib.hid (HB.out.trans (hb1.mono HB.out.size))
  have Hb1 := Lib.hid hb1
  clear hb1 bt bu
  cases b1
  · go_wp2_with fail
    refine (HE.out _ _ _ _ _ _).mono ?_
    rintro e w2 ⟨⟨b2, rfl⟩, hb2⟩
    have hb2' := Hb1.out.trans (hb2.mono Hb1.out.size)
    clear p0 p1 p2 q0 q1 q2 m0 m1
    obtain ⟨bt, bu⟩ := HX.out _ hb2'
    obtain ⟨m0, p0, -, p1, -, p2, -⟩ := bt.three
    obtain ⟨m1, q0, -, q1, -, q2, -⟩ := bu.three
    have HB2 := Lib.hid (HB.out.trans (hb2'.mono HB.out.size))
    clear hb2 hb2' bt bu
    cases b2
    · go_wp2_with fail
      refine (HE.out _ _ _ _ _ _).mono ?_
      rintro e w3 ⟨⟨b3, rfl⟩, hb3⟩
      have HB3 := Lib.hid (HB2.out.trans (hb3.mono HB2.out.size))
      clear hb3
      go_wp2
      go_ret
      exact ⟨⟨_, rfl⟩, HB3.out⟩
    · go_wp2
      go_ret
      exact ⟨⟨_, rfl⟩, HB2.out⟩
  · go_wp2
    go_ret
    exact ⟨⟨_, rfl⟩, HB1.out⟩
set_option maxRecDepth 100000 in
set_option maxHeartbeats 2000000 in
theorem index9_any (N : Int) (v : Value) (T : List Tr) (w : World) (h : TrisRd w v T) (hl : T.length ≤ 40) : Calls Tryz.prog 103 #[.agg #[.int .i64 N, v]] w (RetW w 40) := by
  obtain ⟨i1, hi', hy0, hy1, hy2⟩ := info_parts infoWit9
  obtain ⟨a, c, rfl, hc1, hc2, hr⟩ := id h
  have b1 := Blk.new w 24 #[.int .i64 N, .slice a T.length c]
  obtain ⟨l0, x0, -, x1, -⟩ := b1.two
  have hB0 : Below w.heap.size w (w.alloc (.cells #[.int .i64 N, .slice a T.length c] 24)) := (Below.refl _ _).alloc (Nat.le_refl _) _
  have HH := Lib.hid h
  obtain ⟨n, hn⟩ : ∃ n, T.length = n := ⟨_, rfl⟩
  rw [hn] at hl hc1 x0 x1 hB0 b1 l0 ⊢
  have HN := Lib.hid hn
  have g3 : ¬ 8192 < (n : Int) := by omega
  have hrow := World.ownsRow_lit (w.alloc (.cells #[.int .i64 N, .slice a n c] 24)) (base := w.heap.size) (e := 155) (size := 3) #[.int .i64 1, .int .i64 (-1), .int .i64 0] 1 (by simp) (by decide) rfl
  rw [size_alloc'] at hrow
  have Hrow := Lib.hid hrow
  have HBr := Lib.hid (hB0.alloc hB0.size (.cells #[.int .i64 1, .int .i64 (-1), .int .i64 0] 155))
  have HB0 := Lib.hid hB0
  have Hb1 := Lib.hid b1
  clear hr hn h hrow b1 hB0
  by_cases h1 : N < 0
  · go_enter Tryz.func103, Tryz.ntmps103
    go_wp2
    go_ret
    exact ⟨_, _, _, rfl, Hrow.out, by omega, HBr.out⟩
  · by_cases h2 : 4096 < N
    · go_enter Tryz.func103, Tryz.ntmps103
      go_wp2
      go_ret
      exact ⟨_, _, _, rfl, Hrow.out, by omega, HBr.out⟩
    · clear Hrow HBr
      go_enter Tryz.func103, Tryz.ntmps103
      go_wp2
      go_loopw [3, 4] (fun v3 i wr => ∃ (k : Nat) (m : Nat) (xs : List Value) (v' : Value), v' = v3 ∧ k ≤ n ∧ i = .int .i64 k ∧ wr.ownsRow w.heap.size 155 3 v' m xs ∧ m ≤ k ∧ Blk wr w.heap.size 24 #[.int .i64 N, .slice a n c] ∧ Below w.heap.size w wr) (fun _ i _ => n - (intOf i).toNat)
      case atStart => exact ⟨0, 0, _, _, rfl, Nat.zero_le _, rfl, World.ownsRow_nil _ _ _ _, Nat.le_refl _, Hb1.out, HB0.out⟩
      case round =>
        obtain ⟨k, m, xs, v3, rfl, hk, rfl, hrow, hm, hS, hB⟩ := hrel
        rename World => wr
        clear x0 x1 l0
        obtain ⟨ly, y0, -, y1, -⟩ := hS.two
        have htr := (HH.out.below hB)
        have HS := Lib.hid hS
        have HB := Lib.hid hB
        have Hro := Lib.hid hrow
        have hsz := hB.size
        clear hS hB hrow
        by_cases hlt : k < n
        · have hk3 : (k : Int) < (n : Int) := by omega
          have hk0 : (0 : Int) ≤ (k : Int) := by omega
          have c3 : m + 1 ≤ maxLen := by unfold maxLen; omega
          have c4 : (m + 1) * 24 ≤ 140737488355328 := by omega
          have HAt := Lib.hid (fun (j : Nat) (hj : j < 3) => htr.at9 (t := k) (k := j) (by have := HN.out; omega) hj)
          clear htr
          go_wp2
          go_loopw [5, 6] (fun v5 i wq => ∃ (j : Nat) (b : Bool), j ≤ 3 ∧ i = .int .i64 j ∧ v5 = .bool b ∧ (Below wr.heap.size wr wq)) (fun _ i _ => 3 - (intOf i).toNat)
          case atStart => exact ⟨0, false, by omega, rfl, rfl, Below.refl _ _⟩
          case round =>
            obtain ⟨j, b, hj, rfl, rfl, hq⟩ := hrel
            rename World => wq
            obtain ⟨lz, z0, -, z1, -⟩ := (HS.out.below hq ly).two
            have HBq := Lib.hid hq
            have hszq := hq.size
            by_cases hj3 : j < 3
            · obtain ⟨bb, o, x, rfl, hbl, hcell⟩ := HAt.out j hj3
              have hcell' := (hq.cell (p := ⟨bb, _, none⟩) hbl).trans hcell
              have hj4 : (j : Int) < 3 := by omega
              have hj0 : (0 : Int) ≤ (j : Int) := by omega
              clear hcell hq
              cases b
              · by_cases u1 : x < 0
                · go_wp2
                  go_quiet (fail)
                  go_wp2
                  go_roundw
                  case measure => simp [intOf]; omega
                  case rel => exact ⟨j + 1, _, by omega, by go_num, rfl, below_dn HBq.out _⟩
                · by_cases u2 : N ≤ x
                  · go_wp2
                    go_quiet (fail)
                    go_wp2
                    go_roundw
                    case measure => simp [intOf]; omega
                    case rel => exact ⟨j + 1, _, by omega, by go_num, rfl, below_dn HBq.out _⟩
                  · go_wp2
                    go_quiet (fail)
                    go_wp2
                    go_roundw
                    case measure => simp [intOf]; omega
                    case rel => exact ⟨j + 1, _, by omega, by go_num, rfl, below_dn HBq.out _⟩
              · go_wp2
                go_quiet (fail)
                go_wp2
                go_roundw
                case measure => simp [intOf]; omega
                case rel => exact ⟨j + 1, _, by omega, by go_num, rfl, below_dn HBq.out _⟩
            · obtain rfl : j = 3 := by omega
              clear HAt hq
              cases b
              · go_wp2
                go_roundw
                case measure => simp [intOf]; omega
                case rel => exact ⟨k + 1, m, xs, _, rfl, by omega, by go_num, own_below9 Hro.out HBq.out, by omega, HS.out.below HBq.out ly, HB.out.trans (HBq.out.mono hsz)⟩
              · have hrq := own_below9 Hro.out HBq.out
                have HSq := Lib.hid (HS.out.below HBq.out ly)
                go_wp2_with (at_builtin; refine wpList_append_lies _ rfl (.tmp 58) (.tmp 61) 136 rfl w.heap.size 155 i1 _ 3 24 Tryz.underlying136 hi' hy0 hy1 hy2 rfl (by decide) _ _ _ rfl (hrq.alloc _) ⟨wq.heap.size, 0, none⟩ 1 1 [.int .i64 1, .int .i64 k, .int .i64 0] rfl rfl (World.news_of_block (heap_alloc_new _ _)) (by simp [Value.oneCell']) (by decide) c3 c4 (by rw [size_alloc']; omega) (wq.heap.size + 1) (by simp) ?_; intro g4 cap4 W4 hr4 hg4 _ _)
                go_roundw
                case measure => simp [intOf]; omega
                case rel => exact ⟨k + 1, m + 1, _, _, rfl, by omega, by go_num, hr4, by omega, (HSq.out.alloc _).grown hg4 (fun e => own_blk_ne hrq HSq.out (by decide) e.symm), (HB.out.trans (HBq.out.mono hsz)).grown (gGrown (World.grownBy_alloc _ _ _) hg4 (row := v3.ownBlock) (fun _ e => .inl e)) (by omega) (fun j e => (hrq.lt j e).1)⟩
        · obtain rfl : k = n := by omega
          clear htr
          go_wp2
          go_ret
          exact ⟨_, _, _, rfl, Hro.out, by omega, HB.out⟩
end Go.Proofs.YtghlnknncahkgaaGreat
/-
  gypsumref09.pairs comes to an end.
-/
namespace Go.Proofs.YtghlnknncahkgaaGreat
open Go.RowKit

set_option maxRecDepth 100000 in
set_option maxHeartbeats 4000000 in
theorem pairs9_any (kind : Int) (hkd : kind = 3 ∨ kind = 4) (N : Int) (v : Value) (T : List Tr) (w : World) (h : TrisRd w v T) (hl : T.length ≤ 40) : Calls Tryz.prog 104 #[.agg #[.int .i64 N, v], .int .i64 kind] w (RetW w 10000) := by
  obtain ⟨i1, hi', hy0, hy1, hy2⟩ := info_parts infoWit9
  obtain ⟨a, c, rfl, hc1, hc2, hr⟩ := id h
  have b1 := Blk.new w 24 #[.int .i64 N, .slice a T.length c]
  obtain ⟨l0, x0, -, x1, -⟩ := b1.two
  have hB0 : Below w.heap.size w (w.alloc (.cells #[.int .i64 N, .slice a T.length c] 24)) := (Below.refl _ _).alloc (Nat.le_refl _) _
  have HH := Lib.hid h
  obtain ⟨n, hn⟩ : ∃ n, T.length = n := ⟨_, rfl⟩
  rw [hn] at hl hc1 x0 x1 hB0 b1 l0 ⊢
  have HN := Lib.hid hn
  have HB0 := Lib.hid hB0
  have Hb1 := Lib.hid b1
  have HE := Lib.hid twice9_any
  have HA := Lib.hid has9_any
  have HK := Lib.hid hkd
  clear hr hn h b1 hB0 hkd
  go_enter Tryz.func104, Tryz.ntmps104
  go_wp2
  go_loopw [5, 6] (fun v3 i wr => ∃ (k : Nat) (m : Nat) (xs : List Value) (v' : Value), v' = v3 ∧ k ≤ n ∧ i = .int .i64 k ∧ wr.ownsRow w.heap.size 155 3 v' m xs ∧ m ≤ k * 40 ∧ Blk wr w.heap.size 24 #[.int .i64 N, .slice a n c] ∧ Below w.heap.size w wr) (fun _ i _ => n - (intOf i).toNat)
  case atStart => exact ⟨0, 0, _, _, rfl, Nat.zero_le _, rfl, World.ownsRow_nil _ _ _ _, by omega, Hb1.out, HB0.out⟩
  case round =>
    obtain ⟨k, m, xs, v3, rfl, hk, rfl, hrow, hm, hS, hB⟩ := hrel
    rename World => wr
    clear x0 x1 l0
    obtain ⟨ly, y0, -, y1, -⟩ := hS.two
    have HS := Lib.hid hS
    have HB := Lib.hid hB
    have Hro := Lib.hid hrow
    have hsz := hB.size
    clear hS hB hrow
    by_cases hlt : k < n
    · have hk3 : (k : Int) < (n : Int) := by omega
      have hk0 : (0 : Int) ≤ (k : Int) := by omega
      go_wp2
      go_loopw [5, 7] (fun v5 i wq => ∃ (j : Nat) (m : Nat) (xs : List Value) (v' : Value), v' = v5 ∧ j ≤ k ∧ i = .int .i64 j ∧ wq.ownsRow w.heap.size 155 3 v' m xs ∧ m ≤ k * 40 + j ∧ Blk wq w.heap.size 24 #[.int .i64 N, .slice a n c] ∧ Below w.heap.size w wq) (fun _ i _ => k - (intOf i).toNat)
      case atStart => exact ⟨0, m, xs, _, rfl, by omega, rfl, Hro.out, by omega, HS.out, HB.out⟩
      case round =>
        clear y0 y1 ly hsz
        obtain ⟨j, m, xs, v5, rfl, hj, rfl, hrow, hm, hS, hB⟩ := hrel
        rename World => wq
        obtain ⟨ly, y0, -, y1, -⟩ := hS.two
        have htr := (HH.out.below hB)
        have HS := Lib.hid hS
        have HB := Lib.hid hB
        have Hro := Lib.hid hrow
        have hsz := hB.size
        clear hS hB hrow
        by_cases hjk : j < k
        · have hj3 : (j : Int) < (k : Int) := by omega
          have hj5 : (j : Int) < (n : Int) := by omega
          have hj0 : (0 : Int) ≤ (j : Int) := by omega
          have c3 : m + 1 ≤ maxLen := by unfold maxLen; omega
          have c4 : (m + 1) * 24 ≤ 140737488355328 := by omega
          obtain ⟨⟨x, y, z⟩, ht⟩ : ∃ t, T[j]? = some t := ⟨T[j]'(by have := HN.out; omega), List.getElem?_eq_getElem _⟩
          obtain ⟨⟨x', y', z'⟩, hu⟩ : ∃ t, T[k]? = some t := ⟨T[k]'(by have := HN.out; omega), List.getElem?_eq_getElem _⟩
          obtain ⟨_, _, e1, _, _, hrd⟩ := htr
          cases e1
          obtain ⟨b, o, rfl, hbl, s0, s1, s2⟩ := hrd j x y z ht
          obtain ⟨b', o', e2, hbl', r0, r1, r2⟩ := hrd k x' y' z' hu
          cases e2
          clear hrd ht hu
          go_upto_region 8 with fail
          go_cut [8, 9] (fun v8 v9 W => ∃ p q, v8 = .pointer (some ⟨p, 0, none⟩) ∧ v9 = .pointer (some ⟨q, 0, none⟩) ∧ Blk W p 72 #[.int .i64 x, .int .i64 y, .int .i64 z] ∧ Blk W q 72 #[.int .i64 x', .int .i64 y', .int .i64 z'] ∧ Below wq.heap.size wq W)
          case first =>
            go_region_held3 (fun w' => w'.cell? ⟨w.heap.size, 1, none⟩ = some (.slice (some ⟨b, o, none⟩) n c) ∧ w'.cell? ⟨b, o + j * 3, none⟩ = some (.int .i64 x) ∧ w'.cell? ⟨b, o + j * 3 + 1, none⟩ = some (.int .i64 y) ∧ w'.cell? ⟨b, o + j * 3 + 2, none⟩ = some (.int .i64 z) ∧ w'.cell? ⟨b, o + k * 3, none⟩ = some (.int .i64 x') ∧ w'.cell? ⟨b, o + k * 3 + 1, none⟩ = some (.int .i64 y') ∧ w'.cell? ⟨b, o + k * 3 + 2, none⟩ = some (.int .i64 z')) (go_keep) (fail)
            all_goals
              go_wp2_with fail
              go_meet
              refine ⟨_, _, rfl, rfl, ?_, ?_, ?_⟩
              · repeat (first | with_reducible exact blk_new9 (by simp) | with_reducible refine Blk.drew ?_ | with_reducible refine Blk.alloc ?_ _)
              · repeat (first | with_reducible exact blk_new9 (by simp) | with_reducible refine Blk.drew ?_ | with_reducible refine Blk.alloc ?_ _)
              · exact below_d (((Below.refl _ _).alloc (Nat.le_refl _) _).alloc (by simp) _)
          case rest =>
            obtain ⟨p, q, rfl, rfl, bp, bq, hb8⟩ := hcut
            clear s0 s1 s2 r0 r1 r2 y0 y1
            have HP := Lib.hid bp
            have HQ := Lib.hid bq
            have hrc := own_below9 Hro.out hb8
            have hSc := HS.out.below hb8 ly
            have hBc := HB.out.trans (hb8.mono hsz)
            obtain ⟨lp, p0, -, p1, -, p2, -⟩ := bp.three
            obtain ⟨lq, q0, -, q1, -, q2, -⟩ := bq.three
            have Hrc := Lib.hid hrc
            have HSc := Lib.hid hSc
            have HBc := Lib.hid hBc
            have hszc := hBc.size
            clear bp bq hrc hSc hBc hb8
            rcases HK.out with rfl | rfl
            · go_wp2_with fail
              refine (HE.out _ _ _ _ _ _ _).mono ?_
              rintro e w2 ⟨⟨b2, rfl⟩, hb2⟩
              have hr2 := own_below9 Hrc.out hb2
              have HS2 := Lib.hid (HSc.out.below hb2 HSc.out.lt)
              have HB2 := Lib.hid (HBc.out.trans (hb2.mono hszc))
              have hsz2 := HB2.out.size
              clear hb2 p0 p1 p2 q0 q1 q2
              cases b2
              · have Hr2 := Lib.hid hr2
                clear hr2
                go_wp2
                go_roundw
                case measure => simp [intOf]; omega
                case rel => exact ⟨j + 1, m, _, _, rfl, by omega, by go_num, Hr2.out, by omega, HS2.out, HB2.out⟩
              · go_wp2_with (at_builtin; refine wpList_append_lies _ rfl (.tmp 61) (.tmp 66) 136 rfl w.heap.size 155 i1 _ 3 24 Tryz.underlying136 hi' hy0 hy1 hy2 rfl (by decide) _ _ _ rfl (hr2.alloc _) ⟨w2.heap.size, 0, none⟩ 1 1 [.int .i64 3, .int .i64 j, .int .i64 k] rfl rfl (World.news_of_block (heap_alloc_new _ _)) (by simp [Value.oneCell']) (by decide) c3 c4 (by rw [size_alloc']; omega) (w2.heap.size + 1) (by simp) ?_; intro g4 cap4 W4 hr4 hg4 _ _)
                go_roundw
                case measure => simp [intOf]; omega
                case rel => exact ⟨j + 1, m + 1, _, _, rfl, by omega, by go_num, hr4, by omega, (HS2.out.alloc _).grown hg4 (fun e => own_blk_ne hr2 HS2.out (by decide) e.symm), HB2.out.grown (gGrown (World.grownBy_alloc _ _ _) hg4 (row := v5.ownBlock) (fun _ e => .inl e)) (by omega) (fun j e => (hr2.lt j e).1)⟩
            · go_wp2_with fail
              refine (HA.out _ _ _ _ _).mono ?_
              rintro e w2 ⟨⟨b2, rfl⟩, hb2⟩
              clear p0 p1 p2 q0 q1 q2
              have HP2 := Lib.hid (HP.out.below hb2 lp)
              have HQ2 := Lib.hid (HQ.out.below hb2 lq)
              obtain ⟨lp2, p0, -, p1, -, p2, -⟩ := HP2.out.three
              obtain ⟨lq2, q0, -, q1, -, q2, -⟩ := HQ2.out.three
              have Hr2 := Lib.hid (own_below9 Hrc.out hb2)
              have HS2 := Lib.hid (HSc.out.below hb2 HSc.out.lt)
              have HB2 := Lib.hid (HBc.out.trans (hb2.mono hszc))
              have hsz2 := HB2.out.size
              clear hb2
              cases b2
              · go_wp2
                go_roundw
                case measure => simp [intOf]; omega
                case rel => exact ⟨j + 1, m, _, _, rfl, by omega, by go_num, Hr2.out, by omega, HS2.out, HB2.out⟩
              · go_wp2_with fail
                refine (HA.out _ _ _ _ _).mono ?_
                rintro e w3 ⟨⟨b3, rfl⟩, hb3⟩
                clear p0 p1 p2 q0 q1 q2
                have HP3 := Lib.hid (HP2.out.below hb3 lp2)
                have HQ3 := Lib.hid (HQ2.out.below hb3 lq2)
                obtain ⟨lp3, p0, -, p1, -, p2, -⟩ := HP3.out.three
                obtain ⟨lq3, q0, -, q1, -, q2, -⟩ := HQ3.out.three
                have Hr3 := Lib.hid (own_below9 Hr2.out hb3)
                have HS3 := Lib.hid (HS2.out.below hb3 HS2.out.lt)
                have HB3 := Lib.hid (HB2.out.trans (hb3.mono hsz2))
                have hsz3 := HB3.out.size
                clear hb3
                cases b3
                · go_wp2
                  go_roundw
                  case measure => simp [intOf]; omega
                  case rel => exact ⟨j + 1, m, _, _, rfl, by omega, by go_num, Hr3.out, by omega, HS3.out, HB3.out⟩
                · go_wp2_with fail
                  refine (HA.out _ _ _ _ _).mono ?_
                  rintro e w4 ⟨⟨b4, rfl⟩, hb4⟩
                  clear p0 p1 p2 q0 q1 q2
                  have hr4' := own_below9 Hr3.out hb4
                  have HS4 := Lib.hid (HS3.out.below hb4 HS3.out.lt)
                  have HB4 := Lib.hid (HB3.out.trans (hb4.mono hsz3))
                  have hsz4 := HB4.out.size
                  clear hb4
                  cases b4
                  · have Hr4 := Lib.hid hr4'
                    clear hr4'
                    go_wp2
                    go_roundw
                    case measure => simp [intOf]; omega
                    case rel => exact ⟨j + 1, m, _, _, rfl, by omega, by go_num, Hr4.out, by omega, HS4.out, HB4.out⟩
                  · go_wp2_with (at_builtin; refine wpList_append_lies _ rfl (.tmp 61) (.tmp 66) 136 rfl w.heap.size 155 i1 _ 3 24 Tryz.underlying136 hi' hy0 hy1 hy2 rfl (by decide) _ _ _ rfl (hr4'.alloc _) ⟨w4.heap.size, 0, none⟩ 1 1 [.int .i64 4, .int .i64 j, .int .i64 k] rfl rfl (World.news_of_block (heap_alloc_new _ _)) (by simp [Value.oneCell']) (by decide) c3 c4 (by rw [size_alloc']; omega) (w4.heap.size + 1) (by simp) ?_; intro g4 cap4 W4 hr4 hg4 _ _)
                    go_roundw
                    case measure => simp [intOf]; omega
                    case rel => exact ⟨j + 1, m + 1, _, _, rfl, by omega, by go_num, hr4, by omega, (HS4.out.alloc _).grown hg4 (fun e => own_blk_ne hr4' HS4.out (by decide) e.symm), HB4.out.grown (gGrown (World.grownBy_alloc _ _ _) hg4 (row := v5.ownBlock) (fun _ e => .inl e)) (by omega) (fun j e => (hr4'.lt j e).1)⟩
        · obtain rfl : j = k := by omega
          clear htr
          go_wp2
          go_roundw
          case measure => simp [intOf]; omega
          case rel => exact ⟨j + 1, m, _, _, rfl, by omega, by go_num, Hro.out, by omega, HS.out, HB.out⟩
    · obtain rfl : k = n := by omega
      go_wp2
      go_ret
      exact ⟨_, _, _, rfl, Hro.out, by omega, HB.out⟩
end Go.Proofs.YtghlnknncahkgaaGreat
/-
  gypsumref09.Pinched comes to an end.
-/
namespace Go.Proofs.YtghlnknncahkgaaGreat
open Go.RowKit

theorem infoTri9 : (Tryz.prog.info? 72).map (fun i => (i.zero, i.size, i.bytes)) = some (some (.agg #[.int .i64 0, .int .i64 0, .int .i64 0]), 3, 24) := by kernel_rfl
theorem ws3_snoc9 (L : List Tr) (x y z : Int) : ws3 (L ++ [(x, y, z)]) = ws3 L ++ [.int .i64 x, .int .i64 y, .int .i64 z] := ws3_snoc L x y z
theorem ws3_get9 : ∀ (L : List Tr) (k : Nat) (x y z : Int), L[k]? = some (x, y, z) → (ws3 L)[k * 3]? = some (.int .i64 x) ∧ (ws3 L)[k * 3 + 1]? = some (.int .i64 y) ∧ (ws3 L)[k * 3 + 2]? = some (.int .i64 z)
  | [], k, x, y, z, h => by simp at h
  | (a, b, c) :: L, 0, x, y, z, h => by
    simp at h
    obtain ⟨rfl, rfl, rfl⟩ := h
    simp [ws3, flatT]
  | (a, b, c) :: L, k + 1, x, y, z, h => by
    have ih := ws3_get9 L k x y z (by simpa using h)
    have e : ws3 ((a, b, c) :: L) = .int .i64 a :: .int .i64 b :: .int .i64 c :: ws3 L := by simp [ws3, flatT]
    rw [e]
    have e1 : (k + 1) * 3 = k * 3 + 1 + 1 + 1 := by omega
    rw [e1]
    simpa using ih
theorem ws3_len9 (L : List Tr) : (ws3 L).length = L.length * 3 := by
  induction L with
  | nil => rfl
  | cons a L ih =>
    obtain ⟨x, y, z⟩ := a
    have e : ws3 ((x, y, z) :: L) = .int .i64 x :: .int .i64 y :: .int .i64 z :: ws3 L := by simp [ws3, flatT]
    rw [e]
    simp only [List.length_cons, ih]
    omega
/-- The state between the rounds: the vertex's triangles, and which are come to. -/
structure PS9 (w : World) (m : Nat) (L : List Tr) (gL cL gB : Nat) (W : World) : Prop where
  bs : ∃ bs : List Bool, bs.length = m ∧ W.ownsRow w.heap.size 4 1 (.slice (some ⟨gB, 0, none⟩) m m) m (bools bs)
  tri : W.ownsRow w.heap.size 72 3 (.slice (some ⟨gL, 0, none⟩) m cL) m (ws3 L)
  ll : L.length = m
  below : Below w.heap.size w W
section
variable {w W W' : World} {m gL cL gB : Nat} {L : List Tr}
theorem PS9.le (h : PS9 w m L gL cL gB W) (hb : Below W.heap.size W W') : PS9 w m L gL cL gB W' := by
  obtain ⟨⟨bs, h1, h2⟩, h3, h5, h4⟩ := h
  exact ⟨⟨bs, h1, own_below9 h2 hb⟩, own_below9 h3 hb, h5, h4.trans (hb.mono h4.size)⟩
theorem PS9.bit (h : PS9 w m L gL cL gB W) {i : Nat} (hi : i < m) : ∃ b : Bool, W.cell? ⟨gB, i, none⟩ = some (.bool b) ∧ W.frozen? ⟨gB, i, none⟩ = false := by
  obtain ⟨⟨bs, h1, h2⟩, -, -, -⟩ := h
  obtain ⟨b, hb⟩ : ∃ b, bs[i]? = some b := ⟨bs[i]'(by omega), List.getElem?_eq_getElem _⟩
  exact ⟨b, by rw [h2.cellAt i (by omega), bools, List.getElem?_map, hb]; rfl, h2.frozenAt i⟩
theorem PS9.set_ (h : PS9 w m L gL cL gB W) (i : Nat) : PS9 w m L gL cL gB (W.setCell ⟨gB, i, none⟩ (.bool true)) := by
  obtain ⟨⟨bs, h1, h2⟩, h3, h5, h4⟩ := h
  have hs := h2.stored i (.bool true)
  refine ⟨⟨bs.set i true, by simpa using h1, by rw [← bools_set]; exact hs.1⟩, h3.kept hs.2 (own_own_ne h3 h2 (by decide)), h5, h4.grown hs.2 h4.size (fun j e => (h2.lt j e).1)⟩
theorem PS9.three (h : PS9 w m L gL cL gB W) {i : Nat} (hi : i < m) : ∃ x y z, W.cell? ⟨gL, i * 3, none⟩ = some (.int .i64 x) ∧ W.cell? ⟨gL, i * 3 + 1, none⟩ = some (.int .i64 y) ∧ W.cell? ⟨gL, i * 3 + 2, none⟩ = some (.int .i64 z) := by
  obtain ⟨-, h3, h5, -⟩ := h
  obtain ⟨⟨x, y, z⟩, ht⟩ : ∃ q, L[i]? = some q := ⟨L[i]'(by omega), List.getElem?_eq_getElem _⟩
  obtain ⟨d0, d1, d2⟩ := ws3_get9 L i x y z ht
  refine ⟨x, y, z, ?_, ?_, ?_⟩
  · rw [h3.cellAt _ (by omega)]; exact d0
  · rw [h3.cellAt _ (by omega)]; exact d1
  · rw [h3.cellAt _ (by omega)]; exact d2
theorem PS9.at_ (h : PS9 w m L gL cL gB W) {i j : Nat} (hi : i < m) (hj : j < 3) : ∃ x, W.cell? ⟨gL, i * 3 + j, none⟩ = some (.int .i64 x) := by
  obtain ⟨x, y, z, h0, h1, h2⟩ := h.three hi
  have : j = 0 ∨ j = 1 ∨ j = 2 := by omega
  rcases this with rfl | rfl | rfl
  · exact ⟨_, h0⟩
  · exact ⟨_, h1⟩
  · exact ⟨_, h2⟩
end
set_option maxRecDepth 100000 in
set_option maxHeartbeats 4000000 in
theorem pinched9_any (N u : Int) (v : Value) (T : List Tr) (w : World) (h : TrisRd w v T) (hl : T.length ≤ 40) : Calls Tryz.prog 106 #[.agg #[.int .i64 N, v], .int .i64 u] w (RetB w) := by
  obtain ⟨i1, hi', hy0, hy1, hy2⟩ := info_parts infoTri9
  obtain ⟨i2, hj', hz0, hz1, hz2⟩ := info_parts infoBool
  obtain ⟨a, c, rfl, hc1, hc2, hr⟩ := h
  have b1 := Blk.new w 24 #[.int .i64 N, .slice a T.length c]
  obtain ⟨l0, x0, -, x1, -⟩ := b1.two
  have hB0 : Below w.heap.size w (w.alloc (.cells #[.int .i64 N, .slice a T.length c] 24)) := (Below.refl _ _).alloc (Nat.le_refl _) _
  obtain ⟨n, hn⟩ : ∃ n, T.length = n := ⟨_, rfl⟩
  rw [hn] at hl hc1 x0 x1 hB0 b1 l0 ⊢
  have HR := Lib.hid hr
  have HN := Lib.hid hn
  have HB0 := Lib.hid hB0
  have Hb1 := Lib.hid b1
  have HA := Lib.hid has9_any
  clear hr hn b1 hB0
  go_enter Tryz.func106, Tryz.ntmps106
  go_wp2
  go_loopw [5, 6] (fun v5 i wr => ∃ (k : Nat) (L : List Tr) (v' : Value), v' = v5 ∧ k ≤ n ∧ i = .int .i64 k ∧ wr.ownsRow w.heap.size 72 3 v' L.length (ws3 L) ∧ L.length ≤ k ∧ Blk wr w.heap.size 24 #[.int .i64 N, .slice a n c] ∧ Below w.heap.size w wr) (fun _ i _ => n - (intOf i).toNat)
  case atStart => exact ⟨0, [], _, rfl, Nat.zero_le _, rfl, World.ownsRow_nil _ _ _ _, by simp, Hb1.out, HB0.out⟩
  case round =>
    obtain ⟨k, L, v3, rfl, hk, rfl, hrow, hm, hS, hB⟩ := hrel
    rename World => wr
    clear x0 x1 l0
    obtain ⟨ly, y0, -, y1, -⟩ := hS.two
    have HS := Lib.hid hS
    have HB := Lib.hid hB
    have Hro := Lib.hid hrow
    have hsz := hB.size
    by_cases hlt : k < n
    · have hk3 : (k : Int) < (n : Int) := by omega
      have hk0 : (0 : Int) ≤ (k : Int) := by omega
      obtain ⟨⟨x, y, z⟩, ht⟩ : ∃ t, T[k]? = some t := ⟨T[k]'(by have := HN.out; omega), List.getElem?_eq_getElem _⟩
      obtain ⟨b, o, rfl, hbl, s0, s1, s2⟩ := HR.out k x y z ht
      have s0' := (hB.cell (p := ⟨b, _, none⟩) hbl).trans s0
      have s1' := (hB.cell (p := ⟨b, _, none⟩) hbl).trans s1
      have s2' := (hB.cell (p := ⟨b, _, none⟩) hbl).trans s2
      have c3 : L.length + 1 ≤ maxLen := by unfold maxLen; omega
      have c4 : (L.length + 1) * 24 ≤ 140737488355328 := by omega
      clear ht hS hB hrow
      go_wp2_with fail
      refine (HA.out _ _ _ _ _).mono ?_
      rintro e w2 ⟨⟨b2, rfl⟩, hb2⟩
      have hr2 := own_below9 Hro.out hb2
      have HS2 := Lib.hid (HS.out.below hb2 ly)
      have HB2 := Lib.hid (HB.out.trans (hb2.mono hsz))
      have hsz2 := HB2.out.size
      clear y0 y1 s0' s1' s2' hb2
      obtain ⟨ly2, y0, -, y1, -⟩ := HS2.out.two
      have s0' := (HB2.out.cell (p := ⟨b, _, none⟩) hbl).trans s0
      have s1' := (HB2.out.cell (p := ⟨b, _, none⟩) hbl).trans s1
      have s2' := (HB2.out.cell (p := ⟨b, _, none⟩) hbl).trans s2
      clear s0 s1 s2
      cases b2
      · have Hr2 := Lib.hid hr2
        clear hr2
        go_wp2
        go_roundw
        case measure => simp [intOf]; omega
        case rel => exact ⟨k + 1, L, _, rfl, by omega, by go_num, Hr2.out, by omega, HS2.out, HB2.out⟩
      · go_wp2_with (at_builtin; refine wpList_append_lies _ rfl (.tmp 27) (.tmp 33) 22 rfl w.heap.size 72 i1 _ 3 24 Tryz.underlying22 hi' hy0 hy1 hy2 rfl (by decide) _ _ _ rfl (hr2.alloc _) ⟨w2.heap.size, 0, none⟩ 1 1 [.int .i64 x, .int .i64 y, .int .i64 z] rfl rfl (World.news_of_block (heap_alloc_new _ _)) (by simp [Value.oneCell']) (by decide) c3 c4 (by rw [size_alloc']; omega) (w2.heap.size + 1) (by simp) ?_; intro g4 cap4 W4 hr4 hg4 _ _)
        go_roundw
        case measure => simp [intOf]; omega
        case rel => exact ⟨k + 1, L ++ [(x, y, z)], _, rfl, by omega, by go_num, by rw [ws3_snoc9]; simpa using hr4, by simp; omega, (HS2.out.alloc _).grown hg4 (fun e => own_blk_ne hr2 HS2.out (by decide) e.symm), HB2.out.grown (gGrown (World.grownBy_alloc _ _ _) hg4 (row := v3.ownBlock) (fun _ e => .inl e)) (by omega) (fun j e => (hr2.lt j e).1)⟩
    · obtain rfl : k = n := by omega
      clear HS hS
      obtain ⟨m, hmL⟩ : ∃ m, L.length = m := ⟨_, rfl⟩
      rw [hmL] at hrow hm
      clear Hro
      rcases Nat.eq_zero_or_pos m with hm0 | hm0
      · subst hm0
        have e : ∃ a cc, v3 = .slice a 0 cc := by
          rcases hrow.2 with ⟨rfl, h0⟩ | ⟨g, cap, cur, rfl, _⟩
          · exact ⟨_, _, rfl⟩
          · exact ⟨_, _, rfl⟩
        obtain ⟨a', cc, rfl⟩ := e
        clear hrow hB hmL
        go_wp2
        go_ret
        exact ⟨⟨_, rfl⟩, HB.out⟩
      · obtain ⟨gL, cL, rfl, -, -⟩ := hrow.form hm0
        have HL := Lib.hid hmL
        have Hr := Lib.hid hrow
        have nz : ((m : Int) == 0) = false := by simp; omega
        have hm4 : (0 : Int) < (m : Int) := by omega
        clear hmL hrow hB
        go_wp2_with (at_make; refine wpList_make_full _ rfl (.tmp 39) (.tmp 39) 122 rfl w.heap.size 4 i2 _ 1 Tryz.underlying122 hj' hz0 hz1 .i64 .i64 _ _ m rfl rfl rfl rfl (by rw [hz2]; omega) (by unfold maxLen; omega) (by omega) ?_; intro w1 hr1 hg1; have hbm := below_of_grown hg1 (Nat.le_refl _) (fun j e => by cases e); rw [made_bools] at hr1; have f0 := hr1.frozenAt 0; have c0 : w1.cell? ⟨wr.heap.size, 0, none⟩ = some (.bool false) := by rw [hr1.cellAt 0 (by omega)]; simp [bools, hm0])
        have hps : PS9 w m L gL cL wr.heap.size w1 := ⟨⟨_, by simp, hr1⟩, own_below9 Hr.out hbm, HL.out, HB.out.trans (hbm.mono hsz)⟩
        have HPS := Lib.hid (hps.set_ 0)
        clear hps hr1 hg1 hbm f0 c0 y0 y1 ly
        generalize w1.setCell ⟨wr.heap.size, 0, none⟩ (.bool true) = W1 at *
        go_loopw [45] (fun i W => ∃ q : Nat, q ≤ m ∧ i = .int .i64 q ∧ PS9 w m L gL cL wr.heap.size W) (fun i _ => m - (intOf i).toNat)
        case atStart => exact ⟨0, by omega, rfl, HPS.out⟩
        case round =>
          obtain ⟨q, hq, rfl, hP⟩ := hrel
          rename World => wA
          have HPA := Lib.hid hP
          clear hP
          by_cases hqm : q < m
          · have hq3 : (q : Int) < (m : Int) := by omega
            go_wp2
            go_loopw [8] (fun i W => ∃ i1 : Nat, i1 ≤ m ∧ i = .int .i64 i1 ∧ PS9 w m L gL cL wr.heap.size W) (fun i _ => m - (intOf i).toNat)
            case atStart => exact ⟨0, by omega, rfl, HPA.out⟩
            case round =>
              obtain ⟨i1, hi1, rfl, hP⟩ := hrel
              rename World => wB
              have HPB := Lib.hid hP
              clear hP
              by_cases him : i1 < m
              · have hi3 : (i1 : Int) < (m : Int) := by omega
                have hi0 : (0 : Int) ≤ (i1 : Int) := by omega
                go_wp2
                go_loopw [9] (fun i W => ∃ k1 : Nat, k1 ≤ m ∧ i = .int .i64 k1 ∧ PS9 w m L gL cL wr.heap.size W) (fun i _ => m - (intOf i).toNat)
                case atStart => exact ⟨0, by omega, rfl, HPB.out⟩
                case round =>
                  obtain ⟨k1, hk1, rfl, hP⟩ := hrel
                  rename World => wC
                  have HPC := Lib.hid hP
                  clear hP
                  by_cases hkm : k1 < m
                  · have hk3 : (k1 : Int) < (m : Int) := by omega
                    have hk0 : (0 : Int) ≤ (k1 : Int) := by omega
                    obtain ⟨bi, ci, -⟩ := HPC.out.bit him
                    obtain ⟨bk, ck, fk⟩ := HPC.out.bit hkm
                    cases bi
                    · go_wp2
                      go_roundw
                      case measure => simp [intOf]; omega
                      case rel => exact ⟨k1 + 1, by omega, by go_num, HPC.out⟩
                    · cases bk
                      · go_wp2
                        clear ci ck fk
                        go_loopw [10] (fun i W => ∃ j1 : Nat, j1 ≤ 3 ∧ i = .int .i64 j1 ∧ PS9 w m L gL cL wr.heap.size W) (fun i _ => 3 - (intOf i).toNat)
                        case atStart => exact ⟨0, by omega, rfl, HPC.out⟩
                        case round =>
                          obtain ⟨j1, hj1, rfl, hP⟩ := hrel
                          rename World => wD
                          have HPD := Lib.hid hP
                          clear hP
                          by_cases hj3 : j1 < 3
                          · have hj4 : (j1 : Int) < 3 := by omega
                            have hj0 : (0 : Int) ≤ (j1 : Int) := by omega
                            obtain ⟨x, hx⟩ := HPD.out.at_ him hj3
                            obtain ⟨a1, a2, a3, h1, h2, h3⟩ := HPD.out.three hkm
                            by_cases hxu : x = u
                            · have hxu' : (x != u) = false := by simpa using hxu
                              clear hxu
                              go_wp2
                              go_roundw
                              case measure => simp [intOf]; omega
                              case rel => exact ⟨j1 + 1, by omega, by go_num, HPD.out⟩
                            · have hxu' : (x != u) = true := by simpa using hxu
                              clear hxu
                              go_wp2_with fail
                              refine (HA.out _ _ _ _ _).mono ?_
                              rintro e w2 ⟨⟨b2, rfl⟩, hb2⟩
                              have HP2 := Lib.hid (HPD.out.le hb2)
                              obtain ⟨bk, ck, fk⟩ := HP2.out.bit hkm
                              clear hx h1 h2 h3 hb2
                              cases b2
                              · go_wp2
                                go_roundw
                                case measure => simp [intOf]; omega
                                case rel => exact ⟨j1 + 1, by omega, by go_num, HP2.out⟩
                              · go_wp2
                                go_roundw
                                case measure => simp [intOf]; omega
                                case rel => exact ⟨j1 + 1, by omega, by go_num, HP2.out.set_ _⟩
                          · obtain rfl : j1 = 3 := by omega
                            go_wp2
                            go_roundw
                            case measure => simp [intOf]; omega
                            case rel => exact ⟨k1 + 1, by omega, by go_num, HPD.out⟩
                      · go_wp2
                        go_roundw
                        case measure => simp [intOf]; omega
                        case rel => exact ⟨k1 + 1, by omega, by go_num, HPC.out⟩
                  · obtain rfl : k1 = m := by omega
                    go_wp2
                    go_roundw
                    case measure => simp [intOf]; omega
                    case rel => exact ⟨i1 + 1, by omega, by go_num, HPC.out⟩
              · obtain rfl : i1 = m := by omega
                go_wp2
                go_roundw
                case measure => simp [intOf]; omega
                case rel => exact ⟨q + 1, by omega, by go_num, HPB.out⟩
          · obtain rfl : q = m := by omega
            go_wp2
            go_loopw [12] (fun i W => ∃ i1 : Nat, i1 ≤ q ∧ i = .int .i64 i1 ∧ PS9 w q L gL cL wr.heap.size W) (fun i _ => q - (intOf i).toNat)
            case atStart => exact ⟨0, by omega, rfl, HPA.out⟩
            case round =>
              obtain ⟨i1, hi1, rfl, hP⟩ := hrel
              rename World => wB
              have HPB := Lib.hid hP
              clear hP
              by_cases him : i1 < q
              · have hi3 : (i1 : Int) < (q : Int) := by omega
                have hi0 : (0 : Int) ≤ (i1 : Int) := by omega
                obtain ⟨bi, ci, -⟩ := HPB.out.bit him
                cases bi
                · go_wp2
                  go_ret
                  exact ⟨⟨_, rfl⟩, HPB.out.below⟩
                · go_wp2
                  go_roundw
                  case measure => simp [intOf]; omega
                  case rel => exact ⟨i1 + 1, by omega, by go_num, HPB.out⟩
              · obtain rfl : i1 = q := by omega
                go_wp2
                go_ret
                exact ⟨⟨_, rfl⟩, HPB.out.below⟩
end Go.Proofs.YtghlnknncahkgaaGreat
