/-
  Texts joined by program, what the law uses alone: Wlk WkOnM MvS MvL F13M SurB SurC.
-/
import Derived.Lib.ConvBytes
import Derived.Laws.IdiomStrings
import Derived.Stop.RegionWithIn
import Derived.Sort.CutIn
import Derived.WalkHide
import Derived.Deep.RegionHeld3
import Derived.Test.YtpnkhgjjlionnaaGreatM7
import Derived.Test.YtpnkhgjjlionnaaGreatM5
import Derived.Test.YtpnkhgjjlionnaaGreatM4
namespace Go.Proofs.YtpnkhgjjlionnaaGreat
open Go.RowKit Go.Maps Go.Shelf
attribute [local go_sem] Oper.semAt_some

/-- The letters, as a text. -/
def wordS (L : List WStep) : ByteArray := ⟨(L.map fun x => UInt8.ofNat x.letter.toNat).toArray⟩
/-- What a walk answers. -/
def WalkPost (w : World) (T : List Tr) (c : Nat) (e : Ending) (w' : World) : Prop :=
  ∃ vV vC, e = .returned (.tuple #[.agg #[.string (wordS (stepsM T c)), vV, vC], .int .i64 0]) ∧ w'.ownsRow w.heap.size 3 1 vV ((beginS T c).come ++ newV T (stepsM T c)).length (intsV ((beginS T c).come ++ newV T (stepsM T c))) ∧
    w'.ownsRow w.heap.size 3 1 vC (stepsM T c).length.succ (intsV ((c : Int) :: (stepsM T c).map (·.corner))) ∧ Below w.heap.size w w'
theorem infoU8W : (Tryz.prog.info? 5).map (fun i => (i.zero, i.size, i.bytes)) = some (some (.int .u8 0), 1, 1) := by kernel_rfl
theorem intsV_snoc (l : List Int) (x : Int) : intsV (l ++ [x]) = intsV l ++ [.int .i64 x] := by simp [intsV]
/-- What holds behind the steps so far. -/
def WkI (w : World) (base q bw g c : Nat) (T : List Tr) (L : List WStep) (C : Nat → Prop) (W : World) : Prop :=
  ∃ vV vC vB, (∀ k, C k ↔ OwnW w q bw vV vC vB k) ∧ WkS w base q bw g (intsV ((beginS T c).come ++ newV T L)) (intsV ((c : Int) :: L.map (·.corner))) (L.map fun x => Value.int .u8 x.letter) vV vC vB W
theorem wkI_stable {w : World} {base q bw g c : Nat} {T : List Tr} : Stable w.heap.size (WkI w base q bw g c T) := by
  rintro L C A B ⟨vV, vC, vB, hC, h⟩ hb hs
  exact ⟨vV, vC, vB, hC, h.same hb (fun k hk => hs k ((hC k).2 hk))⟩
theorem Anew.of_alloc {A B : Nat → Prop} {W W' : World} {o : Obj} (h : Anew A B (W.alloc o) W') : Anew A B W W' := fun j hj => (h j hj).imp id (fun e => ⟨by have := e.1; simp at this; omega, e.2⟩)
theorem stepsM_facts {n c : Nat} {T : List Tr} (h : Simp n T) (hc : c < 3 * T.length) : 0 < (stepsM T c).length ∧ ∀ x ∈ stepsM T c, 0 ≤ x.letter ∧ x.letter < 256 := by
  obtain ⟨L, s, R, e⟩ := ends h hc
  have hL := R.steps h hc e
  obtain ⟨Xs, G⟩ := R.gone h hc
  have h1 := (G.lt h).2.1 e
  have h2 := h.euler
  have h3 := h.pos
  rw [← hL]
  refine ⟨by omega, fun x hx => ?_⟩
  obtain ⟨d, _, _, _, _, _, h4⟩ := G.each x hx
  omega
theorem word_conv {P : Program} {W : World} {src dst e : TypeId} {base : Nat} {v : Value} {L : List WStep} (hs : P.underlying src = some (.slice e)) (he : P.underlying e = some (.int .u8)) (hd : P.underlying dst = some .string)
    (hr : W.ownsRow base e 1 v (L.map fun x => Value.int .u8 x.letter).length (L.map fun x => Value.int .u8 x.letter)) (hl : 0 < L.length) (hb : ∀ x ∈ L, 0 ≤ x.letter ∧ x.letter < 256) :
    (convert src dst v).run P W = .ok (.string (wordS L)) W := by
  rw [List.length_map] at hr
  obtain ⟨g, cap, rfl, -, -⟩ := hr.form hl
  have := run_convert_bytes_back (P := P) W src dst e ⟨g, 0, none⟩ cap (L.map fun x => UInt8.ofNat x.letter.toNat) hs he hd (fun j hj => by
    have hj' : j < L.length := by simpa using hj
    rw [Addr.add_lit]
    show W.cell? ⟨g, 0 + j, none⟩ = _
    rw [Nat.zero_add, hr.cellAt j (by omega)]
    obtain ⟨h1, h2⟩ := hb L[j] (List.getElem_mem hj')
    have h3 : ((UInt8.ofNat (L[j]).letter.toNat).toNat : Int) = (L[j]).letter := by
      rw [UInt8.toNat_ofNat']
      omega
    rw [List.getElem_map, h3, List.getElem?_map, List.getElem?_eq_getElem hj']
    rfl)
  rw [List.length_map] at this
  exact this
theorem own_three {w : World} {base q : Nat} {a b c : Int} (h : Blk w q 3 #[.int .i64 a, .int .i64 b, .int .i64 c]) (hb : base ≤ q) : w.ownsRow base 3 1 (.slice (some ⟨q, 0, none⟩) 3 3) 3 [.int .i64 a, .int .i64 b, .int .i64 c] :=
  ⟨rfl, .inr ⟨q, 3, _, rfl, hb, h, Nat.le_refl _, by decide, rfl, rfl⟩⟩
set_option maxRecDepth 100000 in
set_option maxHeartbeats 4000000 in
theorem walk_any {w : World} {g n c : Nat} {T : List Tr} (hs : Simp n T) (hT : Tab w g n T) (hc : c < 3 * T.length) :
    Calls Tryz.prog 13 #[.pointer (some ⟨g, 0, none⟩), .int .i64 c] w (WalkPost w T c) := by
  have hTl := hT.len
  have hn : n ≤ 4096 := by have := hs.surf.n1; omega
  have hnx := Jor.nx_lt hc
  have hpv := Jor.pv_lt hc
  have hB0 : Below w.heap.size w ((w.alloc (.cells #[.pointer (some ⟨g, 0, none⟩)] 26)).alloc (.cells #[.string ByteArray.empty, .slice none 0 0, .slice none 0 0] 39)) := ((Below.refl _ _).alloc (Nat.le_refl _) _).alloc (by simp) _
  have bt := (Blk.new w 26 #[.pointer (some ⟨g, 0, none⟩)]).alloc (.cells #[.string ByteArray.empty, .slice none 0 0, .slice none 0 0] 39)
  have br : Blk ((w.alloc (.cells #[.pointer (some ⟨g, 0, none⟩)] 26)).alloc (.cells #[.string ByteArray.empty, .slice none 0 0, .slice none 0 0] 39)) (w.heap.size + 1) 39 #[.string ByteArray.empty, .slice none 0 0, .slice none 0 0] := blk_new_at (by simp)
  have HCk := Lib.hid (fun (W : World) (hW : Below w.heap.size w W) => (show Calls Tryz.prog 34 #[.pointer (some ⟨g, 0, none⟩), .int .i64 (c : Int)] W fun e w' => e = .returned (.int .i64 0) ∧ Below W.heap.size W w' from by
    have := check_walk g n T W (c : Int) (hT.below hW) hs.surf (by omega) (fun W' hW' => loopsPost_closed ((hT.below hW).below hW') hs.closed hn)
    rwa [if_neg (by omega), if_pos ((chk_simp hs.surf).2 hs)] at this))
  have HV := Lib.hid (fun (W : World) (d : Nat) (hd : d < 3 * T.length) (hW : Below w.heap.size w W) => (show Calls Tryz.prog 22 #[.pointer (some ⟨g, 0, none⟩), .int .i64 (d : Int)] W fun e w' => e = .returned (.int .i64 (vertN T d)) ∧ W = w' from by
    have := vertex_any g n (d : Int) T W (hT.below hW).toTabS
    rw [vertI_nat hd] at this
    exact this))
  have HN := Lib.hid (fun (W : World) (hW : Below w.heap.size w W) => (show Calls Tryz.prog 23 #[.pointer (some ⟨g, 0, none⟩), .int .i64 (c : Int)] W fun e w' => e = .returned (.int .i64 ((Jor.nx c : Nat) : Int)) ∧ W = w' from by
    have := next_any g n (c : Int) T W (hT.below hW).toTabS
    unfold nextI at this
    rw [hasC_true (by omega) (by omega), if_pos rfl, Int.toNat_natCast] at this
    exact this))
  have HP := Lib.hid (fun (W : World) (hW : Below w.heap.size w W) => (show Calls Tryz.prog 24 #[.pointer (some ⟨g, 0, none⟩), .int .i64 (c : Int)] W fun e w' => e = .returned (.int .i64 ((Jor.pv c : Nat) : Int)) ∧ W = w' from by
    have := prev_any g n (c : Int) T W (hT.below hW).toTabS
    unfold prevI at this
    rw [hasC_true (by omega) (by omega), if_pos rfl, Int.toNat_natCast] at this
    exact this))
  have HT := Lib.hid (fun (W : World) (hW : Below w.heap.size w W) => hT.below hW)
  have HS := Lib.hid hs
  have HB0 := Lib.hid hB0
  have HBt := Lib.hid bt
  have HBr := Lib.hid br
  clear hB0 bt br hs hT
  refine (callsIn_wide (n := 9)).1 ?_
  refine callsIn_of_wp_marks Tryz.func13 rfl trivial ?_ rfl
  simp only [Tryz.ntmps13, List.size_toArray, List.length_cons, List.length_nil, Nat.reduceAdd, Nat.reduceSub, Array.replicate_succ, Array.replicate_zero, List.push_toArray, List.append_toArray, List.nil_append, List.cons_append]
  gi_hideQ
  gi_wp2_with fail
  refine ⟨trivial, (callsIn_wide.2 (HCk.out _ HB0.out)).mono ?_⟩
  rintro e w1 ⟨rfl, hb1⟩
  have HBt1 := Lib.hid (HBt.out.below hb1 HBt.out.lt)
  have HBr1 := Lib.hid (HBr.out.below hb1 HBr.out.lt)
  have HB1 := Lib.hid (HB0.out.trans (hb1.mono HB0.out.size))
  clear HB0 HBt HBr hb1
  obtain ⟨lt1, x1, fx1⟩ := HBt1.out.one
  have hz1 := HB1.out.size
  obtain ⟨va, hva⟩ : ∃ v, vertN T c = v := ⟨_, rfl⟩
  obtain ⟨vb, hvb⟩ : ∃ v, vertN T (Jor.nx c) = v := ⟨_, rfl⟩
  obtain ⟨vd, hvd⟩ : ∃ v, vertN T (Jor.pv c) = v := ⟨_, rfl⟩
  have HVa := Lib.hid (fun (W : World) (hW : Below w.heap.size w W) => HV.out W c hc hW)
  have HVb := Lib.hid (fun (W : World) (hW : Below w.heap.size w W) => HV.out W _ hnx hW)
  have HVd := Lib.hid (fun (W : World) (hW : Below w.heap.size w W) => HV.out W _ hpv hW)
  have hcome : (beginS T c).come = [va, vb, vd] := by unfold beginS; rw [hva, hvb, hvd]
  have HCm := Lib.hid hcome
  rw [hva] at HVa
  rw [hvb] at HVb
  rw [hvd] at HVd
  clear hva hvb hvd hcome
  obtain ⟨nb, hnb⟩ : ∃ k, Jor.nx c = k := ⟨_, rfl⟩
  obtain ⟨nd, hnd⟩ : ∃ k, Jor.pv c = k := ⟨_, rfl⟩
  rw [hnb] at HVb HN
  rw [hnd] at HVd HP
  clear hnb hnd hnx hpv
  gi_upto_region 4 with fail
  gi_cut [7] from 66 (fun v7 W => ∃ q vV vC, v7 = .pointer (some ⟨q, 0, none⟩) ∧ Below w1.heap.size w1 W ∧ w1.heap.size ≤ q ∧ Blk W q 39 #[.string ByteArray.empty, vV, vC] ∧ W.ownsRow w1.heap.size 3 1 vV 3 [.int .i64 va, .int .i64 vb, .int .i64 vd] ∧ W.ownsRow w1.heap.size 3 1 vC 1 [.int .i64 c] ∧ vV.ownBlock ≠ vC.ownBlock)
  case first =>
    refine wpIn_region_state (by kernel_rfl) (fun listed a W => ∃ u7 u17 u18 u19 u20 u21 u22 u23 u24 u25 u26 u27 u28 u29 u30 u31 u32 u33 : Value, a = { tmps := List.toArray (.pointer (some ⟨g, 0, none⟩) :: .int .i64 (c : Int) :: .pointer (some ⟨w.heap.size, 0, none⟩) :: undef :: .pointer (some ⟨w.heap.size + 1, 0, none⟩) :: .int .i64 0 :: .int .i64 0 :: u7 :: undef :: undef :: .pointer (some ⟨g, 0, none⟩) :: .int .i64 (c : Int) :: .int .i64 0 :: .int .i64 0 :: .bool false :: undef :: undef :: u17 :: u18 :: u19 :: u20 :: u21 :: u22 :: u23 :: u24 :: u25 :: u26 :: u27 :: u28 :: u29 :: u30 :: u31 :: u32 :: u33 :: undef :: undef :: undef :: undef :: undef :: undef :: undef :: undef :: undef :: undef :: undef :: undef :: undef :: undef :: undef :: undef :: undef :: undef :: undef :: undef :: undef :: undef :: undef :: undef :: undef :: undef :: undef :: undef :: undef :: undef :: undef :: undef :: []), defers := [] } ∧ Below w1.heap.size w1 W ∧ (listed.getD 0 false = true → u17 = .pointer (some ⟨g, 0, none⟩)) ∧ (listed.getD 1 false = true → u18 = .int .i64 (c : Int)) ∧ (listed.getD 2 false = true → u19 = .int .i64 va) ∧ (listed.getD 3 false = true → u20 = .pointer (some ⟨g, 0, none⟩)) ∧ (listed.getD 4 false = true → u21 = .pointer (some ⟨g, 0, none⟩)) ∧ (listed.getD 5 false = true → u22 = .int .i64 (c : Int)) ∧ (listed.getD 6 false = true → u23 = .int .i64 (nb : Int)) ∧ (listed.getD 7 false = true → u24 = .int .i64 vb) ∧ (listed.getD 8 false = true → u25 = .pointer (some ⟨g, 0, none⟩)) ∧ (listed.getD 9 false = true → u26 = .pointer (some ⟨g, 0, none⟩)) ∧ (listed.getD 10 false = true → u27 = .int .i64 (c : Int)) ∧ (listed.getD 11 false = true → u28 = .int .i64 (nd : Int)) ∧ (listed.getD 12 false = true → u29 = .int .i64 vd) ∧ (listed.getD 13 false = true → ∃ q, u30 = .slice (some ⟨q, 0, none⟩) 3 3 ∧ w1.heap.size ≤ q ∧ Blk W q 3 #[.int .i64 va, .int .i64 vb, .int .i64 vd]) ∧ (listed.getD 14 false = true → u31 = .int .i64 (c : Int)) ∧ (listed.getD 15 false = true → ∃ q, u32 = .slice (some ⟨q, 0, none⟩) 1 1 ∧ w1.heap.size ≤ q ∧ Blk W q 3 #[.int .i64 c]) ∧ (listed.getD 16 false = true → u33 = .agg #[.string ByteArray.empty, u30, u32]) ∧ (listed.getD 17 false = true → ∃ q, u7 = .pointer (some ⟨q, 0, none⟩) ∧ w1.heap.size ≤ q ∧ ∃ x y z, Blk W q 39 #[x, y, z]) ∧ (listed.getD 18 false = true → ∃ q, u7 = .pointer (some ⟨q, 0, none⟩) ∧ w1.heap.size ≤ q ∧ Blk W q 39 #[.string ByteArray.empty, u30, u32]) ∧ (listed.getD 13 false = true → listed.getD 15 false = true → u30.ownBlock ≠ u32.ownBlock) ∧ (listed.getD 16 false = true → listed.getD 13 false = true ∧ listed.getD 15 false = true) ∧ (listed.getD 18 false = true → listed.getD 17 false = true ∧ listed.getD 16 false = true)) ?_ ?_ ?_ ?_
    · intro i o ho e he
      have hi : i < 19 := (Array.getElem?_eq_some_iff.1 ho).1
      rcases (by omega : i = 0 ∨ i = 1 ∨ i = 2 ∨ i = 3 ∨ i = 4 ∨ i = 5 ∨ i = 6 ∨ i = 7 ∨ i = 8 ∨ i = 9 ∨ i = 10 ∨ i = 11 ∨ i = 12 ∨ i = 13 ∨ i = 14 ∨ i = 15 ∨ i = 16 ∨ i = 17 ∨ i = 18) with rfl | rfl | rfl | rfl | rfl | rfl | rfl | rfl | rfl | rfl | rfl | rfl | rfl | rfl | rfl | rfl | rfl | rfl | rfl <;> (obtain rfl := Option.some.inj ho; revert e; decide)
    · refine ⟨_, _, _, _, _, _, _, _, _, _, _, _, _, _, _, _, _, _, rfl, (Below.refl _ _).drew, fun h => absurd h (by decide), fun h => absurd h (by decide), fun h => absurd h (by decide), fun h => absurd h (by decide), fun h => absurd h (by decide), fun h => absurd h (by decide), fun h => absurd h (by decide), fun h => absurd h (by decide), fun h => absurd h (by decide), fun h => absurd h (by decide), fun h => absurd h (by decide), fun h => absurd h (by decide), fun h => absurd h (by decide), fun h => absurd h (by decide), fun h => absurd h (by decide), fun h => absurd h (by decide), fun h => absurd h (by decide), fun h => absurd h (by decide), fun h => absurd h (by decide), fun h => absurd h (by decide), fun h => absurd h (by decide), fun h => absurd h (by decide)⟩
    · intro i o listed a W ho hsz hun hd hI K hK
      have hi : i < 19 := (Array.getElem?_eq_some_iff.1 ho).1
      have hsz' : listed.size = 19 := hsz
      obtain ⟨u7, u17, u18, u19, u20, u21, u22, u23, u24, u25, u26, u27, u28, u29, u30, u31, u32, u33, rfl, hB, p0, p1, p2, p3, p4, p5, p6, p7, p8, p9, p10, p11, p12, p13, p14, p15, p16, p17, p18, pa, z16, z18⟩ := hI
      have xB := (hB.cell (p := ⟨w.heap.size, 0, none⟩) lt1).trans x1
      have hzB := hB.size
      have hBW := HB1.out.trans (hB.mono hz1)
      have st : ∀ j k, j ≠ k → (listed.setIfInBounds j true).getD k false = true → listed.getD k false = true := fun j k h e => by rw [getD_set_ne false h] at e; exact e
      have nl : listed.getD i false = true → False := fun h => by
        have h2 : i < listed.size := by omega
        simp only [Array.getD_eq_getD_getElem?, Array.getElem?_eq_getElem h2, Option.getD_some] at h hun
        rw [h] at hun
        cases hun
      rcases (by omega : i = 0 ∨ i = 1 ∨ i = 2 ∨ i = 3 ∨ i = 4 ∨ i = 5 ∨ i = 6 ∨ i = 7 ∨ i = 8 ∨ i = 9 ∨ i = 10 ∨ i = 11 ∨ i = 12 ∨ i = 13 ∨ i = 14 ∨ i = 15 ∨ i = 16 ∨ i = 17 ∨ i = 18) with rfl | rfl | rfl | rfl | rfl | rfl | rfl | rfl | rfl | rfl | rfl | rfl | rfl | rfl | rfl | rfl | rfl | rfl | rfl
      · obtain rfl := Option.some.inj ho
        go_simp
        exact hK _ _ ⟨_, _, _, _, _, _, _, _, _, _, _, _, _, _, _, _, _, _, rfl, hB, fun _ => rfl, fun h => p1 (st 0 1 (by decide) h), fun h => p2 (st 0 2 (by decide) h), fun h => p3 (st 0 3 (by decide) h), fun h => p4 (st 0 4 (by decide) h), fun h => p5 (st 0 5 (by decide) h), fun h => p6 (st 0 6 (by decide) h), fun h => p7 (st 0 7 (by decide) h), fun h => p8 (st 0 8 (by decide) h), fun h => p9 (st 0 9 (by decide) h), fun h => p10 (st 0 10 (by decide) h), fun h => p11 (st 0 11 (by decide) h), fun h => p12 (st 0 12 (by decide) h), fun h => p13 (st 0 13 (by decide) h), fun h => p14 (st 0 14 (by decide) h), fun h => p15 (st 0 15 (by decide) h), fun h => p16 (st 0 16 (by decide) h), fun h => p17 (st 0 17 (by decide) h), fun h => p18 (st 0 18 (by decide) h), fun h h2 => pa (st 0 13 (by decide) h) (st 0 15 (by decide) h2), fun h => ⟨getD_set_true (z16 (st 0 16 (by decide) h)).1, getD_set_true (z16 (st 0 16 (by decide) h)).2⟩, fun h => ⟨getD_set_true (z18 (st 0 18 (by decide) h)).1, getD_set_true (z18 (st 0 18 (by decide) h)).2⟩⟩
      · obtain rfl := Option.some.inj ho
        go_simp
        exact hK _ _ ⟨_, _, _, _, _, _, _, _, _, _, _, _, _, _, _, _, _, _, rfl, hB, fun h => p0 (st 1 0 (by decide) h), fun _ => rfl, fun h => p2 (st 1 2 (by decide) h), fun h => p3 (st 1 3 (by decide) h), fun h => p4 (st 1 4 (by decide) h), fun h => p5 (st 1 5 (by decide) h), fun h => p6 (st 1 6 (by decide) h), fun h => p7 (st 1 7 (by decide) h), fun h => p8 (st 1 8 (by decide) h), fun h => p9 (st 1 9 (by decide) h), fun h => p10 (st 1 10 (by decide) h), fun h => p11 (st 1 11 (by decide) h), fun h => p12 (st 1 12 (by decide) h), fun h => p13 (st 1 13 (by decide) h), fun h => p14 (st 1 14 (by decide) h), fun h => p15 (st 1 15 (by decide) h), fun h => p16 (st 1 16 (by decide) h), fun h => p17 (st 1 17 (by decide) h), fun h => p18 (st 1 18 (by decide) h), fun h h2 => pa (st 1 13 (by decide) h) (st 1 15 (by decide) h2), fun h => ⟨getD_set_true (z16 (st 1 16 (by decide) h)).1, getD_set_true (z16 (st 1 16 (by decide) h)).2⟩, fun h => ⟨getD_set_true (z18 (st 1 18 (by decide) h)).1, getD_set_true (z18 (st 1 18 (by decide) h)).2⟩⟩
      · obtain rfl := Option.some.inj ho
        obtain rfl := p0 (hd ⟨0, .data⟩ (by simp) rfl)
        obtain rfl := p1 (hd ⟨1, .data⟩ (by simp) rfl)
        go_simp
        refine ⟨trivial, (callsIn_wide.2 (HVa.out W hBW)).mono ?_⟩
        rintro e w2 ⟨rfl, rfl⟩
        exact hK _ _ ⟨_, _, _, _, _, _, _, _, _, _, _, _, _, _, _, _, _, _, rfl, hB, fun h => p0 (st 2 0 (by decide) h), fun h => p1 (st 2 1 (by decide) h), fun _ => rfl, fun h => p3 (st 2 3 (by decide) h), fun h => p4 (st 2 4 (by decide) h), fun h => p5 (st 2 5 (by decide) h), fun h => p6 (st 2 6 (by decide) h), fun h => p7 (st 2 7 (by decide) h), fun h => p8 (st 2 8 (by decide) h), fun h => p9 (st 2 9 (by decide) h), fun h => p10 (st 2 10 (by decide) h), fun h => p11 (st 2 11 (by decide) h), fun h => p12 (st 2 12 (by decide) h), fun h => p13 (st 2 13 (by decide) h), fun h => p14 (st 2 14 (by decide) h), fun h => p15 (st 2 15 (by decide) h), fun h => p16 (st 2 16 (by decide) h), fun h => p17 (st 2 17 (by decide) h), fun h => p18 (st 2 18 (by decide) h), fun h h2 => pa (st 2 13 (by decide) h) (st 2 15 (by decide) h2), fun h => ⟨getD_set_true (z16 (st 2 16 (by decide) h)).1, getD_set_true (z16 (st 2 16 (by decide) h)).2⟩, fun h => ⟨getD_set_true (z18 (st 2 18 (by decide) h)).1, getD_set_true (z18 (st 2 18 (by decide) h)).2⟩⟩
      · obtain rfl := Option.some.inj ho
        go_simp
        exact hK _ _ ⟨_, _, _, _, _, _, _, _, _, _, _, _, _, _, _, _, _, _, rfl, hB, fun h => p0 (st 3 0 (by decide) h), fun h => p1 (st 3 1 (by decide) h), fun h => p2 (st 3 2 (by decide) h), fun _ => rfl, fun h => p4 (st 3 4 (by decide) h), fun h => p5 (st 3 5 (by decide) h), fun h => p6 (st 3 6 (by decide) h), fun h => p7 (st 3 7 (by decide) h), fun h => p8 (st 3 8 (by decide) h), fun h => p9 (st 3 9 (by decide) h), fun h => p10 (st 3 10 (by decide) h), fun h => p11 (st 3 11 (by decide) h), fun h => p12 (st 3 12 (by decide) h), fun h => p13 (st 3 13 (by decide) h), fun h => p14 (st 3 14 (by decide) h), fun h => p15 (st 3 15 (by decide) h), fun h => p16 (st 3 16 (by decide) h), fun h => p17 (st 3 17 (by decide) h), fun h => p18 (st 3 18 (by decide) h), fun h h2 => pa (st 3 13 (by decide) h) (st 3 15 (by decide) h2), fun h => ⟨getD_set_true (z16 (st 3 16 (by decide) h)).1, getD_set_true (z16 (st 3 16 (by decide) h)).2⟩, fun h => ⟨getD_set_true (z18 (st 3 18 (by decide) h)).1, getD_set_true (z18 (st 3 18 (by decide) h)).2⟩⟩
      · obtain rfl := Option.some.inj ho
        go_simp
        exact hK _ _ ⟨_, _, _, _, _, _, _, _, _, _, _, _, _, _, _, _, _, _, rfl, hB, fun h => p0 (st 4 0 (by decide) h), fun h => p1 (st 4 1 (by decide) h), fun h => p2 (st 4 2 (by decide) h), fun h => p3 (st 4 3 (by decide) h), fun _ => rfl, fun h => p5 (st 4 5 (by decide) h), fun h => p6 (st 4 6 (by decide) h), fun h => p7 (st 4 7 (by decide) h), fun h => p8 (st 4 8 (by decide) h), fun h => p9 (st 4 9 (by decide) h), fun h => p10 (st 4 10 (by decide) h), fun h => p11 (st 4 11 (by decide) h), fun h => p12 (st 4 12 (by decide) h), fun h => p13 (st 4 13 (by decide) h), fun h => p14 (st 4 14 (by decide) h), fun h => p15 (st 4 15 (by decide) h), fun h => p16 (st 4 16 (by decide) h), fun h => p17 (st 4 17 (by decide) h), fun h => p18 (st 4 18 (by decide) h), fun h h2 => pa (st 4 13 (by decide) h) (st 4 15 (by decide) h2), fun h => ⟨getD_set_true (z16 (st 4 16 (by decide) h)).1, getD_set_true (z16 (st 4 16 (by decide) h)).2⟩, fun h => ⟨getD_set_true (z18 (st 4 18 (by decide) h)).1, getD_set_true (z18 (st 4 18 (by decide) h)).2⟩⟩
      · obtain rfl := Option.some.inj ho
        go_simp
        exact hK _ _ ⟨_, _, _, _, _, _, _, _, _, _, _, _, _, _, _, _, _, _, rfl, hB, fun h => p0 (st 5 0 (by decide) h), fun h => p1 (st 5 1 (by decide) h), fun h => p2 (st 5 2 (by decide) h), fun h => p3 (st 5 3 (by decide) h), fun h => p4 (st 5 4 (by decide) h), fun _ => rfl, fun h => p6 (st 5 6 (by decide) h), fun h => p7 (st 5 7 (by decide) h), fun h => p8 (st 5 8 (by decide) h), fun h => p9 (st 5 9 (by decide) h), fun h => p10 (st 5 10 (by decide) h), fun h => p11 (st 5 11 (by decide) h), fun h => p12 (st 5 12 (by decide) h), fun h => p13 (st 5 13 (by decide) h), fun h => p14 (st 5 14 (by decide) h), fun h => p15 (st 5 15 (by decide) h), fun h => p16 (st 5 16 (by decide) h), fun h => p17 (st 5 17 (by decide) h), fun h => p18 (st 5 18 (by decide) h), fun h h2 => pa (st 5 13 (by decide) h) (st 5 15 (by decide) h2), fun h => ⟨getD_set_true (z16 (st 5 16 (by decide) h)).1, getD_set_true (z16 (st 5 16 (by decide) h)).2⟩, fun h => ⟨getD_set_true (z18 (st 5 18 (by decide) h)).1, getD_set_true (z18 (st 5 18 (by decide) h)).2⟩⟩
      · obtain rfl := Option.some.inj ho
        obtain rfl := p4 (hd ⟨4, .data⟩ (by simp) rfl)
        obtain rfl := p5 (hd ⟨5, .data⟩ (by simp) rfl)
        go_simp
        refine ⟨trivial, (callsIn_wide.2 (HN.out W hBW)).mono ?_⟩
        rintro e w2 ⟨rfl, rfl⟩
        exact hK _ _ ⟨_, _, _, _, _, _, _, _, _, _, _, _, _, _, _, _, _, _, rfl, hB, fun h => p0 (st 6 0 (by decide) h), fun h => p1 (st 6 1 (by decide) h), fun h => p2 (st 6 2 (by decide) h), fun h => p3 (st 6 3 (by decide) h), fun h => p4 (st 6 4 (by decide) h), fun h => p5 (st 6 5 (by decide) h), fun _ => rfl, fun h => p7 (st 6 7 (by decide) h), fun h => p8 (st 6 8 (by decide) h), fun h => p9 (st 6 9 (by decide) h), fun h => p10 (st 6 10 (by decide) h), fun h => p11 (st 6 11 (by decide) h), fun h => p12 (st 6 12 (by decide) h), fun h => p13 (st 6 13 (by decide) h), fun h => p14 (st 6 14 (by decide) h), fun h => p15 (st 6 15 (by decide) h), fun h => p16 (st 6 16 (by decide) h), fun h => p17 (st 6 17 (by decide) h), fun h => p18 (st 6 18 (by decide) h), fun h h2 => pa (st 6 13 (by decide) h) (st 6 15 (by decide) h2), fun h => ⟨getD_set_true (z16 (st 6 16 (by decide) h)).1, getD_set_true (z16 (st 6 16 (by decide) h)).2⟩, fun h => ⟨getD_set_true (z18 (st 6 18 (by decide) h)).1, getD_set_true (z18 (st 6 18 (by decide) h)).2⟩⟩
      · obtain rfl := Option.some.inj ho
        obtain rfl := p3 (hd ⟨3, .data⟩ (by simp) rfl)
        obtain rfl := p6 (hd ⟨6, .data⟩ (by simp) rfl)
        go_simp
        refine ⟨trivial, (callsIn_wide.2 (HVb.out W hBW)).mono ?_⟩
        rintro e w2 ⟨rfl, rfl⟩
        exact hK _ _ ⟨_, _, _, _, _, _, _, _, _, _, _, _, _, _, _, _, _, _, rfl, hB, fun h => p0 (st 7 0 (by decide) h), fun h => p1 (st 7 1 (by decide) h), fun h => p2 (st 7 2 (by decide) h), fun h => p3 (st 7 3 (by decide) h), fun h => p4 (st 7 4 (by decide) h), fun h => p5 (st 7 5 (by decide) h), fun h => p6 (st 7 6 (by decide) h), fun _ => rfl, fun h => p8 (st 7 8 (by decide) h), fun h => p9 (st 7 9 (by decide) h), fun h => p10 (st 7 10 (by decide) h), fun h => p11 (st 7 11 (by decide) h), fun h => p12 (st 7 12 (by decide) h), fun h => p13 (st 7 13 (by decide) h), fun h => p14 (st 7 14 (by decide) h), fun h => p15 (st 7 15 (by decide) h), fun h => p16 (st 7 16 (by decide) h), fun h => p17 (st 7 17 (by decide) h), fun h => p18 (st 7 18 (by decide) h), fun h h2 => pa (st 7 13 (by decide) h) (st 7 15 (by decide) h2), fun h => ⟨getD_set_true (z16 (st 7 16 (by decide) h)).1, getD_set_true (z16 (st 7 16 (by decide) h)).2⟩, fun h => ⟨getD_set_true (z18 (st 7 18 (by decide) h)).1, getD_set_true (z18 (st 7 18 (by decide) h)).2⟩⟩
      · obtain rfl := Option.some.inj ho
        go_simp
        exact hK _ _ ⟨_, _, _, _, _, _, _, _, _, _, _, _, _, _, _, _, _, _, rfl, hB, fun h => p0 (st 8 0 (by decide) h), fun h => p1 (st 8 1 (by decide) h), fun h => p2 (st 8 2 (by decide) h), fun h => p3 (st 8 3 (by decide) h), fun h => p4 (st 8 4 (by decide) h), fun h => p5 (st 8 5 (by decide) h), fun h => p6 (st 8 6 (by decide) h), fun h => p7 (st 8 7 (by decide) h), fun _ => rfl, fun h => p9 (st 8 9 (by decide) h), fun h => p10 (st 8 10 (by decide) h), fun h => p11 (st 8 11 (by decide) h), fun h => p12 (st 8 12 (by decide) h), fun h => p13 (st 8 13 (by decide) h), fun h => p14 (st 8 14 (by decide) h), fun h => p15 (st 8 15 (by decide) h), fun h => p16 (st 8 16 (by decide) h), fun h => p17 (st 8 17 (by decide) h), fun h => p18 (st 8 18 (by decide) h), fun h h2 => pa (st 8 13 (by decide) h) (st 8 15 (by decide) h2), fun h => ⟨getD_set_true (z16 (st 8 16 (by decide) h)).1, getD_set_true (z16 (st 8 16 (by decide) h)).2⟩, fun h => ⟨getD_set_true (z18 (st 8 18 (by decide) h)).1, getD_set_true (z18 (st 8 18 (by decide) h)).2⟩⟩
      · obtain rfl := Option.some.inj ho
        go_simp
        exact hK _ _ ⟨_, _, _, _, _, _, _, _, _, _, _, _, _, _, _, _, _, _, rfl, hB, fun h => p0 (st 9 0 (by decide) h), fun h => p1 (st 9 1 (by decide) h), fun h => p2 (st 9 2 (by decide) h), fun h => p3 (st 9 3 (by decide) h), fun h => p4 (st 9 4 (by decide) h), fun h => p5 (st 9 5 (by decide) h), fun h => p6 (st 9 6 (by decide) h), fun h => p7 (st 9 7 (by decide) h), fun h => p8 (st 9 8 (by decide) h), fun _ => rfl, fun h => p10 (st 9 10 (by decide) h), fun h => p11 (st 9 11 (by decide) h), fun h => p12 (st 9 12 (by decide) h), fun h => p13 (st 9 13 (by decide) h), fun h => p14 (st 9 14 (by decide) h), fun h => p15 (st 9 15 (by decide) h), fun h => p16 (st 9 16 (by decide) h), fun h => p17 (st 9 17 (by decide) h), fun h => p18 (st 9 18 (by decide) h), fun h h2 => pa (st 9 13 (by decide) h) (st 9 15 (by decide) h2), fun h => ⟨getD_set_true (z16 (st 9 16 (by decide) h)).1, getD_set_true (z16 (st 9 16 (by decide) h)).2⟩, fun h => ⟨getD_set_true (z18 (st 9 18 (by decide) h)).1, getD_set_true (z18 (st 9 18 (by decide) h)).2⟩⟩
      · obtain rfl := Option.some.inj ho
        go_simp
        exact hK _ _ ⟨_, _, _, _, _, _, _, _, _, _, _, _, _, _, _, _, _, _, rfl, hB, fun h => p0 (st 10 0 (by decide) h), fun h => p1 (st 10 1 (by decide) h), fun h => p2 (st 10 2 (by decide) h), fun h => p3 (st 10 3 (by decide) h), fun h => p4 (st 10 4 (by decide) h), fun h => p5 (st 10 5 (by decide) h), fun h => p6 (st 10 6 (by decide) h), fun h => p7 (st 10 7 (by decide) h), fun h => p8 (st 10 8 (by decide) h), fun h => p9 (st 10 9 (by decide) h), fun _ => rfl, fun h => p11 (st 10 11 (by decide) h), fun h => p12 (st 10 12 (by decide) h), fun h => p13 (st 10 13 (by decide) h), fun h => p14 (st 10 14 (by decide) h), fun h => p15 (st 10 15 (by decide) h), fun h => p16 (st 10 16 (by decide) h), fun h => p17 (st 10 17 (by decide) h), fun h => p18 (st 10 18 (by decide) h), fun h h2 => pa (st 10 13 (by decide) h) (st 10 15 (by decide) h2), fun h => ⟨getD_set_true (z16 (st 10 16 (by decide) h)).1, getD_set_true (z16 (st 10 16 (by decide) h)).2⟩, fun h => ⟨getD_set_true (z18 (st 10 18 (by decide) h)).1, getD_set_true (z18 (st 10 18 (by decide) h)).2⟩⟩
      · obtain rfl := Option.some.inj ho
        obtain rfl := p9 (hd ⟨9, .data⟩ (by simp) rfl)
        obtain rfl := p10 (hd ⟨10, .data⟩ (by simp) rfl)
        go_simp
        refine ⟨trivial, (callsIn_wide.2 (HP.out W hBW)).mono ?_⟩
        rintro e w2 ⟨rfl, rfl⟩
        exact hK _ _ ⟨_, _, _, _, _, _, _, _, _, _, _, _, _, _, _, _, _, _, rfl, hB, fun h => p0 (st 11 0 (by decide) h), fun h => p1 (st 11 1 (by decide) h), fun h => p2 (st 11 2 (by decide) h), fun h => p3 (st 11 3 (by decide) h), fun h => p4 (st 11 4 (by decide) h), fun h => p5 (st 11 5 (by decide) h), fun h => p6 (st 11 6 (by decide) h), fun h => p7 (st 11 7 (by decide) h), fun h => p8 (st 11 8 (by decide) h), fun h => p9 (st 11 9 (by decide) h), fun h => p10 (st 11 10 (by decide) h), fun _ => rfl, fun h => p12 (st 11 12 (by decide) h), fun h => p13 (st 11 13 (by decide) h), fun h => p14 (st 11 14 (by decide) h), fun h => p15 (st 11 15 (by decide) h), fun h => p16 (st 11 16 (by decide) h), fun h => p17 (st 11 17 (by decide) h), fun h => p18 (st 11 18 (by decide) h), fun h h2 => pa (st 11 13 (by decide) h) (st 11 15 (by decide) h2), fun h => ⟨getD_set_true (z16 (st 11 16 (by decide) h)).1, getD_set_true (z16 (st 11 16 (by decide) h)).2⟩, fun h => ⟨getD_set_true (z18 (st 11 18 (by decide) h)).1, getD_set_true (z18 (st 11 18 (by decide) h)).2⟩⟩
      · obtain rfl := Option.some.inj ho
        obtain rfl := p8 (hd ⟨8, .data⟩ (by simp) rfl)
        obtain rfl := p11 (hd ⟨11, .data⟩ (by simp) rfl)
        go_simp
        refine ⟨trivial, (callsIn_wide.2 (HVd.out W hBW)).mono ?_⟩
        rintro e w2 ⟨rfl, rfl⟩
        exact hK _ _ ⟨_, _, _, _, _, _, _, _, _, _, _, _, _, _, _, _, _, _, rfl, hB, fun h => p0 (st 12 0 (by decide) h), fun h => p1 (st 12 1 (by decide) h), fun h => p2 (st 12 2 (by decide) h), fun h => p3 (st 12 3 (by decide) h), fun h => p4 (st 12 4 (by decide) h), fun h => p5 (st 12 5 (by decide) h), fun h => p6 (st 12 6 (by decide) h), fun h => p7 (st 12 7 (by decide) h), fun h => p8 (st 12 8 (by decide) h), fun h => p9 (st 12 9 (by decide) h), fun h => p10 (st 12 10 (by decide) h), fun h => p11 (st 12 11 (by decide) h), fun _ => rfl, fun h => p13 (st 12 13 (by decide) h), fun h => p14 (st 12 14 (by decide) h), fun h => p15 (st 12 15 (by decide) h), fun h => p16 (st 12 16 (by decide) h), fun h => p17 (st 12 17 (by decide) h), fun h => p18 (st 12 18 (by decide) h), fun h h2 => pa (st 12 13 (by decide) h) (st 12 15 (by decide) h2), fun h => ⟨getD_set_true (z16 (st 12 16 (by decide) h)).1, getD_set_true (z16 (st 12 16 (by decide) h)).2⟩, fun h => ⟨getD_set_true (z18 (st 12 18 (by decide) h)).1, getD_set_true (z18 (st 12 18 (by decide) h)).2⟩⟩
      · obtain rfl := Option.some.inj ho
        obtain rfl := p2 (hd ⟨2, .data⟩ (by simp) rfl)
        obtain rfl := p7 (hd ⟨7, .data⟩ (by simp) rfl)
        obtain rfl := p12 (hd ⟨12, .data⟩ (by simp) rfl)
        go_simp
        exact hK _ _ ⟨_, _, _, _, _, _, _, _, _, _, _, _, _, _, _, _, _, _, rfl, hB.alloc hzB _, fun h => p0 (st 13 0 (by decide) h), fun h => p1 (st 13 1 (by decide) h), fun h => p2 (st 13 2 (by decide) h), fun h => p3 (st 13 3 (by decide) h), fun h => p4 (st 13 4 (by decide) h), fun h => p5 (st 13 5 (by decide) h), fun h => p6 (st 13 6 (by decide) h), fun h => p7 (st 13 7 (by decide) h), fun h => p8 (st 13 8 (by decide) h), fun h => p9 (st 13 9 (by decide) h), fun h => p10 (st 13 10 (by decide) h), fun h => p11 (st 13 11 (by decide) h), fun h => p12 (st 13 12 (by decide) h), fun _ => ⟨W.heap.size, rfl, hzB, Blk.new _ _ _⟩, fun h => p14 (st 13 14 (by decide) h), fun h => by obtain ⟨q, e, l, b⟩ := p15 (st 13 15 (by decide) h); exact ⟨q, e, l, b.alloc _⟩, fun h => (nl (z16 (st 13 16 (by decide) h)).1).elim, fun h => by obtain ⟨q, e, l, y0, y1, y2, b⟩ := p17 (st 13 17 (by decide) h); exact ⟨q, e, l, y0, y1, y2, b.alloc _⟩, fun h => (nl (z16 (z18 (st 13 18 (by decide) h)).2).1).elim, fun _ h => by obtain ⟨q, e, l, b⟩ := p15 (st 13 15 (by decide) h); have := b.lt; rw [e]; simp [Value.ownBlock]; omega, fun h => ⟨getD_set_true (z16 (st 13 16 (by decide) h)).1, getD_set_true (z16 (st 13 16 (by decide) h)).2⟩, fun h => ⟨getD_set_true (z18 (st 13 18 (by decide) h)).1, getD_set_true (z18 (st 13 18 (by decide) h)).2⟩⟩
      · obtain rfl := Option.some.inj ho
        go_simp
        exact hK _ _ ⟨_, _, _, _, _, _, _, _, _, _, _, _, _, _, _, _, _, _, rfl, hB, fun h => p0 (st 14 0 (by decide) h), fun h => p1 (st 14 1 (by decide) h), fun h => p2 (st 14 2 (by decide) h), fun h => p3 (st 14 3 (by decide) h), fun h => p4 (st 14 4 (by decide) h), fun h => p5 (st 14 5 (by decide) h), fun h => p6 (st 14 6 (by decide) h), fun h => p7 (st 14 7 (by decide) h), fun h => p8 (st 14 8 (by decide) h), fun h => p9 (st 14 9 (by decide) h), fun h => p10 (st 14 10 (by decide) h), fun h => p11 (st 14 11 (by decide) h), fun h => p12 (st 14 12 (by decide) h), fun h => p13 (st 14 13 (by decide) h), fun _ => rfl, fun h => p15 (st 14 15 (by decide) h), fun h => p16 (st 14 16 (by decide) h), fun h => p17 (st 14 17 (by decide) h), fun h => p18 (st 14 18 (by decide) h), fun h h2 => pa (st 14 13 (by decide) h) (st 14 15 (by decide) h2), fun h => ⟨getD_set_true (z16 (st 14 16 (by decide) h)).1, getD_set_true (z16 (st 14 16 (by decide) h)).2⟩, fun h => ⟨getD_set_true (z18 (st 14 18 (by decide) h)).1, getD_set_true (z18 (st 14 18 (by decide) h)).2⟩⟩
      · obtain rfl := Option.some.inj ho
        obtain rfl := p14 (hd ⟨14, .data⟩ (by simp) rfl)
        go_simp
        exact hK _ _ ⟨_, _, _, _, _, _, _, _, _, _, _, _, _, _, _, _, _, _, rfl, hB.alloc hzB _, fun h => p0 (st 15 0 (by decide) h), fun h => p1 (st 15 1 (by decide) h), fun h => p2 (st 15 2 (by decide) h), fun h => p3 (st 15 3 (by decide) h), fun h => p4 (st 15 4 (by decide) h), fun h => p5 (st 15 5 (by decide) h), fun h => p6 (st 15 6 (by decide) h), fun h => p7 (st 15 7 (by decide) h), fun h => p8 (st 15 8 (by decide) h), fun h => p9 (st 15 9 (by decide) h), fun h => p10 (st 15 10 (by decide) h), fun h => p11 (st 15 11 (by decide) h), fun h => p12 (st 15 12 (by decide) h), fun h => by obtain ⟨q, e, l, b⟩ := p13 (st 15 13 (by decide) h); exact ⟨q, e, l, b.alloc _⟩, fun h => p14 (st 15 14 (by decide) h), fun _ => ⟨W.heap.size, rfl, hzB, Blk.new _ _ _⟩, fun h => (nl (z16 (st 15 16 (by decide) h)).2).elim, fun h => by obtain ⟨q, e, l, y0, y1, y2, b⟩ := p17 (st 15 17 (by decide) h); exact ⟨q, e, l, y0, y1, y2, b.alloc _⟩, fun h => (nl (z16 (z18 (st 15 18 (by decide) h)).2).2).elim, fun h _ => by obtain ⟨q, e, l, b⟩ := p13 (st 15 13 (by decide) h); have := b.lt; rw [e]; simp [Value.ownBlock]; omega, fun h => ⟨getD_set_true (z16 (st 15 16 (by decide) h)).1, getD_set_true (z16 (st 15 16 (by decide) h)).2⟩, fun h => ⟨getD_set_true (z18 (st 15 18 (by decide) h)).1, getD_set_true (z18 (st 15 18 (by decide) h)).2⟩⟩
      · obtain rfl := Option.some.inj ho
        have g13 := hd ⟨13, .data⟩ (by simp) rfl
        have g15 := hd ⟨15, .data⟩ (by simp) rfl
        obtain ⟨q13, rfl, l13, b13⟩ := p13 g13
        obtain ⟨q15, rfl, l15, b15⟩ := p15 g15
        go_simp
        exact hK _ _ ⟨_, _, _, _, _, _, _, _, _, _, _, _, _, _, _, _, _, _, rfl, hB, fun h => p0 (st 16 0 (by decide) h), fun h => p1 (st 16 1 (by decide) h), fun h => p2 (st 16 2 (by decide) h), fun h => p3 (st 16 3 (by decide) h), fun h => p4 (st 16 4 (by decide) h), fun h => p5 (st 16 5 (by decide) h), fun h => p6 (st 16 6 (by decide) h), fun h => p7 (st 16 7 (by decide) h), fun h => p8 (st 16 8 (by decide) h), fun h => p9 (st 16 9 (by decide) h), fun h => p10 (st 16 10 (by decide) h), fun h => p11 (st 16 11 (by decide) h), fun h => p12 (st 16 12 (by decide) h), fun h => ⟨q13, rfl, l13, b13⟩, fun h => p14 (st 16 14 (by decide) h), fun h => ⟨q15, rfl, l15, b15⟩, fun _ => rfl, fun h => p17 (st 16 17 (by decide) h), fun h => p18 (st 16 18 (by decide) h), fun h h2 => pa (st 16 13 (by decide) h) (st 16 15 (by decide) h2), fun _ => ⟨getD_set_true g13, getD_set_true g15⟩, fun h => ⟨getD_set_true (z18 (st 16 18 (by decide) h)).1, getD_set_true (z18 (st 16 18 (by decide) h)).2⟩⟩
      · obtain rfl := Option.some.inj ho
        go_simp
        exact hK _ _ ⟨_, _, _, _, _, _, _, _, _, _, _, _, _, _, _, _, _, _, rfl, hB.alloc hzB _, fun h => p0 (st 17 0 (by decide) h), fun h => p1 (st 17 1 (by decide) h), fun h => p2 (st 17 2 (by decide) h), fun h => p3 (st 17 3 (by decide) h), fun h => p4 (st 17 4 (by decide) h), fun h => p5 (st 17 5 (by decide) h), fun h => p6 (st 17 6 (by decide) h), fun h => p7 (st 17 7 (by decide) h), fun h => p8 (st 17 8 (by decide) h), fun h => p9 (st 17 9 (by decide) h), fun h => p10 (st 17 10 (by decide) h), fun h => p11 (st 17 11 (by decide) h), fun h => p12 (st 17 12 (by decide) h), fun h => by obtain ⟨q, e, l, b⟩ := p13 (st 17 13 (by decide) h); exact ⟨q, e, l, b.alloc _⟩, fun h => p14 (st 17 14 (by decide) h), fun h => by obtain ⟨q, e, l, b⟩ := p15 (st 17 15 (by decide) h); exact ⟨q, e, l, b.alloc _⟩, fun h => p16 (st 17 16 (by decide) h), fun _ => ⟨W.heap.size, rfl, hzB, _, _, _, Blk.new _ _ _⟩, fun h => (nl (z18 (st 17 18 (by decide) h)).1).elim, fun h h2 => pa (st 17 13 (by decide) h) (st 17 15 (by decide) h2), fun h => ⟨getD_set_true (z16 (st 17 16 (by decide) h)).1, getD_set_true (z16 (st 17 16 (by decide) h)).2⟩, fun h => ⟨getD_set_true (z18 (st 17 18 (by decide) h)).1, getD_set_true (z18 (st 17 18 (by decide) h)).2⟩⟩
      · obtain rfl := Option.some.inj ho
        have g17 := hd ⟨17, .data⟩ (by simp) rfl
        have g16 := hd ⟨16, .data⟩ (by simp) rfl
        obtain ⟨g13, g15⟩ := z16 g16
        obtain rfl := p16 g16
        obtain ⟨q13, rfl, l13, b13⟩ := p13 g13
        obtain ⟨q15, rfl, l15, b15⟩ := p15 g15
        obtain ⟨q17, rfl, l17, y0, y1, y2, b17⟩ := p17 g17
        obtain ⟨lq, k0, f0, k1, f1, k2, f2⟩ := b17.three
        have n13 := Blk.ne_ b13 b17 (by decide)
        have n15 := Blk.ne_ b15 b17 (by decide)
        go_simp
        exact hK _ _ ⟨_, _, _, _, _, _, _, _, _, _, _, _, _, _, _, _, _, _, rfl, ((hB.setCell (p := ⟨q17, 0, none⟩) l17 _).setCell (p := ⟨q17, 1, none⟩) l17 _).setCell (p := ⟨q17, 2, none⟩) l17 _, fun h => p0 (st 18 0 (by decide) h), fun h => p1 (st 18 1 (by decide) h), fun h => p2 (st 18 2 (by decide) h), fun h => p3 (st 18 3 (by decide) h), fun h => p4 (st 18 4 (by decide) h), fun h => p5 (st 18 5 (by decide) h), fun h => p6 (st 18 6 (by decide) h), fun h => p7 (st 18 7 (by decide) h), fun h => p8 (st 18 8 (by decide) h), fun h => p9 (st 18 9 (by decide) h), fun h => p10 (st 18 10 (by decide) h), fun h => p11 (st 18 11 (by decide) h), fun h => p12 (st 18 12 (by decide) h), fun h => ⟨q13, rfl, l13, ((b13.far (p := ⟨q17, 0, none⟩) n13 _).far (p := ⟨q17, 1, none⟩) n13 _).far (p := ⟨q17, 2, none⟩) n13 _⟩, fun h => p14 (st 18 14 (by decide) h), fun h => ⟨q15, rfl, l15, ((b15.far (p := ⟨q17, 0, none⟩) n15 _).far (p := ⟨q17, 1, none⟩) n15 _).far (p := ⟨q17, 2, none⟩) n15 _⟩, fun h => p16 (st 18 16 (by decide) h), fun h => ⟨q17, rfl, l17, _, _, _, by simpa using ((b17.set_ 0 _).set_ 1 _).set_ 2 _⟩, fun _ => ⟨q17, rfl, l17, by simpa using ((b17.set_ 0 _).set_ 1 _).set_ 2 _⟩, fun h h2 => pa (st 18 13 (by decide) h) (st 18 15 (by decide) h2), fun h => ⟨getD_set_true (z16 (st 18 16 (by decide) h)).1, getD_set_true (z16 (st 18 16 (by decide) h)).2⟩, fun _ => ⟨getD_set_true g17, getD_set_true g16⟩⟩
    · rintro listed a W hall ⟨u7, u17, u18, u19, u20, u21, u22, u23, u24, u25, u26, u27, u28, u29, u30, u31, u32, u33, rfl, hB, p0, p1, p2, p3, p4, p5, p6, p7, p8, p9, p10, p11, p12, p13, p14, p15, p16, p17, p18, pa, z16, z18⟩
      obtain ⟨q13, rfl, l13, b13⟩ := p13 (hall 13 (by decide))
      obtain ⟨q15, rfl, l15, b15⟩ := p15 (hall 15 (by decide))
      obtain ⟨q18, rfl, l18, b18⟩ := p18 (hall 18 (by decide))
      have hne := pa (hall 13 (by decide)) (hall 15 (by decide))
      clear p0 p1 p2 p3 p4 p5 p6 p7 p8 p9 p10 p11 p12 p13 p14 p15 p16 p17 p18 pa z16 z18 hall
      gi_wp2
      gi_meet
      exact ⟨q18, _, _, rfl, hB, l18, b18, own_three b13 l13, own_one b15 l15, hne⟩
  case rest =>
    obtain ⟨q, vV, vC, rfl, hBc, hq, bTr, hV, hC, hne⟩ := hcut
    have xC := (hBc.cell (p := ⟨w.heap.size, 0, none⟩) lt1).trans x1
    have lr := HBr1.out.lt
    have hzc := hBc.size
    have b3 := Blk.new wc 25 #[.slice none 0 0]
    have hB3 : Below w1.heap.size w1 (wc.alloc (.cells #[.slice none 0 0] 25)) := hBc.alloc hzc _
    have hWk : WkS w w1.heap.size q wc.heap.size g (intsV ((beginS T c).come ++ newV T [])) (intsV ((c : Int) :: ([] : List WStep).map (·.corner))) (([] : List WStep).map fun x => Value.int .u8 x.letter) vV vC (.slice none 0 0) (wc.alloc (.cells #[.slice none 0 0] 25)) :=
      ⟨HBt1.out.below hB3 lt1, HBr1.out.below hB3 lr, bTr.alloc _, b3, by rw [HCm.out]; exact hV.alloc _, hC.alloc _, World.ownsRow_nil _ _ _ _, hne, HB1.out.trans (hB3.mono hz1), hq, hzc, lr⟩
    have x3 := hWk.t.cell 0
    have HWk := Lib.hid hWk
    have hz3 : wc.heap.size < (wc.alloc (.cells #[.slice none 0 0] 25)).heap.size := by simp
    clear b3 hB3 hWk bTr hV hC hne hBc
    gi_upto_region 6 with fail
    generalize wc.alloc (.cells #[.slice none 0 0] 25) = W3 at *
    gi_wp2_with fail
    refine ⟨trivial, (callsIn_wide.2 (callsIn_wide.1 (wsteps_any Fence.wide 8 trivial rfl (some ⟨g, 0, none⟩) (c : Int) W3))).mono ?_⟩
    rintro e w4 ⟨rfl, rfl⟩
    have hz4 : W3.heap.size + 2 = ((W3.alloc (.cells #[.pointer (some ⟨g, 0, none⟩)] 26)).alloc (.cells #[.int .i64 (c : Int)] 3)).heap.size := by simp
    have bt : Blk ((W3.alloc (.cells #[.pointer (some ⟨g, 0, none⟩)] 26)).alloc (.cells #[.int .i64 (c : Int)] 3)) W3.heap.size 26 #[.pointer (some ⟨g, 0, none⟩)] := (Blk.new _ _ _).alloc _
    have bv : Blk ((W3.alloc (.cells #[.pointer (some ⟨g, 0, none⟩)] 26)).alloc (.cells #[.int .i64 (c : Int)] 3)) (W3.heap.size + 1) 3 #[.int .i64 (c : Int)] := blk_new_at (by simp)
    have HWk4 := Lib.hid ((HWk.out.alloc (.cells #[.pointer (some ⟨g, 0, none⟩)] 26)).alloc (.cells #[.int .i64 (c : Int)] 3))
    have Hbt := Lib.hid bt
    have Hbv := Lib.hid bv
    clear bt bv HWk x3 xC
    gi_wp2_with fail
    generalize (W3.alloc (.cells #[.pointer (some ⟨g, 0, none⟩)] 26)).alloc (.cells #[.int .i64 (c : Int)] 3) = W4 at *
    refine wpIn_rangeFunc_sep rfl (by omega) (gf := 64) (lb := #[.pointer (some ⟨W3.heap.size, 0, none⟩), .pointer (some ⟨W3.heap.size + 1, 0, none⟩)]) rfl trivial (enters_of Tryz.func64 (by kernel_rfl) rfl)
      (steps1_sep (w := w) (m := 8) (Bt := W3.heap.size) (Bc := W3.heap.size + 1) HS.out (HT.out w (Below.refl _ _)) hc) (fun W hW => ⟨(hW.cell (p := ⟨W3.heap.size, 0, none⟩) Hbt.out.lt).trans (Hbt.out.cell 0), (hW.cell (p := ⟨W3.heap.size + 1, 0, none⟩) Hbv.out.lt).trans (Hbv.out.cell 0), Nat.lt_of_lt_of_le Hbt.out.lt hW.size, Nat.lt_of_lt_of_le Hbv.out.lt hW.size⟩) (fun _ h => h.elim) HWk4.out.below (fun _ => rfl)
      (WkI w w1.heap.size q wc.heap.size g c T) (fun _ _ _ _ => False) wkI_stable (fun _ _ _ _ _ h => h.elim) (OwnW w q wc.heap.size vV vC (.slice none 0 0)) (fun k hk => ⟨(HWk4.out.rng hk).1, (HWk4.out.rng hk).2, fun h => h⟩) ⟨vV, vC, _, fun _ => Iff.rfl, HWk4.out⟩ ?_ ?_ ?_
    · intro l pre x C W hl hl2 hI hCb hlen
      obtain ⟨i8, hi8, a80, a81, a82⟩ := info_parts infoU8W
      obtain ⟨i3, hi3, a30, a31, a32⟩ := info_parts infoInt
      obtain ⟨xl, xc, xo, xn⟩ := x
      obtain ⟨vV2, vC2, vB2, hCi, hS⟩ := hI
      have HCi := Lib.hid hCi
      have HS2 := Lib.hid hS
      have HCb := Lib.hid hCb
      clear hCi hS hCb Hbt Hbv HWk4
      unfold encS
      gi_wp2
      refine ⟨(Kept.refl _ _).alloc _, ⟨vV2, vC2, vB2, HCi.out, HS2.out.alloc _⟩, ?_⟩
      intro W2 hk2 hI2 hCb2 hz2
      obtain ⟨vV3, vC3, vB3, hCi3, hS3⟩ := hI2
      have bs : Blk W2 W.heap.size 82 #[.int .u8 xl, .int .i64 xc, .int .i64 xo, .int .i64 xn] := blk_same (Blk.new W _ _) (hk2.block W.heap.size (by simp) (by omega))
      have hnS : ∀ k, OwnW w q wc.heap.size vV3 vC3 vB3 k → k < W.heap.size := fun k hk => (HCb.out k ((hCi3 k).2 hk)).2
      have HC3 := Lib.hid hCi3
      have HnS := Lib.hid hnS
      have HS3 := Lib.hid hS3
      have HBs := Lib.hid bs
      obtain ⟨lbx, bx0, bxf⟩ := hS3.bx.one
      obtain ⟨ls, s0, s1, s2, s3, -⟩ := four bs
      have HzW := Lib.hid (show W2.heap.size = W.heap.size + 1 from by rw [hz2]; simp)
      have hzW : W.heap.size < W2.heap.size := by rw [hz2]; simp
      have hlB : pre.length ≤ 8192 := by omega
      have hbs2 := hS3.bs
      clear hk2 hCi3 hS3 bs hCb2 hnS HCi HS2 hz2
      gi_upto_region 9 with (first
        | (gi_at_builtin; refine wpListIn_append_lies rfl (.tmp 38) (.tmp 41) 25 rfl w1.heap.size 5 i8 _ 1 1 Tryz.underlying25 hi8 a80 a81 a82 rfl (by decide) vB3 _ _ rfl (HS3.out.alloc (.cells #[.int .u8 xl] 5)).rB ⟨W2.heap.size, 0, none⟩ 1 1 [.int .u8 xl] rfl rfl (World.news_of_block (heap_alloc_new _ _)) (by simp [Value.oneCell']) (by decide) (by unfold maxLen; simp; omega) (by simp; omega) (by simp; omega) ?_; intro g8 cap8 W5 hr8 hg8 hat8 hlt8; obtain ⟨y0, y1, y2⟩ := ((HS3.out.alloc (.cells #[.int .u8 xl] 5)).bx.grown hg8 (fun e => own_blk_ne (HS3.out.alloc (.cells #[.int .u8 xl] 5)).rB (HS3.out.alloc (.cells #[.int .u8 xl] 5)).bx (by decide) e.symm)).one; have HR8 := Lib.hid hr8; have HG8 := Lib.hid hg8; have HA8 := Lib.hid hat8; clear hr8 hg8 hat8))
      have hr8 := HR8.out
      rw [List.length_map] at hr8
      obtain ⟨s6, k6, n6⟩ := (HS3.out.alloc (.cells #[.int .u8 xl] 5)).appB HG8.out hr8 (by simp) HA8.out
      have K6 := ((Kept.refl (OwnW w q wc.heap.size vV3 vC3 vB3) W2).alloc (.cells #[.int .u8 xl] 5)).trans k6
      have N6 := n6.of_alloc
      have bs6 := blk_same HBs.out (K6.block _ hzW (fun h => Nat.lt_irrefl _ (HnS.out _ h)))
      generalize W5.setCell ⟨wc.heap.size, 0, none⟩ (.slice (some ⟨g8, 0, none⟩) (pre.length + 1) cap8) = W6 at *
      have HK6 := Lib.hid K6
      have HN6 := Lib.hid N6
      have HS6 := Lib.hid s6
      have HB6 := Lib.hid bs6
      obtain ⟨lq6, t0, -, t1, -, t2, -⟩ := s6.tr.three
      obtain ⟨ls6, u0, u1, u2, u3, -⟩ := four bs6
      have hbs6 := s6.bs
      have hz6 := K6.size
      clear s6 k6 n6 K6 N6 bs6 hr8 HR8 HG8 HA8 y0 y1 y2 lbx bx0 bxf s0 s1 s2 s3 HBs HS3
      gi_upto_region 10 with (first
        | (gi_at_builtin; refine wpListIn_append_lies rfl (.tmp 44) (.tmp 47) 30 rfl w1.heap.size 3 i3 _ 1 8 Tryz.underlying30 hi3 a30 a31 a32 rfl (by decide) vC3 _ _ rfl (HS6.out.alloc (.cells #[.int .i64 xc] 3)).rC ⟨W6.heap.size, 0, none⟩ 1 1 [.int .i64 xc] rfl rfl (World.news_of_block (heap_alloc_new _ _)) (by simp [Value.oneCell']) (by decide) (by unfold maxLen; simp [intsV]; omega) (by simp [intsV]; omega) (by simp; omega) ?_; intro g9 cap9 W8 hr9 hg9 hat9 hlt9; obtain ⟨y0, z0, zf0, z1, zf1, z2, zf2⟩ := ((HS6.out.alloc (.cells #[.int .i64 xc] 3)).tr.grown hg9 (fun e => own_blk_ne (HS6.out.alloc (.cells #[.int .i64 xc] 3)).rC (HS6.out.alloc (.cells #[.int .i64 xc] 3)).tr (by decide) e.symm)).three; have HR9 := Lib.hid hr9; have HG9 := Lib.hid hg9; have HA9 := Lib.hid hat9; clear hr9 hg9 hat9))
      obtain ⟨s9, k9, n9⟩ := (HS6.out.alloc (.cells #[.int .i64 xc] 3)).appC HG9.out HR9.out rfl HA9.out
      have K9 := ((Kept.refl (OwnW w q wc.heap.size vV3 vC3 (.slice (some ⟨g8, 0, none⟩) (pre.length + 1) cap8)) W6).alloc (.cells #[.int .i64 xc] 3)).trans k9
      have N9 := n9.of_alloc
      have bs9 := blk_same HB6.out (K9.block W.heap.size (by omega) (fun h => by
        rcases HN6.out _ h with e | e
        · exact Nat.lt_irrefl _ (HnS.out _ e)
        · omega))
      have K29 := HK6.out.then K9 HN6.out
      have N29 := HN6.out.trans N9 hz6 K9.size
      obtain ⟨lV, hlV⟩ : ∃ l, intsV ((beginS T c).come ++ newV T pre) = l := ⟨_, rfl⟩
      obtain ⟨lC3, hlC⟩ : ∃ l, intsV ((c : Int) :: pre.map (·.corner)) = l := ⟨_, rfl⟩
      rw [hlC] at s9 k9 n9 K9 N9 bs9 K29 N29
      rw [hlV] at s9
      rw [hlC]
      have HlV := Lib.hid hlV
      have HlC := Lib.hid hlC
      generalize W8.setCell ⟨q, 2, none⟩ (.slice (some ⟨g9, 0, none⟩) (lC3.length + 1) cap9) = W9 at *
      have HS9 := Lib.hid s9
      have HB9 := Lib.hid bs9
      have HK9 := Lib.hid K29
      have HN9 := Lib.hid N29
      obtain ⟨ls9, u0, u1, u2, u3, -⟩ := four bs9
      have hz9 : W2.heap.size ≤ W9.heap.size := K29.size
      clear s9 k9 n9 K9 N9 bs9 K29 N29 HR9 HG9 HA9 hlV hlC y0 z0 zf0 z1 zf1 z2 zf2 t0 t1 t2 HS6 HB6 HK6 HN6
      by_cases h67 : xl = 67
      · subst h67
        have hlVl : lV.length ≤ 8200 := by
          rw [← HlV.out]
          have := List.length_filter_le (fun x : WStep => decide (x.letter = 67)) pre
          simp only [intsV, newV, beginS, List.length_map, List.length_append, List.length_cons, List.length_nil]
          omega
        gi_upto_region 11 with fail
        refine wpIn_region_state (by kernel_rfl) (fun listed a X => ∃ u53 u54 u55 u56 u57 u58 u59 u60 u61 : Value, a = { tmps := List.toArray (.pointer (some ⟨g, 0, none⟩) :: .int .i64 (c : Int) :: .pointer (some ⟨w.heap.size, 0, none⟩) :: undef :: .pointer (some ⟨w.heap.size + 1, 0, none⟩) :: .int .i64 0 :: .int .i64 0 :: .pointer (some ⟨q, 0, none⟩) :: .pointer (some ⟨wc.heap.size, 0, none⟩) :: .pointer (some ⟨W.heap.size, 0, none⟩) :: .pointer (some ⟨g, 0, none⟩) :: .int .i64 (c : Int) :: .int .i64 0 :: .int .i64 0 :: .bool false :: undef :: undef :: u17 :: u18 :: u19 :: u20 :: u21 :: u22 :: u23 :: u24 :: u25 :: u26 :: u27 :: u28 :: u29 :: u30 :: u31 :: u32 :: u33 :: .pointer (some ⟨g, 0, none⟩) :: .int .i64 (c : Int) :: .func (.func 64) #[] #[.pointer (some ⟨W3.heap.size, 0, none⟩), .pointer (some ⟨W3.heap.size + 1, 0, none⟩)] :: .agg #[.int .u8 67, .int .i64 xc, .int .i64 xo, .int .i64 xn] :: vB3 :: .pointer (some ⟨W.heap.size, 0, none⟩) :: .int .u8 67 :: .slice (some ⟨W2.heap.size, 0, none⟩) 1 1 :: .slice (some ⟨g8, 0, none⟩) (pre.length + 1) cap8 :: .pointer (some ⟨q, 2, none⟩) :: vC3 :: .pointer (some ⟨W.heap.size, 1, none⟩) :: .int .i64 xc :: .slice (some ⟨W6.heap.size, 0, none⟩) 1 1 :: .slice (some ⟨g9, 0, none⟩) (lC3.length + 1) cap9 :: .pointer (some ⟨q, 2, none⟩) :: .pointer (some ⟨W.heap.size, 0, none⟩) :: .int .u8 67 :: .bool true :: u53 :: u54 :: u55 :: u56 :: u57 :: u58 :: u59 :: u60 :: u61 :: undef :: undef :: undef :: undef :: []), defers := [] } ∧ (listed.getD 0 false = true → u53 = .pointer (some ⟨q, 1, none⟩)) ∧ (listed.getD 1 false = true → u54 = vV3) ∧ (listed.getD 2 false = true → u55 = .pointer (some ⟨g, 0, none⟩)) ∧ (listed.getD 3 false = true → u56 = .pointer (some ⟨W.heap.size, 1, none⟩)) ∧ (listed.getD 4 false = true → u57 = .int .i64 xc) ∧ (listed.getD 5 false = true → u58 = .int .i64 (vertI T xc)) ∧ (listed.getD 6 false = true → listed.getD 7 false = false → ∃ p, u59 = .slice (some ⟨p, 0, none⟩) 1 1 ∧ Blk X p 3 #[.int .i64 (vertI T xc)]) ∧ (listed.getD 8 false = true → u61 = .pointer (some ⟨q, 1, none⟩)) ∧ (listed.getD 7 false = false → WkS w w1.heap.size q wc.heap.size g lV (lC3 ++ [.int .i64 xc]) ((pre.map fun x => Value.int .u8 x.letter) ++ [.int .u8 67]) vV3 (.slice (some ⟨g9, 0, none⟩) (lC3.length + 1) cap9) (.slice (some ⟨g8, 0, none⟩) (pre.length + 1) cap8) X ∧ Blk X W.heap.size 82 #[.int .u8 67, .int .i64 xc, .int .i64 xo, .int .i64 xn] ∧ Kept (OwnW w q wc.heap.size vV3 (.slice (some ⟨g9, 0, none⟩) (lC3.length + 1) cap9) (.slice (some ⟨g8, 0, none⟩) (pre.length + 1) cap8)) W9 X) ∧ (listed.getD 7 false = true → listed.getD 9 false = false → ∃ Wm g1 cap1, u60 = .slice (some ⟨g1, 0, none⟩) (lV.length + 1) cap1 ∧ Wm.grownBy X vV3.ownBlock ∧ WkS w w1.heap.size q wc.heap.size g lV (lC3 ++ [.int .i64 xc]) ((pre.map fun x => Value.int .u8 x.letter) ++ [.int .u8 67]) vV3 (.slice (some ⟨g9, 0, none⟩) (lC3.length + 1) cap9) (.slice (some ⟨g8, 0, none⟩) (pre.length + 1) cap8) Wm ∧ Kept (OwnW w q wc.heap.size vV3 (.slice (some ⟨g9, 0, none⟩) (lC3.length + 1) cap9) (.slice (some ⟨g8, 0, none⟩) (pre.length + 1) cap8)) W9 Wm ∧ X.ownsRow w1.heap.size 3 1 (.slice (some ⟨g1, 0, none⟩) (lV.length + 1) cap1) (lV.length + 1) (lV ++ [.int .i64 (vertI T xc)]) ∧ (vV3.ownBlock = some g1 ∨ g1 = Wm.heap.size)) ∧ (listed.getD 9 false = true → ∃ g1 cap1, WkS w w1.heap.size q wc.heap.size g (lV ++ [.int .i64 (vertI T xc)]) (lC3 ++ [.int .i64 xc]) ((pre.map fun x => Value.int .u8 x.letter) ++ [.int .u8 67]) (.slice (some ⟨g1, 0, none⟩) (lV.length + 1) cap1) (.slice (some ⟨g9, 0, none⟩) (lC3.length + 1) cap9) (.slice (some ⟨g8, 0, none⟩) (pre.length + 1) cap8) X ∧ Kept (OwnW w q wc.heap.size vV3 (.slice (some ⟨g9, 0, none⟩) (lC3.length + 1) cap9) (.slice (some ⟨g8, 0, none⟩) (pre.length + 1) cap8)) W9 X ∧ Anew (OwnW w q wc.heap.size vV3 (.slice (some ⟨g9, 0, none⟩) (lC3.length + 1) cap9) (.slice (some ⟨g8, 0, none⟩) (pre.length + 1) cap8)) (OwnW w q wc.heap.size (.slice (some ⟨g1, 0, none⟩) (lV.length + 1) cap1) (.slice (some ⟨g9, 0, none⟩) (lC3.length + 1) cap9) (.slice (some ⟨g8, 0, none⟩) (pre.length + 1) cap8)) W9 X) ∧ (listed.getD 1 false = true → listed.getD 0 false = true) ∧ (listed.getD 4 false = true → listed.getD 3 false = true) ∧ (listed.getD 5 false = true → listed.getD 2 false = true) ∧ (listed.getD 5 false = true → listed.getD 4 false = true) ∧ (listed.getD 6 false = true → listed.getD 5 false = true) ∧ (listed.getD 7 false = true → listed.getD 1 false = true) ∧ (listed.getD 7 false = true → listed.getD 6 false = true) ∧ (listed.getD 9 false = true → listed.getD 7 false = true)) ?_ ?_ ?_ ?_
        · intro i o ho e he
          have hi : i < 10 := (Array.getElem?_eq_some_iff.1 ho).1
          rcases (by omega : i = 0 ∨ i = 1 ∨ i = 2 ∨ i = 3 ∨ i = 4 ∨ i = 5 ∨ i = 6 ∨ i = 7 ∨ i = 8 ∨ i = 9) with rfl | rfl | rfl | rfl | rfl | rfl | rfl | rfl | rfl | rfl <;> (obtain rfl := Option.some.inj ho; revert e; decide)
        · refine ⟨_, _, _, _, _, _, _, _, _, rfl, fun h => absurd h (by decide), fun h => absurd h (by decide), fun h => absurd h (by decide), fun h => absurd h (by decide), fun h => absurd h (by decide), fun h => absurd h (by decide), fun h => absurd h (by decide), fun h => absurd h (by decide), fun _ => ⟨HS9.out.drew, HB9.out.drew, (Kept.refl _ _).drew⟩, fun h => absurd h (by decide), fun h => absurd h (by decide), fun h => absurd h (by decide), fun h => absurd h (by decide), fun h => absurd h (by decide), fun h => absurd h (by decide), fun h => absurd h (by decide), fun h => absurd h (by decide), fun h => absurd h (by decide), fun h => absurd h (by decide)⟩
        · intro i o listed a X ho hsz hun hd hI K hK
          have hi : i < 10 := (Array.getElem?_eq_some_iff.1 ho).1
          have hsz' : listed.size = 10 := hsz
          obtain ⟨u53, u54, u55, u56, u57, u58, u59, u60, u61, rfl, p0, p1, p2, p3, p4, p5, p6, p8, pA, pB, pC, z1_0, z4_3, z5_2, z5_4, z6_5, z7_1, z7_6, z9_7⟩ := hI
          have st : ∀ j k, j ≠ k → (listed.setIfInBounds j true).getD k false = true → listed.getD k false = true := fun j k h e => by rw [getD_set_ne false h] at e; exact e
          have sf : ∀ j k, j ≠ k → (listed.setIfInBounds j true).getD k false = false → listed.getD k false = false := fun j k h e => by rw [getD_set_ne false h] at e; exact e
          have nl : listed.getD i false = true → False := fun h => by
            have h2 : i < listed.size := by omega
            simp only [Array.getD_eq_getD_getElem?, Array.getElem?_eq_getElem h2, Option.getD_some] at h hun
            rw [h] at hun
            cases hun
          have tt : (listed.setIfInBounds i true).getD i false = true := by simp [Array.getD_eq_getD_getElem?, hsz', hi]
          rcases (by omega : i = 0 ∨ i = 1 ∨ i = 2 ∨ i = 3 ∨ i = 4 ∨ i = 5 ∨ i = 6 ∨ i = 7 ∨ i = 8 ∨ i = 9) with rfl | rfl | rfl | rfl | rfl | rfl | rfl | rfl | rfl | rfl
          · obtain rfl := Option.some.inj ho
            have h7f : listed.getD 7 false = false := by
              cases h7 : listed.getD 7 false with
              | false => rfl
              | true => exact (nl (z1_0 (z7_1 h7))).elim
            obtain ⟨s9, b9, k9⟩ := pA h7f
            obtain ⟨lq, t0, -, t1, -, t2, -⟩ := s9.tr.three
            obtain ⟨ls, e0, e1, e2, e3, -⟩ := four b9
            obtain ⟨lt, x0, -⟩ := s9.t.one
            go_simp
            exact hK _ _ ⟨_, _, _, _, _, _, _, _, _, rfl, fun _ => rfl, fun h => p1 (st 0 1 (by decide) h), fun h => p2 (st 0 2 (by decide) h), fun h => p3 (st 0 3 (by decide) h), fun h => p4 (st 0 4 (by decide) h), fun h => p5 (st 0 5 (by decide) h), fun h h2 => p6 (st 0 6 (by decide) h) (sf 0 7 (by decide) h2), fun h => p8 (st 0 8 (by decide) h), fun h => pA (sf 0 7 (by decide) h), fun h h2 => pB (st 0 7 (by decide) h) (sf 0 9 (by decide) h2), fun h => pC (st 0 9 (by decide) h), fun h => getD_set_true (z1_0 (st 0 1 (by decide) h)), fun h => getD_set_true (z4_3 (st 0 4 (by decide) h)), fun h => getD_set_true (z5_2 (st 0 5 (by decide) h)), fun h => getD_set_true (z5_4 (st 0 5 (by decide) h)), fun h => getD_set_true (z6_5 (st 0 6 (by decide) h)), fun h => getD_set_true (z7_1 (st 0 7 (by decide) h)), fun h => getD_set_true (z7_6 (st 0 7 (by decide) h)), fun h => getD_set_true (z9_7 (st 0 9 (by decide) h))⟩
          · obtain rfl := Option.some.inj ho
            have h7f : listed.getD 7 false = false := by
              cases h7 : listed.getD 7 false with
              | false => rfl
              | true => exact (nl (z7_1 h7)).elim
            obtain ⟨s9, b9, k9⟩ := pA h7f
            obtain ⟨lq, t0, -, t1, -, t2, -⟩ := s9.tr.three
            obtain ⟨ls, e0, e1, e2, e3, -⟩ := four b9
            obtain ⟨lt, x0, -⟩ := s9.t.one
            obtain rfl := p0 (hd ⟨0, .data⟩ (by simp) rfl)
            go_simp
            exact hK _ _ ⟨_, _, _, _, _, _, _, _, _, rfl, fun h => p0 (st 1 0 (by decide) h), fun _ => rfl, fun h => p2 (st 1 2 (by decide) h), fun h => p3 (st 1 3 (by decide) h), fun h => p4 (st 1 4 (by decide) h), fun h => p5 (st 1 5 (by decide) h), fun h h2 => p6 (st 1 6 (by decide) h) (sf 1 7 (by decide) h2), fun h => p8 (st 1 8 (by decide) h), fun h => pA (sf 1 7 (by decide) h), fun h h2 => pB (st 1 7 (by decide) h) (sf 1 9 (by decide) h2), fun h => pC (st 1 9 (by decide) h), fun _ => getD_set_true (hd ⟨0, .data⟩ (by simp) rfl), fun h => getD_set_true (z4_3 (st 1 4 (by decide) h)), fun h => getD_set_true (z5_2 (st 1 5 (by decide) h)), fun h => getD_set_true (z5_4 (st 1 5 (by decide) h)), fun h => getD_set_true (z6_5 (st 1 6 (by decide) h)), fun h => getD_set_true (z7_1 (st 1 7 (by decide) h)), fun h => getD_set_true (z7_6 (st 1 7 (by decide) h)), fun h => getD_set_true (z9_7 (st 1 9 (by decide) h))⟩
          · obtain rfl := Option.some.inj ho
            have h7f : listed.getD 7 false = false := by
              cases h7 : listed.getD 7 false with
              | false => rfl
              | true => exact (nl (z5_2 (z6_5 (z7_6 h7)))).elim
            obtain ⟨s9, b9, k9⟩ := pA h7f
            obtain ⟨lq, t0, -, t1, -, t2, -⟩ := s9.tr.three
            obtain ⟨ls, e0, e1, e2, e3, -⟩ := four b9
            obtain ⟨lt, x0, -⟩ := s9.t.one
            go_simp
            exact hK _ _ ⟨_, _, _, _, _, _, _, _, _, rfl, fun h => p0 (st 2 0 (by decide) h), fun h => p1 (st 2 1 (by decide) h), fun _ => rfl, fun h => p3 (st 2 3 (by decide) h), fun h => p4 (st 2 4 (by decide) h), fun h => p5 (st 2 5 (by decide) h), fun h h2 => p6 (st 2 6 (by decide) h) (sf 2 7 (by decide) h2), fun h => p8 (st 2 8 (by decide) h), fun h => pA (sf 2 7 (by decide) h), fun h h2 => pB (st 2 7 (by decide) h) (sf 2 9 (by decide) h2), fun h => pC (st 2 9 (by decide) h), fun h => getD_set_true (z1_0 (st 2 1 (by decide) h)), fun h => getD_set_true (z4_3 (st 2 4 (by decide) h)), fun h => getD_set_true (z5_2 (st 2 5 (by decide) h)), fun h => getD_set_true (z5_4 (st 2 5 (by decide) h)), fun h => getD_set_true (z6_5 (st 2 6 (by decide) h)), fun h => getD_set_true (z7_1 (st 2 7 (by decide) h)), fun h => getD_set_true (z7_6 (st 2 7 (by decide) h)), fun h => getD_set_true (z9_7 (st 2 9 (by decide) h))⟩
          · obtain rfl := Option.some.inj ho
            have h7f : listed.getD 7 false = false := by
              cases h7 : listed.getD 7 false with
              | false => rfl
              | true => exact (nl (z4_3 (z5_4 (z6_5 (z7_6 h7))))).elim
            obtain ⟨s9, b9, k9⟩ := pA h7f
            obtain ⟨lq, t0, -, t1, -, t2, -⟩ := s9.tr.three
            obtain ⟨ls, e0, e1, e2, e3, -⟩ := four b9
            obtain ⟨lt, x0, -⟩ := s9.t.one
            go_simp
            exact hK _ _ ⟨_, _, _, _, _, _, _, _, _, rfl, fun h => p0 (st 3 0 (by decide) h), fun h => p1 (st 3 1 (by decide) h), fun h => p2 (st 3 2 (by decide) h), fun _ => rfl, fun h => p4 (st 3 4 (by decide) h), fun h => p5 (st 3 5 (by decide) h), fun h h2 => p6 (st 3 6 (by decide) h) (sf 3 7 (by decide) h2), fun h => p8 (st 3 8 (by decide) h), fun h => pA (sf 3 7 (by decide) h), fun h h2 => pB (st 3 7 (by decide) h) (sf 3 9 (by decide) h2), fun h => pC (st 3 9 (by decide) h), fun h => getD_set_true (z1_0 (st 3 1 (by decide) h)), fun h => getD_set_true (z4_3 (st 3 4 (by decide) h)), fun h => getD_set_true (z5_2 (st 3 5 (by decide) h)), fun h => getD_set_true (z5_4 (st 3 5 (by decide) h)), fun h => getD_set_true (z6_5 (st 3 6 (by decide) h)), fun h => getD_set_true (z7_1 (st 3 7 (by decide) h)), fun h => getD_set_true (z7_6 (st 3 7 (by decide) h)), fun h => getD_set_true (z9_7 (st 3 9 (by decide) h))⟩
          · obtain rfl := Option.some.inj ho
            have h7f : listed.getD 7 false = false := by
              cases h7 : listed.getD 7 false with
              | false => rfl
              | true => exact (nl (z5_4 (z6_5 (z7_6 h7)))).elim
            obtain ⟨s9, b9, k9⟩ := pA h7f
            obtain ⟨lq, t0, -, t1, -, t2, -⟩ := s9.tr.three
            obtain ⟨ls, e0, e1, e2, e3, -⟩ := four b9
            obtain ⟨lt, x0, -⟩ := s9.t.one
            obtain rfl := p3 (hd ⟨3, .data⟩ (by simp) rfl)
            go_simp
            exact hK _ _ ⟨_, _, _, _, _, _, _, _, _, rfl, fun h => p0 (st 4 0 (by decide) h), fun h => p1 (st 4 1 (by decide) h), fun h => p2 (st 4 2 (by decide) h), fun h => p3 (st 4 3 (by decide) h), fun _ => rfl, fun h => p5 (st 4 5 (by decide) h), fun h h2 => p6 (st 4 6 (by decide) h) (sf 4 7 (by decide) h2), fun h => p8 (st 4 8 (by decide) h), fun h => pA (sf 4 7 (by decide) h), fun h h2 => pB (st 4 7 (by decide) h) (sf 4 9 (by decide) h2), fun h => pC (st 4 9 (by decide) h), fun h => getD_set_true (z1_0 (st 4 1 (by decide) h)), fun _ => getD_set_true (hd ⟨3, .data⟩ (by simp) rfl), fun h => getD_set_true (z5_2 (st 4 5 (by decide) h)), fun h => getD_set_true (z5_4 (st 4 5 (by decide) h)), fun h => getD_set_true (z6_5 (st 4 6 (by decide) h)), fun h => getD_set_true (z7_1 (st 4 7 (by decide) h)), fun h => getD_set_true (z7_6 (st 4 7 (by decide) h)), fun h => getD_set_true (z9_7 (st 4 9 (by decide) h))⟩
          · obtain rfl := Option.some.inj ho
            have h7f : listed.getD 7 false = false := by
              cases h7 : listed.getD 7 false with
              | false => rfl
              | true => exact (nl (z6_5 (z7_6 h7))).elim
            obtain ⟨s9, b9, k9⟩ := pA h7f
            obtain ⟨lq, t0, -, t1, -, t2, -⟩ := s9.tr.three
            obtain ⟨ls, e0, e1, e2, e3, -⟩ := four b9
            obtain ⟨lt, x0, -⟩ := s9.t.one
            obtain rfl := p2 (hd ⟨2, .data⟩ (by simp) rfl)
            obtain rfl := p4 (hd ⟨4, .data⟩ (by simp) rfl)
            go_simp
            refine ⟨trivial, (CallsIn.inRound l (callsIn_wide.2 (vertex_any g n xc T X (HT.out X s9.below).toTabS))).mono ?_⟩
            rintro e w2 ⟨rfl, rfl⟩
            exact hK _ _ ⟨_, _, _, _, _, _, _, _, _, rfl, fun h => p0 (st 5 0 (by decide) h), fun h => p1 (st 5 1 (by decide) h), fun h => p2 (st 5 2 (by decide) h), fun h => p3 (st 5 3 (by decide) h), fun h => p4 (st 5 4 (by decide) h), fun _ => rfl, fun h h2 => p6 (st 5 6 (by decide) h) (sf 5 7 (by decide) h2), fun h => p8 (st 5 8 (by decide) h), fun h => pA (sf 5 7 (by decide) h), fun h h2 => pB (st 5 7 (by decide) h) (sf 5 9 (by decide) h2), fun h => pC (st 5 9 (by decide) h), fun h => getD_set_true (z1_0 (st 5 1 (by decide) h)), fun h => getD_set_true (z4_3 (st 5 4 (by decide) h)), fun _ => getD_set_true (hd ⟨2, .data⟩ (by simp) rfl), fun _ => getD_set_true (hd ⟨4, .data⟩ (by simp) rfl), fun h => getD_set_true (z6_5 (st 5 6 (by decide) h)), fun h => getD_set_true (z7_1 (st 5 7 (by decide) h)), fun h => getD_set_true (z7_6 (st 5 7 (by decide) h)), fun h => getD_set_true (z9_7 (st 5 9 (by decide) h))⟩
          · obtain rfl := Option.some.inj ho
            have h7f : listed.getD 7 false = false := by
              cases h7 : listed.getD 7 false with
              | false => rfl
              | true => exact (nl (z7_6 h7)).elim
            obtain ⟨s9, b9, k9⟩ := pA h7f
            obtain ⟨lq, t0, -, t1, -, t2, -⟩ := s9.tr.three
            obtain ⟨ls, e0, e1, e2, e3, -⟩ := four b9
            obtain ⟨lt, x0, -⟩ := s9.t.one
            obtain rfl := p5 (hd ⟨5, .data⟩ (by simp) rfl)
            go_simp
            exact hK _ _ ⟨_, _, _, _, _, _, _, _, _, rfl, fun h => p0 (st 6 0 (by decide) h), fun h => p1 (st 6 1 (by decide) h), fun h => p2 (st 6 2 (by decide) h), fun h => p3 (st 6 3 (by decide) h), fun h => p4 (st 6 4 (by decide) h), fun h => p5 (st 6 5 (by decide) h), fun _ _ => ⟨_, rfl, Blk.new _ _ _⟩, fun h => p8 (st 6 8 (by decide) h), fun _ => ⟨s9.alloc _, b9.alloc _, k9.alloc _⟩, fun h _ => (by have := st 6 7 (by decide) h; rw [h7f] at this; cases this), fun h => (by have := z9_7 (st 6 9 (by decide) h); rw [h7f] at this; cases this), fun h => getD_set_true (z1_0 (st 6 1 (by decide) h)), fun h => getD_set_true (z4_3 (st 6 4 (by decide) h)), fun h => getD_set_true (z5_2 (st 6 5 (by decide) h)), fun h => getD_set_true (z5_4 (st 6 5 (by decide) h)), fun _ => getD_set_true (hd ⟨5, .data⟩ (by simp) rfl), fun h => getD_set_true (z7_1 (st 6 7 (by decide) h)), fun h => getD_set_true (z7_6 (st 6 7 (by decide) h)), fun h => getD_set_true (z9_7 (st 6 9 (by decide) h))⟩
          · obtain rfl := Option.some.inj ho
            have h7f : listed.getD 7 false = false := by
              cases h7 : listed.getD 7 false with
              | false => rfl
              | true => exact (nl h7).elim
            obtain ⟨s9, b9, k9⟩ := pA h7f
            have g1 := hd ⟨1, .data⟩ (by simp) rfl
            have g6 := hd ⟨6, .data⟩ (by simp) rfl
            have e54 := p1 g1
            obtain ⟨p, e59, bp⟩ := p6 g6 h7f
            rw [if_pos (by rfl)]
            refine operIn_append_lies (.tmp 54) (.tmp 59) 30 rfl w1.heap.size 3 i3 _ 1 8 Tryz.underlying30 hi3 a30 a31 a32 rfl (by decide) vV3 _ _ e54 s9.rV ⟨p, 0, none⟩ 1 1 [.int .i64 (vertI T xc)] e59 rfl (World.news_of_block bp) (by simp [Value.oneCell']) (by decide) (by unfold maxLen; omega) (by omega) s9.bs ?_
            intro g1 cap1 Wm hr hg hat hlt
            exact hK _ _ ⟨_, _, _, _, _, _, _, _, _, rfl, fun h => p0 (st 7 0 (by decide) h), fun h => p1 (st 7 1 (by decide) h), fun h => p2 (st 7 2 (by decide) h), fun h => p3 (st 7 3 (by decide) h), fun h => p4 (st 7 4 (by decide) h), fun h => p5 (st 7 5 (by decide) h), fun _ h2 => (by rw [tt] at h2; cases h2), fun h => p8 (st 7 8 (by decide) h), fun h => (by rw [tt] at h; cases h), fun _ _ => ⟨X, g1, cap1, rfl, hg, s9, k9, hr, hat⟩, fun h => (nl (z9_7 (st 7 9 (by decide) h))).elim, fun h => getD_set_true (z1_0 (st 7 1 (by decide) h)), fun h => getD_set_true (z4_3 (st 7 4 (by decide) h)), fun h => getD_set_true (z5_2 (st 7 5 (by decide) h)), fun h => getD_set_true (z5_4 (st 7 5 (by decide) h)), fun h => getD_set_true (z6_5 (st 7 6 (by decide) h)), fun _ => getD_set_true (hd ⟨1, .data⟩ (by simp) rfl), fun _ => getD_set_true (hd ⟨6, .data⟩ (by simp) rfl), fun h => getD_set_true (z9_7 (st 7 9 (by decide) h))⟩
          · obtain rfl := Option.some.inj ho
            go_simp
            exact hK _ _ ⟨_, _, _, _, _, _, _, _, _, rfl, fun h => p0 (st 8 0 (by decide) h), fun h => p1 (st 8 1 (by decide) h), fun h => p2 (st 8 2 (by decide) h), fun h => p3 (st 8 3 (by decide) h), fun h => p4 (st 8 4 (by decide) h), fun h => p5 (st 8 5 (by decide) h), fun h h2 => p6 (st 8 6 (by decide) h) (sf 8 7 (by decide) h2), fun _ => rfl, fun h => pA (sf 8 7 (by decide) h), fun h h2 => pB (st 8 7 (by decide) h) (sf 8 9 (by decide) h2), fun h => pC (st 8 9 (by decide) h), fun h => getD_set_true (z1_0 (st 8 1 (by decide) h)), fun h => getD_set_true (z4_3 (st 8 4 (by decide) h)), fun h => getD_set_true (z5_2 (st 8 5 (by decide) h)), fun h => getD_set_true (z5_4 (st 8 5 (by decide) h)), fun h => getD_set_true (z6_5 (st 8 6 (by decide) h)), fun h => getD_set_true (z7_1 (st 8 7 (by decide) h)), fun h => getD_set_true (z7_6 (st 8 7 (by decide) h)), fun h => getD_set_true (z9_7 (st 8 9 (by decide) h))⟩
          · obtain rfl := Option.some.inj ho
            have g7 := hd ⟨7, .data⟩ (by simp) rfl
            have h9f : listed.getD 9 false = false := by
              cases h9 : listed.getD 9 false with
              | false => rfl
              | true => exact (nl h9).elim
            obtain ⟨Wm, g1, cap1, rfl, hg, s9, k9, hr, hat⟩ := pB g7 h9f
            obtain rfl := p8 (hd ⟨8, .data⟩ (by simp) rfl)
            obtain ⟨lq, t0, -, t1, tf1, t2, -⟩ := (s9.tr.grown hg (fun e => own_blk_ne s9.rV s9.tr (by decide) e.symm)).three
            obtain ⟨a1, a2, a3⟩ := s9.appV hg hr rfl hat
            have a4 := k9.trans a2
            have a5 : Anew (OwnW w q wc.heap.size vV3 (.slice (some ⟨g9, 0, none⟩) (lC3.length + 1) cap9) (.slice (some ⟨g8, 0, none⟩) (pre.length + 1) cap8)) (OwnW w q wc.heap.size (.slice (some ⟨g1, 0, none⟩) (lV.length + 1) cap1) (.slice (some ⟨g9, 0, none⟩) (lC3.length + 1) cap9) (.slice (some ⟨g8, 0, none⟩) (pre.length + 1) cap8)) W9 (X.setCell ⟨q, 1, none⟩ (.slice (some ⟨g1, 0, none⟩) (lV.length + 1) cap1)) := fun j hj => (a3 j hj).imp id (fun e => ⟨Nat.le_trans k9.size e.1, e.2⟩)
            go_simp
            exact hK _ _ ⟨_, _, _, _, _, _, _, _, _, rfl, fun h => p0 (st 9 0 (by decide) h), fun h => (by first | rfl | exact p1 (st 9 1 (by decide) h)), fun h => p2 (st 9 2 (by decide) h), fun h => p3 (st 9 3 (by decide) h), fun h => p4 (st 9 4 (by decide) h), fun h => p5 (st 9 5 (by decide) h), fun _ h2 => (by have := sf 9 7 (by decide) h2; rw [g7] at this; cases this), fun h => p8 (st 9 8 (by decide) h), fun h => (by have := sf 9 7 (by decide) h; rw [g7] at this; cases this), fun _ h => (by rw [tt] at h; cases h), fun _ => ⟨g1, cap1, a1, a4, a5⟩, fun h => getD_set_true (z1_0 (st 9 1 (by decide) h)), fun h => getD_set_true (z4_3 (st 9 4 (by decide) h)), fun h => getD_set_true (z5_2 (st 9 5 (by decide) h)), fun h => getD_set_true (z5_4 (st 9 5 (by decide) h)), fun h => getD_set_true (z6_5 (st 9 6 (by decide) h)), fun h => getD_set_true (z7_1 (st 9 7 (by decide) h)), fun h => getD_set_true (z7_6 (st 9 7 (by decide) h)), fun _ => getD_set_true (hd ⟨7, .data⟩ (by simp) rfl)⟩
        · rintro listed a X hall ⟨u53, u54, u55, u56, u57, u58, u59, u60, u61, rfl, p0, p1, p2, p3, p4, p5, p6, p8, pA, pB, pC, z1_0, z4_3, z5_2, z5_4, z6_5, z7_1, z7_6, z9_7⟩
          obtain ⟨g1, cap1, a1, a4, a5⟩ := pC (hall 9 (by decide))
          clear p0 p1 p2 p3 p4 p5 p6 p8 pA pB pC z1_0 z4_3 z5_2 z5_4 z6_5 z7_1 z7_6 z9_7 hall
          gi_wp2
          refine ⟨(HK9.out.then a4 HN9.out).mono (fun k h => (HC3.out k).2 h), _, fun k h => ((HN9.out.trans a5 hz9 a4.size) k h).imp (HC3.out k).2 id, _, _, _, fun _ => Iff.rfl, ?_⟩
          have e1 : intsV ((beginS T c).come ++ newV T (pre ++ [(⟨67, xc, xo, xn⟩ : WStep)])) = lV ++ [.int .i64 (vertI T xc)] := by
            rw [newV_snoc, if_pos rfl, ← List.append_assoc, intsV_snoc, HlV.out]
          have e2 : intsV ((c : Int) :: (pre ++ [(⟨67, xc, xo, xn⟩ : WStep)]).map (fun x : WStep => x.corner)) = lC3 ++ [.int .i64 xc] := by
            rw [← HlC.out, List.map_append, ← List.cons_append]
            exact intsV_snoc _ _
          rw [e1, e2, List.map_append]
          exact a1
      · have n67 : (xl == 67) = false := by simpa using h67
        gi_wp2
        refine ⟨HK9.out.mono (fun k h => (HC3.out k).2 h), _, fun k h => (HN9.out k h).imp (HC3.out k).2 id, _, _, _, fun _ => Iff.rfl, ?_⟩
        have e1 : intsV ((beginS T c).come ++ newV T (pre ++ [(⟨xl, xc, xo, xn⟩ : WStep)])) = lV := by
          rw [newV_snoc, if_neg h67, List.append_nil, HlV.out]
        have e2 : intsV ((c : Int) :: (pre ++ [(⟨xl, xc, xo, xn⟩ : WStep)]).map (fun x : WStep => x.corner)) = lC3 ++ [.int .i64 xc] := by
          rw [← HlC.out, List.map_append, ← List.cons_append]
          exact intsV_snoc _ _
        rw [e1, e2, List.map_append]
        exact HS9.out
    · rintro D xs C W hD hCD rfl ⟨vV5, vC5, vB5, hC5, hS5⟩ hK
      obtain ⟨aV, cV, rfl⟩ := ownsRow_slice hS5.rV
      obtain ⟨aC, cC, rfl⟩ := ownsRow_slice hS5.rC
      have hle := stepsM_facts HS.out hc
      have hcv := word_conv (P := Tryz.prog) Tryz.underlying25 Tryz.underlying5 Tryz.underlying9 hS5.rB hle.1 hle.2
      have hnD : ∀ k, OwnW w q wc.heap.size (.slice aV _ cV) (.slice aC _ cC) vB5 k → k ≠ D := fun k hk e => hCD (e ▸ (hC5 k).2 hk)
      obtain ⟨lq, t0, tf0, t1, -, t2, -⟩ := hS5.tr.three
      obtain ⟨lr5, r0, rf0, r1, rf1, r2, rf2⟩ := hS5.r.three
      obtain ⟨lb5, b0, -⟩ := hS5.bx.one
      have nq1 : q ≠ w.heap.size + 1 := by have := hS5.hq; omega
      have nq2 : w.heap.size + 1 ≠ q := fun e => nq1 e.symm
      have HS5 := Lib.hid hS5
      have HnD := Lib.hid hnD
      have hDq : D ≠ q := fun e => hnD q (.inr (.inr (.inl rfl))) e.symm
      have hDr : D ≠ w.heap.size + 1 := fun e => hnD _ (.inr (.inl rfl)) e.symm
      obtain ⟨nV, hnV⟩ : ∃ k, (intsV ((beginS T c).come ++ newV T (stepsM T c))).length = k := ⟨_, rfl⟩
      obtain ⟨nC, hnC⟩ : ∃ k, (intsV ((c : Int) :: (stepsM T c).map (·.corner))).length = k := ⟨_, rfl⟩
      rw [hnV] at HS5 HnD t1
      rw [hnC] at HS5 HnD t2
      have HnV := Lib.hid hnV
      have HnC := Lib.hid hnC
      clear hS5 hnD hC5 hCD Hbt Hbv HWk4 hnV hnC
      gi_wp2
      have hF : ∀ k, k ≠ q → k ≠ w.heap.size + 1 → ((((W.setCell ⟨q, 0, none⟩ (.string (wordS (stepsM T c)))).setCell ⟨w.heap.size + 1, 0, none⟩ (.string (wordS (stepsM T c)))).setCell ⟨w.heap.size + 1, 1, none⟩ (.slice aV nV cV)).setCell ⟨w.heap.size + 1, 2, none⟩ (.slice aC nC cC)).heap[k]? = W.heap[k]? := fun k h1 h2 =>
        (Below.heap_setCell _ _ _ k h2).trans ((Below.heap_setCell _ _ _ k h2).trans ((Below.heap_setCell _ _ _ k h2).trans (Below.heap_setCell _ _ _ k h1)))
      have hKF := (hF D hDq hDr).trans hK
      have bF : Blk ((((W.setCell ⟨q, 0, none⟩ (.string (wordS (stepsM T c)))).setCell ⟨w.heap.size + 1, 0, none⟩ (.string (wordS (stepsM T c)))).setCell ⟨w.heap.size + 1, 1, none⟩ (.slice aV nV cV)).setCell ⟨w.heap.size + 1, 2, none⟩ (.slice aC nC cC)) (w.heap.size + 1) 39 #[.string (wordS (stepsM T c)), .slice aV nV cV, .slice aC nC cC] := by
        have := ((((HS5.out.r.far (p := ⟨q, 0, none⟩) (by simp only; omega) (.string (wordS (stepsM T c)))).set_ 0 (.string (wordS (stepsM T c)))).set_ 1 (.slice aV nV cV)).set_ 2 (.slice aC nC cC))
        simpa using this
      have hBF : Below w.heap.size w ((((W.setCell ⟨q, 0, none⟩ (.string (wordS (stepsM T c)))).setCell ⟨w.heap.size + 1, 0, none⟩ (.string (wordS (stepsM T c)))).setCell ⟨w.heap.size + 1, 1, none⟩ (.slice aV nV cV)).setCell ⟨w.heap.size + 1, 2, none⟩ (.slice aC nC cC)) := (((HS5.out.below.setCell (p := ⟨q, 0, none⟩) (by simp only; omega) _).setCell (p := ⟨w.heap.size + 1, 0, none⟩) (by simp only; omega) _).setCell (p := ⟨w.heap.size + 1, 1, none⟩) (by simp only; omega) _).setCell (p := ⟨w.heap.size + 1, 2, none⟩) (by simp only; omega) _
      have hDw : w.heap.size ≤ D := by have := HS5.out.below.size; omega
      generalize ((((W.setCell ⟨q, 0, none⟩ (.string (wordS (stepsM T c)))).setCell ⟨w.heap.size + 1, 0, none⟩ (.string (wordS (stepsM T c)))).setCell ⟨w.heap.size + 1, 1, none⟩ (.slice aV nV cV)).setCell ⟨w.heap.size + 1, 2, none⟩ (.slice aC nC cC)) = WE at *
      refine ⟨by simp, .inl ⟨_, _, rfl, run_takeDeferred hKF, ?_⟩⟩
      have bG : Blk (WE.putObj D (.deferred none)) (w.heap.size + 1) 39 #[.string (wordS (stepsM T c)), .slice aV nV cV, .slice aC nC cC] := blk_same bF (World.putObj_heap_other (fun e => hDr e.symm))
      obtain ⟨-, p0, -, p1, -, p2, -⟩ := bG.three
      have sV : (WE.putObj D (.deferred none)).ownsRow w1.heap.size 3 1 (.slice aV nV cV) nV (intsV ((beginS T c).come ++ newV T (stepsM T c))) := by
        have := HS5.out.rV
        rw [HnV.out] at this
        exact own_same this (fun k e => (World.putObj_heap_other (HnD.out k (.inr (.inr (.inr (.inr (.inl e))))))).trans (hF k (fun e2 => own_blk_ne this HS5.out.tr (by decide) (by rw [e, e2])) (fun e2 => own_blk_ne this HS5.out.r (by decide) (by rw [e, e2]))))
      have sC : (WE.putObj D (.deferred none)).ownsRow w1.heap.size 3 1 (.slice aC nC cC) nC (intsV ((c : Int) :: (stepsM T c).map (·.corner))) := by
        have := HS5.out.rC
        rw [HnC.out] at this
        exact own_same this (fun k e => (World.putObj_heap_other (HnD.out k (.inr (.inr (.inr (.inr (.inr (.inl e)))))))).trans (hF k (fun e2 => own_blk_ne this HS5.out.tr (by decide) (by rw [e, e2])) (fun e2 => own_blk_ne this HS5.out.r (by decide) (by rw [e, e2]))))
      have eV : ((beginS T c).come ++ newV T (stepsM T c)).length = nV := by rw [← HnV.out]; simp [intsV]
      have eC : (stepsM T c).length.succ = nC := by rw [← HnC.out]; simp [intsV]
      refine ⟨.tuple #[.agg #[.string (wordS (stepsM T c)), .slice aV nV cV, .slice aC nC cC], .int .i64 0], ?_, ⟨.slice aV nV cV, .slice aC nC cC, rfl, ?_, ?_, hBF.trans (putObj_below hDw)⟩⟩
      · simp [results, Tryz.results13, go_sem, p0, p1, p2]
      · rw [eV]
        exact own_base sV (by omega)
      · rw [eC]
        exact own_base sC (by omega)
    · intro D cd pre C W _ _ _ h _
      exact h.elim
end Go.Proofs.YtpnkhgjjlionnaaGreat
namespace Go.Proofs.YtpnkhgjjlionnaaGreat
open Go.RowKit Go.Maps

variable {n c : Nat} {T : List Tr}
/-- The corners that a walk comes to. -/
def walkC (T : List Tr) (c : Nat) : List Int := (c : Int) :: (stepsM T c).map (·.corner)
def walkV (T : List Tr) (c : Nat) : List Int := (beginS T c).come ++ newV T (stepsM T c)
theorem walk_end (h : Simp n T) (hc : c < 3 * T.length) : ∃ s Xs, Ran T (beginS T c) (stepsM T c) s ∧ s.loop = [] ∧ Gone n T c (stepsM T c) s Xs ∧ Xs = [] := by
  obtain ⟨L, s, R, e⟩ := ends h hc
  have hL := R.steps h hc e
  subst hL
  obtain ⟨Xs, G⟩ := R.gone h hc
  refine ⟨s, Xs, R, e, G, ?_⟩
  cases Xs with
  | nil => rfl
  | cons X W =>
    have h1 := G.rel.loop
    rw [e] at h1
    have h3 := G.inv.len X (List.mem_cons_self ..)
    simp at h1
    rw [h1] at h3
    simp at h3
theorem walk_len (h : Simp n T) (hc : c < 3 * T.length) : (stepsM T c).length + 1 = T.length := by
  obtain ⟨s, Xs, R, e, G, -⟩ := walk_end h hc
  exact (G.lt h).2.1 e
theorem walkV_nodup (h : Simp n T) (hc : c < 3 * T.length) : (walkV T c).Nodup := by
  obtain ⟨s, Xs, R, e, G, -⟩ := walk_end h hc
  have := G.rel.nd
  rw [G.come] at this
  exact this
theorem walkV_rng (h : Simp n T) (hc : c < 3 * T.length) : ∀ v ∈ walkV T c, 0 ≤ v ∧ v < n := by
  obtain ⟨s, Xs, R, e, G, -⟩ := walk_end h hc
  intro v hv
  have hv' : v ∈ s.come := by rw [G.come]; exact hv
  obtain ⟨d, hd, rfl⟩ := G.rel.rng v hv'
  exact vert_rng h.surf hd
theorem walkV_all (h : Simp n T) (hc : c < 3 * T.length) {v : Nat} (hv : v < n) : (v : Int) ∈ walkV T c := by
  obtain ⟨s, Xs, R, e, G, rfl⟩ := walk_end h hc
  obtain ⟨d, h1, h2, h3⟩ := Jor.come_all h.K G.inv (v := v) (by simpa using hv)
  have hr := vert_rng h.surf h1
  have e1 : vertN T d = (v : Int) := by unfold verN at h3; omega
  have := (G.rel.come d h1).2 ⟨d, h1, h2, rfl⟩
  rw [e1, G.come] at this
  exact this
theorem walkV_len (h : Simp n T) (hc : c < 3 * T.length) : (walkV T c).length = n := by
  have h1 := walkV_nodup h hc
  have h2 := walkV_rng h hc
  have hm : ((walkV T c).map Int.toNat).Nodup := by
    refine List.pairwise_map.2 (List.Pairwise.imp_of_mem (fun {a b} ha hb hab => ?_) h1)
    have := h2 a ha
    have := h2 b hb
    omega
  have a := Jor.nodup_le (m := List.range n) hm (fun x hx => by
    obtain ⟨y, hy, rfl⟩ := List.mem_map.1 hx
    have := h2 y hy
    exact List.mem_range.2 (by omega))
  have b := Jor.nodup_le (l := List.range n) (m := (walkV T c).map Int.toNat) List.nodup_range (fun x hx => List.mem_map.2 ⟨x, walkV_all h hc (List.mem_range.1 hx), by simp⟩)
  simp at a b
  omega
theorem dOf_rev (_T : List Tr) (c : Nat) (L : List WStep) : dOf c L = (((c : Int) :: L.map (·.corner)).map fun x => x.toNat / 3).reverse := by
  unfold dOf
  simp [List.map_map, Function.comp_def]
theorem walkC_len (h : Simp n T) (hc : c < 3 * T.length) : (walkC T c).length = T.length := by
  have := walk_len h hc
  simp [walkC]
  exact this
/-- Each corner: of a triangle that is new; across from one gone over. -/
theorem walkC_at (h : Simp n T) (hc : c < 3 * T.length) {i : Nat} (hi : i < T.length) : ∃ d : Nat, (walkC T c)[i]? = some (d : Int) ∧ d < 3 * T.length ∧ d / 3 ∉ ((walkC T c).take i).map (fun x => x.toNat / 3) ∧ (0 < i → oppN T d / 3 ∈ ((walkC T c).take i).map (fun x => x.toNat / 3)) := by
  obtain ⟨s, Xs, R, e, G, -⟩ := walk_end h hc
  have hl := walkC_len h hc
  have hnd : ((walkC T c).map (fun x => x.toNat / 3)).Nodup := by
    have := G.inv.dnd
    rw [dOf_rev T] at this
    exact (List.pairwise_reverse.1 this).imp (fun h e => h e.symm)
  have hd : ∃ d : Nat, (walkC T c)[i]? = some (d : Int) ∧ d < 3 * T.length := by
    cases i with
    | zero => exact ⟨c, rfl, hc⟩
    | succ j =>
      have hj : j < (stepsM T c).length := by have := walk_len h hc; omega
      obtain ⟨d, h1, h2, -⟩ := G.each _ (List.getElem_mem hj)
      exact ⟨d, by simp [walkC, List.getElem?_eq_getElem hj, h1], h2⟩
  obtain ⟨d, h1, h2⟩ := hd
  refine ⟨d, h1, h2, ?_, ?_⟩
  · have hi' : i < (walkC T c).length := by omega
    have e1 : (walkC T c)[i] = (d : Int) := by
      have := List.getElem?_eq_getElem hi'
      rw [h1] at this
      exact (Option.some.inj this).symm
    have e2 : (walkC T c).map (fun x => x.toNat / 3) = ((walkC T c).take i).map (fun x => x.toNat / 3) ++ d / 3 :: ((walkC T c).drop (i + 1)).map (fun x => x.toNat / 3) := by
      have e3 : walkC T c = (walkC T c).take i ++ (walkC T c)[i] :: (walkC T c).drop (i + 1) := by
        rw [← List.drop_eq_getElem_cons hi', List.take_append_drop]
      rw [e1] at e3
      generalize (walkC T c).take i = A at e3
      generalize (walkC T c).drop (i + 1) = B at e3
      rw [e3]
      simp
    rw [e2] at hnd
    have := (List.nodup_append.1 hnd).2.2
    exact fun hm => this _ hm _ (List.mem_cons_self ..) rfl
  · intro h0
    obtain ⟨j, rfl⟩ : ∃ j, i = j + 1 := ⟨i - 1, by omega⟩
    have hj : j < (stepsM T c).length := by have := walk_len h hc; omega
    have hx := List.getElem?_eq_getElem hj
    have e1 : ((stepsM T c)[j]).corner = (d : Int) := by
      simp [walkC, hx] at h1
      exact h1
    have := G.over j _ hx
    rw [e1, dOf_rev T] at this
    simp only [Int.toNat_natCast, List.mem_reverse] at this
    have e4 : (walkC T c).take (j + 1) = (c : Int) :: ((stepsM T c).take j).map (·.corner) := by simp [walkC, List.map_take]
    rw [e4]
    exact this
end Go.Proofs.YtpnkhgjjlionnaaGreat
namespace Go.Proofs.YtpnkhgjjlionnaaGreat
open Go.RowKit Go.Maps

theorem swap_perm {α : Type} {l : List α} {i j : Nat} (hi : i < l.length) (hj : j < l.length) : ((l.set i l[j]).set j l[i]).Perm l := List.set_set_perm hi hj
theorem AllN.swap {n : Nat} {l : List Int} (h : AllN n l) {i j : Nat} (hi : i < n) (hj : j < n) : AllN n ((l.set i (at_ l j)).set j (at_ l i)) := by
  have li : i < l.length := by rw [h.len]; exact hi
  have lj : j < l.length := by rw [h.len]; exact hj
  rw [at_get li, at_get lj]
  have hp := swap_perm li lj
  exact ⟨by simp [h.len], hp.nodup_iff.2 h.nd, fun x hx => h.rng x (hp.mem_iff.1 hx)⟩
theorem getN {p : List Nat} {i : Nat} (h : i < p.length) : p.getD i 0 = p[i] := by simp [List.getD, List.getElem?_eq_getElem h]
theorem AllC.swap {F : Nat} {p : List Nat} (h : AllC F p) {i j : Nat} (hi : i < F) (hj : j < F) : AllC F ((p.set i (p.getD j 0)).set j (p.getD i 0)) := by
  have li : i < p.length := by rw [h.len]; exact hi
  have lj : j < p.length := by rw [h.len]; exact hj
  rw [getN li, getN lj]
  have hp := swap_perm li lj
  exact ⟨by simp [h.len], (hp.map _).nodup_iff.2 h.nd, fun x hx => h.rng x (hp.mem_iff.1 hx)⟩
theorem AllC.turn {F : Nat} {p : List Nat} (h : AllC F p) {i c : Nat} (hi : i < F) (hc : c / 3 = p.getD i 0 / 3) : AllC F (p.set i c) := by
  have li : i < p.length := by rw [h.len]; exact hi
  rw [getN li] at hc
  have hr := h.rng _ (List.getElem_mem li)
  refine ⟨by simp [h.len], ?_, fun x hx => ?_⟩
  · rw [List.map_set, hc]
    have : (p.map (· / 3))[i]'(by simpa using li) = p[i] / 3 := by simp
    rw [← this, List.set_getElem_self]
    exact h.nd
  · rcases List.mem_or_eq_of_mem_set hx with hx | rfl
    · exact h.rng x hx
    · omega
/-- Where the two lists lie. -/
structure MvSt (w W : World) (gt gp n F : Nat) (l : List Int) (p : List Nat) : Prop where
  t : W.ownsRow w.heap.size 3 1 (.slice (some ⟨gt, 0, none⟩) n n) n (intsV l)
  q : W.ownsRow w.heap.size 3 1 (.slice (some ⟨gp, 0, none⟩) F F) F (intsV (nats p))
  bel : Below w.heap.size w W
  ne : gt ≠ gp
section
variable {w W : World} {gt gp n F : Nat} {l : List Int} {p : List Nat}
theorem MvSt.drew (h : MvSt w W gt gp n F l p) : MvSt w W.drew gt gp n F l p := ⟨h.t, h.q, below_d h.bel, h.ne⟩
theorem MvSt.setT (h : MvSt w W gt gp n F l p) (i : Nat) (u : Int) : MvSt w (W.setCell ⟨gt, i, none⟩ (.int .i64 u)) gt gp n F (l.set i u) p :=
  ⟨by rw [← intsV_set]; exact (h.t.stored i _).1, ownsRow_setCell_other h.q (by simp [Value.ownBlock]; exact fun e => h.ne e.symm) _, h.bel.setCell (p := ⟨gt, i, none⟩) (h.t.lt gt rfl).1 _, h.ne⟩
theorem MvSt.setP (h : MvSt w W gt gp n F l p) (i c : Nat) : MvSt w (W.setCell ⟨gp, i, none⟩ (.int .i64 (c : Int))) gt gp n F l (p.set i c) :=
  ⟨ownsRow_setCell_other h.t (by simp [Value.ownBlock]; exact h.ne) _, by
    have e : nats (p.set i c) = (nats p).set i (c : Int) := by simp [nats, List.map_set]
    rw [e, ← intsV_set]
    exact (h.q.stored i _).1, h.bel.setCell (p := ⟨gp, i, none⟩) (h.q.lt gp rfl).1 _, h.ne⟩
theorem MvSt.cellT (h : MvSt w W gt gp n F l p) {i : Nat} (hl : l.length = n) (hi : i < n) : W.cell? ⟨gt, i, none⟩ = some (.int .i64 (at_ l i)) := by
  rw [h.t.cellAt i (by omega)]
  exact intsV_at (by omega)
theorem MvSt.cellP (h : MvSt w W gt gp n F l p) {i : Nat} (hl : p.length = F) (hi : i < F) : W.cell? ⟨gp, i, none⟩ = some (.int .i64 ((p.getD i 0 : Nat) : Int)) := by
  rw [h.q.cellAt i (by omega), intsV, nats, List.getElem?_map, List.getElem?_map, List.getElem?_eq_getElem (by omega), getN (by omega)]
  rfl
end
/-- Bytes that can be read. -/
def BytesRd (w : World) (v : Value) (m : Nat) : Prop := ∃ a c, v = .slice a m c ∧ m ≤ 9223372036854775807 ∧ ∀ k, k < m → ∃ (b o : Nat) (x : Nat), a = some ⟨b, o, none⟩ ∧ b < w.heap.size ∧ x ≤ 255 ∧ w.cell? ⟨b, o + k, none⟩ = some (.int .u8 (x : Int))
theorem BytesRd.below {w w' : World} {v : Value} {m : Nat} (h : BytesRd w v m) (hb : Below w.heap.size w w') : BytesRd w' v m := by
  obtain ⟨a, c, rfl, h0, h1⟩ := h
  refine ⟨a, c, rfl, h0, fun k hk => ?_⟩
  obtain ⟨b, o, x, e, hl, hx, hc⟩ := h1 k hk
  exact ⟨b, o, x, e, Nat.lt_of_lt_of_le hl hb.size, hx, (hb.cell (p := ⟨b, o + k, none⟩) hl).trans hc⟩
/-- The corner of what was moved that comes of corner c. -/
def RootOk (p : List Nat) (c j r : Nat) : Prop := ∀ i k, i < j → p[i]? = some k → k / 3 = c / 3 → r = 3 * i + (c % 3 + 3 - k % 3) % 3
theorem root_src {F : Nat} {p : List Nat} (h : AllC F p) {c r : Nat} (hc : c < 3 * F) (hr : RootOk p c F r) : r < 3 * F ∧ srcC p r = c := by
  obtain ⟨i, hi, k, hk, e⟩ := h.all (i := c / 3) (by omega)
  rw [h.len] at hi
  have hr := hr i k hi hk e
  have hm := Nat.mod_lt (c % 3 + 3 - k % 3) (show 0 < 3 by decide)
  have h3 : r / 3 = i := by omega
  have h4 : r % 3 = (c % 3 + 3 - k % 3) % 3 := by omega
  refine ⟨by omega, ?_⟩
  unfold srcC
  rw [h3, h4]
  have hg : p.getD i 0 = k := by simp [List.getD, hk]
  rw [hg]
  unfold turnN Jor.nx Jor.pv
  have hc3 : c % 3 = 0 ∨ c % 3 = 1 ∨ c % 3 = 2 := by omega
  have hk3 : k % 3 = 0 ∨ k % 3 = 1 ∨ k % 3 = 2 := by omega
  rcases hc3 with a | a | a <;> rcases hk3 with b | b | b <;> simp only [a, b] <;> simp <;> omega
theorem root_next {p : List Nat} {c j r k : Nat} {F : Nat} (h : AllC F p) (hr : RootOk p c j r) (hk : p[j]? = some k) : RootOk p c (j + 1) (if k / 3 = c / 3 then 3 * j + (c % 3 + 3 - k % 3) % 3 else r) := by
  intro i k' hi hk' e
  by_cases hij : i = j
  · subst hij
    rw [hk] at hk'
    cases hk'
    rw [if_pos e]
  · have := hr i k' (by omega) hk' e
    split
    · rename_i e2
      exact absurd (h.one hk' hk (by omega)) hij
    · exact this
end Go.Proofs.YtpnkhgjjlionnaaGreat
namespace Go.Proofs.YtpnkhgjjlionnaaGreat
open Go.RowKit Go.Maps

theorem simp_iso {n : Int} {T T' : List Tr} {φ : Nat → Nat} {g : Int → Int} (h : Iso T' T φ g) (hS : Simp n T) (hS' : Surf n T') : Simp n T' := by
  have hl := h.len
  have hR : ∀ t, t < T.length → Reach T 0 t := fun t ht S s0 sc => hS.conn S s0 (fun c hc hs => sc c (oppN T c) hc (hS.closed.opp hc) hs) t ht
  refine ⟨hS', fun c hc => ?_, fun S s0 sc t ht => ?_, by have := hS.pos; omega, by have := hS.euler; omega⟩
  · have h1 := hS.closed (φ c) (by rw [hl]; exact h.lt c hc)
    by_cases hn : oppI T' (c : Int) = -1
    · have := h.opp_none hS'.twice hc hn
      omega
    · rcases opp_cases T' (c : Int) with e | ⟨o, e, -⟩
      · exact absurd e hn
      · rw [e]; omega
  · have h0 : (0 : Nat) < 3 * T'.length := by omega
    have ht3 : 3 * t < 3 * T'.length := by omega
    have a0 := h.lt 0 h0
    have a1 := h.lt _ ht3
    have r1 := hR (φ 0 / 3) (by omega)
    have r2 := hR (φ (3 * t) / 3) (by omega)
    have r3 := h.reach_back hS'.twice hS.surf.twice h0 ht3 ((r1.symm hS.surf.twice).trans r2)
    have r4 := r3 S (by simpa using s0) (fun c o hc ho hs => by
      have := sc c hc hs
      unfold oppN at this
      rw [ho] at this
      simpa using this)
    have e : 3 * t / 3 = t := by omega
    rwa [e] at r4
theorem walkV_iso {n : Int} {N : Nat} {T T' : List Tr} {φ : Nat → Nat} {g : Int → Int} (h : Iso T T' φ g) (hS : Simp (N : Int) T) (hS' : Simp n T') {c : Nat} (hc : c < 3 * T.length) : wordS (stepsM T' (φ c)) = wordS (stepsM T c) ∧ walkV T' (φ c) = (walkV T c).map g := by
  have e := h.steps hS hS' hc
  have hB := (h.begin_ hc).1
  have hcr : ∀ x ∈ stepsM T c, 0 ≤ x.corner ∧ x.corner < 3 * (T.length : Int) := fun x hx => by
    obtain ⟨i, hi, hxi⟩ := List.mem_iff_getElem.1 hx
    have hwl := walk_len hS hc
    obtain ⟨d, h1, h2, -⟩ := walkC_at hS hc (i := i + 1) (by omega)
    have h3 : (walkC T c)[i + 1]? = some x.corner := by
      show ((c : Int) :: (stepsM T c).map (·.corner))[i + 1]? = _
      rw [List.getElem?_cons_succ, List.getElem?_map, List.getElem?_eq_getElem hi, hxi]
      rfl
    have h4 := Option.some.inj (h3.symm.trans h1)
    omega
  constructor
  · rw [e]
    unfold wordS
    rw [List.map_map]
    rfl
  · show (beginS T' (φ c)).come ++ newV T' (stepsM T' (φ c)) = ((beginS T c).come ++ newV T (stepsM T c)).map g
    rw [hB, e, List.map_append]
    congr 1
    generalize stepsM T c = L at hcr
    clear e hB
    unfold newV
    induction L with
    | nil => rfl
    | cons x L ih =>
      have hx := hcr x (List.mem_cons_self ..)
      have ih := ih (fun y hy => hcr y (List.mem_cons_of_mem _ hy))
      have hv : vertI T' ((φ x.corner.toNat : Nat) : Int) = g (vertI T x.corner) := by
        obtain ⟨d, hd⟩ : ∃ d : Nat, x.corner = d := ⟨x.corner.toNat, by omega⟩
        have hd3 : d < 3 * T.length := by omega
        have := h.lt d hd3
        have := h.len
        rw [hd, Int.toNat_natCast, vertI_nat hd3, vertI_nat (by omega)]
        exact h.vert d hd3
      rw [List.map_cons, List.filter_cons, List.filter_cons]
      by_cases hl : x.letter = 67
      · rw [if_pos (show decide ((x.ren φ).letter = 67) = true from decide_eq_true hl), if_pos (decide_eq_true hl), List.map_cons, List.map_cons, List.map_cons, ih]
        congr 1
      · rw [if_neg (show ¬ decide ((x.ren φ).letter = 67) = true from fun e => hl (of_decide_eq_true e)), if_neg (fun e => hl (of_decide_eq_true e)), ih]
theorem AllN.ofId {n : Nat} {l : List Int} (hl : l.length = n) (h : ∀ i, i < n → at_ l i = (i : Int)) : AllN n l := by
  have e : l = nats (List.range n) := by
    apply List.ext_getElem
    · simp [nats, hl]
    · intro i h1 h2
      have := h i (by omega)
      rw [at_get h1] at this
      simp [nats, this]
  refine ⟨hl, ?_, fun x hx => ?_⟩
  · rw [e, nats]
    exact (List.pairwise_map).2 ((List.nodup_range (n := n)).imp (fun {a b} h e => h (Int.ofNat.inj e)))
  · rw [e] at hx
    simp [nats] at hx
    obtain ⟨a, ha, rfl⟩ := hx
    omega
theorem AllC.ofTri {F : Nat} {p : List Nat} (hl : p.length = F) (h : ∀ i, i < F → p.getD i 0 = 3 * i) : AllC F p := by
  have e : p = (List.range F).map (3 * ·) := by
    apply List.ext_getElem
    · simp [hl]
    · intro i h1 h2
      have := h i (by omega)
      rw [getN h1] at this
      simp [this]
  refine ⟨hl, ?_, fun x hx => ?_⟩
  · rw [e, List.map_map]
    have : (List.range F).map ((· / 3) ∘ (3 * ·)) = List.range F := by
      conv => rhs; rw [← List.map_id (List.range F)]
      apply List.map_congr_left
      intro a _
      show 3 * a / 3 = a
      omega
    rw [this]
    exact List.nodup_range
  · rw [e] at hx
    simp at hx
    obtain ⟨a, ha, rfl⟩ := hx
    omega
theorem mv_fits {N : Int} {T : List Tr} (h0 : 0 ≤ N) (h1 : N ≤ 4096) (h2 : T.length ≤ 8192) (h : ∀ t ∈ T, fitsM t N) : fitsS N T = true := by
  unfold fitsS
  rw [decide_eq_true ⟨h0, h1, h2⟩, Bool.true_and, Bool.not_eq_true', List.any_eq_false]
  intro t ht
  simp [h t ht]
theorem mv_fits1 {N : Int} {T : List Tr} (h : Surf N T) : fitsS N T = true := mv_fits h.n0 h.n1 h.len fun t ht => by
  obtain ⟨a, b, c⟩ := h.inr t ht
  obtain ⟨d, e, f⟩ := h.simple t ht
  exact ⟨a, b, c, d, e, f⟩
theorem mv_fits2 {n : Nat} {T : List Tr} {l : List Int} (h : Surf (n : Int) T) (hl : AllN n l) : fitsS (n : Int) (T.map (renT (toF l))) = true := mv_fits h.n0 h.n1 (by rw [List.length_map]; exact h.len) fun t' ht' => by
  obtain ⟨t, ht, rfl⟩ := List.mem_map.1 ht'
  obtain ⟨a, b, c⟩ := h.inr t ht
  obtain ⟨d, e, f⟩ := h.simple t ht
  exact ⟨hl.in_ a, hl.in_ b, hl.in_ c, fun q => d (hl.inj a b q), fun q => e (hl.inj b c q), fun q => f (hl.inj c a q)⟩
theorem MvSt.below {w W W' : World} {gt gp n F : Nat} {l : List Int} {p : List Nat} (h : MvSt w W gt gp n F l p) (hb : Below W.heap.size W W') : MvSt w W' gt gp n F l p :=
  ⟨own_calm h.t (grown_of_below hb none) (fun r e => by cases e), own_calm h.q (grown_of_below hb none) (fun r e => by cases e), h.bel.trans (hb.mono h.bel.size), h.ne⟩
/-- What WalkMoved asks. -/
theorem moved_all {n : Nat} {T : List Tr} {l : List Int} {p : List Nat} {c r : Nat} (hS : Simp (n : Int) T) (hto : AllN n l) (hp : AllC T.length p) (hc : c < 3 * T.length) (hr : RootOk p c T.length r) :
    Simp (n : Int) (pickM (T.map (renT (toF l))) p) ∧ r < 3 * T.length ∧ wordS (stepsM (pickM (T.map (renT (toF l))) p) r) = wordS (stepsM T c) ∧ (walkV T c).length = n ∧ (walkV (pickM (T.map (renT (toF l))) p) r).length = n ∧
      ∀ i, i < n → ∃ u u' : Nat, (walkV T c)[i]? = some (u : Int) ∧ u < n ∧ (walkV (pickM (T.map (renT (toF l))) p) r)[i]? = some (u' : Int) ∧ at_ l u = (u' : Int) := by
  obtain ⟨f, hf, hI⟩ := moved_iso hS.surf hto hp
  have hM := moved_surf hS.surf hto hp
  have hSM := simp_iso hI hS hM
  obtain ⟨h1, h2⟩ := root_src hp hc hr
  have hl := hI.len
  have hrM : r < 3 * (pickM (T.map (renT (toF l))) p).length := by omega
  obtain ⟨e1, e2⟩ := walkV_iso hI hSM hS hrM
  rw [h2] at e1 e2
  have hlT := walkV_len hS hc
  have hlM := walkV_len hSM hrM
  refine ⟨hSM, h1, e1.symm, hlT, hlM, fun i hi => ?_⟩
  have hiM : i < (walkV (pickM (T.map (renT (toF l))) p) r).length := by omega
  have hiT : i < (walkV T c).length := by omega
  have a1 := walkV_rng hSM hrM _ (List.getElem_mem hiM)
  obtain ⟨x, hx, ex⟩ := hto.on a1
  have e3 : (walkV T c)[i]? = some x := by
    rw [e2, List.getElem?_map, List.getElem?_eq_getElem hiM, Option.map_some, ← ex, hf x hx.1 hx.2]
  refine ⟨x.toNat, ((walkV (pickM (T.map (renT (toF l))) p) r)[i]).toNat, by rw [e3]; congr 1; omega, by omega, by rw [List.getElem?_eq_getElem hiM]; congr 1; omega, ?_⟩
  show toF l x = _
  rw [ex]
  omega
end Go.Proofs.YtpnkhgjjlionnaaGreat
namespace Go.Proofs.YtpnkhgjjlionnaaGreat
open Go.RowKit Go.Maps

def tv (t : Tr) (k : Nat) : Int := if k = 0 then t.1 else if k = 1 then t.2.1 else t.2.2
/-- Have two triangles an edge in common, the one this way, the other one the other way round? -/
def Nb (t u : Tr) : Prop := ∃ i k, i < 3 ∧ k < 3 ∧ tv t i = tv u ((k + 1) % 3) ∧ tv t ((i + 1) % 3) = tv u k
def trs (T : List Tr) (i : Nat) : Tr := T.getD i (0, 0, 0)
def NbT (T : List Tr) (i k : Nat) : Prop := Nb (trs T i) (trs T k)
/-- Do the triangles hang together? -/
def Hang (F : Nat) (R : Nat → Nat → Prop) : Prop := ∀ S : Nat → Prop, S 0 → (∀ i k, i < F → k < F → R i k → S k → S i) → ∀ i, i < F → S i
section
variable {F : Nat} {R : Nat → Nat → Prop}
/-- What holds of the labels throughout. -/
structure Lab (F : Nat) (R : Nat → Nat → Prop) (o : Nat → Int) : Prop where
  lo : ∀ i, i < F → 0 ≤ o i ∧ o i ≤ i
  hang : ∀ S : Nat → Prop, (∀ i k, i < F → k < F → R i k → S k → S i) → ∀ i, i < F → S (o i).toNat → S i
/-- Within a round: the labels that stood ahead of it, and those that stand. -/
structure Rnd (F : Nat) (R : Nat → Nat → Prop) (p o : Nat → Int) (i k : Nat) : Prop where
  lab : Lab F R o
  le : ∀ j, j < F → o j ≤ p j
  done : ∀ j, j < i → ∀ l, l < F → R j l → o j ≤ p l
  now : ∀ l, l < k → R i l → o i ≤ p l
def updN (o : Nat → Int) (i : Nat) (x : Int) : Nat → Int := fun j => if j = i then x else o j
theorem Rnd.begin_ {o : Nat → Int} (h : Lab F R o) : Rnd F R o o 0 0 := ⟨h, fun _ _ => Int.le_refl _, fun _ h => absurd h (by omega), fun _ h => absurd h (by omega)⟩
theorem Rnd.row {p o : Nat → Int} {i : Nat} (h : Rnd F R p o i F) : Rnd F R p o (i + 1) 0 :=
  ⟨h.lab, h.le, fun j hj l hl hr => by
    rcases Nat.lt_or_ge j i with e | e
    · exact h.done j e l hl hr
    · obtain rfl : j = i := by omega
      exact h.now l hl hr, fun _ h => absurd h (by omega)⟩
theorem Rnd.skip {p o : Nat → Int} {i k : Nat} (h : Rnd F R p o i k) (hk : k < F) (hc : ¬ (o k < o i ∧ R i k)) : Rnd F R p o i (k + 1) :=
  ⟨h.lab, h.le, h.done, fun l hl hr => by
    rcases Nat.lt_or_ge l k with e | e
    · exact h.now l e hr
    · obtain rfl : l = k := by omega
      have h1 := h.le l hk
      have h2 : ¬ o l < o i := fun e => hc ⟨e, hr⟩
      omega⟩
theorem Rnd.take {p o : Nat → Int} {i k : Nat} (h : Rnd F R p o i k) (hi : i < F) (hk : k < F) (h1 : o k < o i) (h2 : R i k) : Rnd F R p (updN o i (o k)) i (k + 1) := by
  have hu : ∀ j, updN o i (o k) j ≤ o j := fun j => by
    unfold updN
    split
    · rename_i e; subst e; omega
    · exact Int.le_refl _
  refine ⟨⟨fun j hj => ?_, fun S hS j hj hs => ?_⟩, fun j hj => Int.le_trans (hu j) (h.le j hj), fun j hj l hl hr => Int.le_trans (hu j) (h.done j hj l hl hr), fun l hl hr => ?_⟩
  · unfold updN
    split
    · rename_i e
      subst e
      have a := h.lab.lo k hk
      have b := h.lab.lo j hi
      omega
    · exact h.lab.lo j hj
  · unfold updN at hs
    split at hs
    · rename_i e
      subst e
      exact hS j k hi hk h2 (h.lab.hang S hS k hk hs)
    · exact h.lab.hang S hS j hj hs
  · rcases Nat.lt_or_ge l k with e | e
    · exact Int.le_trans (hu i) (h.now l e hr)
    · obtain rfl : l = k := by omega
      have h3 := h.le l hk
      unfold updN
      rw [if_pos rfl]
      exact h3
/-- How many labels are 0. -/
def zs (F : Nat) (o : Nat → Int) : Nat := (List.range F).countP fun i => decide (o i = 0)
theorem zs_lt {p o : Nat → Int} (h : ∀ i, i < F → p i = 0 → o i = 0) {i : Nat} (hi : i < F) (h1 : p i ≠ 0) (h2 : o i = 0) : zs F p < zs F o := by
  unfold zs
  have hh : ∀ l : List Nat, (∀ j ∈ l, j < F) → i ∈ l → l.countP (fun i => decide (p i = 0)) < l.countP (fun i => decide (o i = 0)) := by
    have hle : ∀ l : List Nat, (∀ j ∈ l, j < F) → l.countP (fun i => decide (p i = 0)) ≤ l.countP (fun i => decide (o i = 0)) := fun l hl =>
      List.countP_mono_left (fun j hj hp => by simp only [decide_eq_true_eq] at hp ⊢; exact h j (hl j hj) hp)
    intro l
    induction l with
    | nil => intro _ hm; exact (List.not_mem_nil hm).elim
    | cons x r ih =>
      intro hl hm
      rw [List.countP_cons, List.countP_cons]
      rcases List.mem_cons.1 hm with rfl | hm
      · have := hle r (fun j hj => hl j (List.mem_cons_of_mem _ hj))
        rw [if_neg (by simpa using h1), if_pos (by simpa using h2)]
        omega
      · have := ih (fun j hj => hl j (List.mem_cons_of_mem _ hj)) hm
        have hx := h x (hl x (List.mem_cons_self ..))
        by_cases e : p x = 0
        · rw [if_pos (by simpa using e), if_pos (by simpa using hx e)]
          omega
        · rw [if_neg (by simpa using e)]
          split <;> omega
  exact hh _ (fun j hj => List.mem_range.1 hj) (List.mem_range.2 hi)
theorem zs_all {o : Nat → Int} (h : F ≤ zs F o) : ∀ i, i < F → o i = 0 := by
  unfold zs at h
  have h2 := List.countP_le_length (p := fun i => decide (o i = 0)) (l := List.range F)
  rw [List.length_range] at h2
  have h3 : (List.range F).countP (fun i => decide (o i = 0)) = (List.range F).length := by rw [List.length_range]; omega
  have := List.countP_eq_length.1 h3
  intro i hi
  simpa using this i (List.mem_range.2 hi)
/-- A round brings one label more to 0. -/
theorem Rnd.more {p o : Nat → Int} (h : Rnd F R p o F 0) (hp : Lab F R p) (hF : 0 < F) (hH : Hang F R) {r : Nat} (hz : r ≤ zs F p) (hr : r < F) : r + 1 ≤ zs F o := by
  have hm : ∀ i, i < F → p i = 0 → o i = 0 := fun i hi e => by
    have a := h.le i hi
    have b := h.lab.lo i hi
    omega
  by_cases hall : ∀ i, i < F → p i = 0
  · have : zs F o = F := by
      unfold zs
      have : (List.range F).countP (fun i => decide (o i = 0)) = (List.range F).length := List.countP_eq_length.2 (fun i hi => by simpa using hm i (List.mem_range.1 hi) (hall i (List.mem_range.1 hi)))
      rw [this, List.length_range]
    omega
  · have h0 : p 0 = 0 := by have := hp.lo 0 hF; omega
    have : ∃ i k, i < F ∧ k < F ∧ R i k ∧ p k = 0 ∧ p i ≠ 0 := Classical.byContradiction fun hno => hall (hH (fun i => p i = 0) h0 (fun i k hi hk hR hs => Classical.byContradiction fun he => hno ⟨i, k, hi, hk, hR, hs, he⟩))
    obtain ⟨i, k, hi, hk, hR, h1, h2⟩ := this
    have h3 := h.done i hi k hk hR
    have h4 := h.lab.lo i hi
    have := zs_lt hm hi h2 (by omega)
    omega
theorem Lab.one {o : Nat → Int} (h : Lab F R o) (hF : 0 < F) : 1 ≤ zs F o := by
  unfold zs
  have h0 : o 0 = 0 := by have := h.lo 0 hF; omega
  exact List.countP_pos_iff.2 ⟨0, List.mem_range.2 hF, by simpa using h0⟩
/-- The numbers, made of the labels. -/
structure Num (F : Nat) (o : Nat → Int) (i : Nat) (many : Int) (m : Nat → Int) : Prop where
  many : many = ((List.range i).countP fun j => decide (o j = j) : Nat)
  fix : ∀ j, j < i → o j = j → m j = ((List.range j).countP fun l => decide (o l = l) : Nat)
  rest : ∀ j, j < i → o j ≠ j → m j = m (o j).toNat
theorem Num.begin_ (o m : Nat → Int) : Num F o 0 0 m := ⟨rfl, fun _ h => absurd h (by omega), fun _ h => absurd h (by omega)⟩
theorem Num.new {o m : Nat → Int} {i : Nat} {c : Int} (hl : ∀ j, j < F → 0 ≤ o j ∧ o j ≤ j) (hi : i < F) (h : Num F o i c m) (e : o i = i) : Num F o (i + 1) (c + 1) (updN m i c) where
  many := by
    rw [List.range_succ, List.countP_append, h.many]
    simp [e]
  fix := fun j hj he => by
    unfold updN
    split
    · rename_i e'; subst e'; exact h.many
    · exact h.fix j (by omega) he
  rest := fun j hj he => by
    have hne : j ≠ i := fun e' => he (by rw [e']; exact e)
    have h2 := hl j (by omega)
    unfold updN
    rw [if_neg hne, if_neg (by omega)]
    exact h.rest j (by omega) he
theorem Num.old {o m : Nat → Int} {i : Nat} {c : Int} (hl : ∀ j, j < F → 0 ≤ o j ∧ o j ≤ j) (hi : i < F) (h : Num F o i c m) (e : o i ≠ i) : Num F o (i + 1) c (updN m i (m (o i).toNat)) where
  many := by
    rw [List.range_succ, List.countP_append, h.many]
    simp [e]
  fix := fun j hj he => by
    have hne : j ≠ i := fun e' => e (by rw [← e']; exact he)
    unfold updN
    rw [if_neg hne]
    exact h.fix j (by omega) he
  rest := fun j hj he => by
    have h2 := hl j (by omega)
    have h3 := hl i hi
    unfold updN
    by_cases e' : j = i
    · subst e'
      rw [if_pos rfl, if_neg (by omega)]
    · rw [if_neg e', if_neg (by omega)]
      exact h.rest j (by omega) he
theorem Num.zero {o m : Nat → Int} {c : Int} (hl : ∀ j, j < F → 0 ≤ o j ∧ o j ≤ j) (h : Num F o F c m) : (∀ j, j < F → m j = 0) ↔ ∀ j, j < F → o j = j → j = 0 := by
  constructor
  · intro h0 j hj he
    rcases Nat.eq_zero_or_pos j with e | e
    · exact e
    · exfalso
      have h1 := h.fix j hj he
      rw [h0 j hj] at h1
      have h2 : o 0 = 0 := by have := hl 0 (by omega); omega
      have := List.countP_pos_iff (p := fun l => decide (o l = (l : Int))) (l := List.range j) |>.2 ⟨0, List.mem_range.2 e, by simpa using h2⟩
      omega
  · intro h1 j
    induction j using Nat.strongRecOn with
    | _ j ih =>
      intro hj
      by_cases e : o j = j
      · obtain rfl := h1 j hj e
        rw [h.fix 0 hj e]
        rfl
      · have h2 := hl j hj
        rw [h.rest j hj e]
        exact ih _ (by omega) (by omega)
/-- All numbers are 0 just if the triangles hang together. -/
theorem Num.hang {o m : Nat → Int} {c : Int} (hF : 0 < F) (hl : Lab F R o) (h : Num F o F c m) (hz : Hang F R → F ≤ zs F o) : (∀ j, j < F → m j = 0) ↔ Hang F R := by
  rw [h.zero hl.lo]
  constructor
  · intro h1 S s0 hS i
    induction i using Nat.strongRecOn with
    | _ i ih =>
      intro hi
      have h2 := hl.lo i hi
      by_cases e : o i = i
      · rw [h1 i hi e]; exact s0
      · exact hl.hang S hS i hi (ih _ (by omega) (by omega))
  · intro hH j hj he
    have := zs_all (hz hH) j hj
    omega
end
theorem tv_vert {T : List Tr} {i k : Nat} (hk : k < 3) : tv (trs T i) k = vertN T (3 * i + k) := by
  unfold tv trs vertN triAt
  have e1 : (3 * i + k) / 3 = i := by omega
  have e2 : (3 * i + k) % 3 = k := by omega
  rw [e1, e2]
  rfl
/-- Who has a corner across is a neighbour, and no one else. -/
theorem nb_opp {N : Int} {T : List Tr} (hS : Surf N T) (hc : ClosedT T) {i k : Nat} (hi : i < T.length) (hk : k < T.length) : NbT T i k ↔ ∃ c, c < 3 * T.length ∧ c / 3 = k ∧ oppN T c / 3 = i := by
  constructor
  · rintro ⟨a, b, ha, hb, h1, h2⟩
    rw [tv_vert ha, tv_vert (by omega)] at h1
    rw [tv_vert (by omega), tv_vert hb] at h2
    have hd : Jor.pv (3 * i + a) < 3 * T.length := Jor.pv_lt (by omega)
    have hc' : Jor.pv (3 * k + b) < 3 * T.length := Jor.pv_lt (by omega)
    have e1 : Jor.nx (3 * i + a) = 3 * i + (a + 1) % 3 := by unfold Jor.nx; omega
    have e2 : Jor.nx (3 * k + b) = 3 * k + (b + 1) % 3 := by unfold Jor.nx; omega
    have := opp_is hS.twice hc' hd (by rw [edge_pv, edge_pv, e1, e2, h1, h2])
    refine ⟨_, hc', by rw [Jor.pv_div]; omega, by rw [this, Jor.pv_div]; omega⟩
  · rintro ⟨c, h1, h2, h3⟩
    have ho := hc.opp h1
    obtain ⟨h4, h5⟩ := opp_some h1 ho
    -- the edge that c faces, from its next corner to the one ahead
    have hcn : Jor.nx c = 3 * k + (c % 3 + 1) % 3 := by unfold Jor.nx; omega
    have hcp : Jor.pv c = 3 * k + (c % 3 + 2) % 3 := by unfold Jor.pv; omega
    have hon : Jor.nx (oppN T c) = 3 * i + (oppN T c % 3 + 1) % 3 := by unfold Jor.nx; omega
    have hop : Jor.pv (oppN T c) = 3 * i + (oppN T c % 3 + 2) % 3 := by unfold Jor.pv; omega
    unfold edgeN at h5
    rw [hcn, hcp, hon, hop] at h5
    simp only [Prod.mk.injEq] at h5
    obtain ⟨h5, h6⟩ := h5
    refine ⟨(oppN T c % 3 + 1) % 3, (c % 3 + 1) % 3, by omega, by omega, ?_, ?_⟩
    · have e : ((c % 3 + 1) % 3 + 1) % 3 = (c % 3 + 2) % 3 := by omega
      rw [e, tv_vert (by omega), tv_vert (by omega), h5]
    · have e : ((oppN T c % 3 + 1) % 3 + 1) % 3 = (oppN T c % 3 + 2) % 3 := by omega
      rw [e, tv_vert (by omega), tv_vert (by omega), h6]
theorem hang_conn {N : Int} {T : List Tr} (hS : Surf N T) (hc : ClosedT T) : Hang T.length (NbT T) ↔ ∀ S : Nat → Prop, S 0 → (∀ c, c < 3 * T.length → S (c / 3) → S (oppN T c / 3)) → ∀ t, t < T.length → S t := by
  have olt : ∀ c, c < 3 * T.length → oppN T c < 3 * T.length := fun c h => (opp_some h (hc.opp h)).1
  constructor
  · intro h S s0 hs
    exact h S s0 (fun i k hi hk hn hsk => by
      obtain ⟨c, h1, h2, h3⟩ := (nb_opp hS hc hi hk).1 hn
      have := hs c h1 (by rw [h2]; exact hsk)
      rwa [h3] at this)
  · intro h S s0 hs
    exact h S s0 (fun c hc' h1 => by
      have h2 := olt c hc'
      exact hs _ _ (by omega) (by omega) ((nb_opp hS hc (by omega) (by omega)).2 ⟨c, hc', rfl, rfl⟩) h1)
/-- The document's word for 'simple'. -/
def SimR (n : Nat) (T : List Tr) : Prop := T.length ≠ 0 ∧ ClosedT T ∧ (n : Int) - (T.length * 3 : Nat) / 2 + T.length = 2 ∧ Hang T.length (NbT T)
theorem simR_iff {n : Nat} {T : List Tr} (hS : Surf n T) : SimR n T ↔ Simp n T := by
  constructor
  · rintro ⟨h1, h2, h3, h4⟩
    have hc := (hang_conn hS h2).1 h4
    obtain ⟨m, e1, e2⟩ := even_of hS h2 hc
    refine ⟨hS, h2, hc, by omega, ?_⟩
    rw [e1] at h3 ⊢
    push_cast at h3 ⊢
    omega
  · intro h
    obtain ⟨m, e1, e2⟩ := even_of hS h.closed h.conn
    refine ⟨by have := h.pos; omega, h.closed, ?_, (hang_conn hS h.closed).2 h.conn⟩
    have h5 := h.euler
    rw [e1] at h5 ⊢
    push_cast at h5 ⊢
    omega
end Go.Proofs.YtpnkhgjjlionnaaGreat
namespace Go.Proofs.YtpnkhgjjlionnaaGreat
open Go.RowKit

set_option maxRecDepth 100000 in
set_option maxHeartbeats 4000000 in
theorem pairs9_any (kind : Int) (hkd : kind = 3 ∨ kind = 4) (N : Int) (v : Value) (T : List Tr) (w : World) (h : TrisRd w v T) (hl : T.length ≤ 40) : Calls Tryz.prog 106 #[.agg #[.int .i64 N, v], .int .i64 kind] w (RetW w 10000) := by
  obtain ⟨i1, hi', hy0, hy1, hy2⟩ := info_parts infoWit9
  obtain ⟨a, c, rfl, hc1, hc2, hr⟩ := id h
  have b1 := Blk.new w 24 #[.int .i64 N, .slice a T.length c]
  obtain ⟨l0, x0, -, x1, -⟩ := b1.two
  have hB0 : Below w.heap.size w (w.alloc (.cells #[.int .i64 N, .slice a T.length c] 24)) := (Below.refl _ _).alloc (Nat.le_refl _) _
  have HH := Lib.hid h
  obtain ⟨n, hn⟩ : ∃ n, T.length = n := ⟨_, rfl⟩
  rw [hn] at hl hc1 x0 x1 hB0 b1 l0 ⊢
  have HN := Lib.hid hn
  have HB0 := Lib.hid hB0
  have Hb1 := Lib.hid b1
  have HE := Lib.hid twice9_any
  have HA := Lib.hid has9_any
  have HK := Lib.hid hkd
  clear hr hn h b1 hB0 hkd
  go_enter Tryz.func106, Tryz.ntmps106
  go_wp2
  go_loopw [5, 6] (fun v3 i wr => ∃ (k : Nat) (m : Nat) (xs : List Value) (v' : Value), v' = v3 ∧ k ≤ n ∧ i = .int .i64 k ∧ wr.ownsRow w.heap.size 166 3 v' m xs ∧ m ≤ k * 40 ∧ Blk wr w.heap.size 24 #[.int .i64 N, .slice a n c] ∧ Below w.heap.size w wr) (fun _ i _ => n - (intOf i).toNat)
  case atStart => exact ⟨0, 0, _, _, rfl, Nat.zero_le _, rfl, World.ownsRow_nil _ _ _ _, by omega, Hb1.out, HB0.out⟩
  case round =>
    obtain ⟨k, m, xs, v3, rfl, hk, rfl, hrow, hm, hS, hB⟩ := hrel
    rename World => wr
    clear x0 x1 l0
    obtain ⟨ly, y0, -, y1, -⟩ := hS.two
    have HS := Lib.hid hS
    have HB := Lib.hid hB
    have Hro := Lib.hid hrow
    have hsz := hB.size
    clear hS hB hrow
    by_cases hlt : k < n
    · have hk3 : (k : Int) < (n : Int) := by omega
      have hk0 : (0 : Int) ≤ (k : Int) := by omega
      go_wp2
      go_loopw [5, 7] (fun v5 i wq => ∃ (j : Nat) (m : Nat) (xs : List Value) (v' : Value), v' = v5 ∧ j ≤ k ∧ i = .int .i64 j ∧ wq.ownsRow w.heap.size 166 3 v' m xs ∧ m ≤ k * 40 + j ∧ Blk wq w.heap.size 24 #[.int .i64 N, .slice a n c] ∧ Below w.heap.size w wq) (fun _ i _ => k - (intOf i).toNat)
      case atStart => exact ⟨0, m, xs, _, rfl, by omega, rfl, Hro.out, by omega, HS.out, HB.out⟩
      case round =>
        clear y0 y1 ly hsz
        obtain ⟨j, m, xs, v5, rfl, hj, rfl, hrow, hm, hS, hB⟩ := hrel
        rename World => wq
        obtain ⟨ly, y0, -, y1, -⟩ := hS.two
        have htr := (HH.out.below hB)
        have HS := Lib.hid hS
        have HB := Lib.hid hB
        have Hro := Lib.hid hrow
        have hsz := hB.size
        clear hS hB hrow
        by_cases hjk : j < k
        · have hj3 : (j : Int) < (k : Int) := by omega
          have hj5 : (j : Int) < (n : Int) := by omega
          have hj0 : (0 : Int) ≤ (j : Int) := by omega
          have c3 : m + 1 ≤ maxLen := by unfold maxLen; omega
          have c4 : (m + 1) * 24 ≤ 140737488355328 := by omega
          obtain ⟨⟨x, y, z⟩, ht⟩ : ∃ t, T[j]? = some t := ⟨T[j]'(by have := HN.out; omega), List.getElem?_eq_getElem _⟩
          obtain ⟨⟨x', y', z'⟩, hu⟩ : ∃ t, T[k]? = some t := ⟨T[k]'(by have := HN.out; omega), List.getElem?_eq_getElem _⟩
          obtain ⟨_, _, e1, _, _, hrd⟩ := htr
          cases e1
          obtain ⟨b, o, rfl, hbl, s0, s1, s2⟩ := hrd j x y z ht
          obtain ⟨b', o', e2, hbl', r0, r1, r2⟩ := hrd k x' y' z' hu
          cases e2
          clear hrd ht hu
          go_upto_region 8 with fail
          go_cut [8, 9] (fun v8 v9 W => ∃ p q, v8 = .pointer (some ⟨p, 0, none⟩) ∧ v9 = .pointer (some ⟨q, 0, none⟩) ∧ Blk W p 60 #[.int .i64 x, .int .i64 y, .int .i64 z] ∧ Blk W q 60 #[.int .i64 x', .int .i64 y', .int .i64 z'] ∧ Below wq.heap.size wq W)
          case first =>
            go_region_held3 (fun w' => w'.cell? ⟨w.heap.size, 1, none⟩ = some (.slice (some ⟨b, o, none⟩) n c) ∧ w'.cell? ⟨b, o + j * 3, none⟩ = some (.int .i64 x) ∧ w'.cell? ⟨b, o + j * 3 + 1, none⟩ = some (.int .i64 y) ∧ w'.cell? ⟨b, o + j * 3 + 2, none⟩ = some (.int .i64 z) ∧ w'.cell? ⟨b, o + k * 3, none⟩ = some (.int .i64 x') ∧ w'.cell? ⟨b, o + k * 3 + 1, none⟩ = some (.int .i64 y') ∧ w'.cell? ⟨b, o + k * 3 + 2, none⟩ = some (.int .i64 z')) (go_keep) (fail)
            all_goals
              go_wp2_with fail
              go_meet
              refine ⟨_, _, rfl, rfl, ?_, ?_, ?_⟩
              · repeat (first | with_reducible exact blk_new9 (by simp) | with_reducible refine Blk.drew ?_ | with_reducible refine Blk.alloc ?_ _)
              · repeat (first | with_reducible exact blk_new9 (by simp) | with_reducible refine Blk.drew ?_ | with_reducible refine Blk.alloc ?_ _)
              · exact below_d (((Below.refl _ _).alloc (Nat.le_refl _) _).alloc (by simp) _)
          case rest =>
            obtain ⟨p, q, rfl, rfl, bp, bq, hb8⟩ := hcut
            clear s0 s1 s2 r0 r1 r2 y0 y1
            have HP := Lib.hid bp
            have HQ := Lib.hid bq
            have hrc := own_below9 Hro.out hb8
            have hSc := HS.out.below hb8 ly
            have hBc := HB.out.trans (hb8.mono hsz)
            obtain ⟨lp, p0, -, p1, -, p2, -⟩ := bp.three
            obtain ⟨lq, q0, -, q1, -, q2, -⟩ := bq.three
            have Hrc := Lib.hid hrc
            have HSc := Lib.hid hSc
            have HBc := Lib.hid hBc
            have hszc := hBc.size
            clear bp bq hrc hSc hBc hb8
            rcases HK.out with rfl | rfl
            · go_wp2_with fail
              refine (HE.out _ _ _ _ _ _ _).mono ?_
              rintro e w2 ⟨⟨b2, rfl⟩, hb2⟩
              have hr2 := own_below9 Hrc.out hb2
              have HS2 := Lib.hid (HSc.out.below hb2 HSc.out.lt)
              have HB2 := Lib.hid (HBc.out.trans (hb2.mono hszc))
              have hsz2 := HB2.out.size
              clear hb2 p0 p1 p2 q0 q1 q2
              cases b2
              · have Hr2 := Lib.hid hr2
                clear hr2
                go_wp2
                go_roundw
                case measure => simp [intOf]; omega
                case rel => exact ⟨j + 1, m, _, _, rfl, by omega, by go_num, Hr2.out, by omega, HS2.out, HB2.out⟩
              · go_wp2_with (at_builtin; refine wpList_append_lies _ rfl (.tmp 61) (.tmp 66) 145 rfl w.heap.size 166 i1 _ 3 24 Tryz.underlying145 hi' hy0 hy1 hy2 rfl (by decide) _ _ _ rfl (hr2.alloc _) ⟨w2.heap.size, 0, none⟩ 1 1 [.int .i64 3, .int .i64 j, .int .i64 k] rfl rfl (World.news_of_block (heap_alloc_new _ _)) (by simp [Value.oneCell']) (by decide) c3 c4 (by rw [size_alloc']; omega) (w2.heap.size + 1) (by simp) ?_; intro g4 cap4 W4 hr4 hg4 _ _)
                go_roundw
                case measure => simp [intOf]; omega
                case rel => exact ⟨j + 1, m + 1, _, _, rfl, by omega, by go_num, hr4, by omega, (HS2.out.alloc _).grown hg4 (fun e => own_blk_ne hr2 HS2.out (by decide) e.symm), HB2.out.grown (gGrown (World.grownBy_alloc _ _ _) hg4 (row := v5.ownBlock) (fun _ e => .inl e)) (by omega) (fun j e => (hr2.lt j e).1)⟩
            · go_wp2_with fail
              refine (HA.out _ _ _ _ _).mono ?_
              rintro e w2 ⟨⟨b2, rfl⟩, hb2⟩
              clear p0 p1 p2 q0 q1 q2
              have HP2 := Lib.hid (HP.out.below hb2 lp)
              have HQ2 := Lib.hid (HQ.out.below hb2 lq)
              obtain ⟨lp2, p0, -, p1, -, p2, -⟩ := HP2.out.three
              obtain ⟨lq2, q0, -, q1, -, q2, -⟩ := HQ2.out.three
              have Hr2 := Lib.hid (own_below9 Hrc.out hb2)
              have HS2 := Lib.hid (HSc.out.below hb2 HSc.out.lt)
              have HB2 := Lib.hid (HBc.out.trans (hb2.mono hszc))
              have hsz2 := HB2.out.size
              clear hb2
              cases b2
              · go_wp2
                go_roundw
                case measure => simp [intOf]; omega
                case rel => exact ⟨j + 1, m, _, _, rfl, by omega, by go_num, Hr2.out, by omega, HS2.out, HB2.out⟩
              · go_wp2_with fail
                refine (HA.out _ _ _ _ _).mono ?_
                rintro e w3 ⟨⟨b3, rfl⟩, hb3⟩
                clear p0 p1 p2 q0 q1 q2
                have HP3 := Lib.hid (HP2.out.below hb3 lp2)
                have HQ3 := Lib.hid (HQ2.out.below hb3 lq2)
                obtain ⟨lp3, p0, -, p1, -, p2, -⟩ := HP3.out.three
                obtain ⟨lq3, q0, -, q1, -, q2, -⟩ := HQ3.out.three
                have Hr3 := Lib.hid (own_below9 Hr2.out hb3)
                have HS3 := Lib.hid (HS2.out.below hb3 HS2.out.lt)
                have HB3 := Lib.hid (HB2.out.trans (hb3.mono hsz2))
                have hsz3 := HB3.out.size
                clear hb3
                cases b3
                · go_wp2
                  go_roundw
                  case measure => simp [intOf]; omega
                  case rel => exact ⟨j + 1, m, _, _, rfl, by omega, by go_num, Hr3.out, by omega, HS3.out, HB3.out⟩
                · go_wp2_with fail
                  refine (HA.out _ _ _ _ _).mono ?_
                  rintro e w4 ⟨⟨b4, rfl⟩, hb4⟩
                  clear p0 p1 p2 q0 q1 q2
                  have hr4' := own_below9 Hr3.out hb4
                  have HS4 := Lib.hid (HS3.out.below hb4 HS3.out.lt)
                  have HB4 := Lib.hid (HB3.out.trans (hb4.mono hsz3))
                  have hsz4 := HB4.out.size
                  clear hb4
                  cases b4
                  · have Hr4 := Lib.hid hr4'
                    clear hr4'
                    go_wp2
                    go_roundw
                    case measure => simp [intOf]; omega
                    case rel => exact ⟨j + 1, m, _, _, rfl, by omega, by go_num, Hr4.out, by omega, HS4.out, HB4.out⟩
                  · go_wp2_with (at_builtin; refine wpList_append_lies _ rfl (.tmp 61) (.tmp 66) 145 rfl w.heap.size 166 i1 _ 3 24 Tryz.underlying145 hi' hy0 hy1 hy2 rfl (by decide) _ _ _ rfl (hr4'.alloc _) ⟨w4.heap.size, 0, none⟩ 1 1 [.int .i64 4, .int .i64 j, .int .i64 k] rfl rfl (World.news_of_block (heap_alloc_new _ _)) (by simp [Value.oneCell']) (by decide) c3 c4 (by rw [size_alloc']; omega) (w4.heap.size + 1) (by simp) ?_; intro g4 cap4 W4 hr4 hg4 _ _)
                    go_roundw
                    case measure => simp [intOf]; omega
                    case rel => exact ⟨j + 1, m + 1, _, _, rfl, by omega, by go_num, hr4, by omega, (HS4.out.alloc _).grown hg4 (fun e => own_blk_ne hr4' HS4.out (by decide) e.symm), HB4.out.grown (gGrown (World.grownBy_alloc _ _ _) hg4 (row := v5.ownBlock) (fun _ e => .inl e)) (by omega) (fun j e => (hr4'.lt j e).1)⟩
        · obtain rfl : j = k := by omega
          clear htr
          go_wp2
          go_roundw
          case measure => simp [intOf]; omega
          case rel => exact ⟨j + 1, m, _, _, rfl, by omega, by go_num, Hro.out, by omega, HS.out, HB.out⟩
    · obtain rfl : k = n := by omega
      go_wp2
      go_ret
      exact ⟨_, _, _, rfl, Hro.out, by omega, HB.out⟩
end Go.Proofs.YtpnkhgjjlionnaaGreat
namespace Go.Proofs.YtpnkhgjjlionnaaGreat
open Go.RowKit

theorem infoTri9 : (Tryz.prog.info? 60).map (fun i => (i.zero, i.size, i.bytes)) = some (some (.agg #[.int .i64 0, .int .i64 0, .int .i64 0]), 3, 24) := by kernel_rfl
theorem ws3_snoc9 (L : List Tr) (x y z : Int) : ws3 (L ++ [(x, y, z)]) = ws3 L ++ [.int .i64 x, .int .i64 y, .int .i64 z] := ws3_snoc L x y z
theorem ws3_get9 : ∀ (L : List Tr) (k : Nat) (x y z : Int), L[k]? = some (x, y, z) → (ws3 L)[k * 3]? = some (.int .i64 x) ∧ (ws3 L)[k * 3 + 1]? = some (.int .i64 y) ∧ (ws3 L)[k * 3 + 2]? = some (.int .i64 z)
  | [], k, x, y, z, h => by simp at h
  | (a, b, c) :: L, 0, x, y, z, h => by
    simp at h
    obtain ⟨rfl, rfl, rfl⟩ := h
    simp [ws3, flatT]
  | (a, b, c) :: L, k + 1, x, y, z, h => by
    have ih := ws3_get9 L k x y z (by simpa using h)
    have e : ws3 ((a, b, c) :: L) = .int .i64 a :: .int .i64 b :: .int .i64 c :: ws3 L := by simp [ws3, flatT]
    rw [e]
    have e1 : (k + 1) * 3 = k * 3 + 1 + 1 + 1 := by omega
    rw [e1]
    simpa using ih
/-- The state between the rounds: the vertex's triangles, and which are come to. -/
structure PS9 (w : World) (m : Nat) (L : List Tr) (gL cL gB : Nat) (W : World) : Prop where
  bs : ∃ bs : List Bool, bs.length = m ∧ W.ownsRow w.heap.size 4 1 (.slice (some ⟨gB, 0, none⟩) m m) m (bools bs)
  tri : W.ownsRow w.heap.size 60 3 (.slice (some ⟨gL, 0, none⟩) m cL) m (ws3 L)
  ll : L.length = m
  below : Below w.heap.size w W
section
variable {w W W' : World} {m gL cL gB : Nat} {L : List Tr}
theorem PS9.le (h : PS9 w m L gL cL gB W) (hb : Below W.heap.size W W') : PS9 w m L gL cL gB W' := by
  obtain ⟨⟨bs, h1, h2⟩, h3, h5, h4⟩ := h
  exact ⟨⟨bs, h1, own_below9 h2 hb⟩, own_below9 h3 hb, h5, h4.trans (hb.mono h4.size)⟩
theorem PS9.bit (h : PS9 w m L gL cL gB W) {i : Nat} (hi : i < m) : ∃ b : Bool, W.cell? ⟨gB, i, none⟩ = some (.bool b) ∧ W.frozen? ⟨gB, i, none⟩ = false := by
  obtain ⟨⟨bs, h1, h2⟩, -, -, -⟩ := h
  obtain ⟨b, hb⟩ : ∃ b, bs[i]? = some b := ⟨bs[i]'(by omega), List.getElem?_eq_getElem _⟩
  exact ⟨b, by rw [h2.cellAt i (by omega), bools, List.getElem?_map, hb]; rfl, h2.frozenAt i⟩
theorem PS9.set_ (h : PS9 w m L gL cL gB W) (i : Nat) : PS9 w m L gL cL gB (W.setCell ⟨gB, i, none⟩ (.bool true)) := by
  obtain ⟨⟨bs, h1, h2⟩, h3, h5, h4⟩ := h
  have hs := h2.stored i (.bool true)
  refine ⟨⟨bs.set i true, by simpa using h1, by rw [← bools_set]; exact hs.1⟩, h3.kept hs.2 (own_own_ne h3 h2 (by decide)), h5, h4.grown hs.2 h4.size (fun j e => (h2.lt j e).1)⟩
theorem PS9.three (h : PS9 w m L gL cL gB W) {i : Nat} (hi : i < m) : ∃ x y z, W.cell? ⟨gL, i * 3, none⟩ = some (.int .i64 x) ∧ W.cell? ⟨gL, i * 3 + 1, none⟩ = some (.int .i64 y) ∧ W.cell? ⟨gL, i * 3 + 2, none⟩ = some (.int .i64 z) := by
  obtain ⟨-, h3, h5, -⟩ := h
  obtain ⟨⟨x, y, z⟩, ht⟩ : ∃ q, L[i]? = some q := ⟨L[i]'(by omega), List.getElem?_eq_getElem _⟩
  obtain ⟨d0, d1, d2⟩ := ws3_get9 L i x y z ht
  refine ⟨x, y, z, ?_, ?_, ?_⟩
  · rw [h3.cellAt _ (by omega)]; exact d0
  · rw [h3.cellAt _ (by omega)]; exact d1
  · rw [h3.cellAt _ (by omega)]; exact d2
theorem PS9.at_ (h : PS9 w m L gL cL gB W) {i j : Nat} (hi : i < m) (hj : j < 3) : ∃ x, W.cell? ⟨gL, i * 3 + j, none⟩ = some (.int .i64 x) := by
  obtain ⟨x, y, z, h0, h1, h2⟩ := h.three hi
  have : j = 0 ∨ j = 1 ∨ j = 2 := by omega
  rcases this with rfl | rfl | rfl
  · exact ⟨_, h0⟩
  · exact ⟨_, h1⟩
  · exact ⟨_, h2⟩
end
set_option maxRecDepth 100000 in
set_option maxHeartbeats 4000000 in
theorem pinched9_any (N u : Int) (v : Value) (T : List Tr) (w : World) (h : TrisRd w v T) (hl : T.length ≤ 40) : Calls Tryz.prog 108 #[.agg #[.int .i64 N, v], .int .i64 u] w (RetB w) := by
  obtain ⟨i1, hi', hy0, hy1, hy2⟩ := info_parts infoTri9
  obtain ⟨i2, hj', hz0, hz1, hz2⟩ := info_parts infoBool
  obtain ⟨a, c, rfl, hc1, hc2, hr⟩ := h
  have b1 := Blk.new w 24 #[.int .i64 N, .slice a T.length c]
  obtain ⟨l0, x0, -, x1, -⟩ := b1.two
  have hB0 : Below w.heap.size w (w.alloc (.cells #[.int .i64 N, .slice a T.length c] 24)) := (Below.refl _ _).alloc (Nat.le_refl _) _
  obtain ⟨n, hn⟩ : ∃ n, T.length = n := ⟨_, rfl⟩
  rw [hn] at hl hc1 x0 x1 hB0 b1 l0 ⊢
  have HR := Lib.hid hr
  have HN := Lib.hid hn
  have HB0 := Lib.hid hB0
  have Hb1 := Lib.hid b1
  have HA := Lib.hid has9_any
  clear hr hn b1 hB0
  go_enter Tryz.func108, Tryz.ntmps108
  go_wp2
  go_loopw [5, 6] (fun v5 i wr => ∃ (k : Nat) (L : List Tr) (v' : Value), v' = v5 ∧ k ≤ n ∧ i = .int .i64 k ∧ wr.ownsRow w.heap.size 60 3 v' L.length (ws3 L) ∧ L.length ≤ k ∧ Blk wr w.heap.size 24 #[.int .i64 N, .slice a n c] ∧ Below w.heap.size w wr) (fun _ i _ => n - (intOf i).toNat)
  case atStart => exact ⟨0, [], _, rfl, Nat.zero_le _, rfl, World.ownsRow_nil _ _ _ _, by simp, Hb1.out, HB0.out⟩
  case round =>
    obtain ⟨k, L, v3, rfl, hk, rfl, hrow, hm, hS, hB⟩ := hrel
    rename World => wr
    clear x0 x1 l0
    obtain ⟨ly, y0, -, y1, -⟩ := hS.two
    have HS := Lib.hid hS
    have HB := Lib.hid hB
    have Hro := Lib.hid hrow
    have hsz := hB.size
    by_cases hlt : k < n
    · have hk3 : (k : Int) < (n : Int) := by omega
      have hk0 : (0 : Int) ≤ (k : Int) := by omega
      obtain ⟨⟨x, y, z⟩, ht⟩ : ∃ t, T[k]? = some t := ⟨T[k]'(by have := HN.out; omega), List.getElem?_eq_getElem _⟩
      obtain ⟨b, o, rfl, hbl, s0, s1, s2⟩ := HR.out k x y z ht
      have s0' := (hB.cell (p := ⟨b, _, none⟩) hbl).trans s0
      have s1' := (hB.cell (p := ⟨b, _, none⟩) hbl).trans s1
      have s2' := (hB.cell (p := ⟨b, _, none⟩) hbl).trans s2
      have c3 : L.length + 1 ≤ maxLen := by unfold maxLen; omega
      have c4 : (L.length + 1) * 24 ≤ 140737488355328 := by omega
      clear ht hS hB hrow
      go_wp2_with fail
      refine (HA.out _ _ _ _ _).mono ?_
      rintro e w2 ⟨⟨b2, rfl⟩, hb2⟩
      have hr2 := own_below9 Hro.out hb2
      have HS2 := Lib.hid (HS.out.below hb2 ly)
      have HB2 := Lib.hid (HB.out.trans (hb2.mono hsz))
      have hsz2 := HB2.out.size
      clear y0 y1 s0' s1' s2' hb2
      obtain ⟨ly2, y0, -, y1, -⟩ := HS2.out.two
      have s0' := (HB2.out.cell (p := ⟨b, _, none⟩) hbl).trans s0
      have s1' := (HB2.out.cell (p := ⟨b, _, none⟩) hbl).trans s1
      have s2' := (HB2.out.cell (p := ⟨b, _, none⟩) hbl).trans s2
      clear s0 s1 s2
      cases b2
      · have Hr2 := Lib.hid hr2
        clear hr2
        go_wp2
        go_roundw
        case measure => simp [intOf]; omega
        case rel => exact ⟨k + 1, L, _, rfl, by omega, by go_num, Hr2.out, by omega, HS2.out, HB2.out⟩
      · go_wp2_with (at_builtin; refine wpList_append_lies _ rfl (.tmp 27) (.tmp 33) 22 rfl w.heap.size 60 i1 _ 3 24 Tryz.underlying22 hi' hy0 hy1 hy2 rfl (by decide) _ _ _ rfl (hr2.alloc _) ⟨w2.heap.size, 0, none⟩ 1 1 [.int .i64 x, .int .i64 y, .int .i64 z] rfl rfl (World.news_of_block (heap_alloc_new _ _)) (by simp [Value.oneCell']) (by decide) c3 c4 (by rw [size_alloc']; omega) (w2.heap.size + 1) (by simp) ?_; intro g4 cap4 W4 hr4 hg4 _ _)
        go_roundw
        case measure => simp [intOf]; omega
        case rel => exact ⟨k + 1, L ++ [(x, y, z)], _, rfl, by omega, by go_num, by rw [ws3_snoc9]; simpa using hr4, by simp; omega, (HS2.out.alloc _).grown hg4 (fun e => own_blk_ne hr2 HS2.out (by decide) e.symm), HB2.out.grown (gGrown (World.grownBy_alloc _ _ _) hg4 (row := v3.ownBlock) (fun _ e => .inl e)) (by omega) (fun j e => (hr2.lt j e).1)⟩
    · obtain rfl : k = n := by omega
      clear HS hS
      obtain ⟨m, hmL⟩ : ∃ m, L.length = m := ⟨_, rfl⟩
      rw [hmL] at hrow hm
      clear Hro
      rcases Nat.eq_zero_or_pos m with hm0 | hm0
      · subst hm0
        have e : ∃ a cc, v3 = .slice a 0 cc := by
          rcases hrow.2 with ⟨rfl, h0⟩ | ⟨g, cap, cur, rfl, _⟩
          · exact ⟨_, _, rfl⟩
          · exact ⟨_, _, rfl⟩
        obtain ⟨a', cc, rfl⟩ := e
        clear hrow hB hmL
        go_wp2
        go_ret
        exact ⟨⟨_, rfl⟩, HB.out⟩
      · obtain ⟨gL, cL, rfl, -, -⟩ := hrow.form hm0
        have HL := Lib.hid hmL
        have Hr := Lib.hid hrow
        have nz : ((m : Int) == 0) = false := by simp; omega
        have hm4 : (0 : Int) < (m : Int) := by omega
        clear hmL hrow hB
        go_wp2_with (at_make; refine wpList_make_full _ rfl (.tmp 39) (.tmp 39) 66 rfl w.heap.size 4 i2 _ 1 Tryz.underlying66 hj' hz0 hz1 .i64 .i64 _ _ m rfl rfl rfl rfl (by rw [hz2]; omega) (by unfold maxLen; omega) (by omega) ?_; intro w1 hr1 hg1; have hbm := below_of_grown hg1 (Nat.le_refl _) (fun j e => by cases e); rw [made_bools] at hr1; have f0 := hr1.frozenAt 0; have c0 : w1.cell? ⟨wr.heap.size, 0, none⟩ = some (.bool false) := by rw [hr1.cellAt 0 (by omega)]; simp [bools, hm0])
        have hps : PS9 w m L gL cL wr.heap.size w1 := ⟨⟨_, by simp, hr1⟩, own_below9 Hr.out hbm, HL.out, HB.out.trans (hbm.mono hsz)⟩
        have HPS := Lib.hid (hps.set_ 0)
        clear hps hr1 hg1 hbm f0 c0 y0 y1 ly
        generalize w1.setCell ⟨wr.heap.size, 0, none⟩ (.bool true) = W1 at *
        go_loopw [45] (fun i W => ∃ q : Nat, q ≤ m ∧ i = .int .i64 q ∧ PS9 w m L gL cL wr.heap.size W) (fun i _ => m - (intOf i).toNat)
        case atStart => exact ⟨0, by omega, rfl, HPS.out⟩
        case round =>
          obtain ⟨q, hq, rfl, hP⟩ := hrel
          rename World => wA
          have HPA := Lib.hid hP
          clear hP
          by_cases hqm : q < m
          · have hq3 : (q : Int) < (m : Int) := by omega
            go_wp2
            go_loopw [8] (fun i W => ∃ i1 : Nat, i1 ≤ m ∧ i = .int .i64 i1 ∧ PS9 w m L gL cL wr.heap.size W) (fun i _ => m - (intOf i).toNat)
            case atStart => exact ⟨0, by omega, rfl, HPA.out⟩
            case round =>
              obtain ⟨i1, hi1, rfl, hP⟩ := hrel
              rename World => wB
              have HPB := Lib.hid hP
              clear hP
              by_cases him : i1 < m
              · have hi3 : (i1 : Int) < (m : Int) := by omega
                have hi0 : (0 : Int) ≤ (i1 : Int) := by omega
                go_wp2
                go_loopw [9] (fun i W => ∃ k1 : Nat, k1 ≤ m ∧ i = .int .i64 k1 ∧ PS9 w m L gL cL wr.heap.size W) (fun i _ => m - (intOf i).toNat)
                case atStart => exact ⟨0, by omega, rfl, HPB.out⟩
                case round =>
                  obtain ⟨k1, hk1, rfl, hP⟩ := hrel
                  rename World => wC
                  have HPC := Lib.hid hP
                  clear hP
                  by_cases hkm : k1 < m
                  · have hk3 : (k1 : Int) < (m : Int) := by omega
                    have hk0 : (0 : Int) ≤ (k1 : Int) := by omega
                    obtain ⟨bi, ci, -⟩ := HPC.out.bit him
                    obtain ⟨bk, ck, fk⟩ := HPC.out.bit hkm
                    cases bi
                    · go_wp2
                      go_roundw
                      case measure => simp [intOf]; omega
                      case rel => exact ⟨k1 + 1, by omega, by go_num, HPC.out⟩
                    · cases bk
                      · go_wp2
                        clear ci ck fk
                        go_loopw [10] (fun i W => ∃ j1 : Nat, j1 ≤ 3 ∧ i = .int .i64 j1 ∧ PS9 w m L gL cL wr.heap.size W) (fun i _ => 3 - (intOf i).toNat)
                        case atStart => exact ⟨0, by omega, rfl, HPC.out⟩
                        case round =>
                          obtain ⟨j1, hj1, rfl, hP⟩ := hrel
                          rename World => wD
                          have HPD := Lib.hid hP
                          clear hP
                          by_cases hj3 : j1 < 3
                          · have hj4 : (j1 : Int) < 3 := by omega
                            have hj0 : (0 : Int) ≤ (j1 : Int) := by omega
                            obtain ⟨x, hx⟩ := HPD.out.at_ him hj3
                            obtain ⟨a1, a2, a3, h1, h2, h3⟩ := HPD.out.three hkm
                            by_cases hxu : x = u
                            · have hxu' : (x != u) = false := by simpa using hxu
                              clear hxu
                              go_wp2
                              go_roundw
                              case measure => simp [intOf]; omega
                              case rel => exact ⟨j1 + 1, by omega, by go_num, HPD.out⟩
                            · have hxu' : (x != u) = true := by simpa using hxu
                              clear hxu
                              go_wp2_with fail
                              refine (HA.out _ _ _ _ _).mono ?_
                              rintro e w2 ⟨⟨b2, rfl⟩, hb2⟩
                              have HP2 := Lib.hid (HPD.out.le hb2)
                              obtain ⟨bk, ck, fk⟩ := HP2.out.bit hkm
                              clear hx h1 h2 h3 hb2
                              cases b2
                              · go_wp2
                                go_roundw
                                case measure => simp [intOf]; omega
                                case rel => exact ⟨j1 + 1, by omega, by go_num, HP2.out⟩
                              · go_wp2
                                go_roundw
                                case measure => simp [intOf]; omega
                                case rel => exact ⟨j1 + 1, by omega, by go_num, HP2.out.set_ _⟩
                          · obtain rfl : j1 = 3 := by omega
                            go_wp2
                            go_roundw
                            case measure => simp [intOf]; omega
                            case rel => exact ⟨k1 + 1, by omega, by go_num, HPD.out⟩
                      · go_wp2
                        go_roundw
                        case measure => simp [intOf]; omega
                        case rel => exact ⟨k1 + 1, by omega, by go_num, HPC.out⟩
                  · obtain rfl : k1 = m := by omega
                    go_wp2
                    go_roundw
                    case measure => simp [intOf]; omega
                    case rel => exact ⟨i1 + 1, by omega, by go_num, HPC.out⟩
              · obtain rfl : i1 = m := by omega
                go_wp2
                go_roundw
                case measure => simp [intOf]; omega
                case rel => exact ⟨q + 1, by omega, by go_num, HPB.out⟩
          · obtain rfl : q = m := by omega
            go_wp2
            go_loopw [12] (fun i W => ∃ i1 : Nat, i1 ≤ q ∧ i = .int .i64 i1 ∧ PS9 w q L gL cL wr.heap.size W) (fun i _ => q - (intOf i).toNat)
            case atStart => exact ⟨0, by omega, rfl, HPA.out⟩
            case round =>
              obtain ⟨i1, hi1, rfl, hP⟩ := hrel
              rename World => wB
              have HPB := Lib.hid hP
              clear hP
              by_cases him : i1 < q
              · have hi3 : (i1 : Int) < (q : Int) := by omega
                have hi0 : (0 : Int) ≤ (i1 : Int) := by omega
                obtain ⟨bi, ci, -⟩ := HPB.out.bit him
                cases bi
                · go_wp2
                  go_ret
                  exact ⟨⟨_, rfl⟩, HPB.out.below⟩
                · go_wp2
                  go_roundw
                  case measure => simp [intOf]; omega
                  case rel => exact ⟨i1 + 1, by omega, by go_num, HPB.out⟩
              · obtain rfl : i1 = q := by omega
                go_wp2
                go_ret
                exact ⟨⟨_, rfl⟩, HPB.out.below⟩
end Go.Proofs.YtpnkhgjjlionnaaGreat
