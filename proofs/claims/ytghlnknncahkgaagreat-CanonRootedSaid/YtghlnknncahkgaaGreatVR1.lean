/-
  The law CanonRooted, by walking its text.
-/
import Derived.Test.YtghlnknncahkgaaGreatV7
import Derived.Test.YtghlnknncahkgaaGreatV10
namespace Go.Proofs.YtghlnknncahkgaaGreat
open Go.RowKit Go.Maps

theorem ints_of {w : World} {base : Nat} {v : Value} {xs : List Int} {m : Nat} (h : w.ownsRow base 3 1 v m (intsV xs)) (hm : xs.length = m) : IntsRd w v xs := IntsRd.of_row h hm
set_option maxRecDepth 100000 in
set_option maxHeartbeats 4000000 in
theorem canonRooted_walk (N0 : Int) (v0 : Value) (T0 : List Tr) (c : Int) (w : World) (h0 : TrisRd w v0 T0) :
    Calls Tryz.prog 3 #[.agg #[.int .i64 N0, v0], .int .i64 c] w fun en w' => en = .returned (.bool true) ∧ Below w.heap.size w w' := by
  have hb1 := Blk.new w 24 #[.int .i64 N0, v0]
  have hB0 : Below w.heap.size w (w.alloc (.cells #[.int .i64 N0, v0] 24)) := (Below.refl _ _).alloc (Nat.le_refl _) _
  have HAw := Lib.hid (awake46_any (w.alloc (.cells #[.int .i64 N0, v0] 24)))
  have HLd := Lib.hid (fun (W : World) (hW : Below w.heap.size w W) => laid10_any N0 v0 T0 W (h0.below hW))
  have HRd := Lib.hid (fun (W : World) (hW : Below w.heap.size w W) => h0.below hW)
  obtain ⟨a0, c0, rfl, -⟩ := h0
  obtain ⟨n0, hn0⟩ : ∃ n, T0.length = n := ⟨_, rfl⟩
  rw [hn0] at hb1 hB0 HAw HLd HRd ⊢
  have Hn := Lib.hid hn0
  obtain ⟨l0, x0, -, x1, -⟩ := hb1.two
  have HB0 := Lib.hid hB0
  have HK := Lib.hid hb1
  clear hn0 hb1 hB0
  go_enter Tryz.func3, Tryz.ntmps3
  go_upto_region 3 with (go_at_call 11; go_loud (with_reducible refine HAw.out.mono ?_; rintro e w1 ⟨rfl, hb⟩))
  have hBw := HB0.out.trans (hb.mono HB0.out.size)
  have hk := HK.out.below hb l0
  obtain ⟨l1, y0, -, y1, -⟩ := hk.two
  have HK1 := Lib.hid hk
  have HB1 := Lib.hid hBw
  have HLd1 := Lib.hid (HLd.out w1 hBw)
  clear hb hk hBw x0 x1
  go_upto_if 20 with (go_at_call 12; go_loud (with_reducible refine HLd1.out.mono ?_; rintro e w2 ⟨hcase, hb2⟩; obtain ⟨p, rfl, hp⟩ : ∃ p, e = .returned (.pointer p) ∧ (p = none ∨ ∃ g, p = some ⟨g, 0, none⟩ ∧ Tab w2 g N0 T0 ∧ Surf N0 T0 ∧ n0 ≤ 40) := (by rcases hcase with he | ⟨g, he, ht, hs, hl, -⟩; exact ⟨none, he, .inl rfl⟩; exact ⟨some ⟨g, 0, none⟩, he, .inr ⟨g, rfl, ht, hs, hl⟩⟩)))
  have hB2 := HB1.out.trans (hb2.mono HB1.out.size)
  have hk2 := HK1.out.below hb2 l1
  obtain ⟨l2, z0, -, z1, -⟩ := hk2.two
  have HK2 := Lib.hid hk2
  have HB2 := Lib.hid hB2
  clear hb2 hk2 hB2 y0 y1 hcase
  rcases hp with rfl | ⟨g, rfl, ht, hs, hl⟩
  · go_wp2
    go_ret
    exact ⟨rfl, HB2.out⟩
  · have hz2 := HB2.out.size
    have hlT : T0.length ≤ 40 := by rw [Hn.out]; exact hl
    obtain ⟨TT, old, fs, HP, HQ, HLn⟩ : ∃ (TT : List Tr) (old fs : List Int), Hid (∀ W, Below w2.heap.size w2 W → Calls Tryz.prog 13 #[.pointer (some ⟨g, 0, none⟩), .int .i64 c] W fun e w' => ∃ aT cT aV cV aF cF, e = .returned (.tuple #[.agg #[.int .i64 (old.length : Int), .slice aT TT.length cT], .slice aV old.length cV, .slice aF fs.length cF]) ∧ TrisRd w' (.slice aT TT.length cT) TT ∧ IntsRd w' (.slice aV old.length cV) old ∧ IntsRd w' (.slice aF fs.length cF) fs ∧ Below W.heap.size W w') ∧
        Hid (∀ W, Below w.heap.size w W → Calls Tryz.prog 14 #[.agg #[.int .i64 N0, .slice a0 n0 c0], .int .i64 c] W fun e w' => ∃ aT cT aV cV aF cF, e = .returned (.tuple #[.agg #[.int .i64 (old.length : Int), .slice aT TT.length cT], .slice aV old.length cV, .slice aF fs.length cF]) ∧ TrisRd w' (.slice aT TT.length cT) TT ∧ IntsRd w' (.slice aV old.length cV) old ∧ IntsRd w' (.slice aF fs.length cF) fs ∧ Below W.heap.size W w') ∧ Hid (TT.length ≤ 1000 ∧ old.length ≤ 1000 ∧ fs.length ≤ 1000) := by
      cases hh : hasC T0 c with
      | true =>
        obtain ⟨d, rfl, hd⟩ := hasC_nat hh
        have hlen := rtN_lens hd
        refine ⟨(rtN T0 d).2, (rtN T0 d).1, nats (rtL T0 d), Lib.hid (fun W hW => ?_), Lib.hid (fun W hW => ?_), Lib.hid ⟨by omega, by omega, by simp [nats]; omega⟩⟩
        · refine (rooted_any g N0 T0 W d (ht.below hW) hd).mono ?_
          rintro e w' ⟨vT, vO, vC, rfl, hT, hO, hC, hb⟩
          have hnl : (nats (rtL T0 d)).length = (rtL T0 d).length := by simp [nats]
          rw [← hnl] at hC
          obtain ⟨aT, cT, rfl⟩ := ownsRow_slice hT
          obtain ⟨aV, cV, rfl⟩ := ownsRow_slice hO
          obtain ⟨aF, cF, rfl⟩ := ownsRow_slice hC
          exact ⟨aT, cT, aV, cV, aF, cF, rfl, TrisRd.of_row hT, ints_of hO rfl, ints_of hC rfl, hb⟩
        · have h9 := rooted46_any N0 d _ T0 W (HRd.out W hW) hd (by omega)
          refine h9.mono ?_
          rintro e w' ⟨vT, vO, vC, rfl, hT, hO, hC, hb⟩
          have hnl : (nats (rtL T0 d)).length = (rtL T0 d).length := by simp [nats]
          rw [← hnl] at hC
          obtain ⟨aT, cT, rfl⟩ := ownsRow_slice hT
          obtain ⟨aV, cV, rfl⟩ := ownsRow_slice hO
          obtain ⟨aF, cF, rfl⟩ := ownsRow_slice hC
          exact ⟨aT, cT, aV, cV, aF, cF, rfl, TrisRd.of_row hT, ints_of hO rfl, ints_of hC rfl, hb⟩
      | false =>
        refine ⟨[], [], [], Lib.hid (fun W hW => ?_), Lib.hid (fun W hW => ?_), Lib.hid ⟨by simp, by simp, by simp⟩⟩
        · refine (rooted_none (some ⟨g, 0, none⟩) c W (fun W' hW' => ?_)).mono ?_
          · have := vertex_any g N0 c T0 W' ((ht.below hW).below hW').toTabS
            rw [show vertI T0 c = -1 from by simp [vertI, hh]] at this
            exact this
          · rintro e w' ⟨rfl, hb⟩
            exact ⟨none, 0, none, 0, none, 0, rfl, tris_nil _, ints_nil _, ints_nil _, hb⟩
        · refine (rooted46_none N0 c _ T0 W (HRd.out W hW) hh (by omega)).mono ?_
          rintro e w' ⟨rfl, hb⟩
          exact ⟨none, 0, none, 0, none, 0, rfl, tris_nil _, ints_nil _, ints_nil _, hb⟩
    have HZ := Lib.hid (fun (W : World) => rooted_none none c W (fun W' _ => vertex_nil c W'))
    clear ht hs hl hlT
    go_upto_region 7 with (go_at_call 13; go_loud (with_reducible refine (HP.out w2 (Below.refl _ _)).mono ?_; rintro e w3 ⟨aT, cT, aV, cV, aF, cF, rfl, hT3, hV3, hF3, hb3⟩))
    have hA3 := (Below.refl w3.heap.size w3).alloc (Nat.le_refl _) (.cells #[.int .i64 (old.length : Int), .slice aT TT.length cT] 24)
    have hB3 := HB2.out.trans ((hb3.trans (hA3.mono hb3.size)).mono hz2)
    have hk3 := (HK2.out.below hb3 l2).below hA3 (Nat.lt_of_lt_of_le l2 hb3.size)
    have hr3 := Blk.new w3 24 #[.int .i64 (old.length : Int), .slice aT TT.length cT]
    have hT3 := hT3.below hA3
    have hV3 := hV3.below hA3
    have hF3 := hF3.below hA3
    generalize w3.alloc (.cells #[.int .i64 (old.length : Int), .slice aT TT.length cT] 24) = W3 at *
    generalize w3.heap.size = q3 at *
    obtain ⟨l3, y0, -, y1, -⟩ := hk3.two
    have HB3 := Lib.hid hB3
    have HF3 := Lib.hid (And.intro hk3 (And.intro hr3 (And.intro hT3 (And.intro hV3 hF3))))
    have HQ3 := Lib.hid (HQ.out W3 hB3)
    have hz3 := hB3.size
    clear hA3 hB3 hk3 hr3 hT3 hV3 hF3 hb3 z0 z1 l2
    go_upto_region 8 with (go_at_call 14; go_loud (with_reducible refine HQ3.out.mono ?_; rintro e w4 ⟨aT2, cT2, aV2, cV2, aF2, cF2, rfl, hT4, hV4, hF4, hb4⟩))
    have hA4 := (Below.refl w4.heap.size w4).alloc (Nat.le_refl _) (.cells #[.int .i64 (old.length : Int), .slice aT2 TT.length cT2] 24)
    have hBB := hb4.trans (hA4.mono hb4.size)
    have hB4 := HB3.out.trans (hBB.mono hz3)
    have hr4 := HF3.out.2.1.below hBB HF3.out.2.1.lt
    have hs4 := Blk.new w4 24 #[.int .i64 (old.length : Int), .slice aT2 TT.length cT2]
    have hT4a := HF3.out.2.2.1.below hBB
    have hV4a := HF3.out.2.2.2.1.below hBB
    have hF4a := HF3.out.2.2.2.2.below hBB
    have hT4 := hT4.below hA4
    have hV4 := hV4.below hA4
    have hF4 := hF4.below hA4
    generalize w4.alloc (.cells #[.int .i64 (old.length : Int), .slice aT2 TT.length cT2] 24) = W4 at *
    generalize w4.heap.size = q4 at *
    have HB4 := Lib.hid hB4
    have HF4 := Lib.hid (And.intro hr4 (And.intro hs4 (And.intro hT4a (And.intro hV4a (And.intro hF4a (And.intro hT4 (And.intro hV4 hF4)))))))
    have HZ4 := Lib.hid (HZ.out W4)
    have hz4 := hB4.size
    clear hA4 hBB hB4 hr4 hs4 hT4a hV4a hF4a hT4 hV4 hF4 hb4 y0 y1 l3
    go_upto_region 9 with (go_at_call 13; go_loud (with_reducible refine HZ4.out.mono ?_; rintro e w5 ⟨rfl, hb5⟩))
    have hA5 := (Below.refl w5.heap.size w5).alloc (Nat.le_refl _) (.cells #[.int .i64 0, .slice none 0 0] 24)
    have hBB := hb5.trans (hA5.mono hb5.size)
    have hB5 := HB4.out.trans (hBB.mono hz4)
    obtain ⟨hr4, hs4, hT4a, hV4a, hF4a, hT4, hV4, hF4⟩ := HF4.out
    have hr5 := hr4.below hBB hr4.lt
    have hs5 := hs4.below hBB hs4.lt
    have hq5 := Blk.new w5 24 #[.int .i64 0, .slice none 0 0]
    have HR5 := Lib.hid (And.intro (hT4a.below hBB) (And.intro (hV4a.below hBB) (And.intro (hF4a.below hBB) (And.intro (hT4.below hBB) (And.intro (hV4.below hBB) (hF4.below hBB))))))
    generalize w5.alloc (.cells #[.int .i64 0, .slice none 0 0] 24) = W5 at *
    generalize w5.heap.size = q5 at *
    have HB5 := Lib.hid hB5
    have HCs := Lib.hid (fun (W : World) (hW : Below W5.heap.size W5 W) => And.intro (hr5.below hW hr5.lt).two (And.intro (hs5.below hW hs5.lt).two (hq5.below hW hq5.lt).two))
    have HSm := Lib.hid (fun (W : World) (hW : Below W5.heap.size W5 W) => (same_any (old.length : Int) (old.length : Int) _ _ TT TT W (HR5.out.1.below hW) (HR5.out.2.2.2.1.below hW) (by have := HLn.out; omega) (by have := HLn.out; omega)).mono (R' := fun e w' => e = .returned (.bool true) ∧ Below W.heap.size W w') (by
      rintro e w' ⟨he, hb⟩
      exact ⟨by simpa using he, hb⟩))
    have HRv := Lib.hid (fun (W : World) (hW : Below W5.heap.size W5 W) => rows46_same _ _ old W (HR5.out.2.1.below hW) (HR5.out.2.2.2.2.1.below hW) (by have := HLn.out; omega))
    have HRf := Lib.hid (fun (W : World) (hW : Below W5.heap.size W5 W) => rows46_same _ _ fs W (HR5.out.2.2.1.below hW) (HR5.out.2.2.2.2.2.below hW) (by have := HLn.out; omega))
    clear hA5 hBB hB5 hr4 hs4 hT4a hV4a hF4a hT4 hV4 hF4 hr5 hs5 hq5 hb5
    have hcur : Below W5.heap.size W5 W5 := Below.refl _ _
    obtain ⟨⟨r0, r1, -, r2, -⟩, ⟨s0, s1, -, s2, -⟩, ⟨u0, u1, -, u2, -⟩⟩ := HCs.out _ hcur
    go_wp2_with (first
      | (go_at_call 15; go_loud (with_reducible refine (HSm.out _ hcur).mono ?_); rintro e w9 ⟨rfl, hb9⟩; have hcur9 := hcur.trans (hb9.mono hcur.size); clear hb9 r0 r1 r2 s0 s1 s2 u0 u1 u2 hcur; have hcur := hcur9; clear hcur9; obtain ⟨⟨r0, r1, -, r2, -⟩, ⟨s0, s1, -, s2, -⟩, ⟨u0, u1, -, u2, -⟩⟩ := HCs.out _ hcur)
      | (go_at_call 16; (first | with_reducible refine (HRv.out _ hcur).mono ?_ | with_reducible refine (HRf.out _ hcur).mono ?_); rintro e w9 ⟨rfl, hb9⟩; have hcur9 := hcur.trans (hb9.mono hcur.size); clear hb9 r0 r1 r2 s0 s1 s2 u0 u1 u2 hcur; have hcur := hcur9; clear hcur9; obtain ⟨⟨r0, r1, -, r2, -⟩, ⟨s0, s1, -, s2, -⟩, ⟨u0, u1, -, u2, -⟩⟩ := HCs.out _ hcur))
    go_ret
    exact ⟨by simp, HB5.out.trans (hcur.mono HB5.out.size)⟩
end Go.Proofs.YtghlnknncahkgaaGreat
