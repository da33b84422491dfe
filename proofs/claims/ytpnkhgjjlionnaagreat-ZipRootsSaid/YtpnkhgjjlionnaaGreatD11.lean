/-
  Texts joined by program, what the law uses alone: ZRoots ZWk.
-/
import Derived.Deep.DeepCutAuto
import Derived.Test.YtpnkhgjjlionnaaGreatD10
namespace Go.Proofs.YtpnkhgjjlionnaaGreat.Zp
open Go.RowKit Go.Maps

theorem toList_eq9 {a b : ByteArray} (h : a.toList = b.toList) : a = b := by
  rw [ByteArray.toList_eq, ByteArray.toList_eq] at h
  exact ByteArray.ext (Array.toList_inj.mp h)
/-- The word from one corner is zipped to a surface that has a corner with any other one's word. -/
theorem roots_plain {N : Nat} {T : List Tr} {a b : Nat} (h : Simp N T) (ha : a < 3 * T.length) (hb : b < 3 * T.length) (hS : Simp ((zipW T a).n : Int) (zipW T a).T) (hl : (zipW T a).T.length = T.length) : ∃ c, c < 3 * T.length ∧ wordS (stepsM (zipW T a).T c) = wordS (stepsM T b) := by
  obtain ⟨h1, h2⟩ := zipW_tri h ha
  obtain ⟨hP, f, hI⟩ := pick_surf h.surf (cornW_all h ha)
  have hml : (pickM T (cornW T a)).length = T.length := by rw [← h1, List.length_map, hl]
  obtain ⟨c, hc, e⟩ := hI.surj (d := b) (by rw [hml]; exact hb)
  rw [hml] at hc
  refine ⟨c, hc, ?_⟩
  -- the zipped one and the picked one are one but for numbers
  have hJ : Iso (zipW T a).T (pickM T (cornW T a)) id (vOf T a) := by
    refine ⟨by rw [hml, hl], fun _ h => h, fun _ _ _ _ h => h, fun _ _ => rfl, fun d hd => ?_, fun d d' hd hd' e => ?_⟩
    · rw [← h1, id, vert_ren hd]
    · have q1 := vert_inr hS.surf hd
      have q2 := vert_inr hS.surf hd'
      unfold inR at q1 q2
      have hlen := walkV_len h ha
      have hnd := walkV_nodup h ha
      unfold vOf at e
      have := getD_inj hnd (by rw [hlen]; omega) (by rw [hlen]; omega) e
      omega
  have hK := hJ.trans hI
  have hst := hK.steps hS h (c := c) (by rw [hl]; exact hc)
  simp only [id, e] at hst
  unfold wordS
  rw [hst, List.map_map]
  rfl
set_option maxRecDepth 100000 in
set_option maxHeartbeats 4000000 in
theorem zipRoots_walk (N : Int) (v : Value) (T : List Tr) (a b : Int) (w : World) (h : TrisRd w v T) :
    Calls Tryz.prog 7 #[.agg #[.int .i64 N, v], .int .i64 a, .int .i64 b] w fun e w' => e = .returned (.bool true) ∧ Below w.heap.size w w' := by
  have b1 := Blk.new w 24 #[.int .i64 N, v]
  have hB0 : Below w.heap.size w (w.alloc (.cells #[.int .i64 N, v] 24)) := (Below.refl _ _).alloc (Nat.le_refl _) _
  have HRd := Lib.hid (fun (W : World) (hW : Below w.heap.size w W) => h.below hW)
  obtain ⟨aT, cT, rfl, -⟩ := h
  have HB0 := Lib.hid hB0
  have Hb1 := Lib.hid b1
  obtain ⟨F, hF⟩ : ∃ F, T.length = F := ⟨_, rfl⟩
  have HFl := Lib.hid hF
  rw [hF] at HB0 Hb1 b1 HRd ⊢
  clear hB0 hF
  obtain ⟨l0, x0, -, x1, -⟩ := b1.two
  clear b1
  go_enter Tryz.func7, Tryz.ntmps7
  go_wp2_with fail
  refine (awake23_any _).mono ?_
  rintro en w1 ⟨rfl, hb1⟩
  have HS1 := Lib.hid (Hb1.out.below hb1 l0)
  have HB1 := Lib.hid (HB0.out.trans (hb1.mono HB0.out.size))
  clear hb1 x0 x1 l0 Hb1 HB0
  obtain ⟨l0, x0, -, x1, -⟩ := HS1.out.two
  by_cases hbig : 16 < F
  · have hb : (16 : Int) < (F : Int) := by omega
    go_wp2
    go_ret
    exact ⟨rfl, HB1.out⟩
  by_cases hbN : 30 < N
  · have hb : ¬ (16 : Int) < (F : Int) := by omega
    go_wp2
    go_ret
    exact ⟨rfl, HB1.out⟩
  have hb : ¬ (16 : Int) < (F : Int) := by omega
  have hF16 : F ≤ 16 := by omega
  have HNew := Lib.hid (new_or N (.slice aT F cT) T w1 (HRd.out _ HB1.out) (by rw [HFl.out]; omega))
  clear hbig
  go_wp2_with fail
  refine HNew.out.mono ?_
  rintro e w2 ⟨p, q1, q2, q3, rfl, hTab, hb2⟩
  have hAw := (Below.refl w2.heap.size w2).alloc (Nat.le_refl _) (.cells #[.int .i64 q1, .int .i64 q2, .int .i64 q3] 35)
  have hT3 := hTab.below hAw
  have HB3 := Lib.hid (below_on (below_on HB1.out HB1.out.size hb2) (below_on HB1.out HB1.out.size hb2).size hAw)
  clear HNew hTab hb2 hAw x0 x1 l0 HS1
  generalize hW3 : (w2.alloc (.cells #[.int .i64 q1, .int .i64 q2, .int .i64 q3] 35)) = w3 at *
  have HW1 := Lib.hid (walk_tot a hT3 (by rw [HFl.out]; omega))
  have HT3 := Lib.hid hT3
  clear hT3
  go_wp2_with fail
  refine HW1.out.mono ?_
  rintro e w4 hx
  rcases hx with ⟨k, rfl, hk, hSi, vV, vC, rfl, hV, hC, hb4⟩ | ⟨-, z, hz, rfl, hb4⟩
  · obtain ⟨aV, cV, rfl⟩ := ownsRow_slice hV
    obtain ⟨aC, cC, rfl⟩ := ownsRow_slice hC
    clear hV hC
    have HSi := Lib.hid hSi
    obtain ⟨nV, hnV⟩ : ∃ nV, ((beginS T k).come ++ newV T (stepsM T k)).length = nV := ⟨_, rfl⟩
    obtain ⟨nC, hnC⟩ : ∃ nC, (stepsM T k).length.succ = nC := ⟨_, rfl⟩
    rw [hnV, hnC]
    clear hnV hnC
    obtain ⟨s1, hs1⟩ : ∃ s1, wordS (stepsM T k) = s1 := ⟨_, rfl⟩
    rw [hs1]
    have HS1 := Lib.hid hs1
    have HK := Lib.hid hk
    have hA4 := (Below.refl w4.heap.size w4).alloc (Nat.le_refl _) (.cells #[.string s1, .slice aV nV cV, .slice aC nC cC] 39)
    have HB5 := Lib.hid (below_on (below_on HB3.out HB3.out.size hb4) (below_on HB3.out HB3.out.size hb4).size hA4)
    have hT5 := (HT3.out.below hb4).below hA4
    have kx := Blk.new w4 39 #[.string s1, .slice aV nV cV, .slice aC nC cC]
    clear hs1 hk hSi hb4 hA4
    generalize hW5 : (w4.alloc (.cells #[.string s1, .slice aV nV cV, .slice aC nC cC] 39)) = w5 at *
    have HW2 := Lib.hid (walk_tot b hT5 (by rw [HFl.out]; omega))
    have KX5 := Lib.hid kx
    clear hT5 kx
    go_wp2_with fail
    refine HW2.out.mono ?_
    rintro e w6 hx
    rcases hx with ⟨k2, rfl, hk2, -, vV2, vC2, rfl, hV2, hC2, hb6⟩ | ⟨-, z, hz, rfl, hb6⟩
    · obtain ⟨aV2, cV2, rfl⟩ := ownsRow_slice hV2
      obtain ⟨aC2, cC2, rfl⟩ := ownsRow_slice hC2
      clear hV2 hC2
      obtain ⟨nV2, hnV⟩ : ∃ nV, ((beginS T k2).come ++ newV T (stepsM T k2)).length = nV := ⟨_, rfl⟩
      obtain ⟨nC2, hnC⟩ : ∃ nC, (stepsM T k2).length.succ = nC := ⟨_, rfl⟩
      rw [hnV, hnC]
      clear hnV hnC
      obtain ⟨s2, hs2⟩ : ∃ s2, wordS (stepsM T k2) = s2 := ⟨_, rfl⟩
      rw [hs2]
      have HS2 := Lib.hid hs2
      have HK2 := Lib.hid hk2
      have hA6 := (Below.refl w6.heap.size w6).alloc (Nat.le_refl _) (.cells #[.string s2, .slice aV2 nV2 cV2, .slice aC2 nC2 cC2] 39)
      have HB7 := Lib.hid (below_on (below_on HB5.out HB5.out.size hb6) (below_on HB5.out HB5.out.size hb6).size hA6)
      have kx := ((KX5.out.below hb6 KX5.out.lt).below hA6 (KX5.out.below hb6 KX5.out.lt).lt)
      have ky := Blk.new w6 39 #[.string s2, .slice aV2 nV2 cV2, .slice aC2 nC2 cC2]
      clear hs2 hk2 hb6 hA6
      generalize hW7 : (w6.alloc (.cells #[.string s2, .slice aV2 nV2 cV2, .slice aC2 nC2 cC2] 39)) = w7 at *
      have KX7 := Lib.hid kx
      have KY7 := Lib.hid ky
      obtain ⟨lx, t0, -⟩ := kx.three
      clear kx ky
      go_wp2_with fail
      have hn : ∃ n : Nat, N = n := ⟨N.toNat, by have := HSi.out.surf.n0; omega⟩
      have hzz : lettersOf s1 = lettersW T k := by
        obtain ⟨n, rfl⟩ := hn
        rw [← HS1.out]
        exact letters_word HSi.out HK.out
      have hsz : s1.size ≤ 1000 := by
        obtain ⟨n, rfl⟩ := hn
        have h1 := walk_len HSi.out HK.out
        rw [← HS1.out, size_word]
        have := HFl.out
        omega
      refine (zip_two s1 hsz _).mono ?_
      rintro e w8 ⟨hb8, hz⟩
      obtain ⟨n, rfl⟩ := hn
      rcases hz with ⟨hz, -⟩ | ⟨-, hR, hf, n', T', v', hn', hT', hS', hl', hr', rfl⟩
      · exfalso
        have : zipsM (lettersOf s1) = true := by rw [hzz]; exact zipsM_all (walk_right HSi.out HK.out) (walk_fits HSi.out HK.out)
        rw [this] at hz
        cases hz
      · have hTz : T' = (zipW T k).T := by rw [hT', hzz]; rfl
        have hnz : n' = (zipW T k).n := by rw [hn', hzz]; rfl
        have hF' : T'.length = F := by
          have h1 := walk_len HSi.out HK.out
          rw [hl', ← HS1.out, size_word, ← HFl.out]
          exact h1
        obtain ⟨c0, hc0, hw0⟩ := roots_plain HSi.out HK.out HK2.out (by rw [← hnz, ← hTz]; exact hS') (by rw [← hTz, hF', HFl.out])
        rw [HFl.out] at hc0
        rw [← hTz, HS2.out] at hw0
        have HW0 := Lib.hid hw0
        have HS' := Lib.hid hS'
        have hR8 := TrisRd.of_row hr'
        obtain ⟨aZ, cZ, rfl⟩ := ownsRow_slice hr'
        rw [hF'] at hr' ⊢
        rw [hF'] at hR8
        have hA8 := (Below.refl w8.heap.size w8).alloc (Nat.le_refl _) (.cells #[.int .i64 (n' : Int), .slice aZ F cZ] 24)
        have kz := Blk.new w8 24 #[.int .i64 (n' : Int), .slice aZ F cZ]
        have HB9 := Lib.hid (below_on (below_on HB7.out HB7.out.size hb8) (below_on HB7.out HB7.out.size hb8).size hA8)
        have hKX := (KX7.out.below hb8 KX7.out.lt).below hA8 (KX7.out.below hb8 KX7.out.lt).lt
        have hKY := (KY7.out.below hb8 KY7.out.lt).below hA8 (KY7.out.below hb8 KY7.out.lt).lt
        have HNw := Lib.hid (new_or (n' : Int) (.slice aZ F cZ) T' _ (hR8.below hA8) (by rw [hF']; omega))
        have KZ := Lib.hid kz
        have KX9 := Lib.hid hKX
        have KY9 := Lib.hid hKY
        have HF' := Lib.hid hF'
        have H0 := Lib.hid (show c0 < 3 * F from hc0)
        clear t0 lx hzz hsz hR hf hn' hT' hS' hl' hr' hTz hnz hF' hR8 hA8 kz hKX hKY hb8 hw0 hc0
        generalize hW9 : (w8.alloc (.cells #[.int .i64 (n' : Int), .slice aZ F cZ] 24)) = w9 at *
        obtain ⟨lz, z0, -, z1, -⟩ := KZ.out.two
        go_wp2_with fail
        refine HNw.out.mono ?_
        rintro e w10 ⟨pz, y1, y2, y3, rfl, hTab, hb10⟩
        rcases hTab with ⟨g, n2, hnn, rfl, hTab, -⟩ | ⟨-, hno⟩
        · obtain rfl : n' = n2 := by omega
          have hA10 := (Below.refl w10.heap.size w10).alloc (Nat.le_refl _) (.cells #[.int .i64 y1, .int .i64 y2, .int .i64 y3] 35)
          have hKY := (KY9.out.below hb10 KY9.out.lt).below hA10 (KY9.out.below hb10 KY9.out.lt).lt
          have hKZ := (KZ.out.below hb10 KZ.out.lt).below hA10 (KZ.out.below hb10 KZ.out.lt).lt
          have HTb := Lib.hid (hTab.below hA10)
          have HB11 := Lib.hid (below_on (below_on HB9.out HB9.out.size hb10) (below_on HB9.out HB9.out.size hb10).size hA10)
          have KZ11 := Lib.hid hKZ
          have KY11 := Lib.hid hKY
          clear z0 z1 lz hnn hTab hA10 hKY hKZ hb10 HNw KX9 KY9 KZ
          generalize hW11 : (w10.alloc (.cells #[.int .i64 y1, .int .i64 y2, .int .i64 y3] 35)) = w11 at *
          go_wp2
          go_loopw [18] (fun i wr => ∃ j : Nat, j ≤ 3 * F ∧ i = .int .i64 j ∧ (∀ c, c < j → wordS (stepsM T' c) ≠ s2) ∧ Below w11.heap.size w11 wr) (fun i _ => 3 * F - (intOf i).toNat)
          case atStart => exact ⟨0, Nat.zero_le _, rfl, fun c hc => absurd hc (Nat.not_lt_zero _), Below.refl _ _⟩
          case round =>
            rename World => wr
            obtain ⟨j, hj, rfl, hno, hbr⟩ := hrel
            have hKZ := KZ11.out.below hbr KZ11.out.lt
            have hKY := KY11.out.below hbr KY11.out.lt
            obtain ⟨lz, z0, -, z1, -⟩ := hKZ.two
            obtain ⟨ly, u0, -⟩ := hKY.three
            by_cases hjF : j < 3 * F
            · have hj3 : (j : Int) < 3 * (F : Int) := by omega
              have HWj := Lib.hid (walk_any HS'.out (HTb.out.below hbr) (c := j) (by rw [HF'.out]; exact hjF))
              have HNo := Lib.hid hno
              have HBr := Lib.hid hbr
              clear hno hbr
              go_wp2_with fail
              refine HWj.out.mono ?_
              rintro e w12 ⟨vVj, vCj, rfl, hVj, hCj, hb12⟩
              obtain ⟨aVj, cVj, rfl⟩ := ownsRow_slice hVj
              obtain ⟨aCj, cCj, rfl⟩ := ownsRow_slice hCj
              clear hVj hCj
              obtain ⟨nVj, hnV⟩ : ∃ nV, ((beginS T' j).come ++ newV T' (stepsM T' j)).length = nV := ⟨_, rfl⟩
              obtain ⟨nCj, hnC⟩ : ∃ nC, (stepsM T' j).length.succ = nC := ⟨_, rfl⟩
              obtain ⟨s3, hs3⟩ : ∃ s3, wordS (stepsM T' j) = s3 := ⟨_, rfl⟩
              rw [hnV, hnC, hs3]
              have HS3 := Lib.hid hs3
              have hA12 := (Below.refl w12.heap.size w12).alloc (Nat.le_refl _) (.cells #[.string s3, .slice aVj nVj cVj, .slice aCj nCj cCj] 39)
              have HB13 := Lib.hid (below_on (below_on HBr.out HBr.out.size hb12) (below_on HBr.out HBr.out.size hb12).size hA12)
              have hKY2 := (hKY.below hb12 hKY.lt).below hA12 (hKY.below hb12 hKY.lt).lt
              have kt := Blk.new w12 39 #[.string s3, .slice aVj nVj cVj, .slice aCj nCj cCj]
              clear hnV hnC hs3 z0 z1 lz u0 ly hKZ hKY hb12 hA12 HWj
              generalize hW13 : (w12.alloc (.cells #[.string s3, .slice aVj nVj cVj, .slice aCj nCj cCj] 39)) = w13 at *
              obtain ⟨ly, u0, -⟩ := hKY2.three
              obtain ⟨lt, v0, -⟩ := kt.three
              clear hKY2 kt
              by_cases he : s3 = s2
              · subst he
                have hq : (s3.toList == s3.toList) = true := by simp
                go_wp2
                go_ret
                exact ⟨rfl, below_on HB11.out HB11.out.size HB13.out⟩
              · have hq : (s3.toList == s2.toList) = false := by
                  rw [beq_eq_false_iff_ne]
                  exact fun h => he (toList_eq9 h)
                have HE := Lib.hid he
                clear he
                go_wp2
                go_roundw
                case measure => simp [intOf]; omega
                case rel =>
                  refine ⟨j + 1, by omega, by go_num, fun c hc => ?_, HB13.out⟩
                  by_cases hcj : c < j
                  · exact HNo.out c hcj
                  · obtain rfl : c = j := by omega
                    rw [HS3.out]
                    exact HE.out
            · exfalso
              exact hno c0 (by have := H0.out; omega) HW0.out
        · exact absurd HS'.out.surf hno
    · have hzn : (z != 0) = true := by rw [bne, hz]; rfl
      have HB6 := Lib.hid (below_on HB5.out HB5.out.size hb6)
      clear hb6 HW2
      go_wp2
      go_ret
      exact ⟨rfl, HB6.out.alloc HB6.out.size _⟩
  · have hzn : (z != 0) = true := by rw [bne, hz]; rfl
    have HB4 := Lib.hid (below_on HB3.out HB3.out.size hb4)
    have hA4 := (Below.refl w4.heap.size w4).alloc (Nat.le_refl _) (.cells #[.string ByteArray.empty, .slice none 0 0, .slice none 0 0] 39)
    have HB5 := Lib.hid (below_on HB4.out HB4.out.size hA4)
    have HW2 := Lib.hid (walk_tot b ((HT3.out.below hb4).below hA4) (by rw [HFl.out]; omega))
    clear hb4 hA4
    go_wp2_with fail
    refine HW2.out.mono ?_
    rintro e w6 hx
    rcases hx with ⟨k2, rfl, hk2, -, vV2, vC2, rfl, hV2, hC2, hb6⟩ | ⟨-, z2, hz2, rfl, hb6⟩
    · obtain ⟨aV2, cV2, rfl⟩ := ownsRow_slice hV2
      obtain ⟨aC2, cC2, rfl⟩ := ownsRow_slice hC2
      clear hV2 hC2
      obtain ⟨nV2, hnV⟩ : ∃ nV, ((beginS T k2).come ++ newV T (stepsM T k2)).length = nV := ⟨_, rfl⟩
      obtain ⟨nC2, hnC⟩ : ∃ nC, (stepsM T k2).length.succ = nC := ⟨_, rfl⟩
      obtain ⟨s2, hs2⟩ : ∃ s2, wordS (stepsM T k2) = s2 := ⟨_, rfl⟩
      rw [hnV, hnC, hs2]
      have HB6 := Lib.hid (below_on HB5.out HB5.out.size hb6)
      clear hnV hnC hs2 hb6 HW2 hk2
      go_wp2
      go_ret
      exact ⟨rfl, HB6.out.alloc HB6.out.size _⟩
    · have HB6 := Lib.hid (below_on HB5.out HB5.out.size hb6)
      clear hb6 HW2
      go_wp2
      go_ret
      exact ⟨rfl, HB6.out.alloc HB6.out.size _⟩
end Go.Proofs.YtpnkhgjjlionnaaGreat.Zp
namespace Go.Proofs.YtpnkhgjjlionnaaGreat.Zp
open Go.RowKit Go.Maps

/-- The zipped triangle of each place: the one come to there, in the numbers of the walk. -/
theorem walked_at {n : Nat} {T : List Tr} {k : Nat} (h : Simp n T) (hk : k < 3 * T.length) {i : Nat} (hi : i < T.length) {x y z : Int} (ht : (zipW T k).T[i]? = some (x, y, z)) :
    ∃ d : Nat, d < 3 * T.length ∧ (walkC T k)[i]? = some (d : Int) ∧ vOf T k x = vertN T d ∧ vOf T k y = vertN T (Jor.nx d) ∧ vOf T k z = vertN T (Jor.pv d) := by
  obtain ⟨d, h1, h2, -⟩ := walkC_at h hk hi
  refine ⟨d, h2, h1, ?_⟩
  have hc : (cornW T k)[i]? = some d := by
    have e : cornW T k = (walkC T k).map Int.toNat := by
      unfold cornW walkC
      rw [List.map_cons, List.map_map, Int.toNat_natCast]
      rfl
    rw [e, List.getElem?_map, h1]
    rfl
  have h3 : ((zipW T k).T.map (renT (vOf T k)))[i]? = some (turnAt T d) := by
    rw [(zipW_tri h hk).1, pickM, List.getElem?_map, hc]
    rfl
  rw [List.getElem?_map, ht] at h3
  have h4 : renT (vOf T k) (x, y, z) = turnAt T d := Option.some.inj h3
  unfold renT turnAt at h4
  simp only [Prod.mk.injEq] at h4
  exact h4
set_option maxRecDepth 100000 in
set_option maxHeartbeats 8000000 in
theorem zipWalked_walk (N : Int) (v : Value) (T : List Tr) (a : Int) (w : World) (h : TrisRd w v T) :
    Calls Tryz.prog 5 #[.agg #[.int .i64 N, v], .int .i64 a] w fun e w' => e = .returned (.bool true) ∧ Below w.heap.size w w' := by
  have b1 := Blk.new w 24 #[.int .i64 N, v]
  have hB0 : Below w.heap.size w (w.alloc (.cells #[.int .i64 N, v] 24)) := (Below.refl _ _).alloc (Nat.le_refl _) _
  have HRd := Lib.hid (fun (W : World) (hW : Below w.heap.size w W) => h.below hW)
  obtain ⟨aT, cT, rfl, -⟩ := h
  have HB0 := Lib.hid hB0
  have Hb1 := Lib.hid b1
  obtain ⟨F, hF⟩ : ∃ F, T.length = F := ⟨_, rfl⟩
  have HFl := Lib.hid hF
  rw [hF] at HB0 Hb1 b1 HRd ⊢
  clear hB0 hF
  obtain ⟨l0, x0, -, x1, -⟩ := b1.two
  clear b1
  go_enter Tryz.func5, Tryz.ntmps5
  go_wp2_with fail
  refine (awake23_any _).mono ?_
  rintro en w1 ⟨rfl, hb1⟩
  have HS1 := Lib.hid (Hb1.out.below hb1 l0)
  have HB1 := Lib.hid (HB0.out.trans (hb1.mono HB0.out.size))
  clear hb1 x0 x1 l0 Hb1 HB0
  obtain ⟨l0, x0, -, x1, -⟩ := HS1.out.two
  by_cases hbig : 40 < F
  · have hb : (40 : Int) < (F : Int) := by omega
    go_wp2
    go_ret
    exact ⟨rfl, HB1.out⟩
  by_cases hbN : 60 < N
  · have hb : ¬ (40 : Int) < (F : Int) := by omega
    go_wp2
    go_ret
    exact ⟨rfl, HB1.out⟩
  have hb : ¬ (40 : Int) < (F : Int) := by omega
  have hF40 : F ≤ 40 := by omega
  have HNew := Lib.hid (new_or N (.slice aT F cT) T w1 (HRd.out _ HB1.out) (by rw [HFl.out]; omega))
  clear hbig
  go_wp2_with fail
  refine HNew.out.mono ?_
  rintro e w2 ⟨p, q1, q2, q3, rfl, hTab, hb2⟩
  have hAw := (Below.refl w2.heap.size w2).alloc (Nat.le_refl _) (.cells #[.int .i64 q1, .int .i64 q2, .int .i64 q3] 35)
  have hT3 := hTab.below hAw
  have hS3 := (HS1.out.below hb2 l0).below hAw (HS1.out.below hb2 l0).lt
  have HB3 := Lib.hid (below_on (below_on HB1.out HB1.out.size hb2) (below_on HB1.out HB1.out.size hb2).size hAw)
  clear HNew hTab hb2 hAw x0 x1 l0 HS1
  generalize hW3 : (w2.alloc (.cells #[.int .i64 q1, .int .i64 q2, .int .i64 q3] 35)) = w3 at *
  have HW1 := Lib.hid (walk_tot a hT3 (by rw [HFl.out]; omega))
  have HT3 := Lib.hid hT3
  have HS3 := Lib.hid hS3
  clear hT3 hS3
  go_wp2_with fail
  refine HW1.out.mono ?_
  rintro e w4 hx
  rcases hx with ⟨k, rfl, hk, hSi, vV, vC, rfl, hV, hC, hb4⟩ | ⟨-, z, hz, rfl, hb4⟩
  · obtain ⟨n, rfl⟩ : ∃ n : Nat, N = n := ⟨N.toNat, by have := hSi.surf.n0; omega⟩
    rcases HT3.out with ⟨g, n2, hnn, rfl, hTab, -⟩ | ⟨-, hno⟩
    rotate_left
    · exact absurd hSi.surf hno
    obtain rfl : n = n2 := by omega
    have hVl : ((beginS T k).come ++ newV T (stepsM T k)).length = n := walkV_len hSi hk
    have hCl : (stepsM T k).length.succ = F := by rw [← HFl.out]; exact walk_len hSi hk
    have hn9 : n ≤ 4096 := by have := hSi.surf.n1; omega
    have hn3 : 3 ≤ n := by have := hSi.euler; omega
    have hFp : 0 < F := by have := hSi.pos; rw [HFl.out] at this; exact this
    rw [hVl] at hV
    rw [hCl] at hC
    obtain ⟨gV, cV, rfl, -, -⟩ := hV.form (by omega)
    obtain ⟨gC, cC, rfl, -, -⟩ := hC.form (by omega)
    have HSi := Lib.hid hSi
    obtain ⟨s1, hs1⟩ : ∃ s1, wordS (stepsM T k) = s1 := ⟨_, rfl⟩
    rw [hs1]
    have HS1 := Lib.hid hs1
    have HK := Lib.hid hk
    have hA4 := (Below.refl w4.heap.size w4).alloc (Nat.le_refl _) (.cells #[.string s1, .slice (some ⟨gV, 0, none⟩) n cV, .slice (some ⟨gC, 0, none⟩) F cC] 39)
    have HB5 := Lib.hid (below_on (below_on HB3.out HB3.out.size hb4) (below_on HB3.out HB3.out.size hb4).size hA4)
    have HT5 := Lib.hid ((hTab.below hb4).below hA4)
    have HS5 := Lib.hid ((HS3.out.below hb4 HS3.out.lt).below hA4 (HS3.out.below hb4 HS3.out.lt).lt)
    have HV5 := Lib.hid (show (w4.alloc (.cells #[.string s1, .slice (some ⟨gV, 0, none⟩) n cV, .slice (some ⟨gC, 0, none⟩) F cC] 39)).ownsRow w3.heap.size 3 1 (.slice (some ⟨gV, 0, none⟩) n cV) n (intsV (walkV T k)) from hV.alloc _)
    have HC5 := Lib.hid (show (w4.alloc (.cells #[.string s1, .slice (some ⟨gV, 0, none⟩) n cV, .slice (some ⟨gC, 0, none⟩) F cC] 39)).ownsRow w3.heap.size 3 1 (.slice (some ⟨gC, 0, none⟩) F cC) F (intsV (walkC T k)) from hC.alloc _)
    have kx := Blk.new w4 39 #[.string s1, .slice (some ⟨gV, 0, none⟩) n cV, .slice (some ⟨gC, 0, none⟩) F cC]
    have hzz : lettersOf s1 = lettersW T k := by
      rw [← hs1]
      exact letters_word hSi hk
    have hsz : s1.size + 1 = F := by rw [← hs1, size_word, ← hCl]
    have HZ := Lib.hid (fun W => zip_two s1 (by omega) W)
    have HZZ := Lib.hid hzz
    have HSZ := Lib.hid hsz
    clear hs1 hk hSi hb4 hA4 hV hC hVl hCl hTab hnn hzz hsz
    generalize hW5 : (w4.alloc (.cells #[.string s1, .slice (some ⟨gV, 0, none⟩) n cV, .slice (some ⟨gC, 0, none⟩) F cC] 39)) = w5 at *
    have KX5 := Lib.hid kx
    obtain ⟨lx, t0, -⟩ := kx.three
    clear kx
    go_wp2_with fail
    refine (HZ.out _).mono ?_
    rintro e w8 ⟨hb8, hz⟩
    rcases hz with ⟨hz, -⟩ | ⟨-, hR, hf, n', T', v', hn', hT', hS', hl', hr', rfl⟩
    · exfalso
      have : zipsM (lettersOf s1) = true := by rw [HZZ.out]; exact zipsM_all (walk_right HSi.out HK.out) (walk_fits HSi.out HK.out)
      rw [this] at hz
      cases hz
    · have hTz : T' = (zipW T k).T := by rw [hT', HZZ.out]; rfl
      have hnz : n' = n := by rw [hn', HZZ.out]; exact (zipW_tri HSi.out HK.out).2
      have hF' : T'.length = F := by rw [hl', HSZ.out]
      subst hnz
      obtain ⟨gZ, cZ, rfl, -, -⟩ := hr'.form (by omega)
      rw [hF'] at hr' ⊢
      have hA8 := (Below.refl w8.heap.size w8).alloc (Nat.le_refl _) (.cells #[.int .i64 (n' : Int), .slice (some ⟨gZ, 0, none⟩) F cZ] 24)
      have HB9 := Lib.hid (below_on (below_on HB5.out HB5.out.size hb8) (below_on HB5.out HB5.out.size hb8).size hA8)
      have HX := Lib.hid (fun (W : World) (hW : Below (w8.alloc (.cells #[.int .i64 (n' : Int), .slice (some ⟨gZ, 0, none⟩) F cZ] 24)).heap.size (w8.alloc (.cells #[.int .i64 (n' : Int), .slice (some ⟨gZ, 0, none⟩) F cZ] 24)) W) =>
        And.intro (((KX5.out.below hb8 KX5.out.lt).below hA8 (KX5.out.below hb8 KX5.out.lt).lt).below hW (by exact ((KX5.out.below hb8 KX5.out.lt).below hA8 (KX5.out.below hb8 KX5.out.lt).lt).lt))
        (And.intro (((HS5.out.below hb8 HS5.out.lt).below hA8 (HS5.out.below hb8 HS5.out.lt).lt).below hW ((HS5.out.below hb8 HS5.out.lt).below hA8 (HS5.out.below hb8 HS5.out.lt).lt).lt)
        (And.intro ((Blk.new w8 24 #[.int .i64 (n' : Int), .slice (some ⟨gZ, 0, none⟩) F cZ]).below hW (by simp))
        (And.intro (own_below9 (own_below9 (own_below9 HV5.out hb8) hA8) hW)
        (And.intro (own_below9 (own_below9 (own_below9 HC5.out hb8) hA8) hW)
        (And.intro (own_below9 (own_below9 hr' hA8) hW)
          (((HT5.out.below hb8).below hA8).below hW)))))))
      have HTz := Lib.hid hTz
      have HS' := Lib.hid hS'
      have HF' := Lib.hid hF'
      clear hR hf hn' hT' hS' hl' hr' hTz hF' hA8 hb8 HZ HV5 HC5 HS5 HT5 KX5 HT3 HS3 HW1 lx t0
      generalize hW9 : (w8.alloc (.cells #[.int .i64 (n' : Int), .slice (some ⟨gZ, 0, none⟩) F cZ] 24)) = w9 at *
      obtain ⟨hx1, hx2, hx3, -⟩ := HX.out w9 (Below.refl _ _)
      obtain ⟨e1, t0, -, t1, -, t2, -⟩ := hx1.three
      obtain ⟨e2, s0, -, s1', -⟩ := hx2.two
      obtain ⟨e3, y0, -, y1, -⟩ := hx3.two
      have eF : ((F : Int) != (F : Int)) = false := by simp
      have eN : ((n' : Int) != (n' : Int)) = false := by simp
      clear hx1 hx2 hx3
      go_wp2
      clear e1 t0 t1 t2 e2 s0 s1' e3 y0 y1 eF eN
      go_loopw [12] (fun i wr => ∃ j : Nat, j ≤ F ∧ i = .int .i64 j ∧ Below w9.heap.size w9 wr) (fun i _ => F - (intOf i).toNat)
      case atStart => exact ⟨0, Nat.zero_le _, rfl, Below.refl _ _⟩
      case round =>
        rename World => wr
        obtain ⟨j, hj, rfl, hbr⟩ := hrel
        obtain ⟨hx1, hx2, hx3, rV, rC, rZ, tb⟩ := HX.out wr hbr
        obtain ⟨e1, t0, -, t1, -, t2, -⟩ := hx1.three
        obtain ⟨e3, y0, -, y1, -⟩ := hx3.two
        have HBr := Lib.hid hbr
        clear hx1 hx2 hx3 hbr
        by_cases hjF : j < F
        · have hj3 : (j : Int) < (F : Int) := by omega
          have hj0 : (0 : Int) ≤ (j : Int) := by omega
          obtain ⟨⟨x, y, z⟩, ht⟩ : ∃ t, T'[j]? = some t := ⟨T'[j]'(by rw [HF'.out]; exact hjF), List.getElem?_eq_getElem _⟩
          obtain ⟨d, hd, hcd, vx, vy, vz⟩ := walked_at HSi.out HK.out (i := j) (by rw [HFl.out]; exact hjF) (by rw [← HTz.out]; exact ht)
          obtain ⟨⟨gx0, gx1⟩, ⟨gy0, gy1⟩, gz0, gz1⟩ := HS'.out.surf.inr _ (List.mem_of_getElem? ht)
          simp only at gx0 gx1 gy0 gy1 gz0 gz1
          obtain ⟨x, rfl⟩ : ∃ q : Nat, x = q := ⟨x.toNat, by omega⟩
          obtain ⟨y, rfl⟩ : ∃ q : Nat, y = q := ⟨y.toNat, by omega⟩
          obtain ⟨z, rfl⟩ : ∃ q : Nat, z = q := ⟨z.toNat, by omega⟩
          have cd : wr.cell? ⟨gC, j, none⟩ = some (.int .i64 (d : Int)) := by
            rw [rC.cellAt j (by omega), intsV, List.getElem?_map, hcd]
            rfl
          have HVe := Lib.hid (fun (W : World) (hW : Below wr.heap.size wr W) (q : Int) => vertex_any g n' q T W (tb.below hW).toTabS)
          have HNx := Lib.hid (next_any g n' (d : Int) T wr tb.toTabS)
          have HPv := Lib.hid (prev_any g n' (d : Int) T wr tb.toTabS)
          have hh : hasC T (d : Int) = true := hasC_true (by omega) (by omega)
          have hnx : nextI T (d : Int) = ((Jor.nx d : Nat) : Int) := by unfold nextI; simp [hh]
          have hpv : prevI T (d : Int) = ((Jor.pv d : Nat) : Int) := by unfold prevI; simp [hh]
          rw [hnx] at HNx
          rw [hpv] at HPv
          have HV0 := Lib.hid (HVe.out wr (Below.refl _ _) (d : Int))
          have HV1 := Lib.hid (HVe.out wr (Below.refl _ _) ((Jor.nx d : Nat) : Int))
          have HV2 := Lib.hid (HVe.out wr (Below.refl _ _) ((Jor.pv d : Nat) : Int))
          rw [vertI_nat hd] at HV0
          rw [vertI_nat (Jor.nx_lt hd)] at HV1
          rw [vertI_nat (Jor.pv_lt hd)] at HV2
          have lV := walkV_len HSi.out HK.out
          have vAt : ∀ q : Nat, q < n' → wr.cell? ⟨gV, q, none⟩ = some (.int .i64 (vOf T k (q : Int))) := fun q hq => by
            rw [rV.cellAt q (by omega), intsV, List.getElem?_map, List.getElem?_eq_getElem (by omega)]
            unfold vOf
            rw [Int.toNat_natCast, getD_getElem (by omega)]
            rfl
          have cx := vAt x (by omega)
          have cy := vAt y (by omega)
          have cz := vAt z (by omega)
          rw [vx] at cx
          rw [vy] at cy
          rw [vz] at cz
          obtain ⟨w0, w1', w2'⟩ := ws3_at ht
          have kx : wr.cell? ⟨gZ, j * 3, none⟩ = some (.int .i64 (x : Int)) := by rw [rZ.cellAt (j * 3) (by omega)]; exact w0
          have ky : wr.cell? ⟨gZ, j * 3 + 1, none⟩ = some (.int .i64 (y : Int)) := by rw [rZ.cellAt (j * 3 + 1) (by omega)]; exact w1'
          have kz : wr.cell? ⟨gZ, j * 3 + 2, none⟩ = some (.int .i64 (z : Int)) := by rw [rZ.cellAt (j * 3 + 2) (by omega)]; exact w2'
          have lgV := (rV.lt gV rfl).2
          have lgZ := (rZ.lt gZ rfl).2
          generalize vertN T d = X at *
          generalize vertN T (Jor.nx d) = Y at *
          generalize vertN T (Jor.pv d) = Z at *
          generalize Jor.nx d = dn at *
          generalize Jor.pv d = dp at *
          clear vx vy vz vAt w0 w1' w2' hh hnx hpv rV rC rZ tb HVe lV ht hcd
          go_upto_region 17 with (first
            | (go_at_call 22; first | (with_reducible refine HV0.out.mono ?_; rintro e w' ⟨rfl, rfl⟩) | (with_reducible refine HV1.out.mono ?_; rintro e w' ⟨rfl, rfl⟩) | (with_reducible refine HV2.out.mono ?_; rintro e w' ⟨rfl, rfl⟩))
            | (go_at_call 23; refine HNx.out.mono ?_; rintro e w' ⟨rfl, rfl⟩)
            | (go_at_call 24; refine HPv.out.mono ?_; rintro e w' ⟨rfl, rfl⟩))
          have hA := (Below.refl wr.heap.size wr).alloc (Nat.le_refl _) (.cells #[.int .i64 X, .int .i64 Y, .int .i64 Z] 60)
          have KL := Lib.hid (Blk.new wr 60 #[.int .i64 X, .int .i64 Y, .int .i64 Z])
          have HBl := Lib.hid (HBr.out.trans (hA.mono HBr.out.size))
          have HC := Lib.hid (fun (W : World) (hW : Below (wr.alloc (.cells #[.int .i64 X, .int .i64 Y, .int .i64 Z] 60)).heap.size (wr.alloc (.cells #[.int .i64 X, .int .i64 Y, .int .i64 Z] 60)) W) =>
            let hb := hA.trans (hW.mono hA.size)
            And.intro ((hb.cell (p := ⟨gZ, j * 3, none⟩) lgZ).trans kx) (And.intro ((hb.cell (p := ⟨gZ, j * 3 + 1, none⟩) lgZ).trans ky) (And.intro ((hb.cell (p := ⟨gZ, j * 3 + 2, none⟩) lgZ).trans kz)
            (And.intro ((hb.cell (p := ⟨gV, x, none⟩) lgV).trans cx) (And.intro ((hb.cell (p := ⟨gV, y, none⟩) lgV).trans cy) (And.intro ((hb.cell (p := ⟨gV, z, none⟩) lgV).trans cz)
            (KL.out.below hW (by simp))))))))
          clear kx ky kz cx cy cz hA t0 t1 t2 e1 y0 y1 e3 cd HV0 HV1 HV2 HNx HPv lgV lgZ
          generalize hWl : (wr.alloc (.cells #[.int .i64 X, .int .i64 Y, .int .i64 Z] 60)) = wl at *
          go_wp2
          go_loopw [15] (fun i wx => ∃ q : Nat, q ≤ 3 ∧ i = .int .i64 q ∧ Below wl.heap.size wl wx) (fun i _ => 3 - (intOf i).toNat)
          case atStart => exact ⟨0, Nat.zero_le _, rfl, Below.refl _ _⟩
          case round =>
            rename World => wx
            obtain ⟨q, hq, rfl, hbx⟩ := hrel
            obtain ⟨kx, ky, kz, cx, cy, cz, hL⟩ := HC.out wx hbx
            obtain ⟨el, l0, -, l1, -, l2, -⟩ := hL.three
            obtain ⟨hx1, hx2, hx3, -⟩ := HX.out wx (HBl.out.trans (hbx.mono HBl.out.size))
            obtain ⟨e1, t0, -, t1, -, t2, -⟩ := hx1.three
            obtain ⟨e3, y0, -, y1, -⟩ := hx3.two
            have HBx := Lib.hid hbx
            clear hx1 hx2 hx3 hbx hL
            have hq4 : q = 0 ∨ q = 1 ∨ q = 2 ∨ q = 3 := by omega
            rcases hq4 with rfl | rfl | rfl | rfl
            · have dx : ¬ (n' : Int) ≤ (x : Int) := by omega
              have dx0 : ¬ (x : Int) < 0 := by omega
              have dX : (X != X) = false := by simp
              push_cast
              go_upto_region 20 with fail
              go_region
              all_goals
                go_wp2
                go_roundw
                case measure => simp [intOf]
                case rel => exact ⟨1, by omega, by go_num, below_d HBx.out⟩
            · have dx : ¬ (n' : Int) ≤ (y : Int) := by omega
              have dx0 : ¬ (y : Int) < 0 := by omega
              have dX : (Y != Y) = false := by simp
              push_cast
              go_upto_region 20 with fail
              go_region
              all_goals
                go_wp2
                go_roundw
                case measure => simp [intOf]
                case rel => exact ⟨2, by omega, by go_num, below_d HBx.out⟩
            · have dx : ¬ (n' : Int) ≤ (z : Int) := by omega
              have dx0 : ¬ (z : Int) < 0 := by omega
              have dX : (Z != Z) = false := by simp
              push_cast
              go_upto_region 20 with fail
              go_region
              all_goals
                go_wp2
                go_roundw
                case measure => simp [intOf]
                case rel => exact ⟨3, by omega, by go_num, below_d HBx.out⟩
            · go_wp2
              go_roundw
              case measure => simp [intOf]; omega
              case rel => exact ⟨j + 1, by omega, by go_num, HBl.out.trans (HBx.out.mono HBl.out.size)⟩
        · obtain rfl : j = F := by omega
          go_wp2
          go_ret
          exact ⟨rfl, below_on HB9.out HB9.out.size HBr.out⟩
  · have hzn : (z != 0) = true := by rw [bne, hz]; rfl
    have HB4 := Lib.hid (below_on HB3.out HB3.out.size hb4)
    clear hb4
    go_wp2
    go_ret
    exact ⟨rfl, HB4.out.alloc HB4.out.size _⟩
end Go.Proofs.YtpnkhgjjlionnaaGreat.Zp
