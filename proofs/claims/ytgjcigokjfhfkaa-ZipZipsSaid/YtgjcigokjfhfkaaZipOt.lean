/-
  The law ZipOther, by walking its text.
-/
import Derived.Test.YtgjcigokjfhfkaaSame
import Derived.Test.YtgjcigokjfhfkaaOther
namespace Go.Proofs.Ytgjcigokjfhfkaa
open Go.RowKit Go.Maps

theorem lettersOf_inj {a b : ByteArray} (h : lettersOf a = lettersOf b) : a = b := by
  unfold lettersOf at h
  have h2 : a.data.toList = b.data.toList := by
    refine List.map_inj_right (f := fun b : UInt8 => (b.toNat : Int)) ?_ |>.1 h
    intro x y e
    exact UInt8.toNat_inj.1 (Int.ofNat.inj e)
  have h3 : a.data = b.data := Array.toList_inj.1 h2
  cases a
  cases b
  simp at h3
  rw [h3]
theorem bytes_toList (a b : ByteArray) : a.toList = b.toList ↔ a = b := by
  constructor
  · intro h
    have h1 : a.data.toList = b.data.toList := by rw [ByteArray.toList_eq, ByteArray.toList_eq] at h; exact h
    have h3 : a.data = b.data := Array.toList_inj.1 h1
    cases a
    cases b
    simp at h3
    rw [h3]
  · rintro rfl; rfl
theorem zipsM_right {zs : List Int} (h : zipsM zs = true) : ref24M zs = true := by
  unfold zipsM at h
  simp only [Bool.and_eq_true] at h
  exact h.1
theorem zip_not (s : ByteArray) (hs : s.size ≤ 1000) (h : zipsM (lettersOf s) = false) (w : World) :
    Calls Try.prog 24 #[.string s] w fun e w' => ∃ k er : Int, (er != 0) = true ∧ e = .returned (.tuple #[.agg #[.int .i64 0, .slice none 0 0], .int .i64 k, .int .i64 er]) ∧ Below w.heap.size w w' := by
  refine (zip_any s hs w).mono ?_
  rintro e w1 ⟨hb, h1⟩
  rcases h1 with ⟨_, r, _, rfl⟩ | ⟨_, k, _, _, _, rfl⟩ | ⟨h2, h3, _⟩
  · exact ⟨_, 3, by decide, rfl, hb⟩
  · exact ⟨_, 11, by decide, rfl, hb⟩
  · rw [zipsM_all h2 h3] at h; cases h
theorem zip_ok (s : ByteArray) (hs : s.size ≤ 1000) (h : zipsM (lettersOf s) = true) (w : World) :
    Calls Try.prog 24 #[.string s] w fun e w' => ∃ v, e = .returned (.tuple #[.agg #[.int .i64 ((zmAt (lettersOf s) (lettersOf s).length).n : Int), v], .int .i64 0, .int .i64 0]) ∧ TrisAt w' v (zmAt (lettersOf s) (lettersOf s).length).T ∧ Below w.heap.size w w' := by
  refine (zip_any s hs w).mono ?_
  rintro e w1 ⟨hb, h1⟩
  rcases h1 with ⟨h2, _⟩ | ⟨_, k, hk, _, h2, _⟩ | ⟨h2, h3, v, h4, rfl⟩
  · rw [zipsM_right h] at h2; cases h2
  · rw [zipsM_not hk h2] at h; cases h
  · exact ⟨v, rfl, ⟨w.heap.size, by rw [zmAt_T_len]; exact h4⟩, hb⟩

set_option maxRecDepth 100000 in
set_option maxHeartbeats 2000000 in
theorem zipOther_walk (a b : ByteArray) (w : World) : Calls Try.prog 10 #[.string a, .string b] w fun en w' => en = .returned (.bool true) ∧ Below w.heap.size w w' := by
  by_cases hbig : 40 < a.size
  · go_enter Try.func10, Try.ntmps10
    go_wp2_with fail
    refine (awake23_any _).mono ?_
    rintro en w1 ⟨rfl, hb1⟩
    go_wp2
    go_ret
    exact ⟨rfl, hb1⟩
  · have hs : a.size ≤ 40 := by omega
    by_cases hbig2 : 40 < b.size
    · go_enter Try.func10, Try.ntmps10
      go_wp2_with fail
      refine (awake23_any _).mono ?_
      rintro en w1 ⟨rfl, hb1⟩
      go_wp2
      go_ret
      exact ⟨rfl, hb1⟩
    · have hs2 : b.size ≤ 40 := by omega
      have hbb : decide ((40 : Int) < (a.size : Int)) = false := by simp; omega
      have hbb2 : decide ((40 : Int) < (b.size : Int)) = false := by simp; omega
      clear hbig hbig2
      cases hza : zipsM (lettersOf a)
      · go_enter Try.func10, Try.ntmps10
        go_wp2_with fail
        refine (awake23_any _).mono ?_
        rintro en w1 ⟨rfl, hb1⟩
        go_wp2_with fail
        refine (zip_not a (by omega) hza _).mono ?_
        rintro en w2 ⟨k2, er2, he2, rfl, hb2⟩
        have hB2 := below_on hb1 hb1.size hb2
        cases hzb : zipsM (lettersOf b)
        · go_wp2_with fail
          refine (zip_not b (by omega) hzb _).mono ?_
          rintro en w3 ⟨k3, er3, he3, rfl, hb3⟩
          have hB3 := below_then hB2 hB2.size hb3
          go_wp2
          go_ret
          exact ⟨rfl, hB3.alloc hB3.size _⟩
        · go_wp2_with fail
          refine (zip_ok b (by omega) hzb _).mono ?_
          rintro en w3 ⟨v3, rfl, ht3, hb3⟩
          have hB3 := below_then hB2 hB2.size hb3
          obtain ⟨a3, c3, rfl, -, -⟩ := ht3.form
          go_wp2
          go_ret
          exact ⟨rfl, hB3.alloc hB3.size _⟩
      · go_enter Try.func10, Try.ntmps10
        go_wp2_with fail
        refine (awake23_any _).mono ?_
        rintro en w1 ⟨rfl, hb1⟩
        go_wp2_with fail
        refine (zip_ok a (by omega) hza _).mono ?_
        rintro en w2 ⟨v2, rfl, ht2, hb2⟩
        have hB2 := below_on hb1 hb1.size hb2
        obtain ⟨a2, c2, rfl, -, -⟩ := ht2.form
        cases hzb : zipsM (lettersOf b)
        · go_wp2_with fail
          refine (zip_not b (by omega) hzb _).mono ?_
          rintro en w3 ⟨k3, er3, he3, rfl, hb3⟩
          have hB3 := below_then hB2 hB2.size hb3
          go_wp2
          go_ret
          exact ⟨rfl, hB3.alloc hB3.size _⟩
        · have hla : (zmAt (lettersOf a) (lettersOf a).length).T.length ≤ 100 := by rw [zmAt_T_len, lettersOf_length]; omega
          have hlb : (zmAt (lettersOf b) (lettersOf b).length).T.length ≤ 100 := by rw [zmAt_T_len, lettersOf_length]; omega
          have hab : (a.toList == b.toList) = true ↔ ((zmAt (lettersOf a) (lettersOf a).length).n : Int) = (zmAt (lettersOf b) (lettersOf b).length).n ∧ (zmAt (lettersOf a) (lettersOf a).length).T = (zmAt (lettersOf b) (lettersOf b).length).T := by
            rw [beq_iff_eq, bytes_toList]
            constructor
            · rintro rfl
              exact ⟨rfl, rfl⟩
            · intro h
              exact lettersOf_inj (other_eq (zipsM_right hza) (zipsM_right hzb) h.2)
          generalize (zmAt (lettersOf a) (lettersOf a).length).n = N1 at *
          generalize (zmAt (lettersOf a) (lettersOf a).length).T = T1 at *
          clear hza
          go_wp2_with fail
          refine (zip_ok b (by omega) hzb _).mono ?_
          rintro en w3 ⟨v3, rfl, ht3, hb3⟩
          have hB3 := below_then hB2 hB2.size hb3
          obtain ⟨a3, c3, rfl, -, -⟩ := ht3.form
          generalize (zmAt (lettersOf b) (lettersOf b).length).n = N2 at *
          generalize (zmAt (lettersOf b) (lettersOf b).length).T = T2 at *
          have hB4 := hB3.alloc hB3.size (.cells #[.int .i64 (N2 : Int), .slice a3 T2.length c3] 42)
          have k2 := ((Blk.new w2 42 #[.int .i64 (N1 : Int), .slice a2 T1.length c2]).below hb3 (by simp)).alloc (.cells #[.int .i64 (N2 : Int), .slice a3 T2.length c3] 42)
          have t2 := ((ht2.alloc (.cells #[.int .i64 (N1 : Int), .slice a2 T1.length c2] 42)).below hb3).alloc (.cells #[.int .i64 (N2 : Int), .slice a3 T2.length c3] 42)
          have t3 := ht3.alloc (.cells #[.int .i64 (N2 : Int), .slice a3 T2.length c3] 42)
          obtain ⟨l2, x0, -, x1, -⟩ := k2.two
          have HB4 := Lib.hid hB4
          have HT2 := Lib.hid t2
          have HT3 := Lib.hid t3
          have HAB := Lib.hid hab
          clear hzb hb1 hb2 hB2 ht2 ht3 hb3 hB3 hB4 k2 t2 t3 hab
          go_wp2_with fail
          refine (same_any N1 N2 _ _ T1 T2 _ HT2.out HT3.out (by omega) (by omega) (a.toList == b.toList) HAB.out).mono ?_
          rintro en w4 ⟨rfl, hb4⟩
          have hB5 := below_on HB4.out HB4.out.size hb4
          go_wp2
          go_ret
          exact ⟨by simp, hB5⟩
end Go.Proofs.Ytgjcigokjfhfkaa
