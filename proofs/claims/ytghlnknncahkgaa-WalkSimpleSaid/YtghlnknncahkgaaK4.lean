/-
  Texts joined by program: Pairs Rws.
-/
import Derived.Test.YtghlnknncahkgaaK2
import Derived.Test.YtghlnknncahkgaaK3
/-
  certify.pairs, by walking its text.
-/
namespace Go.Proofs.Ytghlnknncahkgaa
open Go.RowKit Go.Maps

def keyOk (κ : Tr) : Prop := (0 ≤ κ.1 ∧ κ.1 ≤ 8192) ∧ (0 ≤ κ.2.1 ∧ κ.2.1 ≤ 8192) ∧ (0 ≤ κ.2.2 ∧ κ.2.2 ≤ 8192)
/-- What the rows know: of each key whether it was, how many there are at most, and that the numbers are small. -/
def Had (f : Value → List Int) (P : List Tr) : Prop := (∀ κ, f (triV κ) = [] ↔ κ ∉ P) ∧ ∀ key, (f key).length ≤ P.length ∧ ∀ a ∈ f key, 0 ≤ a ∧ a ≤ 8192
theorem Had.nil : Had (fun _ => []) [] := ⟨by simp, by simp⟩
theorem Had.put {f : Value → List Int} {P : List Tr} (h : Had f P) (κ : Tr) {i : Int} (hi : 0 ≤ i ∧ i ≤ 8192) : Had (upd f (triV κ) (f (triV κ) ++ [i])) (P ++ [κ]) := by
  obtain ⟨h1, h2⟩ := h
  constructor
  · intro κ'
    by_cases e : triV κ' = triV κ
    · have e' := triV_inj e
      subst e'
      rw [upd_same]
      simp
    · rw [upd_other e, h1]
      have : κ' ≠ κ := fun e' => e (by rw [e'])
      simp [this]
  · intro key
    by_cases e : key = triV κ
    · subst e
      rw [upd_same]
      obtain ⟨a, b⟩ := h2 (triV κ)
      refine ⟨by simp; exact a, fun x hx => ?_⟩
      rcases List.mem_append.1 hx with hx | hx
      · exact b x hx
      · simp only [List.mem_singleton] at hx
        rw [hx]
        exact hi
    · rw [upd_other e]
      obtain ⟨a, b⟩ := h2 key
      exact ⟨by simp; omega, b⟩
theorem nodup_snoc {P : List Tr} {κ : Tr} : (P ++ [κ]).Nodup ↔ P.Nodup ∧ κ ∉ P := by
  rw [List.nodup_append]
  simp only [List.nodup_cons, List.not_mem_nil, not_false_eq_true, List.nodup_nil, true_and, List.mem_singleton]
  constructor
  · rintro ⟨h1, h3⟩
    exact ⟨h1, fun hm => h3 κ hm κ rfl rfl⟩
  · rintro ⟨h1, h2⟩
    refine ⟨h1, fun a ha b hb e => ?_⟩
    rw [hb] at e
    rw [e] at ha
    exact h2 ha
theorem rowSlice {w : World} {base n : Nat} {v : Value} {zs : List Int} (h : w.ownsRow base 3 1 v zs.length (intsV zs)) (hn : zs.length = n) : ∃ a c, v = .slice a n c ∧ ∀ (k : Nat) (x : Int), zs[k]? = some x → ∃ g, a = some ⟨g, 0, none⟩ ∧ g < w.heap.size ∧ w.cell? ⟨g, k, none⟩ = some (.int .i64 x) := by
  subst hn
  rcases Nat.eq_zero_or_pos zs.length with h0 | hpos
  · rcases h.2 with ⟨rfl, e0⟩ | ⟨g, cap, cur, rfl, _⟩
    · exact ⟨none, 0, by rw [h0], fun k x hk => by
        have := (List.getElem?_eq_some_iff.1 hk).1
        omega⟩
    · exact ⟨some ⟨g, 0, none⟩, cap, rfl, fun k x hk => by
        have := (List.getElem?_eq_some_iff.1 hk).1
        omega⟩
  · obtain ⟨g, cap, rfl, hb, hg⟩ := h.form hpos
    refine ⟨some ⟨g, 0, none⟩, cap, rfl, fun k x hk => ⟨g, rfl, hg, ?_⟩⟩
    have := (List.getElem?_eq_some_iff.1 hk).1
    rw [h.cellAt k (by omega), intsV, List.getElem?_map, hk]
    rfl

theorem ws3_at {ws : List Tr} {j : Nat} {a b c : Int} (h : ws[j]? = some (a, b, c)) : (ws3 ws)[j * 3]? = some (.int .i64 a) ∧ (ws3 ws)[j * 3 + 1]? = some (.int .i64 b) ∧ (ws3 ws)[j * 3 + 2]? = some (.int .i64 c) := by
  induction ws generalizing j with
  | nil => simp at h
  | cons t r ih =>
    have e : ws3 (t :: r) = [.int .i64 t.1, .int .i64 t.2.1, .int .i64 t.2.2] ++ ws3 r := by simp [ws3, flatT]
    cases j with
    | zero =>
      simp at h
      subst h
      rw [e]
      simp
    | succ j =>
      have := ih (j := j) (by simpa using h)
      rw [e]
      have h1 : (j + 1) * 3 = j * 3 + 3 := by omega
      rw [h1]
      simpa using this
theorem wfS {x : Int} (h : 0 ≤ x ∧ x ≤ 8192) : (Lit.int .i64 x).wf = true := WalkArith.wf_i64 (by omega)
theorem infoInt : (Try.prog.info? 3).map (fun i => (i.zero, i.size, i.bytes)) = some (some (.int .i64 0), 1, 8) := by kernel_rfl

set_option maxRecDepth 100000 in
set_option maxHeartbeats 4000000 in
theorem pairsTwice_any (kind : Int) (K : Tr → List Tr) (N : Int) (v : Value) (T : List Tr) (w : World) (h : TrisRd w v T) (hl : T.length ≤ 8192)
    (hK : ∀ (t : Tr) (W : World), t ∈ T → Calls Try.prog 97 #[triV t] W fun e W' => ∃ v', e = .returned v' ∧ W'.ownsRow W.heap.size 50 3 v' (K t).length (ws3 (K t)) ∧ Below W.heap.size W W')
    (hKl : ∀ t ∈ T, 0 < (K t).length ∧ (K t).length ≤ 3) (hKo : ∀ t ∈ T, ∀ κ ∈ K t, keyOk κ) :
    Calls Try.prog 96 #[.agg #[.int .i64 N, v], .int .i64 kind, .func (.func 97) #[] #[]] w fun e w' => ∃ v', e = .returned v' ∧ WitsIs w' w.heap.size v' kind (T.flatMap K).Nodup ∧ Below w.heap.size w w' := by
  obtain ⟨i1, hi', hy0, hy1, hy2⟩ := info_parts infoWit
  obtain ⟨i2, hj', hz0, hz1, hz2⟩ := info_parts infoInt
  obtain ⟨a, c, rfl, hc1, hc2, hr⟩ := h
  have HR := Lib.hid hr
  have HKc := Lib.hid hK
  have HKl := Lib.hid hKl
  have HKo := Lib.hid hKo
  have b1 := Blk.new w 24 #[.int .i64 N, .slice a T.length c]
  have hB0 : Below w.heap.size w (w.alloc (.cells #[.int .i64 N, .slice a T.length c] 24)) := (Below.refl _ _).alloc (Nat.le_refl _) _
  obtain ⟨n, hn⟩ : ∃ n, T.length = n := ⟨_, rfl⟩
  rw [hn] at hl hc1 hB0 b1 ⊢
  have HN := Lib.hid hn
  have st0 : PairSt w ((((w.alloc (.cells #[.int .i64 N, .slice a n c] 24)).alloc (.map #[] 0))).alloc (.map #[] 0)) kind (fun _ => []) [] (.slice none 0 0) [] := by
    have hm1 := Grp.made (w.alloc (.cells #[.int .i64 N, .slice a n c] 24)) Try.prog 50 3 (base := w.heap.size + 3) (by rw [size_alloc']; omega)
    have hm2 := MapB.made ((w.alloc (.cells #[.int .i64 N, .slice a n c] 24)).alloc (.map #[] 0)) Try.prog 90 4
    rw [size_alloc'] at hm1
    rw [size_alloc', size_alloc'] at hm2
    exact ⟨hm1.alloc _, hm2, World.ownsRow_nil _ _ _ _, (hB0.alloc (by rw [size_alloc']; omega) _).alloc (by rw [size_alloc', size_alloc']; omega) _, fun _ => rfl, by simp⟩
  obtain ⟨l0, x0, -, x1, -⟩ := ((b1.alloc (.map #[] 0)).alloc (.map #[] 0)).two
  have hmm := @run_makeMap Try.prog
  clear hr hn hK hKl hKo b1 hB0
  go_enter Try.func96, Try.ntmps96
  go_wp2
  clear hmm x0 x1 l0
  go_loopw [7, 22] (fun v7 i wr => ∃ (k : Nat) (v' : Value) (ws : List Tr) (f : Value → List Int) (S : List Value), v' = v7 ∧ k ≤ n ∧ i = .int .i64 k ∧ PairSt w wr kind f S v' ws ∧ Had f ((T.take k).flatMap K) ∧ ((T.take k).flatMap K).length ≤ 3 * k ∧ ws.length ≤ 3 * k * 24576 ∧ (ws = [] ↔ ((T.take k).flatMap K).Nodup)) (fun _ i _ => n - (intOf i).toNat)
  case atStart => exact ⟨0, _, [], _, _, rfl, Nat.zero_le _, rfl, st0, by simpa using Had.nil, by simp, by simp, by simp⟩
  case round =>
    clear st0
    obtain ⟨k, v', ws, f, S, rfl, hk, rfl, hst, hhad, hPl, hwl, hws⟩ := hrel
    rename World => wr
    by_cases hlt : k < n
    · obtain ⟨t, ht⟩ : ∃ t, T[k]? = some t := ⟨T[k]'(by have := HN.out; omega), List.getElem?_eq_getElem _⟩
      obtain ⟨x, y, z⟩ := t
      have hmem := List.mem_of_getElem? ht
      obtain ⟨b, o, rfl, hbl, s0, s1, s2⟩ := HR.out k x y z ht
      have s0' := (hst.b.cell (p := ⟨b, _, none⟩) hbl).trans s0
      have s1' := (hst.b.cell (p := ⟨b, _, none⟩) hbl).trans s1
      have s2' := (hst.b.cell (p := ⟨b, _, none⟩) hbl).trans s2
      have Hts : Hid ((T.take (k + 1)).flatMap K = (T.take k).flatMap K ++ K (x, y, z)) := by
        refine Lib.hid ?_
        obtain ⟨hk', he⟩ := List.getElem?_eq_some_iff.1 ht
        rw [List.take_succ_eq_append_getElem hk', he]
        simp
      have HkO := Lib.hid (HKo.out _ hmem)
      have HkC := Lib.hid (fun W => HKc.out (x, y, z) W hmem)
      obtain ⟨hL0, hL3⟩ := HKl.out _ hmem
      generalize hKt : K (x, y, z) = Kt at *
      obtain ⟨P, hP⟩ : ∃ P, (T.take k).flatMap K = P := ⟨_, rfl⟩
      rw [hP] at hhad hPl hws Hts
      have Hws := Lib.hid hws
      have Hhad := Lib.hid hhad
      have hk3 : (k : Int) < (n : Int) := by omega
      have hk0 : (0 : Int) ≤ (k : Int) := by omega
      have Hst := Lib.hid (hst.alloc (.cells #[.int .i64 x, .int .i64 y, .int .i64 z] 51))
      clear ht s0 s1 s2 hws hhad hst hmem hP hKt
      go_wp2_with fail
      refine (HkC.out _).mono ?_
      rintro e w2 ⟨vk, rfl, hrK, hbK⟩
      have Hst2 := Lib.hid (Hst.out.below hbK)
      obtain ⟨L, hL⟩ : ∃ L, Kt.length = L := ⟨_, rfl⟩
      rw [hL] at hrK hL0 hL3
      obtain ⟨gk, ck, rfl, hgk1, hgk2⟩ := hrK.form hL0
      rw [size_alloc'] at hgk1 hrK
      have Hr := Lib.hid hrK
      have HL := Lib.hid hL
      clear Hst hbK hrK hL HkC
      go_wp2
      rename World => wA
      go_loopw [7, 31] (fun v7 i wq => ∃ (j : Nat) (v' : Value) (ws : List Tr) (f : Value → List Int) (S : List Value), v' = v7 ∧ j ≤ L ∧ i = .int .i64 j ∧ PairSt w wq kind f S v' ws ∧ wq.ownsRow (wr.heap.size + 1) 50 3 (.slice (some ⟨gk, 0, none⟩) L ck) L (ws3 Kt) ∧ Had f (P ++ Kt.take j) ∧ ws.length ≤ (3 * k + j) * 24576 ∧ (ws = [] ↔ (P ++ Kt.take j).Nodup)) (fun _ i _ => L - (intOf i).toNat)
      case atStart => exact ⟨0, _, ws, f, S, rfl, Nat.zero_le _, rfl, Hst2.out, Hr.out, by simpa using Hhad.out, by omega, by simpa using Hws.out⟩
      case round =>
        clear Hst2 Hr Hws Hhad hwl
        clear ws f S
        obtain ⟨j, v', ws, f, S, rfl, hj, rfl, hst, hrK, hhad, hwl, hws⟩ := hrel
        rename World => wq
        by_cases hjl : j < L
        · obtain ⟨κ, hκ⟩ : ∃ κ, Kt[j]? = some κ := ⟨Kt[j]'(by have := HL.out; omega), List.getElem?_eq_getElem _⟩
          obtain ⟨κ1, κ2, κ3⟩ := κ
          obtain ⟨⟨o1, o2⟩, ⟨o3, o4⟩, ⟨o5, o6⟩⟩ := HkO.out _ (List.mem_of_getElem? hκ)
          simp only at o1 o2 o3 o4 o5 o6
          obtain ⟨d0, d1, d2⟩ := ws3_at hκ
          have c0 := hrK.cellAt (j * 3) (by omega)
          have c1 := hrK.cellAt (j * 3 + 1) (by omega)
          have c2 := hrK.cellAt (j * 3 + 2) (by omega)
          rw [d0] at c0
          rw [d1] at c1
          rw [d2] at c2
          have Hts2 : Hid (P ++ Kt.take (j + 1) = P ++ Kt.take j ++ [(κ1, κ2, κ3)]) := by
            refine Lib.hid ?_
            obtain ⟨hk', he⟩ := List.getElem?_eq_some_iff.1 hκ
            rw [List.take_succ_eq_append_getElem hk', he, List.append_assoc]
          have hj3 : (j : Int) < (L : Int) := by omega
          have hj0 : (0 : Int) ≤ (j : Int) := by omega
          have hPj : (P ++ Kt.take j).length ≤ 3 * k + j := by simp; omega
          have Hhad := Lib.hid hhad
          have Hws := Lib.hid hws
          have hgq := hrK.lt gk (by rfl)
          have hst1 := hst.alloc (.cells #[.int .i64 κ1, .int .i64 κ2, .int .i64 κ3] 50)
          have hrK1 := Lib.hid (hrK.alloc (.cells #[.int .i64 κ1, .int .i64 κ2, .int .i64 κ3] 50))
          have hkey := keyOf_three arrThree Try.underlying3 types_succ (wfS ⟨o1, o2⟩) (wfS ⟨o3, o4⟩) (wfS ⟨o5, o6⟩)
          have hbq := Blk.new wq 50 #[.int .i64 κ1, .int .i64 κ2, .int .i64 κ3]
          have hwq := hst.b.size
          obtain ⟨m, hm⟩ : ∃ m, (f (triV (κ1, κ2, κ3))).length = m := ⟨_, rfl⟩
          have hm1 : m ≤ 3 * k + j := by
            have := (hhad.2 (triV (κ1, κ2, κ3))).1
            omega
          have HM := Lib.hid hm
          have HMo := Lib.hid (hhad.2 (triV (κ1, κ2, κ3))).2
          clear d0 d1 d2 hws hhad hst hrK hm
          go_wp2_with (at_lookup; refine wpList_lookupG hst1.g rfl _ _ 154 33 rfl (Keyed.of_law arrThree.law) Try.underlying154 (zero_ints _) rfl _ rfl hkey ?_; intro v0 hr0; have hr0' := hr0; rw [show (.agg #[.int .i64 κ1, .int .i64 κ2, .int .i64 κ3] : Value) = triV (κ1, κ2, κ3) from rfl] at hr0'; obtain ⟨a0, c0', rfl, hc0⟩ := rowSlice hr0' HM.out)
          have Hst1 := Lib.hid hst1
          have Hr0 := Lib.hid hr0
          have hbq' := Lib.hid hbq
          clear hst1 hr0 hr0' hbq hc0 c0 c1 c2 hgq
          go_loopw [7, 39] (fun v7 i wz => ∃ (q : Nat) (v' : Value) (ws' : List Tr) (S' : List Value), v' = v7 ∧ q ≤ m ∧ i = .int .i64 q ∧ PairSt w wz kind f S' v' ws' ∧ wz.ownsRow (wr.heap.size + 1) 50 3 (.slice (some ⟨gk, 0, none⟩) L ck) L (ws3 Kt) ∧ wz.ownsRow (w.heap.size + 3) 3 1 (.slice a0 m c0') (f (triV (κ1, κ2, κ3))).length (intsV (f (triV (κ1, κ2, κ3)))) ∧ Blk wz wq.heap.size 50 #[.int .i64 κ1, .int .i64 κ2, .int .i64 κ3] ∧ ws'.length ≤ ws.length + q ∧ (ws' = [] ↔ ws = [] ∧ q = 0)) (fun _ i _ => m - (intOf i).toNat)
          case atStart => exact ⟨0, _, ws, S, rfl, Nat.zero_le _, rfl, Hst1.out, hrK1.out, Hr0.out, hbq'.out, by omega, by simp⟩
          case round =>
            clear Hst1 hrK1 Hr0 hbq'
            obtain ⟨q, v', ws', S', rfl, hq, rfl, hst, hrK, hr0, hbq, hwl', hws'⟩ := hrel
            rename World => wz
            have Hws' := Lib.hid hws'
            clear hws'
            by_cases hqm : q < m
            · obtain ⟨d, hd⟩ : ∃ d, (f (triV (κ1, κ2, κ3)))[q]? = some d := ⟨(f (triV (κ1, κ2, κ3)))[q]'(by have := HM.out; omega), List.getElem?_eq_getElem _⟩
              obtain ⟨d1, d2⟩ := HMo.out d (List.mem_of_getElem? hd)
              obtain ⟨a1, c1', e1, hcc⟩ := rowSlice hr0 HM.out
              cases e1
              obtain ⟨g0, rfl, hg0, hcell⟩ := hcc q d hd
              have hst2 := hst.alloc (.cells #[.int .i64 d, .int .i64 k] 90)
              have hkey2 := WideMaps.keyOf_pair arrPair Try.underlying3 types_succ (wfS ⟨d1, d2⟩) (wfS (x := (k : Int)) ⟨by omega, by omega⟩)
              have hq3 : (q : Int) < (m : Int) := by omega
              have hq0 : (0 : Int) ≤ (q : Int) := by omega
              have c3 : ws'.length + 1 ≤ maxLen := by unfold maxLen; omega
              have c4 : (ws'.length + 1) * 24 ≤ 140737488355328 := by omega
              have c5 : ws'.length < maxLen := by unfold maxLen; omega
              have hwz := hst.b.size
              clear hcc hd
              by_cases hp : (.agg #[.int .i64 d, .int .i64 k] : Value) ∈ S'
              · have hne : ws' ≠ [] := fun e0 => by
                  have := hst.c e0
                  rw [this] at hp
                  cases hp
                go_wp2_with (at_lookup; refine wpList_lookupB hst2.s rfl _ _ 155 rfl (Keyed.of_law arrPair.law) Try.underlying155 Try.underlying4 (zero_bool _) rfl _ rfl hkey2 ?_; intro r hir; obtain rfl : r = true := hir.2 hp)
                go_roundw
                case measure => simp [intOf]; omega
                case rel => exact ⟨q + 1, _, ws', S', rfl, by omega, by go_num, hst2, hrK.alloc _, hr0.alloc _, hbq.alloc _, by omega, ⟨fun e => absurd e hne, fun e => absurd e.2 (by omega)⟩⟩
              · go_wp2_with (first
                  | (at_lookup; refine wpList_lookupB hst2.s rfl _ _ 155 rfl (Keyed.of_law arrPair.law) Try.underlying155 Try.underlying4 (zero_bool _) rfl _ rfl hkey2 ?_; intro r hir; obtain rfl : r = false := (by cases r; rfl; exact absurd (hir.1 rfl) hp))
                  | (at_mapUpdate; refine wpList_storeB hst2.s rfl _ _ _ 155 rfl (Keyed.of_law arrPair.law) Try.underlying155 Try.underlying4 c5 rfl _ rfl rfl hkey2 ?_; intro w5 hm5 hg5; have hsz5 := hg5.size; rw [size_alloc'] at hsz5)
                  | (at_builtin; refine wpList_append_lies _ rfl (.tmp 52) (.tmp 57) 119 rfl w.heap.size 53 i1 _ 3 24 Try.underlying119 hi' hy0 hy1 hy2 rfl (by decide) _ _ _ rfl ((hst2.r.kept hg5 (row_map_ne hst2.r hst2.s.obj)).alloc _) ⟨w5.heap.size, 0, none⟩ 1 1 [.int .i64 kind, .int .i64 d, .int .i64 k] rfl rfl (World.news_of_block (heap_alloc_new _ _)) (by simp [Value.oneCell']) (by decide) c3 c4 (by rw [size_alloc']; omega) (w5.heap.size + 1) (by simp) ?_; intro g4 cap4 W4 hr4 hg4 _ _))
                go_roundw
                case measure => simp [intOf]; omega
                case rel => exact ⟨q + 1, _, ws' ++ [(kind, d, (k : Int))], _, rfl, by omega, by go_num, hst2.mark hm5 hg5 (by rw [ws3_snoc]; simpa using hr4) hg4 rfl, hst2.markRow hg5 hg4 (by decide) (hrK.alloc _), hst2.markRow hg5 hg4 (by decide) (hr0.alloc _), hst2.markBlk hg5 hg4 (by decide) (hbq.alloc _), by simp; omega, by simp⟩
            · obtain rfl : q = m := by omega
              have hst3 := hst.alloc (.cells #[.int .i64 k] 3)
              have hnb := Blk.new wz 3 #[.int .i64 k]
              have hglt := hst.g.lt
              have hrK3 := Lib.hid (hrK.alloc (.cells #[.int .i64 k] 3))
              have hmm := HM.out
              obtain ⟨bq0, bq1, -, bq2, -, bq3, -⟩ := hbq.three
              have hwz := hst.b.size
              have c6 : (f (triV (κ1, κ2, κ3))).length + 1 ≤ maxLen := by unfold maxLen; omega
              have c7 : ((f (triV (κ1, κ2, κ3))).length + 1) * 8 ≤ 140737488355328 := by omega
              clear hmm hst hrK hr0
              go_wp2_with (first
                | (refine wpList_entryG hst3.g rfl _ _ 154 33 rfl (Keyed.of_law arrThree.law) Try.underlying154 zero_ints rfl (triV (κ1, κ2, κ3)) rfl hkey ?_; intro v1 st W1 e1 e1s e1g e1r e1b; rw [size_alloc'] at e1s)
                | (at_builtin; refine wpList_append_lies _ rfl (.tmp 62) (.tmp 64) 33 rfl (w.heap.size + 3) 3 i2 _ 1 8 Try.underlying33 hj' hz0 hz1 hz2 rfl (by decide) v1 (f (triV (κ1, κ2, κ3))).length (intsV (f (triV (κ1, κ2, κ3)))) rfl e1r ⟨wz.heap.size, 0, none⟩ 1 1 [.int .i64 k] rfl rfl (World.news_of_block (hnb.grown e1 (by simp; omega))) (by simp [Value.oneCell']) (by decide) c6 c7 (by omega) (W1.heap.size) rfl ?_; intro g6 cap6 W6 hr6 hg6 hat6 _; obtain ⟨W7, hrun7, hG7, hg7⟩ := e1b W6 (.slice (some ⟨g6, 0, none⟩) ((f (triV (κ1, κ2, κ3))).length + 1) cap6) (f (triV (κ1, κ2, κ3)) ++ [(k : Int)]) hg6 (by simpa [intsV] using hr6) (hat6.imp (fun e => e.symm) (fun e => ⟨g6, rfl, by omega⟩)))
                | (refine wpList_entryStore rfl _ _ _ 154 rfl rfl rfl rfl hrun7 ?_))
              go_roundw
              case measure => simp [intOf]; omega
              case rel => exact ⟨j + 1, _, ws', _, S', rfl, by omega, by go_num, hst3.put e1 e1g e1r hg6 hg7 hG7, hst3.putRow e1 e1g e1r hg6 hg7 (by decide) hrK3.out, by rw [Hts2.out]; exact Hhad.out.put (κ1, κ2, κ3) ⟨by omega, by omega⟩, by omega, by
                rw [Hts2.out, nodup_snoc, Hws'.out, Hws.out, ← Hhad.out.1, ← HM.out, List.length_eq_zero_iff]⟩
        · obtain rfl : j = L := by omega
          have hll := HL.out
          rw [List.take_of_length_le (by omega)] at hhad hws
          have Hst := Lib.hid hst
          have Hws := Lib.hid hws
          have Hhad := Lib.hid hhad
          clear hst hws hhad hrK hll
          go_wp2
          go_roundw
          case measure => simp [intOf]; omega
          case rel => exact ⟨k + 1, _, ws, f, S, rfl, by omega, by go_num, Hst.out, by rw [Hts.out]; exact Hhad.out, by rw [Hts.out, List.length_append, HL.out]; omega, by omega, by rw [Hts.out]; exact Hws.out⟩
    · obtain rfl : k = n := by omega
      have hnn := HN.out
      rw [List.take_of_length_le (by omega)] at hws
      have Hst := Lib.hid hst
      have Hws := Lib.hid hws
      clear hst hnn hws hhad hPl
      go_wp2
      go_ret
      exact ⟨_, rfl, ⟨ws, Hst.out.r, Hws.out, Hst.out.k, by omega⟩, Hst.out.b⟩
end Go.Proofs.Ytghlnknncahkgaa
/-
  A row of rows of numbers that the call makes ('at[v] = append(at[v], i)'), each row apart; which triangles stand at a vertex.
-/
namespace Go.Proofs.Ytghlnknncahkgaa
open Go.RowKit

/-- Block g holds m slices vs, each owning its row. -/
structure Rws (w : World) (base g m : Nat) (vs : List Value) (rows : List (List Int)) : Prop where
  own : w.ownsRow base 33 1 (.slice (some ⟨g, 0, none⟩) m m) m vs
  len : rows.length = m
  row : ∀ (i : Nat) (v : Value) (r : List Int), vs[i]? = some v → rows[i]? = some r → w.ownsRow base 3 1 v r.length (intsV r)
  apart : ∀ (i j : Nat) (vi vj : Value), i ≠ j → vs[i]? = some vi → vs[j]? = some vj → vi.ownBlock = none ∨ vi.ownBlock ≠ vj.ownBlock
section
variable {w w' : World} {base g m : Nat} {vs : List Value} {rows : List (List Int)}
theorem Rws.vlen (h : Rws w base g m vs rows) : vs.length = m := by
  have := h.own.1
  omega
theorem Rws.kept {row : Option Nat} (h : Rws w base g m vs rows) (hg : w.grownBy w' row) (h1 : some g ≠ row) (h2 : ∀ v n xs, w.ownsRow base 3 1 v n xs → v.ownBlock = none ∨ v.ownBlock ≠ row) : Rws w' base g m vs rows :=
  ⟨h.own.kept hg (.inr h1), h.len, fun i v r hv hr => (h.row i v r hv hr).kept hg (h2 _ _ _ (h.row i v r hv hr)), h.apart⟩
theorem Rws.grown (h : Rws w base g m vs rows) (hg : w.grownBy w' none) : Rws w' base g m vs rows := h.kept hg (by simp) (fun v _ _ _ => by
  cases hb : v.ownBlock
  · exact .inl rfl
  · exact .inr (by simp))
theorem Rws.alloc (h : Rws w base g m vs rows) (o : Obj) : Rws (w.alloc o) base g m vs rows := h.grown (World.grownBy_alloc w o none)
theorem Rws.below (h : Rws w base g m vs rows) (hb : Below w.heap.size w w') : Rws w' base g m vs rows := h.grown (grown_of_below hb none)
/-- A row of other elements is written. -/
theorem Rws.other {base' : Nat} {e' : TypeId} {s n : Nat} {v : Value} {xs : List Value} (h : Rws w base g m vs rows) (hr : w.ownsRow base' e' s v n xs) (h1 : 33 ≠ e') (h2 : 3 ≠ e') (hg : w.grownBy w' v.ownBlock) : Rws w' base g m vs rows :=
  h.kept hg (fun e => by
    rcases own_own_ne h.own hr h1 with h | h
    · simp [Value.ownBlock] at h
    · exact h (by rw [← e]; rfl)) (fun _ _ _ hv => own_own_ne hv hr h2)
/-- One row is longer. -/
theorem Rws.push (h : Rws w base g m vs rows) {u : Nat} {v v' : Value} {r : List Int} {i : Int} (hv : vs[u]? = some v) (hr : rows[u]? = some r) {W2 : World} (hg : w.grownBy W2 v.ownBlock) (hown : W2.ownsRow base 3 1 v' (r.length + 1) (intsV (r ++ [i])))
    (hloc : v'.ownBlock = v.ownBlock ∨ ∃ g, v'.ownBlock = some g ∧ w.heap.size ≤ g) : Rws (W2.setCell ⟨g, u, none⟩ v') base g m (vs.set u v') (rows.set u (r ++ [i])) ∧ W2.grownBy (W2.setCell ⟨g, u, none⟩ v') (some g) := by
  have hvlen := h.vlen
  have hu := (List.getElem?_eq_some_iff.1 hv).1
  have hne : (Value.slice (some ⟨g, 0, none⟩) m m).ownBlock = none ∨ (Value.slice (some ⟨g, 0, none⟩) m m).ownBlock ≠ v.ownBlock := own_own_ne h.own (h.row u v r hv hr) (by decide)
  have ho2 := h.own.kept hg hne
  obtain ⟨ho3, hg3⟩ := ho2.stored u v'
  have hgl : g < w.heap.size := (h.own.lt g rfl).2
  have nb : ∀ {x : Value} {n : Nat} {xs : List Value}, W2.ownsRow base 3 1 x n xs → x.ownBlock = none ∨ x.ownBlock ≠ some g := fun {x n xs} hx => own_own_ne hx ho2 (by decide)
  have old_new : ∀ (k : Nat) (x : Value), k ≠ u → vs[k]? = some x → x.ownBlock = none ∨ x.ownBlock ≠ v'.ownBlock := by
    intro k x hk hx
    rcases hloc with e | ⟨b, e, hb⟩
    · rw [e]
      exact h.apart k u x v hk hx hv
    · cases hx' : x.ownBlock with
      | none => exact .inl rfl
      | some b' =>
        refine .inr (fun e2 => ?_)
        have hk' : k < rows.length := by rw [h.len, ← hvlen]; exact (List.getElem?_eq_some_iff.1 hx).1
        have := ((h.row k x _ hx (List.getElem?_eq_getElem hk')).lt _ hx').2
        rw [e] at e2
        cases e2
        omega
  refine ⟨⟨ho3, by simp [h.len], ?_, ?_⟩, hg3⟩
  · intro k x q hx hq
    by_cases e : u = k
    · subst e
      rw [List.getElem?_set_self hu] at hx
      rw [List.getElem?_set_self (by rw [h.len, ← hvlen]; exact hu)] at hq
      cases hx
      cases hq
      rw [List.length_append]
      exact hown.kept hg3 (nb hown)
    · rw [List.getElem?_set_ne e] at hx hq
      have := (h.row k x q hx hq).kept hg (h.apart k u x v (fun e' => e e'.symm) hx hv)
      exact this.kept hg3 (nb this)
  · intro k j x y hkj hx hy
    by_cases e : u = k
    · subst e
      rw [List.getElem?_set_self hu] at hx
      cases hx
      rw [List.getElem?_set_ne hkj] at hy
      have := old_new j y (fun e => hkj e.symm) hy
      cases hv' : v'.ownBlock with
      | none => exact .inl rfl
      | some b =>
        refine .inr (fun e2 => ?_)
        rcases this with h | h
        · rw [h] at e2; cases e2
        · exact h (by rw [hv', e2])
    · rw [List.getElem?_set_ne e] at hx
      by_cases e' : u = j
      · subst e'
        rw [List.getElem?_set_self hu] at hy
        cases hy
        exact old_new k x (fun e => hkj e) hx
      · rw [List.getElem?_set_ne e'] at hy
        exact h.apart k j x y hkj hx hy
/-- Made: all nil. -/
theorem Rws.made (hown : w.ownsRow base 33 1 (.slice (some ⟨g, 0, none⟩) m m) m (List.replicate m (.slice none 0 0))) : Rws w base g m (List.replicate m (.slice none 0 0)) (List.replicate m []) where
  own := hown
  len := by simp
  row := by
    intro i v r hv hr
    rw [List.getElem?_replicate] at hv hr
    by_cases hi : i < m
    · rw [if_pos hi] at hv hr
      cases hv
      cases hr
      exact World.ownsRow_nil _ _ _ _
    · rw [if_neg hi] at hv
      cases hv
  apart := by
    intro i j vi vj _ hi _
    rw [List.getElem?_replicate] at hi
    split at hi <;> simp at hi
    subst hi
    exact .inl rfl
end
theorem made_rows (m : Nat) : (madeCells (Value.slice none 0 0).cells (m * 1)).toList = List.replicate m (.slice none 0 0) := by
  rw [Nat.mul_one]
  show (madeCells #[Value.slice none 0 0] m).toList = _
  rw [toList_madeCells_one]
theorem infoInts : (Try.prog.info? 33).map (fun i => (i.zero, i.size, i.bytes)) = some (some (.slice none 0 0), 1, 24) := by kernel_rfl

/-! Which triangles stand at a vertex. -/
def three (t : Tr) (i : Nat) : List (Int × Nat) := [(t.1, i), (t.2.1, i), (t.2.2, i)]
def preT (T : List Tr) (k : Nat) : List (Int × Nat) := (List.range k).flatMap fun i => three (T[i]?.getD (0, 0, 0)) i
def sieve (pre : List (Int × Nat)) (u : Int) : List Nat := (pre.filter fun p => p.1 == u).map (·.2)
def rowsOf (pre : List (Int × Nat)) (m : Nat) : List (List Int) := (List.range m).map fun u : Nat => nats (sieve pre u)
def atV (T : List Tr) (u : Int) : List Nat := sieve (preT T T.length) u
theorem preT_succ {T : List Tr} {k : Nat} {t : Tr} (h : T[k]? = some t) : preT T (k + 1) = preT T k ++ three t k := by
  unfold preT
  rw [List.range_succ, List.flatMap_append]
  simp [h]
theorem rowsOf_at {pre : List (Int × Nat)} {m u : Nat} (h : u < m) : (rowsOf pre m)[u]? = some (nats (sieve pre u)) := by simp [rowsOf, h]
theorem rowsOf_snoc {pre : List (Int × Nat)} {m u i : Nat} : rowsOf (pre ++ [((u : Int), i)]) m = (rowsOf pre m).set u (nats (sieve pre u) ++ [(i : Int)]) := by
  apply List.ext_getElem?
  intro k
  rw [List.getElem?_set]
  by_cases hk : k < m
  · rw [rowsOf_at hk]
    by_cases e : u = k
    · subst e
      rw [if_pos rfl, if_pos (by simp [rowsOf]; exact hk)]
      simp [sieve, nats]
    · rw [if_neg e, rowsOf_at hk]
      have : ((u : Int) == (k : Int)) = false := by simp; omega
      simp [sieve, this]
  · rw [List.getElem?_eq_none (by simp [rowsOf]; omega)]
    by_cases e : u = k
    · subst e
      rw [if_pos rfl, if_neg (by simp [rowsOf]; omega)]
    · rw [if_neg e, List.getElem?_eq_none (by simp [rowsOf]; omega)]
theorem rowsOf_nil (m : Nat) : rowsOf [] m = List.replicate m [] := by
  apply List.ext_getElem?
  intro k
  by_cases hk : k < m
  · rw [rowsOf_at hk, List.getElem?_replicate, if_pos hk]
    rfl
  · rw [List.getElem?_eq_none (by simp [rowsOf]; omega), List.getElem?_eq_none (by simp; omega)]
theorem sieve_length (pre : List (Int × Nat)) (u : Int) : (sieve pre u).length ≤ pre.length := by
  unfold sieve
  rw [List.length_map]
  exact List.length_filter_le _ _
theorem preT_length (T : List Tr) (k : Nat) : (preT T k).length = 3 * k := by
  induction k with
  | zero => rfl
  | succ k ih =>
    unfold preT at ih ⊢
    rw [List.range_succ, List.flatMap_append, List.length_append, ih]
    simp [three]
    omega
theorem preT_mem {T : List Tr} {k : Nat} {u : Int} {i : Nat} : (u, i) ∈ preT T k ↔ i < k ∧ hasV (T[i]?.getD (0, 0, 0)) u := by
  simp only [preT, three, List.mem_flatMap, List.mem_range, List.mem_cons, List.not_mem_nil, or_false, Prod.mk.injEq, hasV]
  constructor
  · rintro ⟨j, hj, h⟩
    rcases h with ⟨rfl, rfl⟩ | ⟨rfl, rfl⟩ | ⟨rfl, rfl⟩
    · exact ⟨hj, .inl rfl⟩
    · exact ⟨hj, .inr (.inl rfl)⟩
    · exact ⟨hj, .inr (.inr rfl)⟩
  · rintro ⟨hi, h⟩
    refine ⟨i, hi, ?_⟩
    rcases h with rfl | rfl | rfl
    · exact .inl ⟨rfl, rfl⟩
    · exact .inr (.inl ⟨rfl, rfl⟩)
    · exact .inr (.inr ⟨rfl, rfl⟩)
theorem sieve_mem {pre : List (Int × Nat)} {u : Int} {i : Nat} : i ∈ sieve pre u ↔ (u, i) ∈ pre := by
  simp only [sieve, List.mem_map, List.mem_filter, beq_iff_eq]
  constructor
  · rintro ⟨⟨a, b⟩, ⟨h1, h2⟩, h3⟩
    simp only at h2 h3
    subst h2
    subst h3
    exact h1
  · intro h
    exact ⟨(u, i), ⟨h, rfl⟩, rfl⟩
theorem atV_mem {T : List Tr} {u : Int} {i : Nat} : i ∈ atV T u ↔ ∃ t, T[i]? = some t ∧ hasV t u := by
  unfold atV
  rw [sieve_mem, preT_mem]
  constructor
  · rintro ⟨h1, h2⟩
    rw [List.getElem?_eq_getElem h1] at h2
    exact ⟨_, List.getElem?_eq_getElem h1, h2⟩
  · rintro ⟨t, h1, h2⟩
    refine ⟨(List.getElem?_eq_some_iff.1 h1).1, ?_⟩
    rw [h1]
    exact h2
theorem sieve_three (t : Tr) (i : Nat) (u : Int) (h : simple3 t) : sieve (three t i) u = [] ∨ sieve (three t i) u = [i] := by
  obtain ⟨x, y, z⟩ := t
  obtain ⟨h1, h2, h3⟩ := h
  simp only at h1 h2 h3
  by_cases a : x = u
  · subst a
    have b : (y == x) = false := by simpa using fun e => h1 e.symm
    have c : (z == x) = false := by simpa using h3
    right
    simp [sieve, three, b, c]
  · have a' : (x == u) = false := by simpa using a
    by_cases b : y = u
    · subst b
      have c : (z == y) = false := by simpa using fun e => h2 e.symm
      right
      simp [sieve, three, a', c]
    · have b' : (y == u) = false := by simpa using b
      by_cases c : z = u
      · subst c
        right
        simp [sieve, three, a', b']
      · have c' : (z == u) = false := by simpa using c
        left
        simp [sieve, three, a', b', c']
theorem sieve_nodup {T : List Tr} (h : ∀ t ∈ T, simple3 t) (u : Int) : ∀ k, k ≤ T.length → (sieve (preT T k) u).Nodup
  | 0, _ => by simp [preT, sieve]
  | k + 1, hk => by
    have ht : T[k]? = some T[k] := List.getElem?_eq_getElem (by omega)
    rw [preT_succ ht]
    have e : sieve (preT T k ++ three T[k] k) u = sieve (preT T k) u ++ sieve (three T[k] k) u := by simp [sieve]
    rw [e, List.nodup_append]
    refine ⟨sieve_nodup h u k (by omega), ?_, ?_⟩
    · rcases sieve_three T[k] k u (h _ (List.getElem_mem _)) with e | e <;> simp [e]
    · intro a ha b hb e2
      subst e2
      rw [sieve_mem, preT_mem] at ha
      rcases sieve_three T[k] k u (h _ (List.getElem_mem _)) with e | e
      · rw [e] at hb; cases hb
      · rw [e, List.mem_singleton] at hb
        omega
theorem atV_nodup {T : List Tr} (h : ∀ t ∈ T, simple3 t) (u : Int) : (atV T u).Nodup := sieve_nodup h u _ (Nat.le_refl _)
theorem atV_some {T : List Tr} {u : Int} (h : u ∈ flatT T) : atV T u ≠ [] := by
  simp only [flatT, List.mem_flatMap] at h
  obtain ⟨t, ht, hu⟩ := h
  obtain ⟨i, hi⟩ := List.mem_iff_getElem?.1 ht
  have : i ∈ atV T u := atV_mem.2 ⟨t, hi, by simpa [hasV] using hu⟩
  intro e
  rw [e] at this
  cases this
theorem atV_lt {T : List Tr} {u : Int} : ∀ i ∈ atV T u, i < T.length := fun i hi => by
  obtain ⟨t, ht, _⟩ := atV_mem.1 hi
  exact (List.getElem?_eq_some_iff.1 ht).1
theorem atV_length {T : List Tr} (h : ∀ t ∈ T, simple3 t) (u : Int) : (atV T u).length ≤ T.length := by
  have := Jor.nodup_le (m := List.range T.length) (atV_nodup h u) (fun i hi => List.mem_range.2 (atV_lt i hi))
  simpa using this
end Go.Proofs.Ytghlnknncahkgaa
