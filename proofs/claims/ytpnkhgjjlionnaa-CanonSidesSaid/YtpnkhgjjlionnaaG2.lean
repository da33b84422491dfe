/-
  Texts joined by program, what the law uses alone: Pairs Rws Tog Pinch PairsB SortT Twice SortK.
-/
import Derived.Deep.Onto
import Derived.Sort.OwnSortedInts
import Derived.Shelf.SlSortCmp.WholeK
import Derived.Test.YtpnkhgjjlionnaaG1
import Derived.Test.YtpnkhgjjlionnaaShelf
namespace Go.Proofs.Ytpnkhgjjlionnaa
open Go.RowKit Go.Maps

def keyOk (κ : Tr) : Prop := (0 ≤ κ.1 ∧ κ.1 ≤ 8192) ∧ (0 ≤ κ.2.1 ∧ κ.2.1 ≤ 8192) ∧ (0 ≤ κ.2.2 ∧ κ.2.2 ≤ 8192)
/-- What the rows know: of each key whether it was, how many there are at most, and that the numbers are small. -/
def Had (f : Value → List Int) (P : List Tr) : Prop := (∀ κ, f (triV κ) = [] ↔ κ ∉ P) ∧ ∀ key, (f key).length ≤ P.length ∧ ∀ a ∈ f key, 0 ≤ a ∧ a ≤ 8192
theorem Had.nil : Had (fun _ => []) [] := ⟨by simp, by simp⟩
theorem Had.put {f : Value → List Int} {P : List Tr} (h : Had f P) (κ : Tr) {i : Int} (hi : 0 ≤ i ∧ i ≤ 8192) : Had (upd f (triV κ) (f (triV κ) ++ [i])) (P ++ [κ]) := by
  obtain ⟨h1, h2⟩ := h
  constructor
  · intro κ'
    by_cases e : triV κ' = triV κ
    · have e' := triV_inj e
      subst e'
      rw [upd_same]
      simp
    · rw [upd_other e, h1]
      have : κ' ≠ κ := fun e' => e (by rw [e'])
      simp [this]
  · intro key
    by_cases e : key = triV κ
    · subst e
      rw [upd_same]
      obtain ⟨a, b⟩ := h2 (triV κ)
      refine ⟨by simp; exact a, fun x hx => ?_⟩
      rcases List.mem_append.1 hx with hx | hx
      · exact b x hx
      · simp only [List.mem_singleton] at hx
        rw [hx]
        exact hi
    · rw [upd_other e]
      obtain ⟨a, b⟩ := h2 key
      exact ⟨by simp; omega, b⟩
theorem nodup_snoc {P : List Tr} {κ : Tr} : (P ++ [κ]).Nodup ↔ P.Nodup ∧ κ ∉ P := by
  rw [List.nodup_append]
  simp only [List.nodup_cons, List.not_mem_nil, not_false_eq_true, List.nodup_nil, true_and, List.mem_singleton]
  constructor
  · rintro ⟨h1, h3⟩
    exact ⟨h1, fun hm => h3 κ hm κ rfl rfl⟩
  · rintro ⟨h1, h2⟩
    refine ⟨h1, fun a ha b hb e => ?_⟩
    rw [hb] at e
    rw [e] at ha
    exact h2 ha
theorem rowSlice {w : World} {base n : Nat} {v : Value} {zs : List Int} (h : w.ownsRow base 3 1 v zs.length (intsV zs)) (hn : zs.length = n) : ∃ a c, v = .slice a n c ∧ ∀ (k : Nat) (x : Int), zs[k]? = some x → ∃ g, a = some ⟨g, 0, none⟩ ∧ g < w.heap.size ∧ w.cell? ⟨g, k, none⟩ = some (.int .i64 x) := by
  subst hn
  rcases Nat.eq_zero_or_pos zs.length with h0 | hpos
  · rcases h.2 with ⟨rfl, e0⟩ | ⟨g, cap, cur, rfl, _⟩
    · exact ⟨none, 0, by rw [h0], fun k x hk => by
        have := (List.getElem?_eq_some_iff.1 hk).1
        omega⟩
    · exact ⟨some ⟨g, 0, none⟩, cap, rfl, fun k x hk => by
        have := (List.getElem?_eq_some_iff.1 hk).1
        omega⟩
  · obtain ⟨g, cap, rfl, hb, hg⟩ := h.form hpos
    refine ⟨some ⟨g, 0, none⟩, cap, rfl, fun k x hk => ⟨g, rfl, hg, ?_⟩⟩
    have := (List.getElem?_eq_some_iff.1 hk).1
    rw [h.cellAt k (by omega), intsV, List.getElem?_map, hk]
    rfl

theorem ws3_at {ws : List Tr} {j : Nat} {a b c : Int} (h : ws[j]? = some (a, b, c)) : (ws3 ws)[j * 3]? = some (.int .i64 a) ∧ (ws3 ws)[j * 3 + 1]? = some (.int .i64 b) ∧ (ws3 ws)[j * 3 + 2]? = some (.int .i64 c) := by
  induction ws generalizing j with
  | nil => simp at h
  | cons t r ih =>
    have e : ws3 (t :: r) = [.int .i64 t.1, .int .i64 t.2.1, .int .i64 t.2.2] ++ ws3 r := by simp [ws3, flatT]
    cases j with
    | zero =>
      simp at h
      subst h
      rw [e]
      simp
    | succ j =>
      have := ih (j := j) (by simpa using h)
      rw [e]
      have h1 : (j + 1) * 3 = j * 3 + 3 := by omega
      rw [h1]
      simpa using this
theorem wfS {x : Int} (h : 0 ≤ x ∧ x ≤ 8192) : (Lit.int .i64 x).wf = true := WalkArith.wf_i64 (by omega)
theorem infoInt : (Try.prog.info? 3).map (fun i => (i.zero, i.size, i.bytes)) = some (some (.int .i64 0), 1, 8) := by kernel_rfl

set_option maxRecDepth 100000 in
set_option maxHeartbeats 4000000 in
theorem pairsTwice_any (kind : Int) (K : Tr → List Tr) (N : Int) (v : Value) (T : List Tr) (w : World) (h : TrisRd w v T) (hl : T.length ≤ 8192)
    (hK : ∀ (t : Tr) (W : World), t ∈ T → Calls Try.prog 122 #[triV t] W fun e W' => ∃ v', e = .returned v' ∧ W'.ownsRow W.heap.size 60 3 v' (K t).length (ws3 (K t)) ∧ Below W.heap.size W W')
    (hKl : ∀ t ∈ T, 0 < (K t).length ∧ (K t).length ≤ 3) (hKo : ∀ t ∈ T, ∀ κ ∈ K t, keyOk κ) :
    Calls Try.prog 121 #[.agg #[.int .i64 N, v], .int .i64 kind, .func (.func 122) #[] #[]] w fun e w' => ∃ v', e = .returned v' ∧ WitsIs w' w.heap.size v' kind (T.flatMap K).Nodup ∧ Below w.heap.size w w' := by
  obtain ⟨i1, hi', hy0, hy1, hy2⟩ := info_parts infoWit
  obtain ⟨i2, hj', hz0, hz1, hz2⟩ := info_parts infoInt
  obtain ⟨a, c, rfl, hc1, hc2, hr⟩ := h
  have HR := Lib.hid hr
  have HKc := Lib.hid hK
  have HKl := Lib.hid hKl
  have HKo := Lib.hid hKo
  have b1 := Blk.new w 24 #[.int .i64 N, .slice a T.length c]
  have hB0 : Below w.heap.size w (w.alloc (.cells #[.int .i64 N, .slice a T.length c] 24)) := (Below.refl _ _).alloc (Nat.le_refl _) _
  obtain ⟨n, hn⟩ : ∃ n, T.length = n := ⟨_, rfl⟩
  rw [hn] at hl hc1 hB0 b1 ⊢
  have HN := Lib.hid hn
  have st0 : PairSt w ((((w.alloc (.cells #[.int .i64 N, .slice a n c] 24)).alloc (.map #[] 0))).alloc (.map #[] 0)) kind (fun _ => []) [] (.slice none 0 0) [] := by
    have hm1 := Grp.made (w.alloc (.cells #[.int .i64 N, .slice a n c] 24)) Try.prog 60 3 (base := w.heap.size + 3) (by rw [size_alloc']; omega)
    have hm2 := MapB.made ((w.alloc (.cells #[.int .i64 N, .slice a n c] 24)).alloc (.map #[] 0)) Try.prog 87 4
    rw [size_alloc'] at hm1
    rw [size_alloc', size_alloc'] at hm2
    exact ⟨hm1.alloc _, hm2, World.ownsRow_nil _ _ _ _, (hB0.alloc (by rw [size_alloc']; omega) _).alloc (by rw [size_alloc', size_alloc']; omega) _, fun _ => rfl, by simp⟩
  obtain ⟨l0, x0, -, x1, -⟩ := ((b1.alloc (.map #[] 0)).alloc (.map #[] 0)).two
  have hmm := @run_makeMap Try.prog
  clear hr hn hK hKl hKo b1 hB0
  go_enter Try.func121, Try.ntmps121
  go_wp2
  clear hmm x0 x1 l0
  go_loopw [7, 22] (fun v7 i wr => ∃ (k : Nat) (v' : Value) (ws : List Tr) (f : Value → List Int) (S : List Value), v' = v7 ∧ k ≤ n ∧ i = .int .i64 k ∧ PairSt w wr kind f S v' ws ∧ Had f ((T.take k).flatMap K) ∧ ((T.take k).flatMap K).length ≤ 3 * k ∧ ws.length ≤ 3 * k * 24576 ∧ (ws = [] ↔ ((T.take k).flatMap K).Nodup)) (fun _ i _ => n - (intOf i).toNat)
  case atStart => exact ⟨0, _, [], _, _, rfl, Nat.zero_le _, rfl, st0, by simpa using Had.nil, by simp, by simp, by simp⟩
  case round =>
    clear st0
    obtain ⟨k, v', ws, f, S, rfl, hk, rfl, hst, hhad, hPl, hwl, hws⟩ := hrel
    rename World => wr
    by_cases hlt : k < n
    · obtain ⟨t, ht⟩ : ∃ t, T[k]? = some t := ⟨T[k]'(by have := HN.out; omega), List.getElem?_eq_getElem _⟩
      obtain ⟨x, y, z⟩ := t
      have hmem := List.mem_of_getElem? ht
      obtain ⟨b, o, rfl, hbl, s0, s1, s2⟩ := HR.out k x y z ht
      have s0' := (hst.b.cell (p := ⟨b, _, none⟩) hbl).trans s0
      have s1' := (hst.b.cell (p := ⟨b, _, none⟩) hbl).trans s1
      have s2' := (hst.b.cell (p := ⟨b, _, none⟩) hbl).trans s2
      have Hts : Hid ((T.take (k + 1)).flatMap K = (T.take k).flatMap K ++ K (x, y, z)) := by
        refine Lib.hid ?_
        obtain ⟨hk', he⟩ := List.getElem?_eq_some_iff.1 ht
        rw [List.take_succ_eq_append_getElem hk', he]
        simp
      have HkO := Lib.hid (HKo.out _ hmem)
      have HkC := Lib.hid (fun W => HKc.out (x, y, z) W hmem)
      obtain ⟨hL0, hL3⟩ := HKl.out _ hmem
      generalize hKt : K (x, y, z) = Kt at *
      obtain ⟨P, hP⟩ : ∃ P, (T.take k).flatMap K = P := ⟨_, rfl⟩
      rw [hP] at hhad hPl hws Hts
      have Hws := Lib.hid hws
      have Hhad := Lib.hid hhad
      have hk3 : (k : Int) < (n : Int) := by omega
      have hk0 : (0 : Int) ≤ (k : Int) := by omega
      have Hst := Lib.hid (hst.alloc (.cells #[.int .i64 x, .int .i64 y, .int .i64 z] 61))
      clear ht s0 s1 s2 hws hhad hst hmem hP hKt
      go_wp2_with fail
      refine (HkC.out _).mono ?_
      rintro e w2 ⟨vk, rfl, hrK, hbK⟩
      have Hst2 := Lib.hid (Hst.out.below hbK)
      obtain ⟨L, hL⟩ : ∃ L, Kt.length = L := ⟨_, rfl⟩
      rw [hL] at hrK hL0 hL3
      obtain ⟨gk, ck, rfl, hgk1, hgk2⟩ := hrK.form hL0
      rw [size_alloc'] at hgk1 hrK
      have Hr := Lib.hid hrK
      have HL := Lib.hid hL
      clear Hst hbK hrK hL HkC
      go_wp2
      rename World => wA
      go_loopw [7, 31] (fun v7 i wq => ∃ (j : Nat) (v' : Value) (ws : List Tr) (f : Value → List Int) (S : List Value), v' = v7 ∧ j ≤ L ∧ i = .int .i64 j ∧ PairSt w wq kind f S v' ws ∧ wq.ownsRow (wr.heap.size + 1) 60 3 (.slice (some ⟨gk, 0, none⟩) L ck) L (ws3 Kt) ∧ Had f (P ++ Kt.take j) ∧ ws.length ≤ (3 * k + j) * 24576 ∧ (ws = [] ↔ (P ++ Kt.take j).Nodup)) (fun _ i _ => L - (intOf i).toNat)
      case atStart => exact ⟨0, _, ws, f, S, rfl, Nat.zero_le _, rfl, Hst2.out, Hr.out, by simpa using Hhad.out, by omega, by simpa using Hws.out⟩
      case round =>
        clear Hst2 Hr Hws Hhad hwl
        clear ws f S
        obtain ⟨j, v', ws, f, S, rfl, hj, rfl, hst, hrK, hhad, hwl, hws⟩ := hrel
        rename World => wq
        by_cases hjl : j < L
        · obtain ⟨κ, hκ⟩ : ∃ κ, Kt[j]? = some κ := ⟨Kt[j]'(by have := HL.out; omega), List.getElem?_eq_getElem _⟩
          obtain ⟨κ1, κ2, κ3⟩ := κ
          obtain ⟨⟨o1, o2⟩, ⟨o3, o4⟩, ⟨o5, o6⟩⟩ := HkO.out _ (List.mem_of_getElem? hκ)
          simp only at o1 o2 o3 o4 o5 o6
          obtain ⟨d0, d1, d2⟩ := ws3_at hκ
          have c0 := hrK.cellAt (j * 3) (by omega)
          have c1 := hrK.cellAt (j * 3 + 1) (by omega)
          have c2 := hrK.cellAt (j * 3 + 2) (by omega)
          rw [d0] at c0
          rw [d1] at c1
          rw [d2] at c2
          have Hts2 : Hid (P ++ Kt.take (j + 1) = P ++ Kt.take j ++ [(κ1, κ2, κ3)]) := by
            refine Lib.hid ?_
            obtain ⟨hk', he⟩ := List.getElem?_eq_some_iff.1 hκ
            rw [List.take_succ_eq_append_getElem hk', he, List.append_assoc]
          have hj3 : (j : Int) < (L : Int) := by omega
          have hj0 : (0 : Int) ≤ (j : Int) := by omega
          have hPj : (P ++ Kt.take j).length ≤ 3 * k + j := by simp; omega
          have Hhad := Lib.hid hhad
          have Hws := Lib.hid hws
          have hgq := hrK.lt gk (by rfl)
          have hst1 := hst.alloc (.cells #[.int .i64 κ1, .int .i64 κ2, .int .i64 κ3] 60)
          have hrK1 := Lib.hid (hrK.alloc (.cells #[.int .i64 κ1, .int .i64 κ2, .int .i64 κ3] 60))
          have hkey := keyOf_three arrThree Try.underlying3 types_succ (wfS ⟨o1, o2⟩) (wfS ⟨o3, o4⟩) (wfS ⟨o5, o6⟩)
          have hbq := Blk.new wq 60 #[.int .i64 κ1, .int .i64 κ2, .int .i64 κ3]
          have hwq := hst.b.size
          obtain ⟨m, hm⟩ : ∃ m, (f (triV (κ1, κ2, κ3))).length = m := ⟨_, rfl⟩
          have hm1 : m ≤ 3 * k + j := by
            have := (hhad.2 (triV (κ1, κ2, κ3))).1
            omega
          have HM := Lib.hid hm
          have HMo := Lib.hid (hhad.2 (triV (κ1, κ2, κ3))).2
          clear d0 d1 d2 hws hhad hst hrK hm
          go_wp2_with (at_lookup; refine wpList_lookupG hst1.g rfl _ _ 188 35 rfl (Keyed.of_law arrThree.law) Try.underlying188 (zero_ints _) rfl _ rfl hkey ?_; intro v0 hr0; have hr0' := hr0; rw [show (.agg #[.int .i64 κ1, .int .i64 κ2, .int .i64 κ3] : Value) = triV (κ1, κ2, κ3) from rfl] at hr0'; obtain ⟨a0, c0', rfl, hc0⟩ := rowSlice hr0' HM.out)
          have Hst1 := Lib.hid hst1
          have Hr0 := Lib.hid hr0
          have hbq' := Lib.hid hbq
          clear hst1 hr0 hr0' hbq hc0 c0 c1 c2 hgq
          go_loopw [7, 39] (fun v7 i wz => ∃ (q : Nat) (v' : Value) (ws' : List Tr) (S' : List Value), v' = v7 ∧ q ≤ m ∧ i = .int .i64 q ∧ PairSt w wz kind f S' v' ws' ∧ wz.ownsRow (wr.heap.size + 1) 60 3 (.slice (some ⟨gk, 0, none⟩) L ck) L (ws3 Kt) ∧ wz.ownsRow (w.heap.size + 3) 3 1 (.slice a0 m c0') (f (triV (κ1, κ2, κ3))).length (intsV (f (triV (κ1, κ2, κ3)))) ∧ Blk wz wq.heap.size 60 #[.int .i64 κ1, .int .i64 κ2, .int .i64 κ3] ∧ ws'.length ≤ ws.length + q ∧ (ws' = [] ↔ ws = [] ∧ q = 0)) (fun _ i _ => m - (intOf i).toNat)
          case atStart => exact ⟨0, _, ws, S, rfl, Nat.zero_le _, rfl, Hst1.out, hrK1.out, Hr0.out, hbq'.out, by omega, by simp⟩
          case round =>
            clear Hst1 hrK1 Hr0 hbq'
            obtain ⟨q, v', ws', S', rfl, hq, rfl, hst, hrK, hr0, hbq, hwl', hws'⟩ := hrel
            rename World => wz
            have Hws' := Lib.hid hws'
            clear hws'
            by_cases hqm : q < m
            · obtain ⟨d, hd⟩ : ∃ d, (f (triV (κ1, κ2, κ3)))[q]? = some d := ⟨(f (triV (κ1, κ2, κ3)))[q]'(by have := HM.out; omega), List.getElem?_eq_getElem _⟩
              obtain ⟨d1, d2⟩ := HMo.out d (List.mem_of_getElem? hd)
              obtain ⟨a1, c1', e1, hcc⟩ := rowSlice hr0 HM.out
              cases e1
              obtain ⟨g0, rfl, hg0, hcell⟩ := hcc q d hd
              have hst2 := hst.alloc (.cells #[.int .i64 d, .int .i64 k] 87)
              have hkey2 := WideMaps.keyOf_pair arrPair Try.underlying3 types_succ (wfS ⟨d1, d2⟩) (wfS (x := (k : Int)) ⟨by omega, by omega⟩)
              have hq3 : (q : Int) < (m : Int) := by omega
              have hq0 : (0 : Int) ≤ (q : Int) := by omega
              have c3 : ws'.length + 1 ≤ maxLen := by unfold maxLen; omega
              have c4 : (ws'.length + 1) * 24 ≤ 140737488355328 := by omega
              have c5 : ws'.length < maxLen := by unfold maxLen; omega
              have hwz := hst.b.size
              clear hcc hd
              by_cases hp : (.agg #[.int .i64 d, .int .i64 k] : Value) ∈ S'
              · have hne : ws' ≠ [] := fun e0 => by
                  have := hst.c e0
                  rw [this] at hp
                  cases hp
                go_wp2_with (at_lookup; refine wpList_lookupB hst2.s rfl _ _ 189 rfl (Keyed.of_law arrPair.law) Try.underlying189 Try.underlying4 (zero_bool _) rfl _ rfl hkey2 ?_; intro r hir; obtain rfl : r = true := hir.2 hp)
                go_roundw
                case measure => simp [intOf]; omega
                case rel => exact ⟨q + 1, _, ws', S', rfl, by omega, by go_num, hst2, hrK.alloc _, hr0.alloc _, hbq.alloc _, by omega, ⟨fun e => absurd e hne, fun e => absurd e.2 (by omega)⟩⟩
              · go_wp2_with (first
                  | (at_lookup; refine wpList_lookupB hst2.s rfl _ _ 189 rfl (Keyed.of_law arrPair.law) Try.underlying189 Try.underlying4 (zero_bool _) rfl _ rfl hkey2 ?_; intro r hir; obtain rfl : r = false := (by cases r; rfl; exact absurd (hir.1 rfl) hp))
                  | (at_mapUpdate; refine wpList_storeB hst2.s rfl _ _ _ 189 rfl (Keyed.of_law arrPair.law) Try.underlying189 Try.underlying4 c5 rfl _ rfl rfl hkey2 ?_; intro w5 hm5 hg5; have hsz5 := hg5.size; rw [size_alloc'] at hsz5)
                  | (at_builtin; refine wpList_append_lies _ rfl (.tmp 52) (.tmp 57) 114 rfl w.heap.size 44 i1 _ 3 24 Try.underlying114 hi' hy0 hy1 hy2 rfl (by decide) _ _ _ rfl ((hst2.r.kept hg5 (row_map_ne hst2.r hst2.s.obj)).alloc _) ⟨w5.heap.size, 0, none⟩ 1 1 [.int .i64 kind, .int .i64 d, .int .i64 k] rfl rfl (World.news_of_block (heap_alloc_new _ _)) (by simp [Value.oneCell']) (by decide) c3 c4 (by rw [size_alloc']; omega) (w5.heap.size + 1) (by simp) ?_; intro g4 cap4 W4 hr4 hg4 _ _))
                go_roundw
                case measure => simp [intOf]; omega
                case rel => exact ⟨q + 1, _, ws' ++ [(kind, d, (k : Int))], _, rfl, by omega, by go_num, hst2.mark hm5 hg5 (by rw [ws3_snoc]; simpa using hr4) hg4 rfl, hst2.markRow hg5 hg4 (by decide) (hrK.alloc _), hst2.markRow hg5 hg4 (by decide) (hr0.alloc _), hst2.markBlk hg5 hg4 (by decide) (hbq.alloc _), by simp; omega, by simp⟩
            · obtain rfl : q = m := by omega
              have hst3 := hst.alloc (.cells #[.int .i64 k] 3)
              have hnb := Blk.new wz 3 #[.int .i64 k]
              have hglt := hst.g.lt
              have hrK3 := Lib.hid (hrK.alloc (.cells #[.int .i64 k] 3))
              have hmm := HM.out
              obtain ⟨bq0, bq1, -, bq2, -, bq3, -⟩ := hbq.three
              have hwz := hst.b.size
              have c6 : (f (triV (κ1, κ2, κ3))).length + 1 ≤ maxLen := by unfold maxLen; omega
              have c7 : ((f (triV (κ1, κ2, κ3))).length + 1) * 8 ≤ 140737488355328 := by omega
              clear hmm hst hrK hr0
              go_wp2_with (first
                | (refine wpList_entryG hst3.g rfl _ _ 188 35 rfl (Keyed.of_law arrThree.law) Try.underlying188 zero_ints rfl (triV (κ1, κ2, κ3)) rfl hkey ?_; intro v1 st W1 e1 e1s e1g e1r e1b; rw [size_alloc'] at e1s)
                | (at_builtin; refine wpList_append_lies _ rfl (.tmp 62) (.tmp 64) 35 rfl (w.heap.size + 3) 3 i2 _ 1 8 Try.underlying35 hj' hz0 hz1 hz2 rfl (by decide) v1 (f (triV (κ1, κ2, κ3))).length (intsV (f (triV (κ1, κ2, κ3)))) rfl e1r ⟨wz.heap.size, 0, none⟩ 1 1 [.int .i64 k] rfl rfl (World.news_of_block (hnb.grown e1 (by simp; omega))) (by simp [Value.oneCell']) (by decide) c6 c7 (by omega) (W1.heap.size) rfl ?_; intro g6 cap6 W6 hr6 hg6 hat6 _; obtain ⟨W7, hrun7, hG7, hg7⟩ := e1b W6 (.slice (some ⟨g6, 0, none⟩) ((f (triV (κ1, κ2, κ3))).length + 1) cap6) (f (triV (κ1, κ2, κ3)) ++ [(k : Int)]) hg6 (by simpa [intsV] using hr6) (hat6.imp (fun e => e.symm) (fun e => ⟨g6, rfl, by omega⟩)))
                | (refine wpList_entryStore rfl _ _ _ 188 rfl rfl rfl rfl hrun7 ?_))
              go_roundw
              case measure => simp [intOf]; omega
              case rel => exact ⟨j + 1, _, ws', _, S', rfl, by omega, by go_num, hst3.put e1 e1g e1r hg6 hg7 hG7, hst3.putRow e1 e1g e1r hg6 hg7 (by decide) hrK3.out, by rw [Hts2.out]; exact Hhad.out.put (κ1, κ2, κ3) ⟨by omega, by omega⟩, by omega, by
                rw [Hts2.out, nodup_snoc, Hws'.out, Hws.out, ← Hhad.out.1, ← HM.out, List.length_eq_zero_iff]⟩
        · obtain rfl : j = L := by omega
          have hll := HL.out
          rw [List.take_of_length_le (by omega)] at hhad hws
          have Hst := Lib.hid hst
          have Hws := Lib.hid hws
          have Hhad := Lib.hid hhad
          clear hst hws hhad hrK hll
          go_wp2
          go_roundw
          case measure => simp [intOf]; omega
          case rel => exact ⟨k + 1, _, ws, f, S, rfl, by omega, by go_num, Hst.out, by rw [Hts.out]; exact Hhad.out, by rw [Hts.out, List.length_append, HL.out]; omega, by omega, by rw [Hts.out]; exact Hws.out⟩
    · obtain rfl : k = n := by omega
      have hnn := HN.out
      rw [List.take_of_length_le (by omega)] at hws
      have Hst := Lib.hid hst
      have Hws := Lib.hid hws
      clear hst hnn hws hhad hPl
      go_wp2
      go_ret
      exact ⟨_, rfl, ⟨ws, Hst.out.r, Hws.out, Hst.out.k, by omega⟩, Hst.out.b⟩
end Go.Proofs.Ytpnkhgjjlionnaa
namespace Go.Proofs.Ytpnkhgjjlionnaa
open Go.RowKit

/-- Block g holds m slices vs, each owning its row. -/
structure Rws (w : World) (base g m : Nat) (vs : List Value) (rows : List (List Int)) : Prop where
  own : w.ownsRow base 35 1 (.slice (some ⟨g, 0, none⟩) m m) m vs
  len : rows.length = m
  row : ∀ (i : Nat) (v : Value) (r : List Int), vs[i]? = some v → rows[i]? = some r → w.ownsRow base 3 1 v r.length (intsV r)
  apart : ∀ (i j : Nat) (vi vj : Value), i ≠ j → vs[i]? = some vi → vs[j]? = some vj → vi.ownBlock = none ∨ vi.ownBlock ≠ vj.ownBlock
section
variable {w w' : World} {base g m : Nat} {vs : List Value} {rows : List (List Int)}
theorem Rws.vlen (h : Rws w base g m vs rows) : vs.length = m := by
  have := h.own.1
  omega
theorem Rws.kept {row : Option Nat} (h : Rws w base g m vs rows) (hg : w.grownBy w' row) (h1 : some g ≠ row) (h2 : ∀ v n xs, w.ownsRow base 3 1 v n xs → v.ownBlock = none ∨ v.ownBlock ≠ row) : Rws w' base g m vs rows :=
  ⟨h.own.kept hg (.inr h1), h.len, fun i v r hv hr => (h.row i v r hv hr).kept hg (h2 _ _ _ (h.row i v r hv hr)), h.apart⟩
theorem Rws.grown (h : Rws w base g m vs rows) (hg : w.grownBy w' none) : Rws w' base g m vs rows := h.kept hg (by simp) (fun v _ _ _ => by
  cases hb : v.ownBlock
  · exact .inl rfl
  · exact .inr (by simp))
theorem Rws.alloc (h : Rws w base g m vs rows) (o : Obj) : Rws (w.alloc o) base g m vs rows := h.grown (World.grownBy_alloc w o none)
/-- One row is longer. -/
theorem Rws.push (h : Rws w base g m vs rows) {u : Nat} {v v' : Value} {r : List Int} {i : Int} (hv : vs[u]? = some v) (hr : rows[u]? = some r) {W2 : World} (hg : w.grownBy W2 v.ownBlock) (hown : W2.ownsRow base 3 1 v' (r.length + 1) (intsV (r ++ [i])))
    (hloc : v'.ownBlock = v.ownBlock ∨ ∃ g, v'.ownBlock = some g ∧ w.heap.size ≤ g) : Rws (W2.setCell ⟨g, u, none⟩ v') base g m (vs.set u v') (rows.set u (r ++ [i])) ∧ W2.grownBy (W2.setCell ⟨g, u, none⟩ v') (some g) := by
  have hvlen := h.vlen
  have hu := (List.getElem?_eq_some_iff.1 hv).1
  have hne : (Value.slice (some ⟨g, 0, none⟩) m m).ownBlock = none ∨ (Value.slice (some ⟨g, 0, none⟩) m m).ownBlock ≠ v.ownBlock := own_own_ne h.own (h.row u v r hv hr) (by decide)
  have ho2 := h.own.kept hg hne
  obtain ⟨ho3, hg3⟩ := ho2.stored u v'
  have hgl : g < w.heap.size := (h.own.lt g rfl).2
  have nb : ∀ {x : Value} {n : Nat} {xs : List Value}, W2.ownsRow base 3 1 x n xs → x.ownBlock = none ∨ x.ownBlock ≠ some g := fun {x n xs} hx => own_own_ne hx ho2 (by decide)
  have old_new : ∀ (k : Nat) (x : Value), k ≠ u → vs[k]? = some x → x.ownBlock = none ∨ x.ownBlock ≠ v'.ownBlock := by
    intro k x hk hx
    rcases hloc with e | ⟨b, e, hb⟩
    · rw [e]
      exact h.apart k u x v hk hx hv
    · cases hx' : x.ownBlock with
      | none => exact .inl rfl
      | some b' =>
        refine .inr (fun e2 => ?_)
        have hk' : k < rows.length := by rw [h.len, ← hvlen]; exact (List.getElem?_eq_some_iff.1 hx).1
        have := ((h.row k x _ hx (List.getElem?_eq_getElem hk')).lt _ hx').2
        rw [e] at e2
        cases e2
        omega
  refine ⟨⟨ho3, by simp [h.len], ?_, ?_⟩, hg3⟩
  · intro k x q hx hq
    by_cases e : u = k
    · subst e
      rw [List.getElem?_set_self hu] at hx
      rw [List.getElem?_set_self (by rw [h.len, ← hvlen]; exact hu)] at hq
      cases hx
      cases hq
      rw [List.length_append]
      exact hown.kept hg3 (nb hown)
    · rw [List.getElem?_set_ne e] at hx hq
      have := (h.row k x q hx hq).kept hg (h.apart k u x v (fun e' => e e'.symm) hx hv)
      exact this.kept hg3 (nb this)
  · intro k j x y hkj hx hy
    by_cases e : u = k
    · subst e
      rw [List.getElem?_set_self hu] at hx
      cases hx
      rw [List.getElem?_set_ne hkj] at hy
      have := old_new j y (fun e => hkj e.symm) hy
      cases hv' : v'.ownBlock with
      | none => exact .inl rfl
      | some b =>
        refine .inr (fun e2 => ?_)
        rcases this with h | h
        · rw [h] at e2; cases e2
        · exact h (by rw [hv', e2])
    · rw [List.getElem?_set_ne e] at hx
      by_cases e' : u = j
      · subst e'
        rw [List.getElem?_set_self hu] at hy
        cases hy
        exact old_new k x (fun e => hkj e) hx
      · rw [List.getElem?_set_ne e'] at hy
        exact h.apart k j x y hkj hx hy
/-- Made: all nil. -/
theorem Rws.made (hown : w.ownsRow base 35 1 (.slice (some ⟨g, 0, none⟩) m m) m (List.replicate m (.slice none 0 0))) : Rws w base g m (List.replicate m (.slice none 0 0)) (List.replicate m []) where
  own := hown
  len := by simp
  row := by
    intro i v r hv hr
    rw [List.getElem?_replicate] at hv hr
    by_cases hi : i < m
    · rw [if_pos hi] at hv hr
      cases hv
      cases hr
      exact World.ownsRow_nil _ _ _ _
    · rw [if_neg hi] at hv
      cases hv
  apart := by
    intro i j vi vj _ hi _
    rw [List.getElem?_replicate] at hi
    split at hi <;> simp at hi
    subst hi
    exact .inl rfl
end
theorem made_rows (m : Nat) : (madeCells (Value.slice none 0 0).cells (m * 1)).toList = List.replicate m (.slice none 0 0) := by
  rw [Nat.mul_one]
  show (madeCells #[Value.slice none 0 0] m).toList = _
  rw [toList_madeCells_one]
theorem infoInts : (Try.prog.info? 35).map (fun i => (i.zero, i.size, i.bytes)) = some (some (.slice none 0 0), 1, 24) := by kernel_rfl

/-! Which triangles stand at a vertex. -/
def three (t : Tr) (i : Nat) : List (Int × Nat) := [(t.1, i), (t.2.1, i), (t.2.2, i)]
def preT (T : List Tr) (k : Nat) : List (Int × Nat) := (List.range k).flatMap fun i => three (T[i]?.getD (0, 0, 0)) i
def sieve (pre : List (Int × Nat)) (u : Int) : List Nat := (pre.filter fun p => p.1 == u).map (·.2)
def rowsOf (pre : List (Int × Nat)) (m : Nat) : List (List Int) := (List.range m).map fun u : Nat => nats (sieve pre u)
def atV (T : List Tr) (u : Int) : List Nat := sieve (preT T T.length) u
theorem preT_succ {T : List Tr} {k : Nat} {t : Tr} (h : T[k]? = some t) : preT T (k + 1) = preT T k ++ three t k := by
  unfold preT
  rw [List.range_succ, List.flatMap_append]
  simp [h]
theorem rowsOf_at {pre : List (Int × Nat)} {m u : Nat} (h : u < m) : (rowsOf pre m)[u]? = some (nats (sieve pre u)) := by simp [rowsOf, h]
theorem rowsOf_snoc {pre : List (Int × Nat)} {m u i : Nat} : rowsOf (pre ++ [((u : Int), i)]) m = (rowsOf pre m).set u (nats (sieve pre u) ++ [(i : Int)]) := by
  apply List.ext_getElem?
  intro k
  rw [List.getElem?_set]
  by_cases hk : k < m
  · rw [rowsOf_at hk]
    by_cases e : u = k
    · subst e
      rw [if_pos rfl, if_pos (by simp [rowsOf]; exact hk)]
      simp [sieve, nats]
    · rw [if_neg e, rowsOf_at hk]
      have : ((u : Int) == (k : Int)) = false := by simp; omega
      simp [sieve, this]
  · rw [List.getElem?_eq_none (by simp [rowsOf]; omega)]
    by_cases e : u = k
    · subst e
      rw [if_pos rfl, if_neg (by simp [rowsOf]; omega)]
    · rw [if_neg e, List.getElem?_eq_none (by simp [rowsOf]; omega)]
theorem rowsOf_nil (m : Nat) : rowsOf [] m = List.replicate m [] := by
  apply List.ext_getElem?
  intro k
  by_cases hk : k < m
  · rw [rowsOf_at hk, List.getElem?_replicate, if_pos hk]
    rfl
  · rw [List.getElem?_eq_none (by simp [rowsOf]; omega), List.getElem?_eq_none (by simp; omega)]
theorem sieve_length (pre : List (Int × Nat)) (u : Int) : (sieve pre u).length ≤ pre.length := by
  unfold sieve
  rw [List.length_map]
  exact List.length_filter_le _ _
theorem preT_length (T : List Tr) (k : Nat) : (preT T k).length = 3 * k := by
  induction k with
  | zero => rfl
  | succ k ih =>
    unfold preT at ih ⊢
    rw [List.range_succ, List.flatMap_append, List.length_append, ih]
    simp [three]
    omega
theorem preT_mem {T : List Tr} {k : Nat} {u : Int} {i : Nat} : (u, i) ∈ preT T k ↔ i < k ∧ hasV (T[i]?.getD (0, 0, 0)) u := by
  simp only [preT, three, List.mem_flatMap, List.mem_range, List.mem_cons, List.not_mem_nil, or_false, Prod.mk.injEq, hasV]
  constructor
  · rintro ⟨j, hj, h⟩
    rcases h with ⟨rfl, rfl⟩ | ⟨rfl, rfl⟩ | ⟨rfl, rfl⟩
    · exact ⟨hj, .inl rfl⟩
    · exact ⟨hj, .inr (.inl rfl)⟩
    · exact ⟨hj, .inr (.inr rfl)⟩
  · rintro ⟨hi, h⟩
    refine ⟨i, hi, ?_⟩
    rcases h with rfl | rfl | rfl
    · exact .inl ⟨rfl, rfl⟩
    · exact .inr (.inl ⟨rfl, rfl⟩)
    · exact .inr (.inr ⟨rfl, rfl⟩)
theorem sieve_mem {pre : List (Int × Nat)} {u : Int} {i : Nat} : i ∈ sieve pre u ↔ (u, i) ∈ pre := by
  simp only [sieve, List.mem_map, List.mem_filter, beq_iff_eq]
  constructor
  · rintro ⟨⟨a, b⟩, ⟨h1, h2⟩, h3⟩
    simp only at h2 h3
    subst h2
    subst h3
    exact h1
  · intro h
    exact ⟨(u, i), ⟨h, rfl⟩, rfl⟩
theorem atV_mem {T : List Tr} {u : Int} {i : Nat} : i ∈ atV T u ↔ ∃ t, T[i]? = some t ∧ hasV t u := by
  unfold atV
  rw [sieve_mem, preT_mem]
  constructor
  · rintro ⟨h1, h2⟩
    rw [List.getElem?_eq_getElem h1] at h2
    exact ⟨_, List.getElem?_eq_getElem h1, h2⟩
  · rintro ⟨t, h1, h2⟩
    refine ⟨(List.getElem?_eq_some_iff.1 h1).1, ?_⟩
    rw [h1]
    exact h2
theorem sieve_three (t : Tr) (i : Nat) (u : Int) (h : simple3 t) : sieve (three t i) u = [] ∨ sieve (three t i) u = [i] := by
  obtain ⟨x, y, z⟩ := t
  obtain ⟨h1, h2, h3⟩ := h
  simp only at h1 h2 h3
  by_cases a : x = u
  · subst a
    have b : (y == x) = false := by simpa using fun e => h1 e.symm
    have c : (z == x) = false := by simpa using h3
    right
    simp [sieve, three, b, c]
  · have a' : (x == u) = false := by simpa using a
    by_cases b : y = u
    · subst b
      have c : (z == y) = false := by simpa using fun e => h2 e.symm
      right
      simp [sieve, three, a', c]
    · have b' : (y == u) = false := by simpa using b
      by_cases c : z = u
      · subst c
        right
        simp [sieve, three, a', b']
      · have c' : (z == u) = false := by simpa using c
        left
        simp [sieve, three, a', b', c']
theorem sieve_nodup {T : List Tr} (h : ∀ t ∈ T, simple3 t) (u : Int) : ∀ k, k ≤ T.length → (sieve (preT T k) u).Nodup
  | 0, _ => by simp [preT, sieve]
  | k + 1, hk => by
    have ht : T[k]? = some T[k] := List.getElem?_eq_getElem (by omega)
    rw [preT_succ ht]
    have e : sieve (preT T k ++ three T[k] k) u = sieve (preT T k) u ++ sieve (three T[k] k) u := by simp [sieve]
    rw [e, List.nodup_append]
    refine ⟨sieve_nodup h u k (by omega), ?_, ?_⟩
    · rcases sieve_three T[k] k u (h _ (List.getElem_mem _)) with e | e <;> simp [e]
    · intro a ha b hb e2
      subst e2
      rw [sieve_mem, preT_mem] at ha
      rcases sieve_three T[k] k u (h _ (List.getElem_mem _)) with e | e
      · rw [e] at hb; cases hb
      · rw [e, List.mem_singleton] at hb
        omega
theorem atV_nodup {T : List Tr} (h : ∀ t ∈ T, simple3 t) (u : Int) : (atV T u).Nodup := sieve_nodup h u _ (Nat.le_refl _)
theorem atV_some {T : List Tr} {u : Int} (h : u ∈ flatT T) : atV T u ≠ [] := by
  simp only [flatT, List.mem_flatMap] at h
  obtain ⟨t, ht, hu⟩ := h
  obtain ⟨i, hi⟩ := List.mem_iff_getElem?.1 ht
  have : i ∈ atV T u := atV_mem.2 ⟨t, hi, by simpa [hasV] using hu⟩
  intro e
  rw [e] at this
  cases this
theorem atV_lt {T : List Tr} {u : Int} : ∀ i ∈ atV T u, i < T.length := fun i hi => by
  obtain ⟨t, ht, _⟩ := atV_mem.1 hi
  exact (List.getElem?_eq_some_iff.1 ht).1
theorem atV_length {T : List Tr} (h : ∀ t ∈ T, simple3 t) (u : Int) : (atV T u).length ≤ T.length := by
  have := Jor.nodup_le (m := List.range T.length) (atV_nodup h u) (fun i hi => List.mem_range.2 (atV_lt i hi))
  simpa using this
end Go.Proofs.Ytpnkhgjjlionnaa
namespace Go.Proofs.Ytpnkhgjjlionnaa
open Go.RowKit Go.Maps

theorem IQ.slen {w : World} {base : Nat} {v : Value} {zs : List Int} (h : IQ w base v zs) : sliceLen v = zs.length := by
  obtain ⟨ao, c, rfl⟩ := h.form
  rfl
theorem nats_at {l : List Nat} {j i : Nat} (h : l[j]? = some i) : (nats l)[j]? = some (i : Int) := by simp [nats, h]
theorem told_take {T : List Tr} {v : Int} {l : List Nat} {j i : Nat} {x y z : Int} (h : l[j]? = some i) (ht : T[i]? = some (x, y, z)) : told T v (l.take (j + 1)) = told T v (l.take j) ++ tells v (x, y, z) i := by
  obtain ⟨hk, he⟩ := List.getElem?_eq_some_iff.1 h
  rw [List.take_succ_eq_append_getElem hk, he, told_snoc, ht]
  rfl
def tells1 (v x : Int) (i : Nat) : List (Int × Nat) := if x = v then [] else [(x, i)]
theorem tells_eq (v x y z : Int) (i : Nat) : tells v (x, y, z) i = tells1 v x i ++ tells1 v y i ++ tells1 v z i := by
  unfold tells tells1
  by_cases a : x = v <;> by_cases b : y = v <;> by_cases c : z = v <;> simp [a, b, c]
def tellsN (v x y z : Int) (i j : Nat) : List (Int × Nat) := (if 1 ≤ j then tells1 v x i else []) ++ (if 2 ≤ j then tells1 v y i else []) ++ (if 3 ≤ j then tells1 v z i else [])
theorem told_length (T : List Tr) (v : Int) (l : List Nat) : (told T v l).length ≤ 3 * l.length := by
  unfold told
  induction l with
  | nil => simp
  | cons a l ih =>
    rw [List.flatMap_cons, List.length_append, List.length_cons]
    have := tells_length v (T[a]?.getD (0, 0, 0)) a
    omega

theorem tellsN_length (v x y z : Int) (i j : Nat) : (tellsN v x y z i j).length ≤ 3 := by
  have h1 : ∀ u, (tells1 v u i).length ≤ 1 := fun u => by unfold tells1; split <;> simp
  have a := h1 x
  have b := h1 y
  have c := h1 z
  unfold tellsN
  simp only [List.length_append]
  split <;> split <;> split <;> simp <;> omega
theorem Ends.len {f : Value → List Int} {pre : List (Int × Nat)} (h : Ends f pre) (x : Int) : (f (.int .i64 x)).length ≤ pre.length := by
  obtain ⟨l, h1, _, h3⟩ := h x
  rw [h1, nats_length]
  exact h3
set_option maxRecDepth 100000 in
set_option maxHeartbeats 4000000 in
theorem together_any (N v : Int) (vT vl : Value) (T : List Tr) (l : List Nat) (w : World) (h : TrisRd w vT T) (hr : IntsRd w vl (nats l)) (hT : T.length ≤ 8192) (hll : l.length ≤ 8192) (hi : ∀ i ∈ l, i < T.length) (h0 : l ≠ []) (hnd : l.Nodup) (hin : ∀ t ∈ T, in3 N t) (hN : N ≤ 4096) :
    Calls Try.prog 124 #[.agg #[.int .i64 N, vT], .int .i64 v, vl] w fun e w' => ∃ b : Bool, e = .returned (.bool b) ∧ (b = true ↔ ConnV T v l) ∧ Below w.heap.size w w' := by
  obtain ⟨i2, hj', hz0, hz1, hz2⟩ := info_parts infoInt
  obtain ⟨aT, cT, rfl, hc1, hc2, hrT⟩ := h
  obtain ⟨al, cl, rfl, hl1, hrl⟩ := hr
  rw [nats_length] at hl1 ⊢
  have HT := Lib.hid hrT
  have HL := Lib.hid hrl
  have HI := Lib.hid hi
  have HIN := Lib.hid hin
  have HND := Lib.hid hnd
  have b1 := Blk.new w 24 #[.int .i64 N, .slice aT T.length cT]
  have hB0 : Below w.heap.size w (w.alloc (.cells #[.int .i64 N, .slice aT T.length cT] 24)) := (Below.refl _ _).alloc (Nat.le_refl _) _
  have g0 := Grp.made (w.alloc (.cells #[.int .i64 N, .slice aT T.length cT] 24)) Try.prog 3 3 (base := w.heap.size + 2) (by rw [size_alloc']; omega)
  rw [size_alloc'] at g0
  have hB1 := hB0.alloc hB0.size (.map #[] 0)
  have b2 := b1.alloc (.map #[] 0)
  obtain ⟨n, hn⟩ : ∃ n, T.length = n := ⟨_, rfl⟩
  obtain ⟨m, hm⟩ : ∃ m, l.length = m := ⟨_, rfl⟩
  rw [hn] at hT hc1 hB1 b2 g0 ⊢
  rw [hm] at hll hl1 ⊢
  have HN := Lib.hid hn
  have HM := Lib.hid hm
  have hm0 : 0 < m := by
    rw [← hm]
    exact List.length_pos_iff.2 h0
  have ix0 := @index_t0
  have ix1 := @index_t1
  have ix2 := @index_t2
  have hmm := @run_makeMap Try.prog
  clear hrT hrl hi hin hnd hn hm h0 b1 hB0
  go_enter Try.func124, Try.ntmps124
  go_wp2
  clear hmm
  go_loopw [22] (fun i wr => ∃ (j : Nat) (f : Value → List Int), j ≤ m ∧ i = .int .i64 j ∧ Grp Try.prog 3 (w.heap.size + 2) 3 wr (w.heap.size + 1) f ∧ Ends f (told T v (l.take j)) ∧ Blk wr w.heap.size 24 #[.int .i64 N, .slice aT n cT] ∧ Below w.heap.size w wr) (fun i _ => m - (intOf i).toNat)
  case atStart => exact ⟨0, _, Nat.zero_le _, rfl, g0, by simpa [told] using Ends.nil, b2, hB1⟩
  case round =>
    clear g0 b2 hB1
    obtain ⟨j, f, hj, rfl, hg, hE, hb, hB⟩ := hrel
    rename World => wr
    by_cases hlt : j < m
    · obtain ⟨i, hil⟩ : ∃ i, l[j]? = some i := ⟨l[j]'(by have := HM.out; omega), List.getElem?_eq_getElem _⟩
      have hin := HI.out i (List.mem_of_getElem? hil)
      obtain ⟨bl, ol, rfl, hbl, sl⟩ := HL.out j _ (nats_at hil)
      have sl' := (hB.cell (p := ⟨bl, _, none⟩) hbl).trans sl
      obtain ⟨t, ht⟩ : ∃ t, T[i]? = some t := ⟨T[i], List.getElem?_eq_getElem _⟩
      obtain ⟨x, y, z⟩ := t
      obtain ⟨⟨o1, o2⟩, ⟨o3, o4⟩, ⟨o5, o6⟩⟩ := HIN.out _ (List.mem_of_getElem? ht)
      simp only at o1 o2 o3 o4 o5 o6
      obtain ⟨b, o, rfl, hbT, s0, s1, s2⟩ := HT.out i x y z ht
      have s0' := (hB.cell (p := ⟨b, _, none⟩) hbT).trans s0
      have s1' := (hB.cell (p := ⟨b, _, none⟩) hbT).trans s1
      have s2' := (hB.cell (p := ⟨b, _, none⟩) hbT).trans s2
      obtain ⟨ly, y0, -, y1, -⟩ := hb.two
      rw [HN.out] at hin
      have hi3 : (i : Int) < (n : Int) := by omega
      have hi0 : (0 : Int) ≤ (i : Int) := by omega
      have hk3 : (j : Int) < (m : Int) := by omega
      have hk0 : (0 : Int) ≤ (j : Int) := by omega
      have Hts := Lib.hid (told_take (v := v) hil ht)
      have Htl : Hid ((told T v (l.take j)).length ≤ 3 * j) := Lib.hid (by
        have := told_length T v (l.take j)
        have := List.length_take_le j l
        omega)
      have HE := Lib.hid hE
      have Hg := Lib.hid hg
      have Hb := Lib.hid hb
      clear sl s0 s1 s2 hil ht hE hg hb
      go_wp2
      rename World => wA
      go_loopw [31] (fun ix wq => ∃ (q : Nat) (f' : Value → List Int), q ≤ 3 ∧ ix = .int .i64 q ∧ Grp Try.prog 3 (w.heap.size + 2) 3 wq (w.heap.size + 1) f' ∧ Ends f' (told T v (l.take j) ++ tellsN v x y z i q) ∧ Blk wq w.heap.size 24 #[.int .i64 N, .slice (some ⟨b, o, none⟩) n cT] ∧ Below w.heap.size w wq) (fun ix _ => 3 - (intOf ix).toNat)
      case atStart => exact ⟨0, f, by omega, rfl, Hg.out, by simpa [tellsN] using HE.out, Hb.out, hB⟩
      case round =>
        clear Hg HE Hb hB y0 y1 ly s0' s1' s2' sl'
        clear f
        obtain ⟨q, f', hq, rfl, hg, hE2, hb, hB⟩ := hrel
        rename World => wq
        have HE2 := Lib.hid hE2
        clear hE2
        have hq' : q = 0 ∨ q = 1 ∨ q = 2 ∨ q = 3 := by omega
        rcases hq' with rfl | rfl | rfl | rfl
        · have hts : tellsN v x y z i 1 = tellsN v x y z i 0 ++ tells1 v x i := by simp [tellsN]
          by_cases hcv : x = v
          · have hb1 : (x != v) = false := by simp [hcv]
            have Hn : Hid (tells1 v x i = []) := Lib.hid (by simp [tells1, hcv])
            have Hts2 := Lib.hid hts
            have Hgq := Lib.hid hg
            clear hcv hts hg
            go_wp2
            go_roundw
            case measure => simp [intOf]
            case rel => exact ⟨1, f', by omega, by simp, Hgq.out, by rw [Hts2.out, Hn.out, List.append_nil]; exact HE2.out, hb, hB⟩
          · have hb1 : (x != v) = true := by simp [hcv]
            have Hn : Hid (tells1 v x i = [(x, i)]) := Lib.hid (by simp [tells1, hcv])
            have Hts2 := Lib.hid hts
            have hln := HE2.out.len x
            have hln2 := tellsN_length v x y z i 0
            rw [List.length_append] at hln
            have htl := Htl.out
            have c6 : (f' (.int .i64 x)).length + 1 ≤ maxLen := by unfold maxLen; omega
            have c7 : ((f' (.int .i64 x)).length + 1) * 8 ≤ 140737488355328 := by omega
            have hkey := keyOf_int_mk (P := Try.prog) (k := 3) (q := .i64) Try.underlying3 (wfS (x := x) ⟨by omega, by omega⟩)
            have hszq := hB.size
            have hgl := hg.lt
            clear hcv hts hln hln2 htl
            go_wp2_with (first
              | (at_lookup; refine wpList_lookupG2 hg rfl _ _ 190 35 rfl (int_keyed Try.underlying3) Try.underlying190 (zero_ints _) rfl (.int .i64 x) rfl hkey ?_; intro v0 hr0 hup)
              | (at_builtin; refine wpList_append_lies _ rfl (.tmp 41) (.tmp 43) 35 rfl (w.heap.size + 2) 3 i2 _ 1 8 Try.underlying35 hj' hz0 hz1 hz2 rfl (by decide) v0 (f' (.int .i64 x)).length (intsV (f' (.int .i64 x))) rfl (hr0.alloc _) ⟨wq.heap.size, 0, none⟩ 1 1 [.int .i64 i] rfl rfl (World.news_of_block (heap_alloc_new _ _)) (by simp [Value.oneCell']) (by decide) c6 c7 (by rw [size_alloc']; omega) (wq.heap.size + 1) (by simp) ?_; intro g6 cap6 W6 hr6 hg6 hat6 _; have hz6 := hg6.size; rw [size_alloc'] at hz6; obtain ⟨W7, hrun7, hG7, hg7, hs7⟩ := hup W6 (.slice (some ⟨g6, 0, none⟩) ((f' (.int .i64 x)).length + 1) cap6) (f' (.int .i64 x) ++ [(i : Int)]) (gGrown (World.grownBy_alloc _ _ _) hg6 (row := v0.ownBlock) (fun _ e => .inl e)) (by simpa [intsV] using hr6) (hat6.imp (fun e => e.symm) (fun e => ⟨g6, rfl, by omega⟩)))
              | (at_mapUpdate; refine wpList_mapUpdate rfl _ _ _ 190 rfl rfl rfl rfl hrun7 ?_))
            go_roundw
            case measure => simp [intOf]
            case rel => exact ⟨1, _, by omega, by simp, hG7, by rw [Hts2.out, Hn.out, ← List.append_assoc]; exact HE2.out.put x i, ((hb.alloc _).grown hg6 (fun e => by have := (hr0.lt _ e.symm).1; omega)).grown hg7 (by simp), ((hB.alloc hszq _).grown hg6 (by rw [size_alloc']; omega) (fun j e => by have := (hr0.lt j e).1; omega)).grown hg7 (by omega) (fun j e => by cases e; omega)⟩
        · have hts : tellsN v x y z i 2 = tellsN v x y z i 1 ++ tells1 v y i := by simp [tellsN]
          by_cases hcv : y = v
          · have hb1 : (y != v) = false := by simp [hcv]
            have Hn : Hid (tells1 v y i = []) := Lib.hid (by simp [tells1, hcv])
            have Hts2 := Lib.hid hts
            have Hgq := Lib.hid hg
            clear hcv hts hg
            go_wp2
            go_roundw
            case measure => simp [intOf]
            case rel => exact ⟨2, f', by omega, by simp, Hgq.out, by rw [Hts2.out, Hn.out, List.append_nil]; exact HE2.out, hb, hB⟩
          · have hb1 : (y != v) = true := by simp [hcv]
            have Hn : Hid (tells1 v y i = [(y, i)]) := Lib.hid (by simp [tells1, hcv])
            have Hts2 := Lib.hid hts
            have hln := HE2.out.len y
            have hln2 := tellsN_length v x y z i 1
            rw [List.length_append] at hln
            have htl := Htl.out
            have c6 : (f' (.int .i64 y)).length + 1 ≤ maxLen := by unfold maxLen; omega
            have c7 : ((f' (.int .i64 y)).length + 1) * 8 ≤ 140737488355328 := by omega
            have hkey := keyOf_int_mk (P := Try.prog) (k := 3) (q := .i64) Try.underlying3 (wfS (x := y) ⟨by omega, by omega⟩)
            have hszq := hB.size
            have hgl := hg.lt
            clear hcv hts hln hln2 htl
            go_wp2_with (first
              | (at_lookup; refine wpList_lookupG2 hg rfl _ _ 190 35 rfl (int_keyed Try.underlying3) Try.underlying190 (zero_ints _) rfl (.int .i64 y) rfl hkey ?_; intro v0 hr0 hup)
              | (at_builtin; refine wpList_append_lies _ rfl (.tmp 41) (.tmp 43) 35 rfl (w.heap.size + 2) 3 i2 _ 1 8 Try.underlying35 hj' hz0 hz1 hz2 rfl (by decide) v0 (f' (.int .i64 y)).length (intsV (f' (.int .i64 y))) rfl (hr0.alloc _) ⟨wq.heap.size, 0, none⟩ 1 1 [.int .i64 i] rfl rfl (World.news_of_block (heap_alloc_new _ _)) (by simp [Value.oneCell']) (by decide) c6 c7 (by rw [size_alloc']; omega) (wq.heap.size + 1) (by simp) ?_; intro g6 cap6 W6 hr6 hg6 hat6 _; have hz6 := hg6.size; rw [size_alloc'] at hz6; obtain ⟨W7, hrun7, hG7, hg7, hs7⟩ := hup W6 (.slice (some ⟨g6, 0, none⟩) ((f' (.int .i64 y)).length + 1) cap6) (f' (.int .i64 y) ++ [(i : Int)]) (gGrown (World.grownBy_alloc _ _ _) hg6 (row := v0.ownBlock) (fun _ e => .inl e)) (by simpa [intsV] using hr6) (hat6.imp (fun e => e.symm) (fun e => ⟨g6, rfl, by omega⟩)))
              | (at_mapUpdate; refine wpList_mapUpdate rfl _ _ _ 190 rfl rfl rfl rfl hrun7 ?_))
            go_roundw
            case measure => simp [intOf]
            case rel => exact ⟨2, _, by omega, by simp, hG7, by rw [Hts2.out, Hn.out, ← List.append_assoc]; exact HE2.out.put y i, ((hb.alloc _).grown hg6 (fun e => by have := (hr0.lt _ e.symm).1; omega)).grown hg7 (by simp), ((hB.alloc hszq _).grown hg6 (by rw [size_alloc']; omega) (fun j e => by have := (hr0.lt j e).1; omega)).grown hg7 (by omega) (fun j e => by cases e; omega)⟩
        · have hts : tellsN v x y z i 3 = tellsN v x y z i 2 ++ tells1 v z i := by simp [tellsN]
          by_cases hcv : z = v
          · have hb1 : (z != v) = false := by simp [hcv]
            have Hn : Hid (tells1 v z i = []) := Lib.hid (by simp [tells1, hcv])
            have Hts2 := Lib.hid hts
            have Hgq := Lib.hid hg
            clear hcv hts hg
            go_wp2
            go_roundw
            case measure => simp [intOf]
            case rel => exact ⟨3, f', by omega, by simp, Hgq.out, by rw [Hts2.out, Hn.out, List.append_nil]; exact HE2.out, hb, hB⟩
          · have hb1 : (z != v) = true := by simp [hcv]
            have Hn : Hid (tells1 v z i = [(z, i)]) := Lib.hid (by simp [tells1, hcv])
            have Hts2 := Lib.hid hts
            have hln := HE2.out.len z
            have hln2 := tellsN_length v x y z i 2
            rw [List.length_append] at hln
            have htl := Htl.out
            have c6 : (f' (.int .i64 z)).length + 1 ≤ maxLen := by unfold maxLen; omega
            have c7 : ((f' (.int .i64 z)).length + 1) * 8 ≤ 140737488355328 := by omega
            have hkey := keyOf_int_mk (P := Try.prog) (k := 3) (q := .i64) Try.underlying3 (wfS (x := z) ⟨by omega, by omega⟩)
            have hszq := hB.size
            have hgl := hg.lt
            clear hcv hts hln hln2 htl
            go_wp2_with (first
              | (at_lookup; refine wpList_lookupG2 hg rfl _ _ 190 35 rfl (int_keyed Try.underlying3) Try.underlying190 (zero_ints _) rfl (.int .i64 z) rfl hkey ?_; intro v0 hr0 hup)
              | (at_builtin; refine wpList_append_lies _ rfl (.tmp 41) (.tmp 43) 35 rfl (w.heap.size + 2) 3 i2 _ 1 8 Try.underlying35 hj' hz0 hz1 hz2 rfl (by decide) v0 (f' (.int .i64 z)).length (intsV (f' (.int .i64 z))) rfl (hr0.alloc _) ⟨wq.heap.size, 0, none⟩ 1 1 [.int .i64 i] rfl rfl (World.news_of_block (heap_alloc_new _ _)) (by simp [Value.oneCell']) (by decide) c6 c7 (by rw [size_alloc']; omega) (wq.heap.size + 1) (by simp) ?_; intro g6 cap6 W6 hr6 hg6 hat6 _; have hz6 := hg6.size; rw [size_alloc'] at hz6; obtain ⟨W7, hrun7, hG7, hg7, hs7⟩ := hup W6 (.slice (some ⟨g6, 0, none⟩) ((f' (.int .i64 z)).length + 1) cap6) (f' (.int .i64 z) ++ [(i : Int)]) (gGrown (World.grownBy_alloc _ _ _) hg6 (row := v0.ownBlock) (fun _ e => .inl e)) (by simpa [intsV] using hr6) (hat6.imp (fun e => e.symm) (fun e => ⟨g6, rfl, by omega⟩)))
              | (at_mapUpdate; refine wpList_mapUpdate rfl _ _ _ 190 rfl rfl rfl rfl hrun7 ?_))
            go_roundw
            case measure => simp [intOf]
            case rel => exact ⟨3, _, by omega, by simp, hG7, by rw [Hts2.out, Hn.out, ← List.append_assoc]; exact HE2.out.put z i, ((hb.alloc _).grown hg6 (fun e => by have := (hr0.lt _ e.symm).1; omega)).grown hg7 (by simp), ((hB.alloc hszq _).grown hg6 (by rw [size_alloc']; omega) (fun j e => by have := (hr0.lt j e).1; omega)).grown hg7 (by omega) (fun j e => by cases e; omega)⟩
        · have HE3 : Hid (Ends f' (told T v (l.take (j + 1)))) := Lib.hid (by
            rw [Hts.out, tells_eq]
            have := HE2.out
            simpa [tellsN] using this)
          have Hgq := Lib.hid hg
          clear hg
          go_wp2
          go_roundw
          case measure => simp [intOf]; omega
          case rel => exact ⟨j + 1, f', by omega, by go_num, Hgq.out, HE3.out, hb, hB⟩
    · obtain rfl : j = m := by omega
      obtain ⟨i, hil⟩ : ∃ i, l[0]? = some i := ⟨l[0]'(by have := HM.out; omega), List.getElem?_eq_getElem _⟩
      have hin := HI.out i (List.mem_of_getElem? hil)
      obtain ⟨bl, ol, rfl, hbl, sl⟩ := HL.out 0 _ (nats_at hil)
      rw [Nat.add_zero] at sl
      have sl' := (hB.cell (p := ⟨bl, _, none⟩) hbl).trans sl
      have hbl2 : bl < wr.heap.size := Nat.lt_of_lt_of_le hbl hB.size
      rw [HN.out] at hin
      have hmm2 := HM.out
      rw [List.take_of_length_le (by omega)] at hE
      have HE := Lib.hid hE
      have Hg := Lib.hid hg
      have Hb := Lib.hid hb
      have hks := KSet.made wr Try.prog 3
      have hkey := keyOf_int_mk (P := Try.prog) (k := 3) (q := .i64) Try.underlying3 (wfS (x := (i : Int)) ⟨by omega, by omega⟩)
      have hB1x := hB
      have sl2 := ((Below.refl _ wr).alloc (Nat.le_refl _) (.map #[] 0)).cell (p := ⟨bl, ol, none⟩) hbl2
      have sl3 := sl2.trans sl'
      have hmk := @run_makeMap Try.prog
      have hB2 := hB.size
      have HIL := Lib.hid hil
      clear sl sl2 hE hg hb hmm2 hil
      go_wp2_with (refine wpList_storeK hks rfl _ _ _ 109 (.inr rfl) (int_keyed Try.underlying3) Try.underlying109 rfl (.int .i64 i) rfl rfl hkey (by simp) ?_; intro w5 hk5 hg5 hs5; clear hmk; rw [size_alloc'] at hs5; have sl5 := (hg5.cell sl3 (by simp; omega)))
      have hbq := Blk.new w5 3 #[.int .i64 i]
      rw [hs5] at hbq
      have hq0 : IQ (w5.alloc (.cells #[.int .i64 i] 3)) (wr.heap.size + 1) (.slice (some ⟨wr.heap.size + 1, 0, none⟩) 1 1) (nats [i]) := IQ.one hbq (Nat.le_refl _)
      have hk0 : KSet Try.prog 3 (w5.alloc (.cells #[.int .i64 i] 3)) wr.heap.size (intsV (nats [i])) := by
        have := hk5.alloc (.cells #[.int .i64 i] 3)
        simpa [intsV, nats] using this
      have hB5 : Below wr.heap.size wr (w5.alloc (.cells #[.int .i64 i] 3)) := (((Below.refl _ wr).alloc (Nat.le_refl _) (.map #[] 0)).grown hg5 (by rw [size_alloc']; omega) (fun j e => by cases e; omega)).alloc (by omega) _
      have hbf : Bfs T v l [i] [i] := Bfs.start (by have := HIL.out; rw [List.head?_eq_getElem?]; exact this)
      have Hq0 := Lib.hid hq0
      have Hk0 := Lib.hid hk0
      have Hb0 := Lib.hid hbf
      clear hbq hq0 hk0 hbf hks hk5 hg5 hs5 sl5 sl3 hkey HIL
      go_loopw [13] (fun v13 wz => ∃ (v' : Value) (R Q : List Nat), v' = v13 ∧ IQ wz (wr.heap.size + 1) v' (nats Q) ∧ KSet Try.prog 3 wz wr.heap.size (intsV (nats R)) ∧ Bfs T v l R Q ∧ Below wr.heap.size wr wz) (fun v13 wz => 2 * (j - mapSize wz wr.heap.size) + sliceLen v13)
      case atStart => exact ⟨_, [i], [i], rfl, Hq0.out, Hk0.out, Hb0.out, hB5⟩
      case round =>
        clear Hq0 Hk0 Hb0 hB5
        obtain ⟨v13, R, Q, rfl, hIQ, hks, hbf, hB5⟩ := hrel
        rename World => wz
        cases Q with
        | nil =>
          obtain ⟨ao, cq, rfl⟩ := hIQ.form
          have hfin := hbf.finish HND.out
          rw [HM.out] at hfin
          obtain ⟨ks, hke⟩ : ∃ ks, ks = intsV (nats R) := ⟨_, rfl⟩
          have hkl : ks.length = R.length := by rw [hke]; simp [intsV, nats]
          rw [← hke] at hks
          have hB6 := hB1x.trans (hB5.mono hB1x.size)
          have HB6 := Lib.hid hB6
          have Hks := Lib.hid hks
          by_cases hfe : R.length = j
          · have hb1 : ((ks.length : Int) == (j : Int)) = true := by rw [hkl, hfe]; simp
            have Hc := Lib.hid (hfin.1 hfe)
            clear hfe hfin hkl hke hbf hIQ hB5 hks hB6
            go_wp2_with (refine wpList_lenK Hks.out rfl _ 109 rfl Try.underlying109 rfl ?_)
            go_ret
            exact ⟨true, rfl, by simp [Hc.out], HB6.out⟩
          · have hb1 : ((ks.length : Int) == (j : Int)) = false := by rw [hkl]; simp; omega
            have Hc := Lib.hid (fun h => hfe (hfin.2 h))
            clear hfe hfin hkl hke hbf hIQ hB5 hks hB6
            go_wp2_with (refine wpList_lenK Hks.out rfl _ 109 rfl Try.underlying109 rfl ?_)
            go_ret
            exact ⟨false, rfl, ⟨fun e => Bool.noConfusion e, fun h => (Hc.out h).elim⟩, HB6.out⟩
        | cons i Q =>
          have hin : i < n := by
            have := HI.out i (hbf.sub i (hbf.wait i (List.mem_cons_self ..)))
            rw [HN.out] at this
            exact this
          obtain ⟨bq, oq, cq, rfl, hcq, hbq, hbq2, hqc, _⟩ := (show IQ wz (wr.heap.size + 1) v13 ((i : Int) :: nats Q) from hIQ).cons
          rw [nats_length] at hcq hIQ ⊢
          obtain ⟨t, ht⟩ : ∃ t, T[i]? = some t := ⟨T[i]'(by rw [HN.out]; exact hin), List.getElem?_eq_getElem _⟩
          obtain ⟨x, y, z⟩ := t
          obtain ⟨⟨o1, o2⟩, ⟨o3, o4⟩, ⟨o5, o6⟩⟩ := HIN.out _ (List.mem_of_getElem? ht)
          simp only at o1 o2 o3 o4 o5 o6
          obtain ⟨b, o, rfl, hbT, s0, s1, s2⟩ := HT.out i x y z ht
          have hBz := hB1x.trans (hB5.mono hB1x.size)
          have s0' := (hBz.cell (p := ⟨b, _, none⟩) hbT).trans s0
          have s1' := (hBz.cell (p := ⟨b, _, none⟩) hbT).trans s1
          have s2' := (hBz.cell (p := ⟨b, _, none⟩) hbT).trans s2
          obtain ⟨ly, y0, -, y1, -⟩ := (Hb.out.below hB5 Hb.out.lt).two
          have HTi := Lib.hid ht
          have hi3 : (i : Int) < (n : Int) := by omega
          have hi0 : (0 : Int) ≤ (i : Int) := by omega
          have hat := hbf.pop
          have hRm : R.length ≤ j := by
            have := Jor.nodup_le hbf.nd hbf.sub
            rw [HM.out] at this
            exact this
          have hszk : mapSize wz wr.heap.size = R.length := by rw [hks.size]; simp [intsV, nats]
          have Hszk := Lib.hid hszk
          obtain ⟨M, hM⟩ : ∃ M, 2 * (j - R.length) + Q.length = M := ⟨_, rfl⟩
          have HMM := Lib.hid hM
          have hQl : Q.length ≤ 1000000 := by have := hat.le; omega
          have hmu : 2 * (j - R.length) + Q.length ≤ M := by omega
          have Hat := Lib.hid hat
          have Hks := Lib.hid hks
          have hIQ' : IQ wz (wr.heap.size + 1) (.slice (some ⟨bq, oq, none⟩) (Q.length + 1) cq) ((i : Int) :: nats Q) := hIQ
          have HIQ := Lib.hid hIQ'
          clear s0 s1 s2 ht hat hszk hM hks hIQ hIQ' hbf
          go_wp2_with (refine wpList_tailQ HIQ.out rfl _ 35 rfl Try.underlying35 hj' hz1 rfl ?_; intro v13 hq13)
          have Hq13 := Lib.hid hq13
          clear hq13
          go_loopw [13, 69] (fun v13 ix wx => ∃ (v' : Value) (R Q : List Nat) (q : Nat), v' = v13 ∧ q ≤ 3 ∧ ix = .int .i64 q ∧ IQ wx (wr.heap.size + 1) v' (nats Q) ∧ KSet Try.prog 3 wx wr.heap.size (intsV (nats R)) ∧ BfsAt T v l R Q i ([x, y, z].take q) ∧ 2 * (j - R.length) + Q.length ≤ M ∧ Below wr.heap.size wr wx) (fun _ ix _ => 3 - (intOf ix).toNat)
          case atStart => exact ⟨_, R, Q, 0, rfl, by omega, rfl, Hq13.out, Hks.out, Hat.out, hmu, hB5⟩
          case round =>
            rename World => wx
            clear Hq13 Hks Hat hmu hB5 HIQ s0' s1' s2' y0 y1 ly hqc hRm hbq hbq2 hcq hBz hQl
            have HM0 := HMM
            have HR0 := Hszk
            clear HMM Hszk
            obtain ⟨v13, R, Q, q, rfl, hq, rfl, hIQ, hks, hat, hmu, hB⟩ := hrel
            have hq' : q = 0 ∨ q = 1 ∨ q = 2 ∨ q = 3 := by omega
            rcases hq' with rfl | rfl | rfl | rfl
            · by_cases hcv : x = v
              · have hb1 : (x == v) = true := by simp [hcv]
                have Hat2 : Hid (BfsAt T v l R Q i ([x, y, z].take 1)) := Lib.hid (by
                  have e : [x, y, z].take 1 = [x, y, z].take 0 ++ [v] := by simp [hcv]
                  rw [e]
                  exact hat.skip)
                have Hq := Lib.hid hIQ
                have Hk := Lib.hid hks
                clear hcv hat hIQ hks
                go_wp2
                go_roundw
                case measure => simp [intOf]
                case rel => exact ⟨v13, R, Q, 1, rfl, by omega, by simp, Hq.out, Hk.out, Hat2.out, hmu, hB⟩
              · have hb1 : (x == v) = false := by simp [hcv]
                have hkey := keyOf_int_mk (P := Try.prog) (k := 3) (q := .i64) Try.underlying3 (wfS (x := x) ⟨by omega, by omega⟩)
                obtain ⟨le, e1, e2, e3⟩ := HE.out x
                have hlen : (f (.int .i64 x)).length = le.length := by rw [e1, nats_length]
                have hLl : le.length ≤ 3 * 8192 := by
                  have := told_length T v l
                  have := HM.out
                  omega
                obtain ⟨L, hL⟩ : ∃ L, le.length = L := ⟨_, rfl⟩
                rw [hL] at hlen hLl
                have HLe := Lib.hid hL
                have HLen := Lib.hid hlen
                have He1 := Lib.hid e1
                have He2 := Lib.hid e2
                have Hcv := Lib.hid hcv
                have Hq := Lib.hid hIQ
                have Hk := Lib.hid hks
                have Hat := Lib.hid hat
                clear hcv hat hIQ hks e1 e2 e3 hlen hL
                go_wp2_with (at_lookup; refine wpList_lookupGB Hg.out hB rfl _ _ 190 35 rfl (int_keyed Try.underlying3) Try.underlying190 (zero_ints _) rfl (.int .i64 x) rfl hkey ?_; intro v0 hr0; obtain ⟨a0, c0, rfl, hc0⟩ := rowSlice hr0 HLen.out)
                have Hc0 := Lib.hid hc0
                clear hc0 hr0 hkey
                go_loopw [13, 79] (fun v13 ix wy => ∃ (v' : Value) (R Q : List Nat) (p : Nat), v' = v13 ∧ p ≤ L ∧ ix = .int .i64 p ∧ IQ wy (wr.heap.size + 1) v' (nats Q) ∧ KSet Try.prog 3 wy wr.heap.size (intsV (nats R)) ∧ BfsAt T v l R Q i ([x, y, z].take 0) ∧ (∀ k ∈ le.take p, k ∈ R) ∧ 2 * (j - R.length) + Q.length ≤ M ∧ Below wr.heap.size wr wy) (fun _ ix _ => L - (intOf ix).toNat)
                case atStart => exact ⟨_, R, Q, 0, rfl, Nat.zero_le _, rfl, Hq.out, Hk.out, Hat.out, by simp, hmu, hB⟩
                case round =>
                  rename World => wy
                  clear Hq Hk Hat hmu hB
                  obtain ⟨v13, R, Q, p, rfl, hp, rfl, hIQ, hks, hat, hcov, hmu, hB⟩ := hrel
                  by_cases hpl : p < L
                  · obtain ⟨k, hkp⟩ : ∃ k, le[p]? = some k := ⟨le[p]'(by have := HLe.out; omega), List.getElem?_eq_getElem _⟩
                    obtain ⟨g0, rfl, hg0, hcell⟩ := Hc0.out p (k : Int) (by rw [He1.out]; exact nats_at hkp)
                    have hcell' := (hB.cell (p := ⟨g0, _, none⟩) hg0).trans hcell
                    obtain ⟨hkl, _, hkh⟩ := told_mem.1 ((He2.out k).1 (List.mem_of_getElem? hkp))
                    have hkn := HI.out k hkl
                    have hadj : adjV T v i k := ⟨(x, y, z), T[k], x, HTi.out, List.getElem?_eq_getElem hkn, Hcv.out, by simp [hasV], by rw [List.getElem?_eq_getElem hkn] at hkh; exact hkh⟩
                    have hkey := keyOf_int_mk (P := Try.prog) (k := 3) (q := .i64) Try.underlying3 (wfS (x := (k : Int)) ⟨by omega, by have := HN.out; omega⟩)
                    have htk : ∀ RR : List Nat, (∀ k ∈ le.take p, k ∈ RR) → k ∈ RR → ∀ k' ∈ le.take (p + 1), k' ∈ RR := by
                      intro RR h1 h2 k' hk'
                      obtain ⟨hk1, he⟩ := List.getElem?_eq_some_iff.1 hkp
                      rw [List.take_succ_eq_append_getElem hk1, he] at hk'
                      rcases List.mem_append.1 hk' with h | h
                      · exact h1 k' h
                      · rw [List.mem_singleton.1 h]; exact h2
                    have Htk := Lib.hid htk
                    have Hcov := Lib.hid hcov
                    have Hadj := Lib.hid hadj
                    have hp3 : (p : Int) < (L : Int) := by omega
                    have hp0 : (0 : Int) ≤ (p : Int) := by omega
                    have hszy := hB.size
                    have hlt := hks.lt
                    clear htk hcov hadj hcell hkp hkh hkn
                    by_cases hkR : k ∈ R
                    · have Hq := Lib.hid hIQ
                      have Hat := Lib.hid hat
                      clear hIQ hat
                      go_wp2_with (at_lookup; refine wpList_lookupK hks rfl _ _ 109 rfl (int_keyed Try.underlying3) Try.underlying109 (zero_bool _) rfl _ rfl hkey ?_; intro r hir; obtain rfl : r = true := hir.2 (mem_keys.2 hkR))
                      go_roundw
                      case measure => simp [intOf]; omega
                      case rel => exact ⟨v13, R, Q, p + 1, rfl, by omega, by go_num, Hq.out, hks, Hat.out, Htk.out R Hcov.out hkR, hmu, hB⟩
                    · have hat2 := hat.add hkl hkR Hadj.out
                      have hRm : R.length + 1 ≤ j := by
                        have := Jor.nodup_le hat2.nd hat2.sub
                        have := HM.out
                        simp at *
                        omega
                      have hQm := hat.le
                      have hqn : (nats Q).length + 1 ≤ 1000000000 := by rw [nats_length]; omega
                      have Hat2 := Lib.hid hat2
                      have HkR := Lib.hid hkR
                      clear hat hat2 hkR
                      go_wp2_with (first
                        | (at_lookup; refine wpList_lookupK hks rfl _ _ 109 rfl (int_keyed Try.underlying3) Try.underlying109 (zero_bool _) rfl _ rfl hkey ?_; intro r hir; obtain rfl : r = false := (by cases r; rfl; exact absurd (mem_keys.1 (hir.1 rfl)) HkR.out))
                        | (at_mapUpdate; refine wpList_storeK hks rfl _ _ _ 109 (.inl rfl) (int_keyed Try.underlying3) Try.underlying109 rfl (.int .i64 k) rfl rfl hkey (fun h => HkR.out (mem_keys.1 h)) ?_; intro w6 hk6 hg6 hs6; clear hs6; have hs6 := hg6.size)
                        | (at_builtin; refine wpList_pushQ ((hIQ.kept hg6 (fun jj e => by cases e; exact .inl (by omega))).alloc (.cells #[.int .i64 k] 3)) rfl (.tmp 89) (.tmp 91) 35 rfl i2 Try.underlying35 hj' hz0 hz1 hz2 rfl w6.heap.size 1 (k : Int) rfl ((Blk.new w6 3 #[.int .i64 k]).cell 0) hqn (by rw [size_alloc']; omega) ?_; intro v7 w7 row7 hq7 hg7 hr7))
                      go_roundw
                      case measure => simp [intOf]; omega
                      case rel =>
                        have hg67 : (w6.alloc (.cells #[.int .i64 k] 3)).grownBy w7 row7 := hg7
                        refine ⟨v7, R ++ [k], Q ++ [k], p + 1, rfl, by omega, by go_num, by simpa [nats] using hq7, ?_, Hat2.out, Htk.out _ (fun k' h' => List.mem_append_left _ (Hcov.out k' h')) (by simp), by simp; omega, ?_⟩
                        · have h8 : KSet Try.prog 3 w7 wr.heap.size (intsV (nats R) ++ [.int .i64 k]) := (hk6.alloc _).kept hg7 (fun e => by have := (hr7 _ e.symm).1; omega)
                          simpa [intsV, nats] using h8
                        · exact ((hB.grown hg6 (by omega) (fun jj e => by cases e; omega)).alloc (by omega) _).grown hg7 (by rw [size_alloc']; omega) (fun jj e => by have := (hr7 jj e).1; omega)
                  · obtain rfl : p = L := by omega
                    have Hat2 : Hid (BfsAt T v l R Q i ([x, y, z].take 1)) := Lib.hid (by
                      have e : [x, y, z].take 1 = [x, y, z].take 0 ++ [x] := by simp
                      rw [e]
                      refine hat.over (fun k hk b hb hh => hcov k ?_)
                      rw [List.take_of_length_le (by have := HLe.out; omega), He2.out]
                      exact told_mem.2 ⟨hk, Hcv.out, by rw [hb]; exact hh⟩)
                    have Hq := Lib.hid hIQ
                    have Hk := Lib.hid hks
                    clear hat hIQ hks hcov
                    go_wp2
                    go_roundw
                    case measure => simp [intOf]
                    case rel => exact ⟨v13, R, Q, 1, rfl, by omega, by simp, Hq.out, Hk.out, Hat2.out, hmu, hB⟩
            · by_cases hcv : y = v
              · have hb1 : (y == v) = true := by simp [hcv]
                have Hat2 : Hid (BfsAt T v l R Q i ([x, y, z].take 2)) := Lib.hid (by
                  have e : [x, y, z].take 2 = [x, y, z].take 1 ++ [v] := by simp [hcv]
                  rw [e]
                  exact hat.skip)
                have Hq := Lib.hid hIQ
                have Hk := Lib.hid hks
                clear hcv hat hIQ hks
                go_wp2
                go_roundw
                case measure => simp [intOf]
                case rel => exact ⟨v13, R, Q, 2, rfl, by omega, by simp, Hq.out, Hk.out, Hat2.out, hmu, hB⟩
              · have hb1 : (y == v) = false := by simp [hcv]
                have hkey := keyOf_int_mk (P := Try.prog) (k := 3) (q := .i64) Try.underlying3 (wfS (x := y) ⟨by omega, by omega⟩)
                obtain ⟨le, e1, e2, e3⟩ := HE.out y
                have hlen : (f (.int .i64 y)).length = le.length := by rw [e1, nats_length]
                have hLl : le.length ≤ 3 * 8192 := by
                  have := told_length T v l
                  have := HM.out
                  omega
                obtain ⟨L, hL⟩ : ∃ L, le.length = L := ⟨_, rfl⟩
                rw [hL] at hlen hLl
                have HLe := Lib.hid hL
                have HLen := Lib.hid hlen
                have He1 := Lib.hid e1
                have He2 := Lib.hid e2
                have Hcv := Lib.hid hcv
                have Hq := Lib.hid hIQ
                have Hk := Lib.hid hks
                have Hat := Lib.hid hat
                clear hcv hat hIQ hks e1 e2 e3 hlen hL
                go_wp2_with (at_lookup; refine wpList_lookupGB Hg.out hB rfl _ _ 190 35 rfl (int_keyed Try.underlying3) Try.underlying190 (zero_ints _) rfl (.int .i64 y) rfl hkey ?_; intro v0 hr0; obtain ⟨a0, c0, rfl, hc0⟩ := rowSlice hr0 HLen.out)
                have Hc0 := Lib.hid hc0
                clear hc0 hr0 hkey
                go_loopw [13, 79] (fun v13 ix wy => ∃ (v' : Value) (R Q : List Nat) (p : Nat), v' = v13 ∧ p ≤ L ∧ ix = .int .i64 p ∧ IQ wy (wr.heap.size + 1) v' (nats Q) ∧ KSet Try.prog 3 wy wr.heap.size (intsV (nats R)) ∧ BfsAt T v l R Q i ([x, y, z].take 1) ∧ (∀ k ∈ le.take p, k ∈ R) ∧ 2 * (j - R.length) + Q.length ≤ M ∧ Below wr.heap.size wr wy) (fun _ ix _ => L - (intOf ix).toNat)
                case atStart => exact ⟨_, R, Q, 0, rfl, Nat.zero_le _, rfl, Hq.out, Hk.out, Hat.out, by simp, hmu, hB⟩
                case round =>
                  rename World => wy
                  clear Hq Hk Hat hmu hB
                  obtain ⟨v13, R, Q, p, rfl, hp, rfl, hIQ, hks, hat, hcov, hmu, hB⟩ := hrel
                  by_cases hpl : p < L
                  · obtain ⟨k, hkp⟩ : ∃ k, le[p]? = some k := ⟨le[p]'(by have := HLe.out; omega), List.getElem?_eq_getElem _⟩
                    obtain ⟨g0, rfl, hg0, hcell⟩ := Hc0.out p (k : Int) (by rw [He1.out]; exact nats_at hkp)
                    have hcell' := (hB.cell (p := ⟨g0, _, none⟩) hg0).trans hcell
                    obtain ⟨hkl, _, hkh⟩ := told_mem.1 ((He2.out k).1 (List.mem_of_getElem? hkp))
                    have hkn := HI.out k hkl
                    have hadj : adjV T v i k := ⟨(x, y, z), T[k], y, HTi.out, List.getElem?_eq_getElem hkn, Hcv.out, by simp [hasV], by rw [List.getElem?_eq_getElem hkn] at hkh; exact hkh⟩
                    have hkey := keyOf_int_mk (P := Try.prog) (k := 3) (q := .i64) Try.underlying3 (wfS (x := (k : Int)) ⟨by omega, by have := HN.out; omega⟩)
                    have htk : ∀ RR : List Nat, (∀ k ∈ le.take p, k ∈ RR) → k ∈ RR → ∀ k' ∈ le.take (p + 1), k' ∈ RR := by
                      intro RR h1 h2 k' hk'
                      obtain ⟨hk1, he⟩ := List.getElem?_eq_some_iff.1 hkp
                      rw [List.take_succ_eq_append_getElem hk1, he] at hk'
                      rcases List.mem_append.1 hk' with h | h
                      · exact h1 k' h
                      · rw [List.mem_singleton.1 h]; exact h2
                    have Htk := Lib.hid htk
                    have Hcov := Lib.hid hcov
                    have Hadj := Lib.hid hadj
                    have hp3 : (p : Int) < (L : Int) := by omega
                    have hp0 : (0 : Int) ≤ (p : Int) := by omega
                    have hszy := hB.size
                    have hlt := hks.lt
                    clear htk hcov hadj hcell hkp hkh hkn
                    by_cases hkR : k ∈ R
                    · have Hq := Lib.hid hIQ
                      have Hat := Lib.hid hat
                      clear hIQ hat
                      go_wp2_with (at_lookup; refine wpList_lookupK hks rfl _ _ 109 rfl (int_keyed Try.underlying3) Try.underlying109 (zero_bool _) rfl _ rfl hkey ?_; intro r hir; obtain rfl : r = true := hir.2 (mem_keys.2 hkR))
                      go_roundw
                      case measure => simp [intOf]; omega
                      case rel => exact ⟨v13, R, Q, p + 1, rfl, by omega, by go_num, Hq.out, hks, Hat.out, Htk.out R Hcov.out hkR, hmu, hB⟩
                    · have hat2 := hat.add hkl hkR Hadj.out
                      have hRm : R.length + 1 ≤ j := by
                        have := Jor.nodup_le hat2.nd hat2.sub
                        have := HM.out
                        simp at *
                        omega
                      have hQm := hat.le
                      have hqn : (nats Q).length + 1 ≤ 1000000000 := by rw [nats_length]; omega
                      have Hat2 := Lib.hid hat2
                      have HkR := Lib.hid hkR
                      clear hat hat2 hkR
                      go_wp2_with (first
                        | (at_lookup; refine wpList_lookupK hks rfl _ _ 109 rfl (int_keyed Try.underlying3) Try.underlying109 (zero_bool _) rfl _ rfl hkey ?_; intro r hir; obtain rfl : r = false := (by cases r; rfl; exact absurd (mem_keys.1 (hir.1 rfl)) HkR.out))
                        | (at_mapUpdate; refine wpList_storeK hks rfl _ _ _ 109 (.inl rfl) (int_keyed Try.underlying3) Try.underlying109 rfl (.int .i64 k) rfl rfl hkey (fun h => HkR.out (mem_keys.1 h)) ?_; intro w6 hk6 hg6 hs6; clear hs6; have hs6 := hg6.size)
                        | (at_builtin; refine wpList_pushQ ((hIQ.kept hg6 (fun jj e => by cases e; exact .inl (by omega))).alloc (.cells #[.int .i64 k] 3)) rfl (.tmp 89) (.tmp 91) 35 rfl i2 Try.underlying35 hj' hz0 hz1 hz2 rfl w6.heap.size 1 (k : Int) rfl ((Blk.new w6 3 #[.int .i64 k]).cell 0) hqn (by rw [size_alloc']; omega) ?_; intro v7 w7 row7 hq7 hg7 hr7))
                      go_roundw
                      case measure => simp [intOf]; omega
                      case rel =>
                        have hg67 : (w6.alloc (.cells #[.int .i64 k] 3)).grownBy w7 row7 := hg7
                        refine ⟨v7, R ++ [k], Q ++ [k], p + 1, rfl, by omega, by go_num, by simpa [nats] using hq7, ?_, Hat2.out, Htk.out _ (fun k' h' => List.mem_append_left _ (Hcov.out k' h')) (by simp), by simp; omega, ?_⟩
                        · have h8 : KSet Try.prog 3 w7 wr.heap.size (intsV (nats R) ++ [.int .i64 k]) := (hk6.alloc _).kept hg7 (fun e => by have := (hr7 _ e.symm).1; omega)
                          simpa [intsV, nats] using h8
                        · exact ((hB.grown hg6 (by omega) (fun jj e => by cases e; omega)).alloc (by omega) _).grown hg7 (by rw [size_alloc']; omega) (fun jj e => by have := (hr7 jj e).1; omega)
                  · obtain rfl : p = L := by omega
                    have Hat2 : Hid (BfsAt T v l R Q i ([x, y, z].take 2)) := Lib.hid (by
                      have e : [x, y, z].take 2 = [x, y, z].take 1 ++ [y] := by simp
                      rw [e]
                      refine hat.over (fun k hk b hb hh => hcov k ?_)
                      rw [List.take_of_length_le (by have := HLe.out; omega), He2.out]
                      exact told_mem.2 ⟨hk, Hcv.out, by rw [hb]; exact hh⟩)
                    have Hq := Lib.hid hIQ
                    have Hk := Lib.hid hks
                    clear hat hIQ hks hcov
                    go_wp2
                    go_roundw
                    case measure => simp [intOf]
                    case rel => exact ⟨v13, R, Q, 2, rfl, by omega, by simp, Hq.out, Hk.out, Hat2.out, hmu, hB⟩
            · by_cases hcv : z = v
              · have hb1 : (z == v) = true := by simp [hcv]
                have Hat2 : Hid (BfsAt T v l R Q i ([x, y, z].take 3)) := Lib.hid (by
                  have e : [x, y, z].take 3 = [x, y, z].take 2 ++ [v] := by simp [hcv]
                  rw [e]
                  exact hat.skip)
                have Hq := Lib.hid hIQ
                have Hk := Lib.hid hks
                clear hcv hat hIQ hks
                go_wp2
                go_roundw
                case measure => simp [intOf]
                case rel => exact ⟨v13, R, Q, 3, rfl, by omega, by simp, Hq.out, Hk.out, Hat2.out, hmu, hB⟩
              · have hb1 : (z == v) = false := by simp [hcv]
                have hkey := keyOf_int_mk (P := Try.prog) (k := 3) (q := .i64) Try.underlying3 (wfS (x := z) ⟨by omega, by omega⟩)
                obtain ⟨le, e1, e2, e3⟩ := HE.out z
                have hlen : (f (.int .i64 z)).length = le.length := by rw [e1, nats_length]
                have hLl : le.length ≤ 3 * 8192 := by
                  have := told_length T v l
                  have := HM.out
                  omega
                obtain ⟨L, hL⟩ : ∃ L, le.length = L := ⟨_, rfl⟩
                rw [hL] at hlen hLl
                have HLe := Lib.hid hL
                have HLen := Lib.hid hlen
                have He1 := Lib.hid e1
                have He2 := Lib.hid e2
                have Hcv := Lib.hid hcv
                have Hq := Lib.hid hIQ
                have Hk := Lib.hid hks
                have Hat := Lib.hid hat
                clear hcv hat hIQ hks e1 e2 e3 hlen hL
                go_wp2_with (at_lookup; refine wpList_lookupGB Hg.out hB rfl _ _ 190 35 rfl (int_keyed Try.underlying3) Try.underlying190 (zero_ints _) rfl (.int .i64 z) rfl hkey ?_; intro v0 hr0; obtain ⟨a0, c0, rfl, hc0⟩ := rowSlice hr0 HLen.out)
                have Hc0 := Lib.hid hc0
                clear hc0 hr0 hkey
                go_loopw [13, 79] (fun v13 ix wy => ∃ (v' : Value) (R Q : List Nat) (p : Nat), v' = v13 ∧ p ≤ L ∧ ix = .int .i64 p ∧ IQ wy (wr.heap.size + 1) v' (nats Q) ∧ KSet Try.prog 3 wy wr.heap.size (intsV (nats R)) ∧ BfsAt T v l R Q i ([x, y, z].take 2) ∧ (∀ k ∈ le.take p, k ∈ R) ∧ 2 * (j - R.length) + Q.length ≤ M ∧ Below wr.heap.size wr wy) (fun _ ix _ => L - (intOf ix).toNat)
                case atStart => exact ⟨_, R, Q, 0, rfl, Nat.zero_le _, rfl, Hq.out, Hk.out, Hat.out, by simp, hmu, hB⟩
                case round =>
                  rename World => wy
                  clear Hq Hk Hat hmu hB
                  obtain ⟨v13, R, Q, p, rfl, hp, rfl, hIQ, hks, hat, hcov, hmu, hB⟩ := hrel
                  by_cases hpl : p < L
                  · obtain ⟨k, hkp⟩ : ∃ k, le[p]? = some k := ⟨le[p]'(by have := HLe.out; omega), List.getElem?_eq_getElem _⟩
                    obtain ⟨g0, rfl, hg0, hcell⟩ := Hc0.out p (k : Int) (by rw [He1.out]; exact nats_at hkp)
                    have hcell' := (hB.cell (p := ⟨g0, _, none⟩) hg0).trans hcell
                    obtain ⟨hkl, _, hkh⟩ := told_mem.1 ((He2.out k).1 (List.mem_of_getElem? hkp))
                    have hkn := HI.out k hkl
                    have hadj : adjV T v i k := ⟨(x, y, z), T[k], z, HTi.out, List.getElem?_eq_getElem hkn, Hcv.out, by simp [hasV], by rw [List.getElem?_eq_getElem hkn] at hkh; exact hkh⟩
                    have hkey := keyOf_int_mk (P := Try.prog) (k := 3) (q := .i64) Try.underlying3 (wfS (x := (k : Int)) ⟨by omega, by have := HN.out; omega⟩)
                    have htk : ∀ RR : List Nat, (∀ k ∈ le.take p, k ∈ RR) → k ∈ RR → ∀ k' ∈ le.take (p + 1), k' ∈ RR := by
                      intro RR h1 h2 k' hk'
                      obtain ⟨hk1, he⟩ := List.getElem?_eq_some_iff.1 hkp
                      rw [List.take_succ_eq_append_getElem hk1, he] at hk'
                      rcases List.mem_append.1 hk' with h | h
                      · exact h1 k' h
                      · rw [List.mem_singleton.1 h]; exact h2
                    have Htk := Lib.hid htk
                    have Hcov := Lib.hid hcov
                    have Hadj := Lib.hid hadj
                    have hp3 : (p : Int) < (L : Int) := by omega
                    have hp0 : (0 : Int) ≤ (p : Int) := by omega
                    have hszy := hB.size
                    have hlt := hks.lt
                    clear htk hcov hadj hcell hkp hkh hkn
                    by_cases hkR : k ∈ R
                    · have Hq := Lib.hid hIQ
                      have Hat := Lib.hid hat
                      clear hIQ hat
                      go_wp2_with (at_lookup; refine wpList_lookupK hks rfl _ _ 109 rfl (int_keyed Try.underlying3) Try.underlying109 (zero_bool _) rfl _ rfl hkey ?_; intro r hir; obtain rfl : r = true := hir.2 (mem_keys.2 hkR))
                      go_roundw
                      case measure => simp [intOf]; omega
                      case rel => exact ⟨v13, R, Q, p + 1, rfl, by omega, by go_num, Hq.out, hks, Hat.out, Htk.out R Hcov.out hkR, hmu, hB⟩
                    · have hat2 := hat.add hkl hkR Hadj.out
                      have hRm : R.length + 1 ≤ j := by
                        have := Jor.nodup_le hat2.nd hat2.sub
                        have := HM.out
                        simp at *
                        omega
                      have hQm := hat.le
                      have hqn : (nats Q).length + 1 ≤ 1000000000 := by rw [nats_length]; omega
                      have Hat2 := Lib.hid hat2
                      have HkR := Lib.hid hkR
                      clear hat hat2 hkR
                      go_wp2_with (first
                        | (at_lookup; refine wpList_lookupK hks rfl _ _ 109 rfl (int_keyed Try.underlying3) Try.underlying109 (zero_bool _) rfl _ rfl hkey ?_; intro r hir; obtain rfl : r = false := (by cases r; rfl; exact absurd (mem_keys.1 (hir.1 rfl)) HkR.out))
                        | (at_mapUpdate; refine wpList_storeK hks rfl _ _ _ 109 (.inl rfl) (int_keyed Try.underlying3) Try.underlying109 rfl (.int .i64 k) rfl rfl hkey (fun h => HkR.out (mem_keys.1 h)) ?_; intro w6 hk6 hg6 hs6; clear hs6; have hs6 := hg6.size)
                        | (at_builtin; refine wpList_pushQ ((hIQ.kept hg6 (fun jj e => by cases e; exact .inl (by omega))).alloc (.cells #[.int .i64 k] 3)) rfl (.tmp 89) (.tmp 91) 35 rfl i2 Try.underlying35 hj' hz0 hz1 hz2 rfl w6.heap.size 1 (k : Int) rfl ((Blk.new w6 3 #[.int .i64 k]).cell 0) hqn (by rw [size_alloc']; omega) ?_; intro v7 w7 row7 hq7 hg7 hr7))
                      go_roundw
                      case measure => simp [intOf]; omega
                      case rel =>
                        have hg67 : (w6.alloc (.cells #[.int .i64 k] 3)).grownBy w7 row7 := hg7
                        refine ⟨v7, R ++ [k], Q ++ [k], p + 1, rfl, by omega, by go_num, by simpa [nats] using hq7, ?_, Hat2.out, Htk.out _ (fun k' h' => List.mem_append_left _ (Hcov.out k' h')) (by simp), by simp; omega, ?_⟩
                        · have h8 : KSet Try.prog 3 w7 wr.heap.size (intsV (nats R) ++ [.int .i64 k]) := (hk6.alloc _).kept hg7 (fun e => by have := (hr7 _ e.symm).1; omega)
                          simpa [intsV, nats] using h8
                        · exact ((hB.grown hg6 (by omega) (fun jj e => by cases e; omega)).alloc (by omega) _).grown hg7 (by rw [size_alloc']; omega) (fun jj e => by have := (hr7 jj e).1; omega)
                  · obtain rfl : p = L := by omega
                    have Hat2 : Hid (BfsAt T v l R Q i ([x, y, z].take 3)) := Lib.hid (by
                      have e : [x, y, z].take 3 = [x, y, z].take 2 ++ [z] := by simp
                      rw [e]
                      refine hat.over (fun k hk b hb hh => hcov k ?_)
                      rw [List.take_of_length_le (by have := HLe.out; omega), He2.out]
                      exact told_mem.2 ⟨hk, Hcv.out, by rw [hb]; exact hh⟩)
                    have Hq := Lib.hid hIQ
                    have Hk := Lib.hid hks
                    clear hat hIQ hks hcov
                    go_wp2
                    go_roundw
                    case measure => simp [intOf]
                    case rel => exact ⟨v13, R, Q, 3, rfl, by omega, by simp, Hq.out, Hk.out, Hat2.out, hmu, hB⟩
            · have hbf := BfsAt.finish (x := x) (y := y) (z := z) hat HTi.out
              have hsl := hIQ.slen
              have hmz := hks.size
              have Hsl := Lib.hid hsl
              have Hmz := Lib.hid hmz
              have Hq := Lib.hid hIQ
              have Hk := Lib.hid hks
              clear hat hIQ hks hsl hmz
              go_wp2
              go_roundw
              case measure =>
                have e1 := Hsl.out
                have e2 := Hmz.out
                have e3 := HR0.out
                have e4 := HM0.out
                have e5 : (intsV (nats R)).length = R.length := by simp [intsV, nats]
                rw [nats_length] at e1
                rw [e2, e3, e5, e1]
                simp only [sliceLen]
                omega
              case rel => exact ⟨v13, R, Q, rfl, Hq.out, Hk.out, hbf, hB⟩
end Go.Proofs.Ytpnkhgjjlionnaa
namespace Go.Proofs.Ytpnkhgjjlionnaa
open Go.RowKit

set_option maxRecDepth 100000 in
set_option maxHeartbeats 4000000 in
theorem pinch_any (N : Int) (v : Value) (T : List Tr) (w : World) (h : TrisRd w v T) (hN : 0 ≤ N ∧ N ≤ 4096) (hl : T.length ≤ 8192) (hin : ∀ t ∈ T, in3 N t) (hsi : ∀ t ∈ T, simple3 t) (hlo : ∀ u : Int, inR N u → u ∈ flatT T) : Calls Try.prog 99 #[.agg #[.int .i64 N, v]] w fun e w' => ∃ v', e = .returned v' ∧ WitsIs w' w.heap.size v' 6 (∀ u : Int, inR N u → ConnV T u (atV T u)) ∧ Below w.heap.size w w' := by
  obtain ⟨i1, hi', hy0, hy1, hy2⟩ := info_parts infoWit
  obtain ⟨i2, hj', hz0, hz1, hz2⟩ := info_parts infoInts
  obtain ⟨i3, hk', hu0, hu1, hu2⟩ := info_parts infoInt
  have HTR := Lib.hid h
  obtain ⟨a, c, rfl, hc1, hc2, hr⟩ := h
  have HR := Lib.hid hr
  obtain ⟨hN0, hN1⟩ := hN
  obtain ⟨m, rfl⟩ : ∃ m : Nat, N = m := ⟨N.toNat, by omega⟩
  have b1 := Blk.new w 24 #[.int .i64 m, .slice a T.length c]
  obtain ⟨l0, x0, -, x1, -⟩ := b1.two
  have hB0 : Below w.heap.size w (w.alloc (.cells #[.int .i64 m, .slice a T.length c] 24)) := (Below.refl _ _).alloc (Nat.le_refl _) _
  have HIN := Lib.hid hin
  have HSI := Lib.hid hsi
  have HLO := Lib.hid hlo
  obtain ⟨n, hn⟩ : ∃ n, T.length = n := ⟨_, rfl⟩
  have HTl := Lib.hid hl
  rw [hn] at hl hc1 x0 x1 hB0 b1 l0 HTR ⊢
  have HN := Lib.hid hn
  have ix0 := @index_t0
  have ix1 := @index_t1
  have ix2 := @index_t2
  clear hr hn hin hsi hlo
  go_enter Try.func99, Try.ntmps99
  go_wp2_with (at_make; refine wpList_make_full _ rfl (.tmp 12) (.tmp 12) 78 rfl w.heap.size 35 i2 _ 1 Try.underlying78 hj' hz0 hz1 .i64 .i64 _ _ m rfl rfl rfl rfl (by rw [hz2]; omega) (by unfold maxLen; omega) (by rw [size_alloc']; omega) ?_; intro w1 hr1 hg1; have k1 := b1.grown hg1 (by simp); obtain ⟨l1, y0, -, y1, -⟩ := k1.two)
  rw [made_rows, size_alloc'] at hr1
  have hR1 := Rws.made hr1
  rw [← rowsOf_nil] at hR1
  have hB1 : Below w.heap.size w w1 := hB0.grown hg1 (by rw [size_alloc']; omega) (fun j e => by cases e)
  clear b1 x0 x1 l0 hg1 hB0 hr1
  go_loopw [17] (fun i wr => ∃ (k : Nat) (vs : List Value), k ≤ n ∧ i = .int .i64 k ∧ Rws wr w.heap.size (w.heap.size + 1) m vs (rowsOf (preT T k) m) ∧ Blk wr w.heap.size 24 #[.int .i64 m, .slice a n c] ∧ Below w.heap.size w wr) (fun i _ => n - (intOf i).toNat)
  case atStart => exact ⟨0, _, Nat.zero_le _, rfl, hR1, k1, hB1⟩
  case round =>
    clear hR1 hB1 k1 l1 y0 y1
    obtain ⟨k, vs, hk, rfl, hR, hbx, hB⟩ := hrel
    obtain ⟨lbx, yb0, -, yb1, -⟩ := hbx.two
    rename World => wr
    by_cases hlt : k < n
    · obtain ⟨t, ht⟩ : ∃ t, T[k]? = some t := ⟨T[k]'(by have := HN.out; omega), List.getElem?_eq_getElem _⟩
      obtain ⟨x, y, z⟩ := t
      obtain ⟨⟨ix1', ix2'⟩, ⟨iy1, iy2⟩, ⟨iz1, iz2⟩⟩ := HIN.out _ (List.mem_of_getElem? ht)
      simp only at ix1' ix2' iy1 iy2 iz1 iz2
      obtain ⟨x, rfl⟩ : ∃ q : Nat, x = q := ⟨x.toNat, by omega⟩
      obtain ⟨y, rfl⟩ : ∃ q : Nat, y = q := ⟨y.toNat, by omega⟩
      obtain ⟨z, rfl⟩ : ∃ q : Nat, z = q := ⟨z.toNat, by omega⟩
      obtain ⟨b, o, rfl, hbl, s0, s1, s2⟩ := HR.out k x y z ht
      have s0' := (hB.cell (p := ⟨b, _, none⟩) hbl).trans s0
      have s1' := (hB.cell (p := ⟨b, _, none⟩) hbl).trans s1
      have s2' := (hB.cell (p := ⟨b, _, none⟩) hbl).trans s2
      have Hts := Lib.hid (preT_succ ht)
      have hpl : (preT T k).length = 3 * k := preT_length T k
      have Hpl := Lib.hid hpl
      have hsz := hB.size
      have hk3 : (k : Int) < (n : Int) := by omega
      have hk0 : (0 : Int) ≤ (k : Int) := by omega
      clear ht s0 s1 s2 hpl
      go_wp2
      rename World => wA
      go_loopw [23] (fun i wq => ∃ (j : Nat) (vs : List Value) (pre : List (Int × Nat)), j ≤ 3 ∧ i = .int .i64 j ∧ Rws wq w.heap.size (w.heap.size + 1) m vs (rowsOf pre m) ∧ pre.length ≤ 3 * k + j ∧ pre = preT T k ++ (three ((x : Int), (y : Int), (z : Int)) k).take j ∧ Blk wq w.heap.size 24 #[.int .i64 m, .slice (some ⟨b, o, none⟩) n c] ∧ Below w.heap.size w wq) (fun i _ => 3 - (intOf i).toNat)
      case atStart => exact ⟨0, _, _, by omega, rfl, hR.alloc _, by rw [Hpl.out]; omega, by simp, hbx.alloc _, hB.alloc hB.size _⟩
      case round =>
        rename World => wq
        clear hR hB hbx yb0 yb1 lbx
        clear vs
        obtain ⟨j, vs, pre, hj, rfl, hR, hprl, hpre, hbx, hB⟩ := hrel
        have Hpre := Lib.hid hpre
        clear hpre
        have hj4 : j = 0 ∨ j = 1 ∨ j = 2 ∨ j = 3 := by omega
        have hsz' := hB.size
        rcases hj4 with rfl | rfl | rfl | rfl
        · obtain ⟨vv, hvv⟩ : ∃ vv, vs[x]? = some vv := ⟨vs[x]'(by rw [hR.vlen]; omega), List.getElem?_eq_getElem _⟩
          have hrr := rowsOf_at (pre := pre) (m := m) (u := x) (by omega)
          have hc : wq.cell? ⟨w.heap.size + 1, x, none⟩ = some vv := by rw [hR.own.cellAt x (by omega), hvv]
          have hf := hR.own.frozenAt x
          have hrv := hR.row x vv _ hvv hrr
          have hlr : (nats (sieve pre x)).length ≤ 3 * 8192 + 3 := by
            rw [nats_length]
            have := sieve_length pre x
            omega
          have c6 : (nats (sieve pre x)).length + 1 ≤ maxLen := by unfold maxLen; omega
          have c7 : ((nats (sieve pre x)).length + 1) * 8 ≤ 140737488355328 := by omega
          have hv3 : (x : Int) < (m : Int) := by omega
          have hgl := (hR.own.lt _ rfl).2
          have hR2 := Lib.hid hR
          have Hvv := Lib.hid hvv
          have Hrr := Lib.hid hrr
          clear hvv hrr hR
          go_wp2_with (at_builtin; refine wpList_append_lies _ rfl (.tmp 31) (.tmp 33) 35 rfl w.heap.size 3 i3 _ 1 8 Try.underlying35 hk' hu0 hu1 hu2 rfl (by decide) vv (nats (sieve pre x)).length (intsV (nats (sieve pre x))) rfl (hrv.alloc _) ⟨wq.heap.size, 0, none⟩ 1 1 [.int .i64 k] rfl rfl (World.news_of_block (heap_alloc_new _ _)) (by simp [Value.oneCell']) (by decide) c6 c7 (by rw [size_alloc']; omega) (wq.heap.size + 1) (by simp) ?_; intro g6 cap6 W6 hr6 hg6 hat6 _; have hP := (hR2.out.alloc (.cells #[.int .i64 k] 3)).push (v' := .slice (some ⟨g6, 0, none⟩) ((nats (sieve pre x)).length + 1) cap6) Hvv.out Hrr.out (i := (k : Int)) hg6 (by simpa [intsV] using hr6) (hat6.imp (fun e => e.symm) (fun e => ⟨g6, rfl, by rw [size_alloc']; omega⟩)); have HP := Lib.hid hP; have hne6 : some (w.heap.size + 1) ≠ vv.ownBlock := (fun e => by rcases own_own_ne hR2.out.own hrv (by decide) with h | h; simp [Value.ownBlock] at h; exact h e); have hc6 := hg6.cell (a := ⟨w.heap.size + 1, x, none⟩) (show (wq.alloc (.cells #[.int .i64 k] 3)).cell? ⟨w.heap.size + 1, x, none⟩ = some vv by rw [← hc]; exact World.cell?_of_block (Below.heap_alloc wq _ _ hgl)) hne6; have hf6 : W6.frozen? ⟨w.heap.size + 1, x, none⟩ = false := (hR2.out.own.kept (gGrown (World.grownBy_alloc wq _ vv.ownBlock) hg6 (fun _ e => .inl e)) (.inr hne6)).frozenAt x; clear hP hr6)
          go_roundw
          case measure => simp [intOf]
          case rel =>
            have hB6 := hB.grown (gGrown (World.grownBy_alloc wq (.cells #[.int .i64 k] 3) vv.ownBlock) hg6 (fun _ e => .inl e)) hB.size (fun j e => (hrv.lt j e).1)
            exact ⟨1, _, _, by omega, by simp, by rw [← rowsOf_snoc] at HP; exact HP.out.1, by simp; omega, by simp [three, Hpre.out], ((hbx.alloc _).grown hg6 (fun e => own_blk_ne hrv hbx (by decide) e.symm)).far (by simp) _, hB6.grown HP.out.2 hB6.size (fun j e => by cases e; omega)⟩
        · obtain ⟨vv, hvv⟩ : ∃ vv, vs[y]? = some vv := ⟨vs[y]'(by rw [hR.vlen]; omega), List.getElem?_eq_getElem _⟩
          have hrr := rowsOf_at (pre := pre) (m := m) (u := y) (by omega)
          have hc : wq.cell? ⟨w.heap.size + 1, y, none⟩ = some vv := by rw [hR.own.cellAt y (by omega), hvv]
          have hf := hR.own.frozenAt y
          have hrv := hR.row y vv _ hvv hrr
          have hlr : (nats (sieve pre y)).length ≤ 3 * 8192 + 3 := by
            rw [nats_length]
            have := sieve_length pre y
            omega
          have c6 : (nats (sieve pre y)).length + 1 ≤ maxLen := by unfold maxLen; omega
          have c7 : ((nats (sieve pre y)).length + 1) * 8 ≤ 140737488355328 := by omega
          have hv3 : (y : Int) < (m : Int) := by omega
          have hgl := (hR.own.lt _ rfl).2
          have hR2 := Lib.hid hR
          have Hvv := Lib.hid hvv
          have Hrr := Lib.hid hrr
          clear hvv hrr hR
          go_wp2_with (at_builtin; refine wpList_append_lies _ rfl (.tmp 31) (.tmp 33) 35 rfl w.heap.size 3 i3 _ 1 8 Try.underlying35 hk' hu0 hu1 hu2 rfl (by decide) vv (nats (sieve pre y)).length (intsV (nats (sieve pre y))) rfl (hrv.alloc _) ⟨wq.heap.size, 0, none⟩ 1 1 [.int .i64 k] rfl rfl (World.news_of_block (heap_alloc_new _ _)) (by simp [Value.oneCell']) (by decide) c6 c7 (by rw [size_alloc']; omega) (wq.heap.size + 1) (by simp) ?_; intro g6 cap6 W6 hr6 hg6 hat6 _; have hP := (hR2.out.alloc (.cells #[.int .i64 k] 3)).push (v' := .slice (some ⟨g6, 0, none⟩) ((nats (sieve pre y)).length + 1) cap6) Hvv.out Hrr.out (i := (k : Int)) hg6 (by simpa [intsV] using hr6) (hat6.imp (fun e => e.symm) (fun e => ⟨g6, rfl, by rw [size_alloc']; omega⟩)); have HP := Lib.hid hP; have hne6 : some (w.heap.size + 1) ≠ vv.ownBlock := (fun e => by rcases own_own_ne hR2.out.own hrv (by decide) with h | h; simp [Value.ownBlock] at h; exact h e); have hc6 := hg6.cell (a := ⟨w.heap.size + 1, y, none⟩) (show (wq.alloc (.cells #[.int .i64 k] 3)).cell? ⟨w.heap.size + 1, y, none⟩ = some vv by rw [← hc]; exact World.cell?_of_block (Below.heap_alloc wq _ _ hgl)) hne6; have hf6 : W6.frozen? ⟨w.heap.size + 1, y, none⟩ = false := (hR2.out.own.kept (gGrown (World.grownBy_alloc wq _ vv.ownBlock) hg6 (fun _ e => .inl e)) (.inr hne6)).frozenAt y; clear hP hr6)
          go_roundw
          case measure => simp [intOf]
          case rel =>
            have hB6 := hB.grown (gGrown (World.grownBy_alloc wq (.cells #[.int .i64 k] 3) vv.ownBlock) hg6 (fun _ e => .inl e)) hB.size (fun j e => (hrv.lt j e).1)
            exact ⟨2, _, _, by omega, by simp, by rw [← rowsOf_snoc] at HP; exact HP.out.1, by simp; omega, by simp [three, Hpre.out], ((hbx.alloc _).grown hg6 (fun e => own_blk_ne hrv hbx (by decide) e.symm)).far (by simp) _, hB6.grown HP.out.2 hB6.size (fun j e => by cases e; omega)⟩
        · obtain ⟨vv, hvv⟩ : ∃ vv, vs[z]? = some vv := ⟨vs[z]'(by rw [hR.vlen]; omega), List.getElem?_eq_getElem _⟩
          have hrr := rowsOf_at (pre := pre) (m := m) (u := z) (by omega)
          have hc : wq.cell? ⟨w.heap.size + 1, z, none⟩ = some vv := by rw [hR.own.cellAt z (by omega), hvv]
          have hf := hR.own.frozenAt z
          have hrv := hR.row z vv _ hvv hrr
          have hlr : (nats (sieve pre z)).length ≤ 3 * 8192 + 3 := by
            rw [nats_length]
            have := sieve_length pre z
            omega
          have c6 : (nats (sieve pre z)).length + 1 ≤ maxLen := by unfold maxLen; omega
          have c7 : ((nats (sieve pre z)).length + 1) * 8 ≤ 140737488355328 := by omega
          have hv3 : (z : Int) < (m : Int) := by omega
          have hgl := (hR.own.lt _ rfl).2
          have hR2 := Lib.hid hR
          have Hvv := Lib.hid hvv
          have Hrr := Lib.hid hrr
          clear hvv hrr hR
          go_wp2_with (at_builtin; refine wpList_append_lies _ rfl (.tmp 31) (.tmp 33) 35 rfl w.heap.size 3 i3 _ 1 8 Try.underlying35 hk' hu0 hu1 hu2 rfl (by decide) vv (nats (sieve pre z)).length (intsV (nats (sieve pre z))) rfl (hrv.alloc _) ⟨wq.heap.size, 0, none⟩ 1 1 [.int .i64 k] rfl rfl (World.news_of_block (heap_alloc_new _ _)) (by simp [Value.oneCell']) (by decide) c6 c7 (by rw [size_alloc']; omega) (wq.heap.size + 1) (by simp) ?_; intro g6 cap6 W6 hr6 hg6 hat6 _; have hP := (hR2.out.alloc (.cells #[.int .i64 k] 3)).push (v' := .slice (some ⟨g6, 0, none⟩) ((nats (sieve pre z)).length + 1) cap6) Hvv.out Hrr.out (i := (k : Int)) hg6 (by simpa [intsV] using hr6) (hat6.imp (fun e => e.symm) (fun e => ⟨g6, rfl, by rw [size_alloc']; omega⟩)); have HP := Lib.hid hP; have hne6 : some (w.heap.size + 1) ≠ vv.ownBlock := (fun e => by rcases own_own_ne hR2.out.own hrv (by decide) with h | h; simp [Value.ownBlock] at h; exact h e); have hc6 := hg6.cell (a := ⟨w.heap.size + 1, z, none⟩) (show (wq.alloc (.cells #[.int .i64 k] 3)).cell? ⟨w.heap.size + 1, z, none⟩ = some vv by rw [← hc]; exact World.cell?_of_block (Below.heap_alloc wq _ _ hgl)) hne6; have hf6 : W6.frozen? ⟨w.heap.size + 1, z, none⟩ = false := (hR2.out.own.kept (gGrown (World.grownBy_alloc wq _ vv.ownBlock) hg6 (fun _ e => .inl e)) (.inr hne6)).frozenAt z; clear hP hr6)
          go_roundw
          case measure => simp [intOf]
          case rel =>
            have hB6 := hB.grown (gGrown (World.grownBy_alloc wq (.cells #[.int .i64 k] 3) vv.ownBlock) hg6 (fun _ e => .inl e)) hB.size (fun j e => (hrv.lt j e).1)
            exact ⟨3, _, _, by omega, by simp, by rw [← rowsOf_snoc] at HP; exact HP.out.1, by simp; omega, by simp [three, Hpre.out], ((hbx.alloc _).grown hg6 (fun e => own_blk_ne hrv hbx (by decide) e.symm)).far (by simp) _, hB6.grown HP.out.2 hB6.size (fun j e => by cases e; omega)⟩
        · have hR2 : Hid (Rws wq w.heap.size (w.heap.size + 1) m vs (rowsOf (preT T (k + 1)) m)) := Lib.hid (by
            rw [Hts.out]
            have := Hpre.out
            rw [this] at hR
            exact hR)
          clear hR
          go_wp2
          go_roundw
          case measure => simp [intOf]; omega
          case rel => exact ⟨k + 1, vs, by omega, by go_num, hR2.out, hbx, hB⟩
    · obtain rfl : k = n := by omega
      have hnn := HN.out
      have HR2 : Hid (∀ (i : Nat) (v : Value), vs[i]? = some v → i < m → wr.ownsRow w.heap.size 3 1 v (nats (atV T i)).length (intsV (nats (atV T i)))) := Lib.hid (fun i v hv hi => by
        refine hR.row i v _ hv ?_
        rw [rowsOf_at hi]
        unfold atV
        rw [hnn])
      have HRO := Lib.hid hR.own
      have hvl := hR.vlen
      have Hvl := Lib.hid hvl
      have hszr := hB.size
      have hgl := (hR.own.lt _ rfl).2
      clear hR hvl hnn
      go_wp2
      clear ix0 ix1 ix2
      go_loopw [8, 40] (fun v3 i wz => ∃ (j : Nat) (v' : Value) (ws : List Tr), v' = v3 ∧ j ≤ m ∧ i = .int .i64 j ∧ wz.ownsRow wr.heap.size 44 3 v' ws.length (ws3 ws) ∧ ws.length ≤ j ∧ (ws = [] ↔ ∀ u : Nat, u < j → ConnV T u (atV T u)) ∧ (∀ x ∈ ws, x.1 = 6) ∧ Below wr.heap.size wr wz) (fun _ i _ => m - (intOf i).toNat)
      case atStart => exact ⟨0, _, [], rfl, Nat.zero_le _, rfl, World.ownsRow_nil _ _ _ _, Nat.le_refl _, by simp, by simp, Below.refl _ _⟩
      case round =>
        obtain ⟨j, v', ws, rfl, hj, rfl, hrw, hwl, hws, hkd, hBz⟩ := hrel
        rename World => wC
        have Hws := Lib.hid hws
        have hsz := hBz.size
        clear hws
        by_cases hjm : j < m
        · obtain ⟨vv, hvv⟩ : ∃ vv, vs[j]? = some vv := ⟨vs[j]'(by rw [Hvl.out]; exact hjm), List.getElem?_eq_getElem _⟩
          have hc0 : wr.cell? ⟨w.heap.size + 1, j, none⟩ = some vv := by rw [HRO.out.cellAt j (by omega), hvv]
          have hc := (hBz.cell (p := ⟨w.heap.size + 1, j, none⟩) hgl).trans hc0
          have hrow := HR2.out j vv hvv hjm
          have hrd : IntsRd wC vv (nats (atV T j)) := by
            have := IntsRd.of_row (w := wC) (base := w.heap.size) (v := vv) (xs := nats (atV T j)) (hrow.kept (grown_of_below hBz none) (by cases e : vv.ownBlock; exact .inl rfl; exact .inr (by simp))) rfl
            exact this
          have hBC := hB.trans (hBz.mono hB.size)
          have htr := HTR.out.below hBC
          have hbz := hbx.below hBz hbx.lt
          obtain ⟨lz, z0, -, z1, -⟩ := hbz.two
          have H := Lib.hid (together_any (m : Int) (j : Int) (.slice a k c) vv T (atV T j) wC htr hrd HTl.out (Nat.le_trans (atV_length HSI.out j) HTl.out) atV_lt (atV_some (HLO.out j ⟨by omega, by omega⟩)) (atV_nodup HSI.out j) HIN.out hN1)
          have hv3 : (j : Int) < (m : Int) := by omega
          have hv0 : (0 : Int) ≤ (j : Int) := by omega
          have c3 : ws.length + 1 ≤ maxLen := by unfold maxLen; omega
          have c4 : (ws.length + 1) * 24 ≤ 140737488355328 := by omega
          have HBC := Lib.hid hBz
          clear hvv hc0 hrow hrd hBC htr hbz hB
          go_wp2_with fail
          refine H.out.mono ?_
          rintro e w2 ⟨bb, rfl, hbb, hb2⟩
          have hrw2 := hrw.kept (grown_of_below hb2 none) (by cases e : v'.ownBlock; exact .inl rfl; exact .inr (by simp))
          have hB2 := HBC.out.trans (hb2.mono hsz)
          have hsz2 := hB2.size
          have Hbb := Lib.hid hbb
          clear hbb hc z0 z1 lz hrw hb2
          cases bb
          · have hn' : Hid (¬ ConnV T j (atV T j)) := Lib.hid (fun e => by have := Hbb.out.2 e; cases this)
            clear Hbb
            go_wp2_with (at_builtin; refine wpList_append_lies _ rfl (.tmp 50) (.tmp 53) 114 rfl wr.heap.size 44 i1 _ 3 24 Try.underlying114 hi' hy0 hy1 hy2 rfl (by decide) _ _ _ rfl (hrw2.alloc _) ⟨w2.heap.size, 0, none⟩ 1 1 [.int .i64 6, .int .i64 j, .int .i64 0] rfl rfl (World.news_of_block (heap_alloc_new _ _)) (by simp [Value.oneCell']) (by decide) c3 c4 (by rw [size_alloc']; omega) (w2.heap.size + 1) (by simp) ?_; intro g4 cap4 W4 hr4 hg4 _ _)
            go_roundw
            case measure => simp [intOf]; omega
            case rel =>
              refine ⟨j + 1, _, ws ++ [(6, (j : Int), 0)], rfl, by omega, by go_num, by rw [ws3_snoc]; simpa using hr4, by simp; omega, ?_, snoc_kind hkd rfl, hB2.grown (gGrown (World.grownBy_alloc _ _ _) hg4 (row := v'.ownBlock) (fun _ e => .inl e)) hsz2 (fun j e => (hrw2.lt j e).1)⟩
              constructor
              · intro h; simp at h
              · intro h; exact absurd (h j (by omega)) hn'.out
          · have hn' : Hid (ConnV T j (atV T j)) := Lib.hid (Hbb.out.1 rfl)
            clear Hbb
            go_wp2
            go_roundw
            case measure => simp [intOf]; omega
            case rel =>
              refine ⟨j + 1, _, ws, rfl, by omega, by go_num, hrw2, by omega, ?_, hkd, hB2⟩
              rw [Hws.out]
              constructor
              · intro h u hu
                by_cases e : u = j
                · rw [e]; exact hn'.out
                · exact h u (by omega)
              · intro h u hu
                exact h u (by omega)
        · obtain rfl : j = m := by omega
          have HRow := Lib.hid hrw
          have HB := Lib.hid (hB.trans (hBz.mono hB.size))
          have hrs := hrw.mono hB.size
          have HRs := Lib.hid hrs
          clear hB hBz hrw hrs
          go_wp2
          go_ret
          refine ⟨_, rfl, ⟨ws, HRs.out, ?_, hkd, by omega⟩, HB.out⟩
          rw [Hws.out]
          constructor
          · intro h u hu
            obtain ⟨q, rfl⟩ : ∃ q : Nat, u = q := ⟨u.toNat, by have := hu.1; omega⟩
            exact h q (by have := hu.2; omega)
          · intro h u hu
            exact h u ⟨by omega, by omega⟩
end Go.Proofs.Ytpnkhgjjlionnaa
namespace Go.Proofs.Ytpnkhgjjlionnaa
open Go.RowKit Go.Maps

set_option maxRecDepth 100000 in
set_option maxHeartbeats 4000000 in
theorem pairsMir_any (kind : Int) (K : Tr → List Tr) (N : Int) (v : Value) (T : List Tr) (w : World) (h : TrisRd w v T) (hl : T.length ≤ 8192)
    (hK : ∀ (t : Tr) (W : World), t ∈ T → Calls Try.prog 123 #[triV t] W fun e W' => ∃ v', e = .returned v' ∧ W'.ownsRow W.heap.size 60 3 v' (K t).length (ws3 (K t)) ∧ Below W.heap.size W W')
    (hKl : ∀ t ∈ T, 0 < (K t).length ∧ (K t).length ≤ 3) (hKo : ∀ t ∈ T, ∀ κ ∈ K t, keyOk κ) :
    Calls Try.prog 121 #[.agg #[.int .i64 N, v], .int .i64 kind, .func (.func 123) #[] #[]] w fun e w' => ∃ v', e = .returned v' ∧ WitsIs w' w.heap.size v' kind (T.flatMap K).Nodup ∧ Below w.heap.size w w' := by
  obtain ⟨i1, hi', hy0, hy1, hy2⟩ := info_parts infoWit
  obtain ⟨i2, hj', hz0, hz1, hz2⟩ := info_parts infoInt
  obtain ⟨a, c, rfl, hc1, hc2, hr⟩ := h
  have HR := Lib.hid hr
  have HKc := Lib.hid hK
  have HKl := Lib.hid hKl
  have HKo := Lib.hid hKo
  have b1 := Blk.new w 24 #[.int .i64 N, .slice a T.length c]
  have hB0 : Below w.heap.size w (w.alloc (.cells #[.int .i64 N, .slice a T.length c] 24)) := (Below.refl _ _).alloc (Nat.le_refl _) _
  obtain ⟨n, hn⟩ : ∃ n, T.length = n := ⟨_, rfl⟩
  rw [hn] at hl hc1 hB0 b1 ⊢
  have HN := Lib.hid hn
  have st0 : PairSt w ((((w.alloc (.cells #[.int .i64 N, .slice a n c] 24)).alloc (.map #[] 0))).alloc (.map #[] 0)) kind (fun _ => []) [] (.slice none 0 0) [] := by
    have hm1 := Grp.made (w.alloc (.cells #[.int .i64 N, .slice a n c] 24)) Try.prog 60 3 (base := w.heap.size + 3) (by rw [size_alloc']; omega)
    have hm2 := MapB.made ((w.alloc (.cells #[.int .i64 N, .slice a n c] 24)).alloc (.map #[] 0)) Try.prog 87 4
    rw [size_alloc'] at hm1
    rw [size_alloc', size_alloc'] at hm2
    exact ⟨hm1.alloc _, hm2, World.ownsRow_nil _ _ _ _, (hB0.alloc (by rw [size_alloc']; omega) _).alloc (by rw [size_alloc', size_alloc']; omega) _, fun _ => rfl, by simp⟩
  obtain ⟨l0, x0, -, x1, -⟩ := ((b1.alloc (.map #[] 0)).alloc (.map #[] 0)).two
  have hmm := @run_makeMap Try.prog
  clear hr hn hK hKl hKo b1 hB0
  go_enter Try.func121, Try.ntmps121
  go_wp2
  clear hmm x0 x1 l0
  go_loopw [7, 22] (fun v7 i wr => ∃ (k : Nat) (v' : Value) (ws : List Tr) (f : Value → List Int) (S : List Value), v' = v7 ∧ k ≤ n ∧ i = .int .i64 k ∧ PairSt w wr kind f S v' ws ∧ Had f ((T.take k).flatMap K) ∧ ((T.take k).flatMap K).length ≤ 3 * k ∧ ws.length ≤ 3 * k * 24576 ∧ (ws = [] ↔ ((T.take k).flatMap K).Nodup)) (fun _ i _ => n - (intOf i).toNat)
  case atStart => exact ⟨0, _, [], _, _, rfl, Nat.zero_le _, rfl, st0, by simpa using Had.nil, by simp, by simp, by simp⟩
  case round =>
    clear st0
    obtain ⟨k, v', ws, f, S, rfl, hk, rfl, hst, hhad, hPl, hwl, hws⟩ := hrel
    rename World => wr
    by_cases hlt : k < n
    · obtain ⟨t, ht⟩ : ∃ t, T[k]? = some t := ⟨T[k]'(by have := HN.out; omega), List.getElem?_eq_getElem _⟩
      obtain ⟨x, y, z⟩ := t
      have hmem := List.mem_of_getElem? ht
      obtain ⟨b, o, rfl, hbl, s0, s1, s2⟩ := HR.out k x y z ht
      have s0' := (hst.b.cell (p := ⟨b, _, none⟩) hbl).trans s0
      have s1' := (hst.b.cell (p := ⟨b, _, none⟩) hbl).trans s1
      have s2' := (hst.b.cell (p := ⟨b, _, none⟩) hbl).trans s2
      have Hts : Hid ((T.take (k + 1)).flatMap K = (T.take k).flatMap K ++ K (x, y, z)) := by
        refine Lib.hid ?_
        obtain ⟨hk', he⟩ := List.getElem?_eq_some_iff.1 ht
        rw [List.take_succ_eq_append_getElem hk', he]
        simp
      have HkO := Lib.hid (HKo.out _ hmem)
      have HkC := Lib.hid (fun W => HKc.out (x, y, z) W hmem)
      obtain ⟨hL0, hL3⟩ := HKl.out _ hmem
      generalize hKt : K (x, y, z) = Kt at *
      obtain ⟨P, hP⟩ : ∃ P, (T.take k).flatMap K = P := ⟨_, rfl⟩
      rw [hP] at hhad hPl hws Hts
      have Hws := Lib.hid hws
      have Hhad := Lib.hid hhad
      have hk3 : (k : Int) < (n : Int) := by omega
      have hk0 : (0 : Int) ≤ (k : Int) := by omega
      have Hst := Lib.hid (hst.alloc (.cells #[.int .i64 x, .int .i64 y, .int .i64 z] 61))
      clear ht s0 s1 s2 hws hhad hst hmem hP hKt
      go_wp2_with fail
      refine (HkC.out _).mono ?_
      rintro e w2 ⟨vk, rfl, hrK, hbK⟩
      have Hst2 := Lib.hid (Hst.out.below hbK)
      obtain ⟨L, hL⟩ : ∃ L, Kt.length = L := ⟨_, rfl⟩
      rw [hL] at hrK hL0 hL3
      obtain ⟨gk, ck, rfl, hgk1, hgk2⟩ := hrK.form hL0
      rw [size_alloc'] at hgk1 hrK
      have Hr := Lib.hid hrK
      have HL := Lib.hid hL
      clear Hst hbK hrK hL HkC
      go_wp2
      rename World => wA
      go_loopw [7, 31] (fun v7 i wq => ∃ (j : Nat) (v' : Value) (ws : List Tr) (f : Value → List Int) (S : List Value), v' = v7 ∧ j ≤ L ∧ i = .int .i64 j ∧ PairSt w wq kind f S v' ws ∧ wq.ownsRow (wr.heap.size + 1) 60 3 (.slice (some ⟨gk, 0, none⟩) L ck) L (ws3 Kt) ∧ Had f (P ++ Kt.take j) ∧ ws.length ≤ (3 * k + j) * 24576 ∧ (ws = [] ↔ (P ++ Kt.take j).Nodup)) (fun _ i _ => L - (intOf i).toNat)
      case atStart => exact ⟨0, _, ws, f, S, rfl, Nat.zero_le _, rfl, Hst2.out, Hr.out, by simpa using Hhad.out, by omega, by simpa using Hws.out⟩
      case round =>
        clear Hst2 Hr Hws Hhad hwl
        clear ws f S
        obtain ⟨j, v', ws, f, S, rfl, hj, rfl, hst, hrK, hhad, hwl, hws⟩ := hrel
        rename World => wq
        by_cases hjl : j < L
        · obtain ⟨κ, hκ⟩ : ∃ κ, Kt[j]? = some κ := ⟨Kt[j]'(by have := HL.out; omega), List.getElem?_eq_getElem _⟩
          obtain ⟨κ1, κ2, κ3⟩ := κ
          obtain ⟨⟨o1, o2⟩, ⟨o3, o4⟩, ⟨o5, o6⟩⟩ := HkO.out _ (List.mem_of_getElem? hκ)
          simp only at o1 o2 o3 o4 o5 o6
          obtain ⟨d0, d1, d2⟩ := ws3_at hκ
          have c0 := hrK.cellAt (j * 3) (by omega)
          have c1 := hrK.cellAt (j * 3 + 1) (by omega)
          have c2 := hrK.cellAt (j * 3 + 2) (by omega)
          rw [d0] at c0
          rw [d1] at c1
          rw [d2] at c2
          have Hts2 : Hid (P ++ Kt.take (j + 1) = P ++ Kt.take j ++ [(κ1, κ2, κ3)]) := by
            refine Lib.hid ?_
            obtain ⟨hk', he⟩ := List.getElem?_eq_some_iff.1 hκ
            rw [List.take_succ_eq_append_getElem hk', he, List.append_assoc]
          have hj3 : (j : Int) < (L : Int) := by omega
          have hj0 : (0 : Int) ≤ (j : Int) := by omega
          have hPj : (P ++ Kt.take j).length ≤ 3 * k + j := by simp; omega
          have Hhad := Lib.hid hhad
          have Hws := Lib.hid hws
          have hgq := hrK.lt gk (by rfl)
          have hst1 := hst.alloc (.cells #[.int .i64 κ1, .int .i64 κ2, .int .i64 κ3] 60)
          have hrK1 := Lib.hid (hrK.alloc (.cells #[.int .i64 κ1, .int .i64 κ2, .int .i64 κ3] 60))
          have hkey := keyOf_three arrThree Try.underlying3 types_succ (wfS ⟨o1, o2⟩) (wfS ⟨o3, o4⟩) (wfS ⟨o5, o6⟩)
          have hbq := Blk.new wq 60 #[.int .i64 κ1, .int .i64 κ2, .int .i64 κ3]
          have hwq := hst.b.size
          obtain ⟨m, hm⟩ : ∃ m, (f (triV (κ1, κ2, κ3))).length = m := ⟨_, rfl⟩
          have hm1 : m ≤ 3 * k + j := by
            have := (hhad.2 (triV (κ1, κ2, κ3))).1
            omega
          have HM := Lib.hid hm
          have HMo := Lib.hid (hhad.2 (triV (κ1, κ2, κ3))).2
          clear d0 d1 d2 hws hhad hst hrK hm
          go_wp2_with (at_lookup; refine wpList_lookupG hst1.g rfl _ _ 188 35 rfl (Keyed.of_law arrThree.law) Try.underlying188 (zero_ints _) rfl _ rfl hkey ?_; intro v0 hr0; have hr0' := hr0; rw [show (.agg #[.int .i64 κ1, .int .i64 κ2, .int .i64 κ3] : Value) = triV (κ1, κ2, κ3) from rfl] at hr0'; obtain ⟨a0, c0', rfl, hc0⟩ := rowSlice hr0' HM.out)
          have Hst1 := Lib.hid hst1
          have Hr0 := Lib.hid hr0
          have hbq' := Lib.hid hbq
          clear hst1 hr0 hr0' hbq hc0 c0 c1 c2 hgq
          go_loopw [7, 39] (fun v7 i wz => ∃ (q : Nat) (v' : Value) (ws' : List Tr) (S' : List Value), v' = v7 ∧ q ≤ m ∧ i = .int .i64 q ∧ PairSt w wz kind f S' v' ws' ∧ wz.ownsRow (wr.heap.size + 1) 60 3 (.slice (some ⟨gk, 0, none⟩) L ck) L (ws3 Kt) ∧ wz.ownsRow (w.heap.size + 3) 3 1 (.slice a0 m c0') (f (triV (κ1, κ2, κ3))).length (intsV (f (triV (κ1, κ2, κ3)))) ∧ Blk wz wq.heap.size 60 #[.int .i64 κ1, .int .i64 κ2, .int .i64 κ3] ∧ ws'.length ≤ ws.length + q ∧ (ws' = [] ↔ ws = [] ∧ q = 0)) (fun _ i _ => m - (intOf i).toNat)
          case atStart => exact ⟨0, _, ws, S, rfl, Nat.zero_le _, rfl, Hst1.out, hrK1.out, Hr0.out, hbq'.out, by omega, by simp⟩
          case round =>
            clear Hst1 hrK1 Hr0 hbq'
            obtain ⟨q, v', ws', S', rfl, hq, rfl, hst, hrK, hr0, hbq, hwl', hws'⟩ := hrel
            rename World => wz
            have Hws' := Lib.hid hws'
            clear hws'
            by_cases hqm : q < m
            · obtain ⟨d, hd⟩ : ∃ d, (f (triV (κ1, κ2, κ3)))[q]? = some d := ⟨(f (triV (κ1, κ2, κ3)))[q]'(by have := HM.out; omega), List.getElem?_eq_getElem _⟩
              obtain ⟨d1, d2⟩ := HMo.out d (List.mem_of_getElem? hd)
              obtain ⟨a1, c1', e1, hcc⟩ := rowSlice hr0 HM.out
              cases e1
              obtain ⟨g0, rfl, hg0, hcell⟩ := hcc q d hd
              have hst2 := hst.alloc (.cells #[.int .i64 d, .int .i64 k] 87)
              have hkey2 := WideMaps.keyOf_pair arrPair Try.underlying3 types_succ (wfS ⟨d1, d2⟩) (wfS (x := (k : Int)) ⟨by omega, by omega⟩)
              have hq3 : (q : Int) < (m : Int) := by omega
              have hq0 : (0 : Int) ≤ (q : Int) := by omega
              have c3 : ws'.length + 1 ≤ maxLen := by unfold maxLen; omega
              have c4 : (ws'.length + 1) * 24 ≤ 140737488355328 := by omega
              have c5 : ws'.length < maxLen := by unfold maxLen; omega
              have hwz := hst.b.size
              clear hcc hd
              by_cases hp : (.agg #[.int .i64 d, .int .i64 k] : Value) ∈ S'
              · have hne : ws' ≠ [] := fun e0 => by
                  have := hst.c e0
                  rw [this] at hp
                  cases hp
                go_wp2_with (at_lookup; refine wpList_lookupB hst2.s rfl _ _ 189 rfl (Keyed.of_law arrPair.law) Try.underlying189 Try.underlying4 (zero_bool _) rfl _ rfl hkey2 ?_; intro r hir; obtain rfl : r = true := hir.2 hp)
                go_roundw
                case measure => simp [intOf]; omega
                case rel => exact ⟨q + 1, _, ws', S', rfl, by omega, by go_num, hst2, hrK.alloc _, hr0.alloc _, hbq.alloc _, by omega, ⟨fun e => absurd e hne, fun e => absurd e.2 (by omega)⟩⟩
              · go_wp2_with (first
                  | (at_lookup; refine wpList_lookupB hst2.s rfl _ _ 189 rfl (Keyed.of_law arrPair.law) Try.underlying189 Try.underlying4 (zero_bool _) rfl _ rfl hkey2 ?_; intro r hir; obtain rfl : r = false := (by cases r; rfl; exact absurd (hir.1 rfl) hp))
                  | (at_mapUpdate; refine wpList_storeB hst2.s rfl _ _ _ 189 rfl (Keyed.of_law arrPair.law) Try.underlying189 Try.underlying4 c5 rfl _ rfl rfl hkey2 ?_; intro w5 hm5 hg5; have hsz5 := hg5.size; rw [size_alloc'] at hsz5)
                  | (at_builtin; refine wpList_append_lies _ rfl (.tmp 52) (.tmp 57) 114 rfl w.heap.size 44 i1 _ 3 24 Try.underlying114 hi' hy0 hy1 hy2 rfl (by decide) _ _ _ rfl ((hst2.r.kept hg5 (row_map_ne hst2.r hst2.s.obj)).alloc _) ⟨w5.heap.size, 0, none⟩ 1 1 [.int .i64 kind, .int .i64 d, .int .i64 k] rfl rfl (World.news_of_block (heap_alloc_new _ _)) (by simp [Value.oneCell']) (by decide) c3 c4 (by rw [size_alloc']; omega) (w5.heap.size + 1) (by simp) ?_; intro g4 cap4 W4 hr4 hg4 _ _))
                go_roundw
                case measure => simp [intOf]; omega
                case rel => exact ⟨q + 1, _, ws' ++ [(kind, d, (k : Int))], _, rfl, by omega, by go_num, hst2.mark hm5 hg5 (by rw [ws3_snoc]; simpa using hr4) hg4 rfl, hst2.markRow hg5 hg4 (by decide) (hrK.alloc _), hst2.markRow hg5 hg4 (by decide) (hr0.alloc _), hst2.markBlk hg5 hg4 (by decide) (hbq.alloc _), by simp; omega, by simp⟩
            · obtain rfl : q = m := by omega
              have hst3 := hst.alloc (.cells #[.int .i64 k] 3)
              have hnb := Blk.new wz 3 #[.int .i64 k]
              have hglt := hst.g.lt
              have hrK3 := Lib.hid (hrK.alloc (.cells #[.int .i64 k] 3))
              have hmm := HM.out
              obtain ⟨bq0, bq1, -, bq2, -, bq3, -⟩ := hbq.three
              have hwz := hst.b.size
              have c6 : (f (triV (κ1, κ2, κ3))).length + 1 ≤ maxLen := by unfold maxLen; omega
              have c7 : ((f (triV (κ1, κ2, κ3))).length + 1) * 8 ≤ 140737488355328 := by omega
              clear hmm hst hrK hr0
              go_wp2_with (first
                | (refine wpList_entryG hst3.g rfl _ _ 188 35 rfl (Keyed.of_law arrThree.law) Try.underlying188 zero_ints rfl (triV (κ1, κ2, κ3)) rfl hkey ?_; intro v1 st W1 e1 e1s e1g e1r e1b; rw [size_alloc'] at e1s)
                | (at_builtin; refine wpList_append_lies _ rfl (.tmp 62) (.tmp 64) 35 rfl (w.heap.size + 3) 3 i2 _ 1 8 Try.underlying35 hj' hz0 hz1 hz2 rfl (by decide) v1 (f (triV (κ1, κ2, κ3))).length (intsV (f (triV (κ1, κ2, κ3)))) rfl e1r ⟨wz.heap.size, 0, none⟩ 1 1 [.int .i64 k] rfl rfl (World.news_of_block (hnb.grown e1 (by simp; omega))) (by simp [Value.oneCell']) (by decide) c6 c7 (by omega) (W1.heap.size) rfl ?_; intro g6 cap6 W6 hr6 hg6 hat6 _; obtain ⟨W7, hrun7, hG7, hg7⟩ := e1b W6 (.slice (some ⟨g6, 0, none⟩) ((f (triV (κ1, κ2, κ3))).length + 1) cap6) (f (triV (κ1, κ2, κ3)) ++ [(k : Int)]) hg6 (by simpa [intsV] using hr6) (hat6.imp (fun e => e.symm) (fun e => ⟨g6, rfl, by omega⟩)))
                | (refine wpList_entryStore rfl _ _ _ 188 rfl rfl rfl rfl hrun7 ?_))
              go_roundw
              case measure => simp [intOf]; omega
              case rel => exact ⟨j + 1, _, ws', _, S', rfl, by omega, by go_num, hst3.put e1 e1g e1r hg6 hg7 hG7, hst3.putRow e1 e1g e1r hg6 hg7 (by decide) hrK3.out, by rw [Hts2.out]; exact Hhad.out.put (κ1, κ2, κ3) ⟨by omega, by omega⟩, by omega, by
                rw [Hts2.out, nodup_snoc, Hws'.out, Hws.out, ← Hhad.out.1, ← HM.out, List.length_eq_zero_iff]⟩
        · obtain rfl : j = L := by omega
          have hll := HL.out
          rw [List.take_of_length_le (by omega)] at hhad hws
          have Hst := Lib.hid hst
          have Hws := Lib.hid hws
          have Hhad := Lib.hid hhad
          clear hst hws hhad hrK hll
          go_wp2
          go_roundw
          case measure => simp [intOf]; omega
          case rel => exact ⟨k + 1, _, ws, f, S, rfl, by omega, by go_num, Hst.out, by rw [Hts.out]; exact Hhad.out, by rw [Hts.out, List.length_append, HL.out]; omega, by omega, by rw [Hts.out]; exact Hws.out⟩
    · obtain rfl : k = n := by omega
      have hnn := HN.out
      rw [List.take_of_length_le (by omega)] at hws
      have Hst := Lib.hid hst
      have Hws := Lib.hid hws
      clear hst hnn hws hhad hPl
      go_wp2
      go_ret
      exact ⟨_, rfl, ⟨ws, Hst.out.r, Hws.out, Hst.out.k, by omega⟩, Hst.out.b⟩
end Go.Proofs.Ytpnkhgjjlionnaa
namespace Go.Proofs.Ytpnkhgjjlionnaa
open Go.RowKit Go.Sort

def sortL (l : List Int) : List Int := l.mergeSort fun x y => decide (x ≤ y)
theorem sortL_length (l : List Int) : (sortL l).length = l.length := by simp [sortL]
/-- Three numbers in their order. -/
def sort3 (a b c : Int) : Int × Int × Int := match sortL [a, b, c] with | [x, y, z] => (x, y, z) | _ => (0, 0, 0)
theorem sort3_eq (a b c : Int) : sortL [a, b, c] = [(sort3 a b c).1, (sort3 a b c).2.1, (sort3 a b c).2.2] := by
  have h := sortL_length [a, b, c]
  unfold sort3
  match hs : sortL [a, b, c], h with
  | [x, y, z], _ => rfl
theorem sort3_any (a b c : Int) (g : Nat) (t : TypeId) (w : World) (hb : Blk w g t #[.int .i64 a, .int .i64 b, .int .i64 c]) :
    Calls Try.prog 56 #[.slice (some ⟨g, 0, none⟩) 3 3] w fun e w' => e = .returned (.tuple #[]) ∧ Blk w' g t #[.int .i64 (sort3 a b c).1, .int .i64 (sort3 a b c).2.1, .int .i64 (sort3 a b c).2.2] ∧ w.grownBy w' (some g) := by
  have hH : Go.Sort.Holds (Value.int .i64) w g 0 [a, b, c].toArray := holds_of_blockI (ss := [a, b, c]) hb (by simp)
  refine (Try.slices_Sort_int g 0 3 [a, b, c] w hH hb.lt (by simp)).mono ?_
  rintro e w' ⟨rfl, n, os, rfl⟩
  have h3 := sort3_eq a b c
  unfold sortL at h3
  rw [h3]
  refine ⟨rfl, ?_, grownBy_sortedI _⟩
  have h4 := heap_sortedI (n := n) (os := os) [(sort3 a b c).1, (sort3 a b c).2.1, (sort3 a b c).2.2].toArray hb
  have h5 : Go.Sort.putCells (Value.int .i64) 0 [(sort3 a b c).1, (sort3 a b c).2.1, (sort3 a b c).2.2].toArray #[.int .i64 a, .int .i64 b, .int .i64 c] = #[.int .i64 (sort3 a b c).1, .int .i64 (sort3 a b c).2.1, .int .i64 (sort3 a b c).2.2] := by
    generalize sort3 a b c = p
    rfl
  rw [h5] at h4
  exact h4
end Go.Proofs.Ytpnkhgjjlionnaa
namespace Go.Proofs.Ytpnkhgjjlionnaa
open Go.RowKit Go.Maps

def edges3 (t : Tr) : List Tr := [(t.1, t.2.1, 0), (t.2.1, t.2.2, 0), (t.2.2, t.1, 0)]
def key3 (t : Tr) : List Tr := [sort3 t.1 t.2.1 t.2.2]

set_option maxRecDepth 100000 in
set_option maxHeartbeats 1000000 in
theorem keysTwice_any (t : Tr) (W : World) : Calls Try.prog 122 #[triV t] W fun e W' => ∃ v', e = .returned v' ∧ W'.ownsRow W.heap.size 60 3 v' (edges3 t).length (ws3 (edges3 t)) ∧ Below W.heap.size W W' := by
  obtain ⟨x, y, z⟩ := t
  unfold triV
  have b1 := Blk.new W 61 #[.int .i64 x, .int .i64 y, .int .i64 z]
  obtain ⟨l0, x0, -, x1, -, x2, -⟩ := b1.three
  have hB0 : Below W.heap.size W (W.alloc (.cells #[.int .i64 x, .int .i64 y, .int .i64 z] 61)) := (Below.refl _ _).alloc (Nat.le_refl _) _
  have hrow := World.ownsRow_lit (W.alloc (.cells #[.int .i64 x, .int .i64 y, .int .i64 z] 61)) (base := W.heap.size) (e := 60) (size := 3) #[.int .i64 x, .int .i64 y, .int .i64 0, .int .i64 y, .int .i64 z, .int .i64 0, .int .i64 z, .int .i64 x, .int .i64 0] 3 (by simp) (by decide) rfl
  rw [size_alloc'] at hrow
  have Hrow := Lib.hid hrow
  have HB := Lib.hid (hB0.alloc hB0.size (.cells #[.int .i64 x, .int .i64 y, .int .i64 0, .int .i64 y, .int .i64 z, .int .i64 0, .int .i64 z, .int .i64 x, .int .i64 0] 60))
  clear hrow hB0
  go_enter Try.func122, Try.ntmps122
  go_wp2
  go_ret
  exact ⟨_, rfl, Hrow.out, HB.out⟩
set_option maxRecDepth 100000 in
set_option maxHeartbeats 1000000 in
theorem keysMir_any (t : Tr) (W : World) : Calls Try.prog 123 #[triV t] W fun e W' => ∃ v', e = .returned v' ∧ W'.ownsRow W.heap.size 60 3 v' (key3 t).length (ws3 (key3 t)) ∧ Below W.heap.size W W' := by
  obtain ⟨x, y, z⟩ := t
  unfold triV
  have b1 := Blk.new W 61 #[.int .i64 x, .int .i64 y, .int .i64 z]
  obtain ⟨l0, x0, -, x1, -, x2, -⟩ := b1.three
  have hB0 : Below W.heap.size W (W.alloc (.cells #[.int .i64 x, .int .i64 y, .int .i64 z] 61)) := (Below.refl _ _).alloc (Nat.le_refl _) _
  go_enter Try.func123, Try.ntmps123
  go_wp2_with fail
  refine (sort3_any x y z (W.heap.size + 1) 61 _ (by have := Blk.new (W.alloc (.cells #[.int .i64 x, .int .i64 y, .int .i64 z] 61)) 61 #[.int .i64 x, .int .i64 y, .int .i64 z]; rw [size_alloc'] at this; exact this)).mono ?_
  rintro e w1 ⟨rfl, hb, hg⟩
  obtain ⟨l3, x3, -, x4, -, x5, -⟩ := hb.three
  have hB1 : Below W.heap.size W w1 := (hB0.alloc hB0.size _).grown hg (by rw [size_alloc', size_alloc']; omega) (fun j e => by cases e; omega)
  have hs1 := hB1.size
  have hrow := World.ownsRow_lit w1 (base := W.heap.size) (e := 60) (size := 3) #[.int .i64 (sort3 x y z).1, .int .i64 (sort3 x y z).2.1, .int .i64 (sort3 x y z).2.2] 1 hs1 (by decide) rfl
  have Hrow := Lib.hid hrow
  have HB := Lib.hid (hB1.alloc hs1 (.cells #[.int .i64 (sort3 x y z).1, .int .i64 (sort3 x y z).2.1, .int .i64 (sort3 x y z).2.2] 60))
  clear hrow hB0 hB1 x0 x1 x2
  go_wp2
  go_ret
  exact ⟨_, rfl, Hrow.out, HB.out⟩

theorem sort3_in (a b c : Int) : (sort3 a b c).1 ∈ [a, b, c] ∧ (sort3 a b c).2.1 ∈ [a, b, c] ∧ (sort3 a b c).2.2 ∈ [a, b, c] := by
  have h := sort3_eq a b c
  have hp : (sortL [a, b, c]).Perm [a, b, c] := List.mergeSort_perm _ _
  rw [h] at hp
  exact ⟨hp.mem_iff.1 (by simp), hp.mem_iff.1 (by simp), hp.mem_iff.1 (by simp)⟩
theorem keyOk_edges {N : Int} {t : Tr} (hN : N ≤ 4096) (h : in3 N t) : ∀ κ ∈ edges3 t, keyOk κ := by
  obtain ⟨⟨a1, a2⟩, ⟨b1, b2⟩, ⟨c1, c2⟩⟩ := h
  intro κ hκ
  simp only [edges3, List.mem_cons, List.not_mem_nil, or_false] at hκ
  unfold keyOk
  rcases hκ with rfl | rfl | rfl <;> simp only <;> omega
theorem keyOk_key3 {N : Int} {t : Tr} (hN : N ≤ 4096) (h : in3 N t) : ∀ κ ∈ key3 t, keyOk κ := by
  obtain ⟨⟨a1, a2⟩, ⟨b1, b2⟩, ⟨c1, c2⟩⟩ := h
  intro κ hκ
  simp only [key3, List.mem_singleton] at hκ
  subst hκ
  obtain ⟨h1, h2, h3⟩ := sort3_in t.1 t.2.1 t.2.2
  have H : ∀ u, u ∈ [t.1, t.2.1, t.2.2] → 0 ≤ u ∧ u ≤ 8192 := by
    intro u hu
    simp only [List.mem_cons, List.not_mem_nil, or_false] at hu
    rcases hu with rfl | rfl | rfl <;> exact ⟨by omega, by omega⟩
  exact ⟨H _ h1, H _ h2, H _ h3⟩

set_option maxRecDepth 100000 in
theorem twice_any (N : Int) (v : Value) (T : List Tr) (w : World) (h : TrisRd w v T) (hN : 0 ≤ N ∧ N ≤ 4096) (hl : T.length ≤ 8192) (hin : ∀ t ∈ T, in3 N t) : Calls Try.prog 96 #[.agg #[.int .i64 N, v]] w fun e w' => ∃ v', e = .returned v' ∧ WitsIs w' w.heap.size v' 3 (T.flatMap edges3).Nodup ∧ Below w.heap.size w w' := by
  have b1 := Blk.new w 24 #[.int .i64 N, v]
  obtain ⟨l0, x0, -, x1, -⟩ := b1.two
  have hB0 : Below w.heap.size w (w.alloc (.cells #[.int .i64 N, v] 24)) := (Below.refl _ _).alloc (Nat.le_refl _) _
  have H := Lib.hid (pairsTwice_any 3 edges3 N v T _ (h.alloc (.cells #[.int .i64 N, v] 24)) hl (fun t W _ => keysTwice_any t W) (fun t _ => by simp [edges3]) (fun t ht => keyOk_edges hN.2 (hin t ht)))
  clear h
  go_enter Try.func96, Try.ntmps96
  go_wp2_with fail
  refine H.out.mono ?_
  rintro e w1 ⟨v', rfl, ⟨ws, h1, h2, h3, h4⟩, hb⟩
  have HB := Lib.hid (hB0.trans (hb.mono hB0.size))
  rw [size_alloc'] at h1
  have H1 := Lib.hid (h1.mono (Nat.le_succ _))
  have H2 := Lib.hid h2
  clear hb hB0 h1 h2
  go_wp2
  go_ret
  exact ⟨_, rfl, ⟨ws, H1.out, H2.out, h3, h4⟩, HB.out⟩
set_option maxRecDepth 100000 in
theorem mirrored_any (N : Int) (v : Value) (T : List Tr) (w : World) (h : TrisRd w v T) (hN : 0 ≤ N ∧ N ≤ 4096) (hl : T.length ≤ 8192) (hin : ∀ t ∈ T, in3 N t) : Calls Try.prog 97 #[.agg #[.int .i64 N, v]] w fun e w' => ∃ v', e = .returned v' ∧ WitsIs w' w.heap.size v' 4 (T.flatMap key3).Nodup ∧ Below w.heap.size w w' := by
  have b1 := Blk.new w 24 #[.int .i64 N, v]
  obtain ⟨l0, x0, -, x1, -⟩ := b1.two
  have hB0 : Below w.heap.size w (w.alloc (.cells #[.int .i64 N, v] 24)) := (Below.refl _ _).alloc (Nat.le_refl _) _
  have H := Lib.hid (pairsMir_any 4 key3 N v T _ (h.alloc (.cells #[.int .i64 N, v] 24)) hl (fun t W _ => keysMir_any t W) (fun t _ => by simp [key3]) (fun t ht => keyOk_key3 hN.2 (hin t ht)))
  clear h
  go_enter Try.func97, Try.ntmps97
  go_wp2_with fail
  refine H.out.mono ?_
  rintro e w1 ⟨v', rfl, ⟨ws, h1, h2, h3, h4⟩, hb⟩
  have HB := Lib.hid (hB0.trans (hb.mono hB0.size))
  rw [size_alloc'] at h1
  have H1 := Lib.hid (h1.mono (Nat.le_succ _))
  have H2 := Lib.hid h2
  clear hb hB0 h1 h2
  go_wp2
  go_ret
  exact ⟨_, rfl, ⟨ws, H1.out, H2.out, h3, h4⟩, HB.out⟩
end Go.Proofs.Ytpnkhgjjlionnaa
namespace Go.Proofs.Ytpnkhgjjlionnaa
open Go.RowKit Go.Sort

section
variable {α : Type} [Inhabited α] {enc : α → List Value} {k : Nat}
theorem flatMap_at (hk : ∀ x, (enc x).length = k) (h0 : 0 < k) : ∀ (l : List α) (t : Nat), t < l.length * k → (l.flatMap enc)[t]? = some ((enc (l[t / k]!))[t % k]!)
  | [], t, h => by simp at h
  | a :: l, t, h => by
    rw [List.flatMap_cons]
    by_cases ht : t < k
    · rw [List.getElem?_append_left (by rw [hk]; exact ht), Nat.div_eq_of_lt ht, Nat.mod_eq_of_lt ht]
      have : t < (enc a).length := by rw [hk]; exact ht
      simp [this]
    · rw [List.getElem?_append_right (by rw [hk]; omega), hk]
      have h1 : t - k < l.length * k := by
        simp only [List.length_cons, Nat.add_mul, Nat.one_mul] at h
        omega
      rw [flatMap_at hk h0 l (t - k) h1]
      have e1 : t / k = (t - k) / k + 1 := by rw [Nat.div_eq t k, if_pos ⟨h0, by omega⟩]
      have e2 : t % k = (t - k) % k := Nat.mod_eq_sub_mod (by omega)
      rw [e1, e2]
      simp
omit [Inhabited α] in
theorem flatMap_len (hk : ∀ x, (enc x).length = k) (l : List α) : (l.flatMap enc).length = l.length * k := by
  induction l with
  | nil => simp
  | cons a l ih => rw [List.flatMap_cons, List.length_append, ih, hk, List.length_cons, Nat.add_mul, Nat.one_mul]; omega
theorem flatK_list (hk : ∀ x, (enc x).length = k) (h0 : 0 < k) (d : Array α) : (flatK enc k d).toList = d.toList.flatMap enc := by
  apply List.ext_getElem?
  intro t
  by_cases ht : t < d.size * k
  · rw [flatMap_at hk h0 d.toList t (by simpa using ht)]
    have h1 := get_flatK enc k d t ht
    rw [getElem!_pos (flatK enc k d) t (by simpa using ht)] at h1
    have h2 : (flatK enc k d).toList[t]? = some ((enc d[t / k]!)[t % k]!) := by
      rw [Array.getElem?_toList, Array.getElem?_eq_getElem (by simpa using ht), h1]
    rw [h2]
    have h3 : t / k < d.size := Nat.div_lt_of_lt_mul (by rw [Nat.mul_comm]; exact ht)
    simp [getElem!_pos, h3]
  · rw [List.getElem?_eq_none (by simp; omega), List.getElem?_eq_none (by rw [flatMap_len hk]; simp; omega)]
variable {w : World} {base g n cap : Nat} {e : TypeId}
theorem holdsK_of_own (hk : ∀ x, (enc x).length = k) (h0 : 0 < k) {d : Array α} (h : w.ownsRow base e k (.slice (some ⟨g, 0, none⟩) n cap) n (d.toList.flatMap enc)) : HoldsK enc k w g 0 d := by
  rcases h.2 with ⟨e0, _⟩ | ⟨g', cap', cur, e0, hb, hg, h1, h2, h3, h4⟩
  · cases e0
  · cases e0
    have hl := h.1
    rw [flatMap_len hk] at hl
    have hdn : d.toList.length * k = n * k := hl
    intro j hj
    have hj' : j < d.size * k := by simpa using hj
    have hjn : j < n * k := by rw [← hdn]; simpa using hj'
    refine ⟨?_, by simp [World.frozen?, hg]⟩
    rw [Nat.zero_add]
    have c1 := h.cellAt j hjn
    rw [c1, ← flatK_list hk h0 d, Array.getElem?_toList, Array.getElem?_eq_getElem hj, getElem!_pos (flatK enc k d) j hj]
    rfl
theorem ownsRow_sortedK (hk : ∀ x, (enc x).length = k) (h0 : 0 < k) {d d' : Array α} {m : Nat} {os : Array Obj} (h : w.ownsRow base e k (.slice (some ⟨g, 0, none⟩) n cap) n (d.toList.flatMap enc)) (hs : d'.size = d.size) :
    (sortWorldK enc k w g 0 m d' os).ownsRow base e k (.slice (some ⟨g, 0, none⟩) n cap) n (d'.toList.flatMap enc) ∧ w.grownBy (sortWorldK enc k w g 0 m d' os) (some g) := by
  rcases h.2 with ⟨e0, _⟩ | ⟨g', cap', cur, e0, hb, hg, h1, h2, h3, h4⟩
  · cases e0
  · cases e0
    have hl := h.1
    have hlen : (d'.toList.flatMap enc).length = n * k := by rw [← hl, flatMap_len hk, flatMap_len hk]; simp [hs]
    have hgl : g < w.heap.size := (Array.getElem?_eq_some_iff.1 hg).1
    have hsz : (flatK enc k d').size = n * k := by rw [← hlen, ← flatK_list hk h0]; simp
    constructor
    · refine ⟨hlen, .inr ⟨g, cap, Go.Sort.putCells id 0 (flatK enc k d') cur, rfl, hb, ?_, h1, h2, by simp [Go.Sort.putCells, h3], ?_⟩⟩
      · unfold sortWorldK putRowK
        rw [heap_grow_old _ _ (by simpa using hgl)]
        simp [Go.Sort.putRow, Go.Sort.mapBlock, Go.Sort.ahead, Array.getElem?_modify, hg, Go.Sort.onCells]
      · apply List.ext_getElem?
        intro j
        have hcur : n * k ≤ cur.size := by rw [h3]; exact Nat.mul_le_mul_right _ h1
        by_cases hj : j < n * k
        · rw [List.getElem?_take_of_lt hj, Array.getElem?_toList, ← flatK_list hk h0, Array.getElem?_toList]
          have hjs : j < (flatK enc k d').size := by rw [hsz]; exact hj
          have hr : (flatK enc k d')[j]? = some (flatK enc k d')[j]! := by rw [Array.getElem?_eq_getElem hjs, getElem!_pos (flatK enc k d') j hjs]
          rw [hr]
          simp [Go.Sort.putCells, hsz, hj, show j < cur.size by omega]
        · rw [List.getElem?_take_eq_none (by omega), List.getElem?_eq_none (by omega)]
    · refine ⟨rfl, rfl, rfl, by simp [sortWorldK, putRowK, Go.Sort.putRow, Go.Sort.mapBlock, Go.Sort.ahead, grow], fun j hj hne => ?_⟩
      unfold sortWorldK putRowK
      rw [heap_grow_old _ _ (by simpa using hj)]
      have : g ≠ j := fun e => hne (by rw [e])
      simp [Go.Sort.putRow, Go.Sort.mapBlock, Go.Sort.ahead, Array.getElem?_modify, this]
end
end Go.Proofs.Ytpnkhgjjlionnaa
