/-
  Texts joined by program, what the law uses alone: Rt FrS Stab Join FoS From.
-/
import Derived.Deep.RegionHeld3
import Derived.Deep.DeepCutAuto
import Derived.StillTailTactics
import Derived.Deep.AppendLies
import Derived.Test.YtpnkhgjjlionnaaH4
import Derived.Test.YtpnkhgjjlionnaaH2
import Derived.Test.YtpnkhgjjlionnaaShelf
import Derived.Test.YtpnkhgjjlionnaaH3
namespace Go.Proofs.Ytpnkhgjjlionnaa
open Go.RowKit Go.Maps

theorem own_lower {w : World} {base base' : Nat} {e : TypeId} {size n : Nat} {v : Value} {xs : List Value} (h : w.ownsRow base e size v n xs) (hb : base' ≤ base) : w.ownsRow base' e size v n xs := by
  refine ⟨h.1, ?_⟩
  rcases h.2 with hn | ⟨g, cap, cur, rfl, hb1, rest⟩
  · exact .inl hn
  · exact .inr ⟨g, cap, cur, rfl, Nat.le_trans hb hb1, rest⟩
theorem rtSt_start {w w6 : World} {g c : Nat} (h6 : KSet Try.prog 3 w6 (w.heap.size + 2) (keysL [c])) (hg6 : (((w.alloc (.cells #[.pointer (some ⟨g, 0, none⟩)] 26)).alloc (.cells #[.int .i64 0, .slice none 0 0] 24)).alloc (.map #[] 0)).grownBy w6 (some (w.heap.size + 2))) (hs : w6.heap.size = w.heap.size + 3) :
    RtSt w (((w6.alloc (.cells #[.map (some (w.heap.size + 2))] 109)).alloc (.cells #[.int .i64 (c : Int)] 3)).alloc (.cells #[.slice (some ⟨w.heap.size + 4, 0, none⟩) 1 1] 35)) g [c] (.slice (some ⟨w.heap.size + 4, 0, none⟩) 1 1) where
  b2 := (((((blk_new_at rfl).alloc _).alloc _).grown hg6 (by simp)).alloc _ |>.alloc _).alloc _
  bo := ((((blk_new_at (by simp)).alloc _).grown hg6 (by simp)).alloc _ |>.alloc _).alloc _
  km := ((h6.alloc _).alloc _).alloc _
  b7 := ((blk_new_at (by omega)).alloc _).alloc _
  b8 := blk_new_at (by simp [hs])
  row := by
    have := World.ownsRow_lit (w6.alloc (.cells #[.map (some (w.heap.size + 2))] 109)) (base := w.heap.size) (e := 3) (size := 1) #[.int .i64 (c : Int)] 1 (by simp [hs]; omega) (by decide) rfl
    rw [size_alloc', hs] at this
    exact this.alloc _
  bel := (((((((Below.refl _ _).alloc (Nat.le_refl _) _).alloc (by simp) _).alloc (by simp; omega) _).grown hg6 (by simp; omega) (fun j e => by cases e; omega)).alloc (by omega) _).alloc (by simp; omega) _).alloc (by simp; omega) _
set_option maxRecDepth 100000 in
set_option maxHeartbeats 4000000 in
theorem rooted_any (g : Nat) (N : Int) (T : List Tr) (w : World) (c : Nat) (hT : Tab w g N T) (hc : c < 3 * T.length) :
    Calls Try.prog 28 #[.pointer (some ⟨g, 0, none⟩), .int .i64 (c : Int)] w fun e w' => ∃ vT vO vC, e = .returned (.tuple #[.agg #[.int .i64 (rtN T c).1.length, vT], vO, vC]) ∧
      w'.ownsRow w.heap.size 61 3 vT (rtN T c).2.length (ws3 (rtN T c).2) ∧ w'.ownsRow w.heap.size 3 1 vO (rtN T c).1.length (intsV (rtN T c).1) ∧ w'.ownsRow w.heap.size 3 1 vC (rtL T c).length (intsV (nats (rtL T c))) ∧ Below w.heap.size w w' := by
  obtain ⟨i2, hj', hz0, hz1, hz2⟩ := info_parts infoInt
  have hTl := hT.len
  have hv := vertN_in hT.inr hc
  have hgl := hT.lt
  obtain ⟨t, ht⟩ : ∃ t, c / 3 = t := ⟨_, rfl⟩
  have e1 : (c : Int) / 3 = (t : Int) := by omega
  have hkey := keyOf_int_mk (P := Try.prog) (k := 3) (q := .i64) Try.underlying3 (wfS (x := (t : Int)) ⟨by omega, by omega⟩)
  have H0 := Lib.hid (fun (W : World) (hW : Below w.heap.size w W) => by have := vertex_any g N (c : Int) T W (hT.below hW).toTabS; rw [vertI_nat hc] at this; exact this)
  have HT := Lib.hid hT
  obtain ⟨x, hx⟩ : ∃ x, vertN T c = x := ⟨_, rfl⟩
  rw [hx] at hv H0
  obtain ⟨v0, v1⟩ := hv
  have hd : decide (x < 0) = false := by simp; omega
  have hB0 : Below w.heap.size w ((w.alloc (.cells #[.pointer (some ⟨g, 0, none⟩)] 26)).alloc (.cells #[.int .i64 0, .slice none 0 0] 24)) := ((Below.refl _ _).alloc (Nat.le_refl _) _).alloc (by simp) _
  have H1 := Lib.hid (H0.out _ hB0)
  have hc0 : (0 : Int) ≤ (c : Int) := by omega
  have hc1 : (c : Int) ≤ 100000 := by omega
  have Hc := Lib.hid hc
  have Ht := Lib.hid ht
  have hkm0 := KSet.made ((w.alloc (.cells #[.pointer (some ⟨g, 0, none⟩)] 26)).alloc (.cells #[.int .i64 0, .slice none 0 0] 24)) Try.prog 3
  rw [size_alloc', size_alloc'] at hkm0
  have hmk := @run_makeMap Try.prog
  clear hx hc H0 hT ht v0 v1 hB0
  go_enter Try.func28, Try.ntmps28
  go_wp2_with fail
  refine H1.out.mono ?_
  rintro e w0 ⟨rfl, rfl⟩
  go_wp2_with (refine wpList_storeK hkm0 rfl _ _ _ 109 (.inr rfl) (int_keyed Try.underlying3) Try.underlying109 rfl (.int .i64 t) rfl rfl hkey (by simp) ?_; intro w6 hk6 hg6 hs6; clear hmk; rw [size_alloc', size_alloc', size_alloc'] at hs6)
  have hk7 : KSet Try.prog 3 w6 (w.heap.size + 2) (keysL [c]) := by
    have e : keysL [c] = [.int .i64 (t : Int)] := by rw [← Ht.out]; simp [keysL, intsV, nats, trisOf]
    rw [e]
    exact hk6
  have hst := rtSt_start (g := g) hk7 hg6 hs6
  have HST := Lib.hid hst
  have HL := Lib.hid ((LOk.one Hc.out).ovr (c : Int))
  have HV := Lib.hid (over_any g N T w _ [c] _ (c : Int) HT.out (LOk.one Hc.out) hst)
  clear hk6 hk7 hg6 hst hs6 hkm0
  simp only [Nat.add_assoc, Nat.reduceAdd]
  refine HV.out.mono ?_
  rintro e w1 ⟨rfl, v8, hst, hsz⟩
  have HST := Lib.hid hst
  clear HV
  obtain ⟨R, hR⟩ : ∃ R, rtF T (T.length + 1) 0 (ovr T [c] (c : Int)) = R := ⟨_, rfl⟩
  have HRL := Lib.hid (show rtL T c = R from hR)
  obtain ⟨F, hF⟩ : ∃ F, T.length = F := ⟨_, rfl⟩
  rw [hF] at hR hTl
  have HR := Lib.hid hR
  have HF := Lib.hid hF
  obtain ⟨L1, hL1⟩ : ∃ L1, ovr T [c] (c : Int) = L1 := ⟨_, rfl⟩
  rw [hL1] at HR HL HST
  clear hst hsz hR hF hL1
  obtain ⟨l8, x8, f8⟩ := HST.out.b8.one
  go_wp2
  go_loopw [10] (fun i10 wr => ∃ (i n : Nat) (L : List Nat) (v8 : Value), i10 = .int .i64 i ∧ n + i = F + 1 ∧ i ≤ L.length ∧ LOk T L ∧ rtF T n i L = R ∧ RtSt w wr g L v8) (fun i10 _ => F + 1 - (intOf i10).toNat)
  case atStart => exact ⟨0, F + 1, L1, v8, rfl, by omega, Nat.zero_le _, HL.out, HR.out, HST.out⟩
  case round =>
    clear HL HR HST x8 f8 l8
    clear L1 v8
    obtain ⟨i, n, L, v8, rfl, hni, hiL, hL, hR, hst⟩ := hrel
    rename World => wr
    have hLF := hL.len
    rw [HF.out] at hLF
    have HL := Lib.hid hL
    have HR := Lib.hid hR
    have HST := Lib.hid hst
    obtain ⟨l8, x8, f8⟩ := hst.b8.one
    obtain ⟨l2, x2, -⟩ := hst.b2.one
    obtain ⟨a8, c8, rfl⟩ := ownsRow_slice hst.row
    by_cases hlt : i < L.length
    · obtain ⟨d, hd⟩ : ∃ d, L[i]? = some d := ⟨L[i], List.getElem?_eq_getElem _⟩
      have hd3 := hL.lt d (List.mem_of_getElem? hd)
      obtain ⟨g8, cap, e0, hg8, hg8'⟩ := hst.row.form (by omega)
      cases e0
      have hrc := hst.row.cellAt i (by omega)
      rw [show (intsV (nats L))[i]? = some (.int .i64 (d : Int)) from by simp [intsV, nats, hd]] at hrc
      have hi3 : (i : Int) < (L.length : Int) := by omega
      obtain ⟨lenL, hlenL⟩ : ∃ lenL, L.length = lenL := ⟨_, rfl⟩
      rw [hlenL] at hi3 hlt x8 hLF
      have hnx : nextI T (d : Int) = ((Jor.nx d : Nat) : Int) := by simp [nextI, hasC_true (T := T) (c := (d : Int)) (by omega) (by omega)]
      have hpv : prevI T (d : Int) = ((Jor.pv d : Nat) : Int) := by simp [prevI, hasC_true (T := T) (c := (d : Int)) (by omega) (by omega)]
      have HNx := Lib.hid (fun (W : World) (hW : Below w.heap.size w W) => by have := next_any g N (d : Int) T W (HT.out.below hW).toTabS; rw [hnx] at this; exact this)
      have HPv := Lib.hid (fun (W : World) (hW : Below w.heap.size w W) => by have := prev_any g N (d : Int) T W (HT.out.below hW).toTabS; rw [hpv] at this; exact this)
      have HO1 := Lib.hid (fun (W : World) (hW : RtSt w W g L (.slice (some ⟨g8, 0, none⟩) L.length c8)) => over_any g N T w W L _ ((Jor.nx d : Nat) : Int) HT.out hL hW)
      have HO2 := Lib.hid (fun (W : World) (v : Value) (hW : RtSt w W g (ovr T L (Jor.nx d : Nat)) v) => over_any g N T w W _ v ((Jor.pv d : Nat) : Int) HT.out (hL.ovr _) hW)
      rw [hlenL] at HO1 HST
      have HLen := Lib.hid hlenL
      have Hd := Lib.hid hd
      have HRD := Lib.hid (fun (n' : Nat) (hn : n = n' + 1) => by have := hR; rw [hn, rtF_at hd] at this; exact this)
      generalize ((Jor.nx d : Nat) : Int) = y1 at *
      generalize ((Jor.pv d : Nat) : Int) = y2 at *
      clear hL hR hst hnx hpv hlenL hd
      go_upto_region 10 with fail
      go_cut [] (fun W => ∃ v8', RtSt w W g (ovr T L y1) v8')
      case first =>
        go_region_with (first
          | (go_at_call 63; refine (HNx.out _ HST.out.drew.bel).mono ?_; rintro e w' ⟨rfl, rfl⟩)
          | (go_at_call 62; refine (HO1.out _ HST.out.drew).mono ?_; rintro e w' ⟨rfl, v9, h9, hs9⟩))
        all_goals (go_wp2_with fail; go_meet; exact ⟨v9, h9⟩)
      case rest =>
      obtain ⟨v9, h9⟩ := hcut
      have hd2 : (ovr T L y1)[i]? = some d := by
        unfold ovr
        split
        · rw [List.getElem?_append_left (by rw [HLen.out]; exact hlt)]
          exact Hd.out
        · exact Hd.out
      have hL2 := HL.out.ovr y1
      have hlen2 := hL2.len
      rw [HF.out] at hlen2
      obtain ⟨L2, hL2e⟩ : ∃ L2, ovr T L y1 = L2 := ⟨_, rfl⟩
      rw [hL2e] at h9 hd2 hL2 hlen2
      have hi2 := (List.getElem?_eq_some_iff.1 hd2).1
      obtain ⟨a9, c9, rfl⟩ := ownsRow_slice h9.row
      obtain ⟨g9, cap9, e9, hg9, hg9'⟩ := h9.row.form (by omega)
      cases e9
      have hrc9 := h9.row.cellAt i (by omega)
      rw [show (intsV (nats L2))[i]? = some (.int .i64 (d : Int)) from by simp [intsV, nats, hd2]] at hrc9
      obtain ⟨m8, y8, -⟩ := h9.b8.one
      obtain ⟨m2, y2', -⟩ := h9.b2.one
      have H9 := Lib.hid h9
      have HO3 := Lib.hid (fun (W : World) (v : Value) (hW : RtSt w W g L2 v) => by have := HO2.out W v; rw [hL2e] at this; exact this hW)
      have HE2 := Lib.hid hL2e
      obtain ⟨len2, hlen2e⟩ : ∃ len2, L2.length = len2 := ⟨_, rfl⟩
      rw [hlen2e] at hi2 hlen2 y8 H9
      have HLen2 := Lib.hid hlen2e
      have hi4 : (i : Int) < (len2 : Int) := by omega
      clear h9 hd2 hL2 hL2e HO2 HO1 HNx x8 f8 l8 x2 l2 hrc hi3 hlen2e HST
      go_upto_region 11 with fail
      go_region_with (first
        | (go_at_call 64; refine (HPv.out _ H9.out.drew.bel).mono ?_; rintro e w' ⟨rfl, rfl⟩)
        | (go_at_call 62; refine (HO3.out _ _ H9.out.drew).mono ?_; rintro e w' ⟨rfl, v10, h10, hs10⟩; have HX := Lib.hid h10; clear h10))
      all_goals
        go_wp2
        go_roundw
        case measure => simp [intOf]; omega
        case rel =>
          have hn : ∃ n', n = n' + 1 := ⟨n - 1, by omega⟩
          obtain ⟨n', rfl⟩ := hn
          refine ⟨i + 1, n', _, v10, by go_num, by omega, ?_, (HL.out.ovr y1).ovr y2, HRD.out n' rfl, by rw [HE2.out]; exact HX.out⟩
          rw [HE2.out]
          have := HLen2.out
          unfold ovr
          split
          · simp; omega
          · omega
    · obtain ⟨len, hlen⟩ : ∃ len, L.length = len := ⟨_, rfl⟩
      obtain rfl : i = len := by omega
      have hLR : L = R := by
        have := HR.out
        rw [rtF_end (by omega)] at this
        exact this
      subst hLR
      rw [hlen] at x8 hLF
      have HLen := Lib.hid hlen
      have hbel := hst.bel.size
      clear hst hL hlen HR hR hiL hni
      have hmk := @run_makeMap Try.prog
      have hmp0 := MapP.made (wr.alloc (.cells #[.int .i64 0, .slice none 0 0] 24)) Try.prog 3
      rw [size_alloc'] at hmp0
      have hmp1 := hmp0.congr (f' := nowMap []) (fun y => by unfold nowMap; split <;> simp)
      have hbo0 := (Blk.new wr 24 #[.int .i64 0, .slice none 0 0]).alloc (.map #[] 0)
      have HMP := Lib.hid hmp1
      have HBO := Lib.hid hbo0
      have hB0 : Below wr.heap.size wr ((wr.alloc (.cells #[.int .i64 0, .slice none 0 0] 24)).alloc (.map #[] 0)) := ((Below.refl _ _).alloc (Nat.le_refl _) _).alloc (by simp) _
      have HB0 := Lib.hid hB0
      clear hmp0 hmp1 hbo0 hB0
      go_wp2
      clear hmk
      go_loopw [12, 62] (fun v12 i62 wq => ∃ (k : Nat) (vO vT : Value), vO = v12 ∧ k ≤ i ∧ i62 = .int .i64 k ∧ Blk wq wr.heap.size 24 #[.int .i64 0, vT] ∧ wq.ownsRow wr.heap.size 61 3 vT (numL T (L.take k) ([], [])).2.length (ws3 (numL T (L.take k) ([], [])).2) ∧
        MapP Try.prog 3 wq (wr.heap.size + 1) (nowMap (numL T (L.take k) ([], [])).1) ∧ wq.ownsRow wr.heap.size 3 1 vO (numL T (L.take k) ([], [])).1.length (intsV (numL T (L.take k) ([], [])).1) ∧ Below wr.heap.size wr wq) (fun _ i62 _ => i - (intOf i62).toNat)
      case atStart => exact ⟨0, _, _, rfl, Nat.zero_le _, rfl, HBO.out, World.ownsRow_nil _ _ _ _, HMP.out, World.ownsRow_nil _ _ _ _, HB0.out⟩
      case round =>
        rename World => wq
        clear HBO HMP HB0
        obtain ⟨k, vO, vT, rfl, hk, rfl, hbo, hrT, hmp, hrO, hB⟩ := hrel
        have hq := HST.out.below hB
        obtain ⟨q8, y8, -⟩ := hq.b8.one
        obtain ⟨q2, y2, -⟩ := hq.b2.one
        rw [HLen.out] at y8
        by_cases hlt : k < i
        · obtain ⟨d, hd⟩ : ∃ d, L[k]? = some d := ⟨L[k]'(by have := HLen.out; omega), List.getElem?_eq_getElem _⟩
          have hd3 := HL.out.lt d (List.mem_of_getElem? hd)
          obtain ⟨g8, cap, e0, hg8, hg8'⟩ := hq.row.form (by have := HLen.out; omega)
          cases e0
          have hrc := hq.row.cellAt k (by have := HLen.out; omega)
          rw [show (intsV (nats L))[k]? = some (.int .i64 (d : Int)) from by simp [intsV, nats, hd]] at hrc
          have hk3 : (k : Int) < (i : Int) := by omega
          have Hstep := Lib.hid (numL_take (T := T) hd ([], []))
          obtain ⟨nl1, nl2⟩ := numL_len T (L.take k) ([], [])
          have hlk : (L.take k).length ≤ k := List.length_take_le _ _
          simp only [List.length_nil, Nat.zero_add] at nl1 nl2
          obtain ⟨o0, ho0⟩ : ∃ o0, (numL T (L.take k) ([], [])).1 = o0 := ⟨_, rfl⟩
          obtain ⟨t0, ht0⟩ : ∃ t0, (numL T (L.take k) ([], [])).2 = t0 := ⟨_, rfl⟩
          rw [ho0] at hmp hrO nl2 Hstep
          rw [ht0] at hrT nl1 Hstep
          have hol : o0.length ≤ 3 * 8192 := by omega
          have htl : t0.length ≤ 8192 := by omega
          have hnx : nextI T (d : Int) = ((Jor.nx d : Nat) : Int) := by simp [nextI, hasC_true (T := T) (c := (d : Int)) (by omega) (by omega)]
          have hpv : prevI T (d : Int) = ((Jor.pv d : Nat) : Int) := by simp [prevI, hasC_true (T := T) (c := (d : Int)) (by omega) (by omega)]
          have HNx := Lib.hid (fun (W : World) (hW : Below w.heap.size w W) => by have := next_any g N (d : Int) T W (HT.out.below hW).toTabS; rw [hnx] at this; exact this)
          have HPv := Lib.hid (fun (W : World) (hW : Below w.heap.size w W) => by have := prev_any g N (d : Int) T W (HT.out.below hW).toTabS; rw [hpv] at this; exact this)
          have Hd3 := Lib.hid hd3
          have Hbo := Lib.hid hbo
          have HvT := Lib.hid (fun j (e : vT.ownBlock = some j) => (hrT.lt j e).2)
          have HrT := Lib.hid hrT
          have Hmp := Lib.hid hmp
          have HrO := Lib.hid hrO
          have HB := Lib.hid hB
          have Hq := Lib.hid hq.bel
          have hszq := hB.size
          obtain ⟨e1', he1'⟩ : ∃ e1' : Nat, Jor.nx d = e1' := ⟨_, rfl⟩
          obtain ⟨e2', he2'⟩ : ∃ e2' : Nat, Jor.pv d = e2' := ⟨_, rfl⟩
          rw [he1'] at HNx
          rw [he2'] at HPv
          have He1 := Lib.hid he1'
          have He2 := Lib.hid he2'
          have y2' := ((Below.refl _ wq).alloc (Nat.le_refl _) (.cells #[.int .i64 0, .int .i64 0, .int .i64 0] 61)).cell (p := ⟨w.heap.size, 0, none⟩) q2 |>.trans y2
          have Hqa := Lib.hid (((hq.bel).alloc hq.bel.size (.cells #[.int .i64 0, .int .i64 0, .int .i64 0] 61)).drew)
          clear hd hd3 hbo hrT hmp hrO hB hq ho0 ht0 nl1 nl2 hlk hnx hpv he1' he2'
          go_upto_region 19 with fail
          go_cut [73, 74, 75] (fun s73 s74 s75 W => s73 = .slice (some ⟨wq.heap.size + 1, 0, none⟩) 3 3 ∧ s74 = .int .i64 3 ∧ s75 = .int .i64 0 ∧ W = ((wq.alloc (.cells #[.int .i64 0, .int .i64 0, .int .i64 0] 61)).alloc (.cells #[.int .i64 (d : Int), .int .i64 (e1' : Int), .int .i64 (e2' : Int)] 3)).drew)
          case first =>
            go_region_with (first
              | (go_at_call 63; refine (HNx.out _ Hqa.out).mono ?_; rintro e w' ⟨rfl, rfl⟩)
              | (go_at_call 64; refine (HPv.out _ Hqa.out).mono ?_; rintro e w' ⟨rfl, rfl⟩))
            all_goals (go_wp2_with fail; go_meet; exact ⟨rfl, rfl, rfl, rfl⟩)
          case rest =>
          obtain ⟨rfl, rfl, rfl, rfl⟩ := hcut
          obtain ⟨xs, hxs⟩ : ∃ xs, xs = [vertN T d, vertN T (Jor.nx d), vertN T (Jor.pv d)] := ⟨_, rfl⟩
          have hxl : xs.length = 3 := by rw [hxs]; rfl
          obtain ⟨es, hes⟩ : ∃ es : List Nat, es = [d, e1', e2'] := ⟨_, rfl⟩
          have hel : es.length = 3 := by rw [hes]; rfl
          have Hxs := Lib.hid hxs
          have hvx : ∀ q, q < 3 → ∃ e v, es[q]? = some e ∧ xs[q]? = some v ∧ (0 ≤ v ∧ v < N) ∧ e < 3 * T.length ∧ vertN T e = v := by
            have n1 := Jor.nx_lt Hd3.out
            have n2 := Jor.pv_lt Hd3.out
            have b0 := vertN_in HT.out.inr Hd3.out
            have b1 := vertN_in HT.out.inr n1
            have b2 := vertN_in HT.out.inr n2
            intro q hq
            have : q = 0 ∨ q = 1 ∨ q = 2 := by omega
            rcases this with rfl | rfl | rfl
            · exact ⟨d, _, by rw [hes]; rfl, by rw [hxs]; rfl, b0, Hd3.out, rfl⟩
            · exact ⟨e1', _, by rw [hes]; rfl, by rw [hxs]; rfl, b1, by rw [← He1.out]; exact n1, by rw [← He1.out]⟩
            · exact ⟨e2', _, by rw [hes]; rfl, by rw [hxs]; rfl, b2, by rw [← He2.out]; exact n2, by rw [← He2.out]⟩
          have Hvx := Lib.hid hvx
          have hN1 := HT.out.n1
          have hbl0 : Blk ((wq.alloc (.cells #[.int .i64 0, .int .i64 0, .int .i64 0] 61)).alloc (.cells #[.int .i64 (d : Int), .int .i64 (e1' : Int), .int .i64 (e2' : Int)] 3)).drew (wq.heap.size + 1) 3 (es.map fun e : Nat => Value.int .i64 (e : Int)).toArray := by
            rw [hes]
            exact (blk_new_at (by simp)).drew
          have hbx0 : Blk ((wq.alloc (.cells #[.int .i64 0, .int .i64 0, .int .i64 0] 61)).alloc (.cells #[.int .i64 (d : Int), .int .i64 (e1' : Int), .int .i64 (e2' : Int)] 3)).drew wq.heap.size 61 (cellsQ o0 xs 0).toArray := by
            have : (cellsQ o0 xs 0).toArray = #[.int .i64 0, .int .i64 0, .int .i64 0] := rfl
            rw [this]
            exact ((blk_new_at rfl).alloc _).drew
          have HBL0 := Lib.hid hbl0
          have HBX0 := Lib.hid hbx0
          have HB2 := Lib.hid (((HB.out.alloc hszq (.cells #[.int .i64 0, .int .i64 0, .int .i64 0] 61)).alloc (by simp; omega) (.cells #[.int .i64 (d : Int), .int .i64 (e1' : Int), .int .i64 (e2' : Int)] 3)).drew)
          have HbqI := Lib.hid (((Below.refl wq.heap.size wq).alloc (Nat.le_refl _) (.cells #[.int .i64 0, .int .i64 0, .int .i64 0] 61)).alloc (by simp) (.cells #[.int .i64 (d : Int), .int .i64 (e1' : Int), .int .i64 (e2' : Int)] 3)).drew
          clear hxs hes hvx hbl0 hbx0 HNx HPv Hqa y2' y8 q8 hrc
          go_wp2
          go_loopw [12, 75] (fun v12 i75 wx => ∃ (q : Nat) (vO : Value), vO = v12 ∧ q ≤ 3 ∧ i75 = .int .i64 q ∧ Blk wx wr.heap.size 24 #[.int .i64 0, vT] ∧ wx.ownsRow wr.heap.size 61 3 vT t0.length (ws3 t0) ∧
            MapP Try.prog 3 wx (wr.heap.size + 1) (nowMap (addVs o0 (xs.take q))) ∧ wx.ownsRow wr.heap.size 3 1 vO (addVs o0 (xs.take q)).length (intsV (addVs o0 (xs.take q))) ∧ (addVs o0 (xs.take q)).length ≤ o0.length + q ∧ vO.ownBlock ≠ some (wq.heap.size + 1) ∧
            Blk wx wq.heap.size 61 (cellsQ o0 xs q).toArray ∧ Blk wx (wq.heap.size + 1) 3 (es.map fun e : Nat => Value.int .i64 (e : Int)).toArray ∧ Below wr.heap.size wr wx) (fun _ i75 _ => 3 - (intOf i75).toNat)
          case atStart => exact ⟨0, vO, rfl, by omega, rfl, Hbo.out.below HbqI.out Hbo.out.lt, own_below HrT.out HbqI.out, Hmp.out.below HbqI.out Hmp.out.lt, own_below HrO.out HbqI.out, by simp [addVs], (fun e => by have := (HrO.out.lt _ e).2; omega), HBX0.out, HBL0.out, HB2.out⟩
          case round =>
            rename World => wx
            clear HBL0 HBX0 HB2 HbqI Hbo HrT Hmp HrO HB Hq
            obtain ⟨q, vO, rfl, hq, rfl, hbo, hrT, hmp, hrO, hlO, hvO, hbx, hbl, hB⟩ := hrel
            have HvO := Lib.hid hvO
            clear hvO
            have hst := HST.out.below hB
            have hqw := HST.out.bel.size
            have hsx := hB.size
            obtain ⟨m2, z2, -⟩ := hst.b2.one
            by_cases hq3 : q < 3
            · obtain ⟨e, v, hee, hxv, ⟨v0, v1⟩, he3, hve⟩ := Hvx.out q hq3
              obtain ⟨oq, hoq⟩ : ∃ oq, addVs o0 (xs.take q) = oq := ⟨_, rfl⟩
              have hoq1 : addVs o0 (xs.take (q + 1)) = addV oq v := by
                obtain ⟨hk', hx'⟩ := List.getElem?_eq_some_iff.1 hxv
                rw [List.take_succ_eq_append_getElem hk', hx', addVs_snoc, hoq]
              rw [hoq] at hmp hrO hlO
              have Hcs := Lib.hid (cellsQ_step (old := o0) hxv hq3)
              rw [hoq1] at Hcs
              have hcl : (cellsQ o0 xs q).length = 3 := cellsQ_len o0 xs hq (by omega)
              obtain ⟨cq, hcq⟩ : ∃ cq, (cellsQ o0 xs q)[q]? = some cq := ⟨(cellsQ o0 xs q)[q]'(by omega), List.getElem?_eq_getElem _⟩
              have hcx : wx.cell? ⟨wq.heap.size, q, none⟩ = some cq := by rw [hbx.cell]; simpa using hcq
              have hfx := hbx.frozen q
              have hlx := hbx.lt
              have hce : wx.cell? ⟨wq.heap.size + 1, q, none⟩ = some (.int .i64 (e : Int)) := by rw [hbl.cell]; simp [hee]
              have hll := hbl.lt
              have hkeyv := keyOf_int_mk (P := Try.prog) (k := 3) (q := .i64) Try.underlying3 (wfV (x := v) ⟨by omega, by omega⟩)
              have HVt := Lib.hid (fun (W : World) (hW : Below w.heap.size w W) => (by have := vertex_any g N (e : Int) T W (HT.out.below hW).toTabS; rw [vertI_nat he3, hve] at this; exact this : Calls Try.prog 44 #[.pointer (some ⟨g, 0, none⟩), .int .i64 (e : Int)] W fun e' w' => e' = .returned (.int .i64 v) ∧ W = w'))
              have HVe := Lib.hid (HVt.out wx hst.bel)
              have hlk := hmp.lookOk (t := 73) (int_keyed Try.underlying3) Try.underlying73 (zero_int _) hkeyv
              obtain ⟨mO, hmO⟩ : ∃ mO, oq.length = mO := ⟨_, rfl⟩
              rw [hmO] at hrO hlO
              have HmO := Lib.hid hmO
              have Hoq1 := Lib.hid hoq1
              obtain ⟨aO, cO, rfl⟩ := ownsRow_slice hrO
              have hq0 : (0 : Int) ≤ (q : Int) := by omega
              have hq4 : (q : Int) < 3 := by omega
              by_cases hv : v ∈ oq
              · have hnow : nowMap oq (.int .i64 v) = some (.int .i64 (spot oq v : Nat)) := by simp [nowMap, hv]
                have hsame : addV oq v = oq := by unfold addV; rw [if_pos hv]
                have hlk2 := hmp.look (t := 73) (int_keyed Try.underlying3) Try.underlying73 (zero_int _) hkeyv
                rw [hnow] at hlk hlk2
                simp only [Option.getD_some, Option.isSome_some] at hlk hlk2
                rw [hsame] at Hcs Hoq1
                have hB6 := hB.setCell (p := ⟨wq.heap.size, q, none⟩) (by simp; omega) (.int .i64 (spot oq v : Nat))
                have hgS : wx.grownBy (wx.setCell ⟨wq.heap.size, q, none⟩ (.int .i64 (spot oq v : Nat))) (some wq.heap.size) := gStR (World.grownBy.refl _ _)
                have Hbo := Lib.hid (hbo.grown hgS (by simpa using Blk.ne_ hbo hbx (by decide)))
                have HrT := Lib.hid (hrT.kept hgS (.inr (fun e0 => by have := HvT.out _ e0; omega)))
                have Hmp := Lib.hid (hmp.kept hgS (fun e0 => by
                  obtain ⟨es', ck, ho⟩ := hmp.obj
                  have e1 : wr.heap.size + 1 = wq.heap.size := by simpa using e0
                  rw [e1, show wx.heap[wq.heap.size]? = _ from hbx] at ho
                  cases ho))
                have HrO := Lib.hid (hrO.kept hgS (.inr (by simpa using own_blk_ne hrO hbx (by decide))))
                have Hbx := Lib.hid (hbx.set_ q (.int .i64 (spot oq v : Nat)))
                have Hbl := Lib.hid (hbl.grown hgS (by simp))
                have HB6 := Lib.hid hB6
                clear hnow hsame hv hmp hrO hrT hbo hbx hbl hB hB6 hgS hcl hcq hee hxv hve he3 hoq hoq1 hmO hst HVt v0 v1
                go_wp2_with (go_at_call 44; refine HVe.out.mono ?_; rintro e' w' ⟨rfl, rfl⟩)
                go_roundw
                case measure => simp [intOf]; omega
                case rel =>
                  refine ⟨q + 1, _, rfl, by omega, by go_num, Hbo.out, HrT.out, by rw [Hoq1.out]; exact Hmp.out, by rw [Hoq1.out, HmO.out]; exact HrO.out, by rw [Hoq1.out, HmO.out]; omega, HvO.out, ?_, Hbl.out, HB6.out⟩
                  have := Hbx.out
                  rw [← Hcs.out]
                  simpa using this
              · have hnow : nowMap oq (.int .i64 v) = none := by simp [nowMap, hv]
                have hnew : addV oq v = oq ++ [v] := by unfold addV; rw [if_neg hv]
                rw [hnow] at hlk
                simp only [Option.getD_none, Option.isSome_none] at hlk
                have hsp : (spot (addV oq v) v : Nat) = mO := by rw [hnew, spot_new hv]; exact hmO
                rw [hsp] at Hcs
                rw [hnew] at Hoq1
                have Hnm := Lib.hid (fun y => (by have := nowMap_add hv y; rw [hmO] at this; exact this : updP (nowMap oq) (.int .i64 v) (.int .i64 (mO : Int)) y = nowMap (oq ++ [v]) y))
                have Hsp := Lib.hid (show nowMap (oq ++ [v]) (.int .i64 v) = some (.int .i64 (mO : Int)) by
                  simp only [nowMap]
                  rw [if_pos (by simp), spot_new hv, hmO])
                have c6 : mO + 1 ≤ maxLen := by unfold maxLen; omega
                have c7 : (mO + 1) * 8 ≤ 140737488355328 := by omega
                have Hv := Lib.hid hv
                have HbO := Lib.hid hbo
                have HBX := Lib.hid hbx
                have HBL := Lib.hid hbl
                have HRT := Lib.hid hrT
                have HRO := Lib.hid hrO
                have HBB := Lib.hid hB
                have hmpO := hmp.obj
                have hnb : ∀ {b : Nat} {t : TypeId} {cs : Array Value}, Blk wx b t cs → b ≠ wr.heap.size + 1 := fun {b t cs} hb e0 => by
                  obtain ⟨es', ck, ho⟩ := hmpO
                  rw [← e0, show wx.heap[b]? = _ from hb] at ho
                  cases ho
                have HNB := Lib.hid (And.intro (hnb hbx) (And.intro (hnb hbl) (hnb hbo)))
                have Hcq := Lib.hid hcq
                clear hnow hnew hsp hv hcl hcq hee hxv hve he3 hoq hoq1 hmO hst HVt v0 v1 hbo hbx hbl hrT hrO hB hmpO hnb
                go_upto_region 26 with (first
                  | (go_at_call 44; refine HVe.out.mono ?_; rintro e' w' ⟨rfl, rfl⟩)
                  | (at_mapUpdate; refine wpList_storeP hmp rfl _ _ _ 73 3 (.inl rfl) (int_keyed Try.underlying3) Try.underlying73 rfl (.int .i64 v) (.int .i64 (mO : Int)) rfl rfl hkeyv ?_; intro w6 hm6 hg6 hs6; have hr6 := HRO.out.kept hg6 (row_map_ne HRO.out hmp.obj)))
                have hRO := HRO.out
                clear HRO
                generalize Value.slice aO mO cO = vO at *
                have HRO := Lib.hid hRO
                clear hRO
                go_wp2_with (at_builtin; refine wpList_append_lies _ rfl (.tmp 95) (.tmp 97) 35 rfl wr.heap.size 3 i2 _ 1 8 Try.underlying35 hj' hz0 hz1 hz2 rfl (by decide) vO mO (intsV oq) rfl (hr6.alloc _) ⟨w6.heap.size, 0, none⟩ 1 1 [.int .i64 v] rfl rfl (World.news_of_block (heap_alloc_new _ _)) (by simp [Value.oneCell']) (by decide) c6 c7 (by rw [size_alloc']; omega) (w6.heap.size + 1) (by simp) ?_
                             intro g4 cap4 W4 hr4 hg4 hat4 _
                             have hmq := (((hm6.congr Hnm.out).alloc (.cells #[.int .i64 v] 3)).kept hg4 (map_row_ne (hr6.alloc _) (hm6.alloc (.cells #[.int .i64 v] 3)).obj))
                             (have hlkq := hmq.look (t := 73) (int_keyed Try.underlying3) Try.underlying73 (zero_int _) hkeyv; rw [Hsp.out] at hlkq; simp only [Option.getD_some] at hlkq)
                             have hbx4 := ((HBX.out.grown hg6 (by simpa using HNB.out.1)).alloc (.cells #[.int .i64 v] 3)).grown hg4 (fun e0 => own_blk_ne (hr6.alloc (.cells #[.int .i64 v] 3)) ((HBX.out.grown hg6 (by simpa using HNB.out.1)).alloc (.cells #[.int .i64 v] 3)) (by decide) e0.symm)
                             (have hc4 : W4.cell? ⟨wq.heap.size, q, none⟩ = some cq := (by rw [hbx4.cell]; simpa using Hcq.out))
                             have hf4 := hbx4.frozen q
                             have HBX4 := Lib.hid hbx4
                             have HMQ := Lib.hid hmq
                             clear hmq hbx4)
                go_roundw
                case measure => simp [intOf]; omega
                case rel =>
                  have hgS : W4.grownBy (W4.setCell ⟨wq.heap.size, q, none⟩ (.int .i64 (mO : Int))) (some wq.heap.size) := gStR (World.grownBy.refl _ _)
                  have n1 := HNB.out
                  have hr6a := hr6.alloc (.cells #[.int .i64 v] 3)
                  have bo2 := (HbO.out.grown hg6 (by simp)).alloc (.cells #[.int .i64 v] 3)
                  have bo3 := bo2.grown hg4 (fun e0 => own_blk_ne hr6a bo2 (by decide) e0.symm)
                  have bo4 := bo3.grown hgS (fun e0 => Blk.ne_ bo3 HBX4.out (by decide) (Option.some.inj e0))
                  have t1 := (HRT.out.kept hg6 (row_map_ne HRT.out hmp.obj)).alloc (.cells #[.int .i64 v] 3)
                  have t2 := t1.kept hg4 (own_own_ne t1 hr6a (by decide))
                  have t3 := t2.kept hgS (.inr (fun e0 => by have := HvT.out _ e0; omega))
                  have m1 := HMQ.out.kept hgS (fun e0 => n1.1 (Option.some.inj e0).symm)
                  have o1 := hr4.kept hgS (.inr (by simpa using own_blk_ne hr4 HBX4.out (by decide)))
                  have x1 := HBX4.out.set_ q (.int .i64 (mO : Int))
                  have l1 := (((HBL.out.grown hg6 (by simpa using n1.2.1)).alloc (.cells #[.int .i64 v] 3)).grown hg4 (fun e0 => HvO.out e0.symm)).grown hgS (by simp)
                  have hB4 := (((HBB.out.grown hg6 (by omega) (fun j e => by cases e; omega)).alloc (by omega) (.cells #[.int .i64 v] 3)).grown hg4 (by simp; omega) (fun j e => (HRO.out.lt j e).1)).setCell (p := ⟨wq.heap.size, q, none⟩) (by simp; omega) (.int .i64 (mO : Int))
                  refine ⟨q + 1, _, rfl, by omega, by go_num, bo4, t3, by rw [Hoq1.out]; exact m1, ?_, ?_, ?_, ?_, l1, hB4⟩
                  · rw [Hoq1.out, show (oq ++ [v]).length = mO + 1 from by simp [HmO.out]]
                    simpa [intsV] using o1
                  · rw [Hoq1.out, show (oq ++ [v]).length = mO + 1 from by simp [HmO.out]]
                    omega
                  · intro e0
                    have e1 : g4 = wq.heap.size + 1 := by simpa [Value.ownBlock] using e0
                    rcases hat4 with h | h
                    · exact HvO.out (by rw [h, e1])
                    · omega
                  · rw [← Hcs.out]
                    simpa using x1
            · obtain rfl : q = 3 := by omega
              rw [List.take_of_length_le (by omega : xs.length ≤ 3)] at hmp hrO hlO
              have e1 : addVs o0 xs = numT T o0 d := by rw [Hxs.out]; rfl
              obtain ⟨⟨a, b, c'⟩, ht3⟩ : ∃ t3, triT T o0 d = t3 := ⟨_, rfl⟩
              have e2 : (cellsQ o0 xs 3).toArray = #[.int .i64 a, .int .i64 b, .int .i64 c'] := by
                have h1 : (triT T o0 d).1 = a := by rw [ht3]
                have h2 : (triT T o0 d).2.1 = b := by rw [ht3]
                have h3 : (triT T o0 d).2.2 = c' := by rw [ht3]
                rw [Hxs.out, ← h1, ← h2, ← h3]
                rfl
              rw [e1] at hmp hrO hlO
              rw [e2] at hbx
              have Hst3 := Lib.hid Hstep.out
              rw [ht3] at Hst3
              obtain ⟨i0, hi, hy0, hy1, hy2⟩ := info_parts infoTri
              have hnb : wr.heap.size ≠ wq.heap.size := Blk.ne_ hbo hbx (by decide)
              have c6 : t0.length + 1 ≤ maxLen := by unfold maxLen; omega
              have c7 : (t0.length + 1) * 24 ≤ 140737488355328 := by omega
              obtain ⟨lx, x0, -, x1, -, x2, -⟩ := hbx.three
              obtain ⟨lo, -, -, p1, q1⟩ := hbo.two
              have p1a := p1
              have HbO := Lib.hid hbo
              have HRT := Lib.hid hrT
              have HRO := Lib.hid hrO
              have HMP := Lib.hid hmp
              have HBB := Lib.hid hB
              have hrTa := hrT
              clear Hvx hst z2 e1 e2 ht3 hbo hbx hbl hmp hrO hB hrT
              go_wp2_with (at_builtin; refine wpList_append_lies _ rfl (.tmp 106) (.tmp 108) 22 rfl wr.heap.size 61 i0 _ 3 24 Try.underlying22 hi hy0 hy1 hy2 rfl (by decide) _ _ _ rfl (hrTa.alloc _) ⟨wx.heap.size, 0, none⟩ 1 1 [.int .i64 a, .int .i64 b, .int .i64 c'] rfl rfl (World.news_of_block (heap_alloc_new _ _)) (by simp [Value.oneCell']) (by decide) c6 c7 (by simp; omega) (wx.heap.size + 1) (by simp) ?_; intro g4 cap4 W4 hr4 hg4 hat4 hlt4; have hb4 := (HbO.out.alloc (.cells #[.int .i64 a, .int .i64 b, .int .i64 c'] 61)).grown hg4 (fun e => own_blk_ne hrTa HbO.out (by decide) e.symm); obtain ⟨l4, -, -, p4, q4⟩ := hb4.two; have Hb4 := Lib.hid hb4; clear hb4)
              go_roundw
              case measure => simp [intOf]; omega
              case rel =>
                have hgS : W4.grownBy (W4.setCell ⟨wr.heap.size, 1, none⟩ (.slice (some ⟨g4, 0, none⟩) (t0.length + 1) cap4)) (some wr.heap.size) := gStR (World.grownBy.refl _ _)
                have hra := hrTa.alloc (.cells #[.int .i64 a, .int .i64 b, .int .i64 c'] 61)
                have ma := HMP.out.alloc (.cells #[.int .i64 a, .int .i64 b, .int .i64 c'] 61)
                have m2 := (ma.kept hg4 (map_row_ne hra ma.obj)).kept hgS (by simp)
                have oa := HRO.out.alloc (.cells #[.int .i64 a, .int .i64 b, .int .i64 c'] 61)
                have ob := oa.kept hg4 (own_own_ne oa hra (by decide))
                have o2 := ob.kept hgS (.inr (own_blk_ne ob Hb4.out (by decide)))
                have t2 := hr4.kept hgS (.inr (own_blk_ne hr4 Hb4.out (by decide)))
                have s2 := Hb4.out.set_ 1 (.slice (some ⟨g4, 0, none⟩) (t0.length + 1) cap4)
                have hB4 := ((HBB.out.alloc (by omega) (.cells #[.int .i64 a, .int .i64 b, .int .i64 c'] 61)).grown hg4 (by simp; omega) (fun j e => (hrTa.lt j e).1)).setCell (p := ⟨wr.heap.size, 1, none⟩) (Nat.le_refl _) (.slice (some ⟨g4, 0, none⟩) (t0.length + 1) cap4)
                refine ⟨k + 1, _, _, rfl, by omega, by go_num, by simpa using s2, ?_, ?_, ?_, hB4⟩
                · rw [Hst3.out]
                  simpa [ws3_snoc] using t2
                · rw [Hst3.out]
                  exact m2
                · rw [Hst3.out]
                  exact o2
        · obtain rfl : k = i := by omega
          rw [List.take_of_length_le (by rw [HLen.out]; exact Nat.le_refl _)] at hrT hmp hrO
          have hrl := HRL.out
          have hrtn : rtN T c = numL T L ([], []) := by unfold rtN; rw [hrl]
          rw [← hrtn] at hrT hrO
          have hszr := HST.out.bel.size
          have hszq := hB.size
          obtain ⟨mT, hmT⟩ : ∃ mT, (rtN T c).2.length = mT := ⟨_, rfl⟩
          rw [hmT] at hrT
          have HMT := Lib.hid hmT
          clear hmT
          obtain ⟨aT, cT, rfl⟩ := ownsRow_slice hrT
          obtain ⟨lO, hlO⟩ : ∃ lO, (rtN T c).1.length = lO := ⟨_, rfl⟩
          rw [hlO] at hrO
          have HLO := Lib.hid hlO
          obtain ⟨aO, cO, rfl⟩ := ownsRow_slice hrO
          obtain ⟨lo, p0, q0, p1, q1⟩ := hbo.two
          have HbO := Lib.hid hbo
          have HRT := Lib.hid hrT
          have HRO := Lib.hid hrO
          have Hq := Lib.hid hq
          have HBL := Lib.hid (HST.out.bel.trans (hB.mono HST.out.bel.size))
          have HRN := Lib.hid hrl
          have hbr := fun (u : Value) => ((hbo.set_ 0 u))
          obtain ⟨lb, b0, b0', b1, b1'⟩ := hq.bo.two
          have hwr : w.heap.size + 1 ≠ wr.heap.size := fun e => by
            have := HST.out.bo.lt
            omega
          clear hrT hmp hrO hbo hq hlt hrl hrtn
          go_wp2
          go_region
          all_goals
            go_wp2
            have bo3 : Blk ((((wq.setCell ⟨wr.heap.size, 0, none⟩ (.int .i64 (lO : Int))).setCell ⟨w.heap.size + 1, 0, none⟩ (.int .i64 (lO : Int))).setCell ⟨w.heap.size + 1, 1, none⟩ (.slice aT mT cT)).drew) (w.heap.size + 1) 24 #[.int .i64 (lO : Int), (.slice aT mT cT)] := by
              simpa using (((Hq.out.bo.far (p := ⟨wr.heap.size, 0, none⟩) hwr (.int .i64 (lO : Int))).set_ 0 (.int .i64 (lO : Int))).set_ 1 (.slice aT mT cT)).drew
            obtain ⟨-, r0, -, r1, -⟩ := bo3.two
            have hbS := HST.out.bel.size
            have hup : ∀ {e' : TypeId} {s' n' : Nat} {v' : Value} {xs' : List Value}, e' ≠ 24 → wq.ownsRow w.heap.size e' s' v' n' xs' → ((((wq.setCell ⟨wr.heap.size, 0, none⟩ (.int .i64 (lO : Int))).setCell ⟨w.heap.size + 1, 0, none⟩ (.int .i64 (lO : Int))).setCell ⟨w.heap.size + 1, 1, none⟩ (.slice aT mT cT)).drew).ownsRow w.heap.size e' s' v' n' xs' := fun hne h =>
              (h.kept (gStR (World.grownBy.refl _ _)) (.inr (own_blk_ne h HbO.out hne))).kept (gDrew (gStR (gStR (World.grownBy.refl _ _)))) (.inr (own_blk_ne h Hq.out.bo hne))
            refine bodyPost_ret (v := .tuple #[.agg #[.int .i64 lO, (.slice aT mT cT)], .slice aO lO cO, .slice a8 k c8]) (by simp [results, Try.results28, go_sem, r0, r1]) rfl ⟨_, _, _, by rw [HLO.out], ?_, ?_, ?_, ?_⟩
            · rw [HMT.out]
              exact hup (by decide) (own_lower HRT.out hbS)
            · rw [HLO.out]
              exact hup (by decide) (own_lower HRO.out hbS)
            · have := Hq.out.row
              rw [HRN.out]
              rw [HLen.out] at this ⊢
              exact hup (by decide) this
            · exact (((HBL.out.setCell (p := ⟨wr.heap.size, 0, none⟩) hbS _).setCell (p := ⟨w.heap.size + 1, 0, none⟩) (by simp) _).setCell (p := ⟨w.heap.size + 1, 1, none⟩) (by simp) _).drew
end Go.Proofs.Ytpnkhgjjlionnaa
namespace Go.Proofs.Ytpnkhgjjlionnaa
open Go.RowKit

/-- The record in block x: the row R, the soup (n, vT), the paint P', the sides K', the old numbers vO; all that was there at w1 is as it was. -/
structure FrSt (w1 W : World) (x : Nat) (n : Int) (vT vO : Value) (R : List Int) (P' : List Tr) (K' : List Int) (vR vP vK : Value) : Prop where
  bx : Blk W x 142 #[vR, .int .i64 n, vT, vP, vK, vO]
  rR : W.ownsRow w1.heap.size 3 1 vR R.length (intsV R)
  rP : W.ownsRow w1.heap.size 162 3 vP P'.length (ws3 P')
  rK : W.ownsRow w1.heap.size 3 1 vK K'.length (intsV K')
  ne : ∀ j, vR.ownBlock = some j → vK.ownBlock ≠ some j
  bel : Below w1.heap.size w1 W
  xle : w1.heap.size ≤ x
section
variable {w1 W W' w4 : World} {x : Nat} {n : Int} {vT vO : Value} {R : List Int} {P' : List Tr} {K' : List Int} {vR vP vK : Value} {tmp : Obj}
theorem FrSt.below (h : FrSt w1 W x n vT vO R P' K' vR vP vK) (hb : Below W.heap.size W W') : FrSt w1 W' x n vT vO R P' K' vR vP vK :=
  ⟨h.bx.below hb h.bx.lt, own_below h.rR hb, own_below h.rP hb, own_below h.rK hb, h.ne, h.bel.trans (hb.mono h.bel.size), h.xle⟩
theorem FrSt.alloc (h : FrSt w1 W x n vT vO R P' K' vR vP vK) (o : Obj) : FrSt w1 (W.alloc o) x n vT vO R P' K' vR vP vK := h.below ((Below.refl _ _).alloc (Nat.le_refl _) _)
theorem FrSt.drew (h : FrSt w1 W x n vT vO R P' K' vR vP vK) : FrSt w1 W.drew x n vT vO R P' K' vR vP vK := h.below (Below.refl _ _).drew
/-- Behind an append to the row. -/
theorem FrSt.appR (h : FrSt w1 W x n vT vO R P' K' vR vP vK) (hg : W.grownBy w4 vR.ownBlock) {v4 : Value} {R4 : List Int} {g4 k4 c4 : Nat} (hv : v4 = .slice (some ⟨g4, 0, none⟩) k4 c4) (hr : w4.ownsRow w1.heap.size 3 1 v4 R4.length (intsV R4)) (hat : vR.ownBlock = some g4 ∨ W.heap.size ≤ g4) :
    Blk w4 x 142 #[vR, .int .i64 n, vT, vP, vK, vO] ∧ FrSt w1 (w4.setCell ⟨x, 0, none⟩ v4) x n vT vO R4 P' K' v4 vP vK := by
  have b4 := h.bx.grown hg (fun e => own_blk_ne h.rR h.bx (by decide) e.symm)
  have hS : w4.grownBy (w4.setCell ⟨x, 0, none⟩ v4) (some x) := gStR (World.grownBy.refl _ _)
  have p4 := h.rP.kept hg (own_own_ne h.rP h.rR (by decide))
  have k4' := h.rK.kept hg (by
    rcases hK : vK.ownBlock with _ | j
    · exact .inl rfl
    · refine .inr (fun e => h.ne j (by rw [← e]) hK))
  refine ⟨b4, ⟨by simpa using b4.set_ 0 v4, hr.kept hS (.inr (own_blk_ne hr b4 (by decide))), p4.kept hS (.inr (own_blk_ne p4 b4 (by decide))), k4'.kept hS (.inr (own_blk_ne k4' b4 (by decide))), ?_, ?_, h.xle⟩⟩
  · intro j ej ek
    subst hv
    have : g4 = j := by simpa [Value.ownBlock] using ej
    subst this
    rcases hat with e | hge
    · exact h.ne _ e ek
    · have := (h.rK.lt _ ek).2
      omega
  · exact (h.bel.grown hg h.bel.size (fun j e => (h.rR.lt j e).1)).setCell h.xle _
/-- Behind an append to the paint. -/
theorem FrSt.appP (h : FrSt w1 W x n vT vO R P' K' vR vP vK) (hg : W.grownBy w4 vP.ownBlock) {v4 : Value} {P4 : List Tr} (hr : w4.ownsRow w1.heap.size 162 3 v4 P4.length (ws3 P4)) :
    Blk w4 x 142 #[vR, .int .i64 n, vT, vP, vK, vO] ∧ FrSt w1 (w4.setCell ⟨x, 3, none⟩ v4) x n vT vO R P4 K' vR v4 vK := by
  have b4 := h.bx.grown hg (fun e => own_blk_ne h.rP h.bx (by decide) e.symm)
  have hS : w4.grownBy (w4.setCell ⟨x, 3, none⟩ v4) (some x) := gStR (World.grownBy.refl _ _)
  have r4 := h.rR.kept hg (own_own_ne h.rR h.rP (by decide))
  have k4 := h.rK.kept hg (own_own_ne h.rK h.rP (by decide))
  exact ⟨b4, ⟨by simpa using b4.set_ 3 v4, r4.kept hS (.inr (own_blk_ne r4 b4 (by decide))), hr.kept hS (.inr (own_blk_ne hr b4 (by decide))), k4.kept hS (.inr (own_blk_ne k4 b4 (by decide))), h.ne, (h.bel.grown hg h.bel.size (fun j e => (h.rP.lt j e).1)).setCell h.xle _, h.xle⟩⟩
/-- Behind an append to the sides. -/
theorem FrSt.appK (h : FrSt w1 W x n vT vO R P' K' vR vP vK) (hg : W.grownBy w4 vK.ownBlock) {v4 : Value} {K4 : List Int} {g4 k4 c4 : Nat} (hv : v4 = .slice (some ⟨g4, 0, none⟩) k4 c4) (hr : w4.ownsRow w1.heap.size 3 1 v4 K4.length (intsV K4)) (hat : vK.ownBlock = some g4 ∨ W.heap.size ≤ g4) :
    Blk w4 x 142 #[vR, .int .i64 n, vT, vP, vK, vO] ∧ FrSt w1 (w4.setCell ⟨x, 4, none⟩ v4) x n vT vO R P' K4 vR vP v4 := by
  have b4 := h.bx.grown hg (fun e => own_blk_ne h.rK h.bx (by decide) e.symm)
  have hS : w4.grownBy (w4.setCell ⟨x, 4, none⟩ v4) (some x) := gStR (World.grownBy.refl _ _)
  have p4 := h.rP.kept hg (own_own_ne h.rP h.rK (by decide))
  have r4 := h.rR.kept hg (by
    rcases hR : vR.ownBlock with _ | j
    · exact .inl rfl
    · exact .inr (fun e => h.ne j hR e.symm))
  refine ⟨b4, ⟨by simpa using b4.set_ 4 v4, r4.kept hS (.inr (own_blk_ne r4 b4 (by decide))), p4.kept hS (.inr (own_blk_ne p4 b4 (by decide))), hr.kept hS (.inr (own_blk_ne hr b4 (by decide))), ?_, ?_, h.xle⟩⟩
  · intro j ej ek
    subst hv
    have : g4 = j := by simpa [Value.ownBlock] using ek
    subst this
    rcases hat with e | hge
    · exact h.ne _ ej e
    · have := (h.rR.lt _ ej).2
      omega
  · exact (h.bel.grown hg h.bel.size (fun j e => (h.rK.lt j e).1)).setCell h.xle _
end
/-- Six cells of a record of canon's, whose rows lie at 'base' or behind: what is meant. -/
def RecOwn (w : World) (base : Nat) (cs : Array Value) (r : RecM) : Prop := ∃ vR vT vP vK vO, cs = #[vR, .int .i64 r.N, vT, vP, vK, vO] ∧ w.ownsRow base 3 1 vR r.row.length (intsV r.row) ∧ w.ownsRow base 61 3 vT r.T.length (ws3 r.T) ∧ w.ownsRow base 162 3 vP r.P.length (ws3 r.P) ∧ w.ownsRow base 3 1 vK r.K.length (intsV r.K) ∧ w.ownsRow base 3 1 vO r.old.length (intsV r.old)
theorem RecOwn.below {w w' : World} {base : Nat} {cs : Array Value} {r : RecM} (h : RecOwn w base cs r) (hb : Below w.heap.size w w') : RecOwn w' base cs r := by
  obtain ⟨vR, vT, vP, vK, vO, e, h1, h2, h3, h4, h5⟩ := h
  exact ⟨vR, vT, vP, vK, vO, e, own_below h1 hb, own_below h2 hb, own_below h3 hb, own_below h4 hb, own_below h5 hb⟩
theorem RecOwn.lower {w : World} {base base' : Nat} {cs : Array Value} {r : RecM} (h : RecOwn w base cs r) (hb : base' ≤ base) : RecOwn w base' cs r := by
  obtain ⟨vR, vT, vP, vK, vO, e, h1, h2, h3, h4, h5⟩ := h
  exact ⟨vR, vT, vP, vK, vO, e, own_lower h1 hb, own_lower h2 hb, own_lower h3 hb, own_lower h4 hb, own_lower h5 hb⟩
end Go.Proofs.Ytpnkhgjjlionnaa
namespace Go.Proofs.Ytpnkhgjjlionnaa
open Go.RowKit Go.Sort

/-- A record as it lies, and what is meant. -/
structure RcV where
  vR : Value
  N : Int
  vT : Value
  vP : Value
  vK : Value
  vO : Value
  m : RecM
def RcV.enc (x : RcV) : List Value := [x.vR, .int .i64 x.N, x.vT, x.vP, x.vK, x.vO]
/-- Records in a block, one behind the other. -/
def Recs (W : World) (base b : Nat) (l : List RecM) : Prop := base ≤ b ∧ l.length * 6 ≤ maxLen ∧ ∃ xs : List RcV, xs.map (·.m) = l ∧ (∀ x ∈ xs, RecOwn W base x.enc.toArray x.m) ∧ Blk W b 142 (xs.flatMap RcV.enc).toArray
theorem own_one {w : World} {base n s : Nat} {e : TypeId} {v : Value} {xs : List Value} (h : w.ownsRow base e s v n xs) : v.oneCell' = true := by
  obtain ⟨a, c, rfl⟩ := ownsRow_slice h
  rfl
theorem RecOwn.one {w : World} {base : Nat} {x : RcV} (h : RecOwn w base x.enc.toArray x.m) : ∀ v ∈ x.enc, v.oneCell' = true := by
  obtain ⟨vR, vT, vP, vK, vO, e, h1, h2, h3, h4, h5⟩ := h
  have e2 : x.enc = [vR, .int .i64 x.m.N, vT, vP, vK, vO] := by simpa using congrArg Array.toList e
  rw [e2]
  intro v hv
  simp only [List.mem_cons, List.not_mem_nil, or_false] at hv
  rcases hv with rfl | rfl | rfl | rfl | rfl | rfl
  · exact own_one h1
  · rfl
  · exact own_one h2
  · exact own_one h3
  · exact own_one h4
  · exact own_one h5
theorem blk_owns {W : World} {b base n : Nat} {xs : List Value} (h : Blk W b 142 xs.toArray) (hb : base ≤ b) (hn : n ≤ maxLen) (hl : xs.length = n * 6) : W.ownsRow base 142 6 (.slice (some ⟨b, 0, none⟩) n n) n xs :=
  ⟨hl, .inr ⟨b, n, xs.toArray, rfl, hb, h, Nat.le_refl _, hn, by simpa using hl, by rw [← hl]; simp⟩⟩
theorem owns_blk {W : World} {b base n : Nat} {xs : List Value} (h : W.ownsRow base 142 6 (.slice (some ⟨b, 0, none⟩) n n) n xs) : Blk W b 142 xs.toArray := by
  rcases h.2 with ⟨e, _⟩ | ⟨g, cap, cur, e, hb, hg, h1, h2, h3, h4⟩
  · cases e
  · injection e with e1 e2 e3
    injection e1 with e1
    injection e1 with e1
    subst e1
    subst e3
    have : xs.toArray = cur := by
      apply Array.ext'
      rw [← h4, List.take_of_length_le (by simp [h3])]
    unfold Blk
    rw [this]
    exact hg
theorem enc_len (x : RcV) : x.enc.length = 6 := rfl
theorem isAggRc (w : World) : (isAgg 142).run Try.prog w = .ok true w := by kernel_rfl
theorem sizeRc (w : World) : (Go.sizeOf 142).run Try.prog w = .ok 6 w := by kernel_rfl
set_option maxRecDepth 100000 in
theorem cmpRc_any (x y : RcV) (base : Nat) (w : World) (hx : RecOwn w base x.enc.toArray x.m) (hy : RecOwn w base y.enc.toArray y.m) (_lx : x.m.row.length ≤ 1000000) (_ly : y.m.row.length ≤ 1000000) :
    Calls Try.prog 86 #[.agg x.enc.toArray, .agg y.enc.toArray] w fun e w' => e = .returned (.int .i64 (cmpL x.m.row y.m.row)) ∧ w' = (w.alloc (.cells x.enc.toArray 142)).alloc (.cells y.enc.toArray 142) := by
  obtain ⟨vR, vT, vP, vK, vO, e, h1, h2, h3, h4, h5⟩ := hx
  obtain ⟨uR, uT, uP, uK, uO, e', g1, g2, g3, g4, g5⟩ := hy
  rw [e, e']
  have b1 := (Blk.new w 142 #[vR, .int .i64 x.m.N, vT, vP, vK, vO]).alloc (.cells #[uR, .int .i64 y.m.N, uT, uP, uK, uO] 142)
  have b2 : Blk ((w.alloc (.cells #[vR, .int .i64 x.m.N, vT, vP, vK, vO] 142)).alloc (.cells #[uR, .int .i64 y.m.N, uT, uP, uK, uO] 142)) (w.heap.size + 1) 142 #[uR, .int .i64 y.m.N, uT, uP, uK, uO] := blk_new_at (by simp)
  have hB : Below w.heap.size w ((w.alloc (.cells #[vR, .int .i64 x.m.N, vT, vP, vK, vO] 142)).alloc (.cells #[uR, .int .i64 y.m.N, uT, uP, uK, uO] 142)) := ((Below.refl _ _).alloc (Nat.le_refl _) _).alloc (by simp) _
  have HC := Lib.hid (compareL_any vR uR x.m.row y.m.row _ (IntsRd.of_row (own_below h1 hB) rfl) (IntsRd.of_row (own_below g1 hB) rfl))
  have l0 := b1.lt
  have l1 := b2.lt
  have x0 : _ = some vR := b1.cell 0
  have y0 : _ = some uR := b2.cell 0
  clear b1 b2 hB h1 h2 h3 h4 h5 g1 g2 g3 g4 g5
  go_enter Try.func86, Try.ntmps86
  go_wp2_with (go_at_call 60; refine HC.out.mono ?_; rintro e w' ⟨rfl, rfl⟩)
  go_ret
  exact ⟨rfl, rfl⟩
theorem RecOwn.kept {W V : World} {base b : Nat} {cs ds : Array Value} {r : RecM} (h : RecOwn W base cs r) (hb : Blk W b 142 ds) (hg : W.grownBy V (some b)) : RecOwn V base cs r := by
  obtain ⟨vR, vT, vP, vK, vO, e, h1, h2, h3, h4, h5⟩ := h
  exact ⟨vR, vT, vP, vK, vO, e, h1.kept hg (.inr (own_blk_ne h1 hb (by decide))), h2.kept hg (.inr (own_blk_ne h2 hb (by decide))), h3.kept hg (.inr (own_blk_ne h3 hb (by decide))), h4.kept hg (.inr (own_blk_ne h4 hb (by decide))), h5.kept hg (.inr (own_blk_ne h5 hb (by decide)))⟩
/-- Records that are as meant, in a world. -/
def RcA (W : World) (base : Nat) : Type := {x : RcV // RecOwn W base x.enc.toArray x.m ∧ x.m.row.length ≤ 1000000}
def encA {W : World} {base : Nat} (x : RcA W base) : List Value := x.1.enc
def cfA {W : World} {base : Nat} (x y : RcA W base) : Int := cmpL x.1.m.row y.1.m.row
theorem encA_len {W : World} {base : Nat} (x : RcA W base) : (encA x).length = 6 := rfl
section
variable {W V : World} {base b n : Nat} {cs : Array Value} [Inhabited (RcA W base)]
theorem lays_any (hB : Blk W b 142 cs) (hg : W.grownBy V (some b)) {d : Array (RcA W base)} (hd : d.size = n) (hown : V.ownsRow base 142 6 (.slice (some ⟨b, 0, none⟩) n n) n (d.toList.flatMap encA)) :
    CmpLays Try.prog 86 #[] (encA (W := W) (base := base)) 6 cfA b 0 n V := by
  intro m os dk hdk x y
  have h2 := (ownsRow_sortedK (enc := encA) encA_len (by decide) hown (d' := dk) (m := m) (os := os) (by omega)).2
  have hG := hg.trans h2
  refine (cmpRc_any x.1 y.1 base _ (x.2.1.kept hB hG) (y.2.1.kept hB hG) x.2.2 y.2.2).mono ?_
  rintro e w' ⟨rfl, rfl⟩
  refine ⟨rfl, 0, #[.cells x.1.enc.toArray 142, .cells y.1.enc.toArray 142], ?_⟩
  rw [alloc_eq_grow, alloc_eq_grow, grow_grow]
  rfl
theorem ins_any (hB : Blk W b 142 cs) (hg : W.grownBy V (some b)) {d : Array (RcA W base)} (hd : d.size = n) (hn : n ≤ 1000) (hown : V.ownsRow base 142 6 (.slice (some ⟨b, 0, none⟩) n n) n (d.toList.flatMap encA)) (p q : Nat) (hpq : p ≤ q) (hq : q ≤ n) (hs : (insertionSort (ltOf cfA) d p q).size = d.size) :
    Calls Try.prog 127 #[.slice (some ⟨b, 0, none⟩) n n, .int .i64 (p : Int), .int .i64 (q : Int), .func (.func 86) #[] #[]] V fun e w' =>
      e = .returned (.tuple #[]) ∧ w'.ownsRow base 142 6 (.slice (some ⟨b, 0, none⟩) n n) n ((insertionSort (ltOf cfA) d p q).toList.flatMap encA) ∧ W.grownBy w' (some b) := by
  subst hd
  have hlt : b < V.heap.size := Nat.lt_of_lt_of_le hB.lt hg.size
  have h := Try.insertionSortCmpFunc_f127 (α := RcA W base) 6 isAggRc sizeRc encA encA_len (fun x => x.2.1.one) cfA 86 #[] b 0 d.size p q d V (fun _ _ => by kernel_rfl) (lays_any hB hg rfl hown) (holdsK_of_own encA_len (by decide) hown) hlt hpq hq (by omega)
  refine h.mono ?_
  rintro e w' ⟨rfl, m, os, rfl⟩
  have h2 := ownsRow_sortedK (enc := encA) encA_len (by decide) hown (d' := insertionSort (ltOf cfA) d p q) (m := m) (os := os) hs
  exact ⟨rfl, h2.1, hg.trans h2.2⟩
end
theorem insB_map {α β : Type} {lt : α → α → Bool} {lt' : β → β → Bool} {f : α → β} (h : ∀ x y, lt' (f x) (f y) = lt x y) (l : List α) (x : α) : (insB lt l x).map f = insB lt' (l.map f) (f x) := by
  unfold insB
  have e : lt' (f x) ∘ f = lt x := funext fun y => h x y
  simp only [List.map_append, List.map_cons, ← List.map_reverse, List.dropWhile_map, List.takeWhile_map, e]
theorem sortB_map {α β : Type} {lt : α → α → Bool} {lt' : β → β → Bool} {f : α → β} (h : ∀ x y, lt' (f x) (f y) = lt x y) (l : List α) : (sortB lt l).map f = sortB lt' (l.map f) := by
  unfold sortB
  have key : ∀ (l m : List α), (l.foldl (insB lt) m).map f = (l.map f).foldl (insB lt') (m.map f) := by
    intro l
    induction l with
    | nil => intro m; rfl
    | cons a r ih =>
      intro m
      rw [List.foldl_cons, ih, insB_map h]
      rfl
  exact key l []
theorem exists_sub {α : Type} {p : α → Prop} : ∀ (xs : List α), (∀ x ∈ xs, p x) → ∃ ds : List {x // p x}, ds.map Subtype.val = xs
  | [], _ => ⟨[], rfl⟩
  | a :: r, h => by
    obtain ⟨ds, hd⟩ := exists_sub r (fun x hx => h x (List.mem_cons_of_mem _ hx))
    exact ⟨⟨a, h a (List.mem_cons_self ..)⟩ :: ds, by rw [List.map_cons, hd]⟩
set_option maxRecDepth 100000 in
set_option maxHeartbeats 1000000 in
theorem stable_any (W : World) (base b n : Nat) (l : List RecM) (h : Recs W base b l) (hl : l.length = n) (hn : n ≤ 20) (h0 : 0 < n) (hr : ∀ r ∈ l, r.row.length ≤ 1000000) :
    Calls Try.prog 85 #[.slice (some ⟨b, 0, none⟩) n n, .func (.func 86) #[] #[]] W fun e w' => e = .returned (.tuple #[]) ∧ Recs w' base b (sortB ltR l) ∧ W.grownBy w' (some b) := by
  obtain ⟨hb, hm, xs, hxl, hx, hB⟩ := h
  have hxr : ∀ x ∈ xs, RecOwn W base x.enc.toArray x.m ∧ x.m.row.length ≤ 1000000 := fun x hxm => ⟨hx x hxm, hr _ (by rw [← hxl]; exact List.mem_map.2 ⟨x, hxm, rfl⟩)⟩
  obtain ⟨ds, hds⟩ : ∃ ds : List (RcA W base), ds.map (·.1) = xs := exists_sub xs hxr
  have hdl : ds.length = n := by rw [← hl, ← hxl, ← hds]; simp
  obtain ⟨d0, hd0⟩ : ∃ x, x ∈ ds := by
    cases ds with
    | nil => simp at hdl; omega
    | cons a r => exact ⟨a, List.mem_cons_self ..⟩
  haveI : Inhabited (RcA W base) := ⟨d0⟩
  have hfl : ∀ es : List (RcA W base), es.flatMap encA = (es.map (·.1)).flatMap RcV.enc := fun es => by rw [List.flatMap_map]; rfl
  have hxn : (xs.flatMap RcV.enc).length = n * 6 := by rw [flatMap_len enc_len, ← hds]; simp [hdl]
  have hmn : n ≤ maxLen := by rw [hl] at hm; omega
  have hown : W.ownsRow base 142 6 (.slice (some ⟨b, 0, none⟩) n n) n (ds.toArray.toList.flatMap encA) := by
    rw [List.toList_toArray, hfl, hds]
    exact blk_owns hB hb hmn hxn
  have hsz : ds.toArray.size = n := by simpa using hdl
  have hlist := insertionSort_list (ltOf (cfA (W := W) (base := base))) ds.toArray
  rw [hsz] at hlist
  have hs1 : (insertionSort (ltOf cfA) ds.toArray 0 n).size = n := by
    have := congrArg List.length hlist
    rw [sortB_len] at this
    simpa [hdl] using this
  have H1 := Lib.hid (show Calls _ _ #[_, .int .i64 0, .int .i64 (n : Int), _] W _ from ins_any hB (World.grownBy.refl _ _) hsz (by omega) hown 0 n (Nat.zero_le _) (Nat.le_refl _) (by rw [hs1, hsz]))
  have hdone : insertionSort (ltOf cfA) (insertionSort (ltOf cfA) ds.toArray 0 n) n n = insertionSort (ltOf (cfA (W := W) (base := base))) ds.toArray 0 n := insOuter_done _ _ _
  have H2 := Lib.hid (fun (V : World) (hg : W.grownBy V (some b)) (ho : V.ownsRow base 142 6 (.slice (some ⟨b, 0, none⟩) n n) n ((insertionSort (ltOf cfA) ds.toArray 0 n).toList.flatMap encA)) => ins_any hB hg hs1 (by omega) ho n n (Nat.le_refl _) (Nat.le_refl _) (by rw [hdone]))
  rw [hdone] at H2
  have HF := Lib.hid (fun (V : World) (hg : W.grownBy V (some b)) (ho : V.ownsRow base 142 6 (.slice (some ⟨b, 0, none⟩) n n) n ((insertionSort (ltOf cfA) ds.toArray 0 n).toList.flatMap encA)) => show Recs V base b (sortB ltR l) from by
    rw [hlist, List.toList_toArray, hfl] at ho
    refine ⟨hb, by rw [sortB_len]; exact hm, (sortB (ltOf cfA) ds).map (·.1), ?_, ?_, owns_blk ho⟩
    · rw [List.map_map, ← hxl, ← hds, List.map_map]
      exact sortB_map (lt := ltOf cfA) (lt' := ltR) (f := fun x : RcA W base => x.1.m) (fun x y => rfl) ds
    · intro x hxm
      obtain ⟨y, hy, rfl⟩ := List.mem_map.1 hxm
      exact y.2.1.kept hB hg)
  have hni : (n : Int) ≤ 20 := by omega
  clear hlist hs1 hdone hown hsz hfl hxn hd0 hdl hds hxr hx hxl hr hB
  have HS : Hid (Calls Try.prog 109 #[.slice (some ⟨b, 0, none⟩) n n, .int .i64 (n : Int), .func (.func 86) #[] #[]] W fun e w' => e = .returned (.tuple #[]) ∧ Recs w' base b (sortB ltR l) ∧ W.grownBy w' (some b)) := by
    refine Lib.hid ?_
    obtain ⟨R, hR⟩ : ∃ R, R = (insertionSort (ltOf cfA) ds.toArray 0 n).toList.flatMap encA := ⟨_, rfl⟩
    rw [← hR] at H1 H2 HF
    clear hR
    go_enter Try.func109, Try.ntmps109
    go_wp2
    go_loopw [7, 8] (fun a c wr => (a = .int .i64 0 ∧ c = .int .i64 20 ∧ wr = W) ∨ ((n : Int) = 20 ∧ a = .int .i64 (n : Int) ∧ c = .int .i64 40 ∧ wr.ownsRow base 142 6 (.slice (some ⟨b, 0, none⟩) n n) n R ∧ W.grownBy wr (some b))) (fun _ c _ => 40 - (intOf c).toNat)
    case atStart => exact .inl ⟨rfl, rfl, rfl⟩
    case round =>
      rename World => wr
      rcases hrel with ⟨rfl, rfl, rfl⟩ | ⟨hn20, rfl, rfl, ho, hg⟩
      · by_cases h20 : (n : Int) = 20
        · have hd : decide ((20 : Int) ≤ (n : Int)) = true := by simp; omega
          have H1' := Lib.hid (show Calls Try.prog 127 #[.slice (some ⟨b, 0, none⟩) n n, .int .i64 0, .int .i64 20, .func (.func 86) #[] #[]] wr _ from by have := H1.out; rw [h20] at this; exact this)
          have H20 := Lib.hid h20
          clear h20
          go_wp2_with (go_at_call 127; refine H1'.out.mono ?_; rintro e w' ⟨rfl, ho, hg⟩)
          go_roundw
          case measure => simp [intOf]
          case rel => exact .inr ⟨H20.out, by rw [H20.out], by go_num, ho, hg⟩
        · have hd : decide ((20 : Int) ≤ (n : Int)) = false := by simp; omega
          go_wp2_with (go_at_call 127; refine H1.out.mono ?_; rintro e w' ⟨rfl, ho, hg⟩)
          go_loopw [6] (fun a wx => a = .int .i64 20 ∧ wx = w') (fun _ _ => 0)
          case atStart => exact ⟨rfl, rfl⟩
          case round =>
            obtain ⟨rfl, rfl⟩ := hrel
            have hd2 : decide ((20 : Int) < (n : Int)) = false := by simp; omega
            go_wp2
            refine bodyPost_end (results_none rfl _ _ _) rfl ?_
            exact ⟨rfl, HF.out _ hg ho, hg⟩
      · have hd : decide ((40 : Int) ≤ (n : Int)) = false := by simp; omega
        have hd2 : decide ((20 : Int) < (n : Int)) = false := by simp; omega
        have H2' := Lib.hid (H2.out wr hg ho)
        clear hg ho hn20
        go_wp2_with (go_at_call 127; refine H2'.out.mono ?_; rintro e w' ⟨rfl, ho, hg⟩)
        go_loopw [6] (fun a wx => a = .int .i64 20 ∧ wx = w') (fun _ _ => 0)
        case atStart => exact ⟨rfl, rfl⟩
        case round =>
          obtain ⟨rfl, rfl⟩ := hrel
          go_wp2
          refine bodyPost_end (results_none rfl _ _ _) rfl ?_
          exact ⟨rfl, HF.out _ hg ho, hg⟩
  go_enter Try.func85, Try.ntmps85
  go_wp2_with (go_at_call 109; refine HS.out.mono ?_; rintro e w' ⟨rfl, hrc, hg⟩)
  refine bodyPost_end (results_none rfl _ _ _) rfl ?_
  exact ⟨rfl, hrc, hg⟩
set_option maxRecDepth 100000 in
/-- Of none. -/
theorem stable_none (p : Option Addr) (c : Nat) (W : World) :
    Calls Try.prog 85 #[.slice p 0 c, .func (.func 86) #[] #[]] W fun e w' => e = .returned (.tuple #[]) ∧ w' = W := by
  have H1 := Lib.hid (Try.insertionSortCmpFunc_none_f127 (α := Nat) p c (.func (.func 86) #[] #[]) W)
  have HS : Hid (Calls Try.prog 109 #[.slice p 0 c, .int .i64 0, .func (.func 86) #[] #[]] W fun e w' => e = .returned (.tuple #[]) ∧ w' = W) := by
    refine Lib.hid ?_
    go_enter Try.func109, Try.ntmps109
    go_wp2
    go_loopw [7, 8] (fun a c wr => a = .int .i64 0 ∧ c = .int .i64 20 ∧ wr = W) (fun _ _ _ => 0)
    case atStart => exact ⟨rfl, rfl, rfl⟩
    case round =>
      rename World => wr
      obtain ⟨rfl, rfl, rfl⟩ := hrel
      go_wp2_with (go_at_call 127; refine H1.out.mono ?_; rintro e w' ⟨rfl, rfl⟩)
      go_loopw [6] (fun a wx => a = .int .i64 20 ∧ wx = w') (fun _ _ => 0)
      case atStart => exact ⟨rfl, rfl⟩
      case round =>
        obtain ⟨rfl, rfl⟩ := hrel
        go_wp2
        refine bodyPost_end (results_none rfl _ _ _) rfl ?_
        exact ⟨rfl, rfl⟩
  go_enter Try.func85, Try.ntmps85
  go_wp2_with (go_at_call 109; refine HS.out.mono ?_; rintro e w' ⟨rfl, rfl⟩)
  refine bodyPost_end (results_none rfl _ _ _) rfl ?_
  exact ⟨rfl, rfl⟩
end Go.Proofs.Ytpnkhgjjlionnaa
namespace Go.Proofs.Ytpnkhgjjlionnaa
open Go.RowKit Go.Maps

theorem infoTriJ : (Try.prog.info? 61).map (fun i => (i.zero, i.size, i.bytes)) = some (some (.agg #[.int .i64 0, .int .i64 0, .int .i64 0]), 3, 24) := by kernel_rfl
/-- Soups that can be read. -/
def SoupsRd (w : World) (v : Value) (l : List (Int × List Tr)) : Prop := ∃ a c, v = .slice a l.length c ∧ ∀ (k : Nat) (N : Int) (T : List Tr), l[k]? = some (N, T) → ∃ b o vT, a = some ⟨b, o, none⟩ ∧ b < w.heap.size ∧ w.cell? ⟨b, o + k * 2, none⟩ = some (.int .i64 N) ∧ w.cell? ⟨b, o + k * 2 + 1, none⟩ = some vT ∧ TrisRd w vT T
theorem SoupsRd.below {w w' : World} {v : Value} {l : List (Int × List Tr)} (h : SoupsRd w v l) (hb : Below w.heap.size w w') : SoupsRd w' v l := by
  obtain ⟨a, c, rfl, h3⟩ := h
  refine ⟨a, c, rfl, fun k N T hk => ?_⟩
  obtain ⟨b, o, vT, rfl, hl, s0, s1, s2⟩ := h3 k N T hk
  exact ⟨b, o, vT, rfl, Nat.lt_of_lt_of_le hl hb.size, (hb.cell (p := ⟨b, _, none⟩) hl).trans s0, (hb.cell (p := ⟨b, _, none⟩) hl).trans s1, s2.below hb⟩
structure JnSt (w W : World) (b2 b4 : Nat) (N : Int) (T : List Tr) (vT : Value) : Prop where
  k2 : Blk W b2 24 #[.int .i64 0, .slice none 0 0]
  k4 : Blk W b4 24 #[.int .i64 N, vT]
  rT : W.ownsRow w.heap.size 61 3 vT T.length (ws3 T)
  bel : Below w.heap.size w W
  l2 : w.heap.size ≤ b2
  l4 : w.heap.size ≤ b4
  ne : b2 ≠ b4
section
variable {w W W' w4 : World} {b2 b4 : Nat} {N N' : Int} {T : List Tr} {vT : Value}
theorem JnSt.below (h : JnSt w W b2 b4 N T vT) (hb : Below W.heap.size W W') : JnSt w W' b2 b4 N T vT :=
  ⟨h.k2.below hb h.k2.lt, h.k4.below hb h.k4.lt, own_below h.rT hb, h.bel.trans (hb.mono h.bel.size), h.l2, h.l4, h.ne⟩
theorem JnSt.alloc (h : JnSt w W b2 b4 N T vT) (o : Obj) : JnSt w (W.alloc o) b2 b4 N T vT := h.below ((Below.refl _ _).alloc (Nat.le_refl _) _)
theorem JnSt.app (h : JnSt w W b2 b4 N T vT) (hg : W.grownBy w4 vT.ownBlock) {v4 : Value} {T4 : List Tr} (hr : w4.ownsRow w.heap.size 61 3 v4 T4.length (ws3 T4)) :
    Blk w4 b4 24 #[.int .i64 N, vT] ∧ JnSt w (w4.setCell ⟨b4, 1, none⟩ v4) b2 b4 N T4 v4 := by
  have c4 := h.k4.grown hg (fun e => own_blk_ne h.rT h.k4 (by decide) e.symm)
  have c2 := h.k2.grown hg (fun e => own_blk_ne h.rT h.k2 (by decide) e.symm)
  have hS : w4.grownBy (w4.setCell ⟨b4, 1, none⟩ v4) (some b4) := gStR (World.grownBy.refl _ _)
  exact ⟨c4, ⟨c2.far (p := ⟨b4, 1, none⟩) h.ne v4, by simpa using c4.set_ 1 v4, hr.kept hS (.inr (own_blk_ne hr c4 (by decide))), (h.bel.grown hg h.bel.size (fun j e => (h.rT.lt j e).1)).setCell h.l4 _, h.l2, h.l4, h.ne⟩⟩
theorem JnSt.setN (h : JnSt w W b2 b4 N T vT) : JnSt w (W.setCell ⟨b4, 0, none⟩ (.int .i64 N')) b2 b4 N' T vT :=
  ⟨h.k2.far (p := ⟨b4, 0, none⟩) h.ne _, by simpa using h.k4.set_ 0 (.int .i64 N'), own_alloc_st h.rT h.k4 (by decide), h.bel.setCell h.l4 _, h.l2, h.l4, h.ne⟩
end
theorem fitsS_n {N : Int} {T : List Tr} (h : fitsS N T = true) : 0 ≤ N ∧ N ≤ 4096 ∧ T.length ≤ 8192 := by
  unfold fitsS at h
  rw [Bool.and_eq_true] at h
  exact of_decide_eq_true h.1
theorem fitsS_t {N : Int} {T : List Tr} (h : fitsS N T = true) : ∀ t ∈ T, fitsM t N := by
  unfold fitsS at h
  rw [Bool.and_eq_true, Bool.not_eq_true', List.any_eq_false] at h
  intro t ht
  have := h.2 t ht
  simpa using this
set_option maxRecDepth 100000 in
set_option maxHeartbeats 4000000 in
theorem join_any (v : Value) (l : List (Int × List Tr)) (w : World) (hv : SoupsRd w v l) (hl : l.length ≤ 100000) (hfit : ∀ x ∈ l, fitsS x.1 x.2 = true) (h1 : (joinM l).1 ≤ 4096) (h2 : (joinM l).2.length ≤ 8192) :
    Calls Try.prog 10 #[v] w fun e w' => ∃ vT, e = .returned (.tuple #[.agg #[.int .i64 (joinM l).1, vT], .int .i64 0]) ∧ w'.ownsRow w.heap.size 61 3 vT (joinM l).2.length (ws3 (joinM l).2) ∧ Below w.heap.size w w' := by
  have HV := Lib.hid (fun (W : World) (hW : Below w.heap.size w W) => hv.below hW)
  have HV0 := Lib.hid hv
  obtain ⟨aL, cL, rfl, hrd⟩ := hv
  obtain ⟨n, hn⟩ : ∃ n, l.length = n := ⟨_, rfl⟩
  obtain ⟨i0, hi, hz0, hz1, hz2⟩ := info_parts infoTriJ
  have HFt := Lib.hid (fun (k : Nat) (N : Int) (T : List Tr) (hk : l[k]? = some (N, T)) => hfit _ (List.mem_of_getElem? hk))
  have HBd := Lib.hid (fun k => joinM_bd (l := l) (fun x hx => (fitsS_n (hfit x hx)).1) k)
  have HNn := Lib.hid (fun k => joinM_nn (l := l.take k) (fun x hx => (fitsS_n (hfit x (List.mem_of_mem_take hx))).1))
  have hI0 : JnSt w ((w.alloc (.cells #[.int .i64 0, .slice none 0 0] 24)).alloc (.cells #[.int .i64 0, .slice none 0 0] 24)) w.heap.size (w.heap.size + 1) 0 [] (.slice none 0 0) :=
    ⟨(Blk.new w _ _).alloc _, blk_new_at (by simp), World.ownsRow_nil _ _ _ _, ((Below.refl _ _).alloc (Nat.le_refl _) _).alloc (by simp) _, Nat.le_refl _, by omega, by omega⟩
  have HI0 := Lib.hid hI0
  have Hn := Lib.hid hn
  rw [hn] at hl ⊢
  clear hI0 hrd hfit hn
  go_enter Try.func10, Try.ntmps10
  go_wp2
  go_loopw [13] (fun i wr => ∃ k : Nat, k ≤ n ∧ i = .int .i64 k ∧ JnSt w wr w.heap.size (w.heap.size + 1) 0 [] (.slice none 0 0)) (fun i _ => n - (intOf i).toNat)
  case atStart => exact ⟨0, Nat.zero_le _, rfl, HI0.out⟩
  case round =>
    rename World => wr
    obtain ⟨k, hk, rfl, hI⟩ := hrel
    by_cases hlt : k < n
    · have hkl : k < l.length := by rw [Hn.out]; exact hlt
      obtain ⟨⟨N, T⟩, hx⟩ : ∃ x, l[k]? = some x := ⟨l[k], List.getElem?_eq_getElem hkl⟩
      have hv := HV.out wr hI.bel
      obtain ⟨a', c', e', hr⟩ := hv
      rw [Hn.out] at e'
      cases e'
      obtain ⟨b, o, vT, rfl, hb, s0, s1, hT⟩ := hr k N T hx
      have hf := HFt.out k N T hx
      have HTr := Lib.hid (fun (W : World) (hW : Below wr.heap.size wr W) => (soupFits_any N vT T W (hT.below hW) (by have := fitsS_n hf; omega)).mono (fun e w' h => by rw [hf] at h; exact h))
      obtain ⟨aT, cT, rfl, -⟩ := id hT
      have HI := Lib.hid hI
      have hki : (k : Int) < (n : Int) := by omega
      have HBa := Lib.hid ((Below.refl wr.heap.size wr).alloc (Nat.le_refl _) (.cells #[.int .i64 N, .slice aT T.length cT] 24))
      clear hI hT hr hf hx hkl
      go_upto_region 7 with (go_at_call 29; go_loud (refine (HTr.out _ HBa.out).mono ?_; rintro e wF ⟨rfl, hbF⟩))
      have HI' := Lib.hid ((HI.out.alloc (.cells #[.int .i64 N, .slice aT T.length cT] 24)).below hbF)
      clear hbF
      go_wp2
      go_roundw
      case measure => simp [intOf]; omega
      case rel => exact ⟨k + 1, by omega, by go_num, HI'.out⟩
    · obtain rfl : n = k := by omega
      have HI1 := Lib.hid hI
      clear hI
      go_wp2
      go_loopw [24] (fun i wr => ∃ k : Nat, k ≤ n ∧ i = .int .i64 k ∧ ∃ vT, JnSt w wr w.heap.size (w.heap.size + 1) (joinM (l.take k)).1 (joinM (l.take k)).2 vT) (fun i _ => n - (intOf i).toNat)
      case atStart => exact ⟨0, Nat.zero_le _, rfl, _, HI1.out⟩
      case round =>
        rename World => wr
        obtain ⟨k, hk, rfl, vS, hI⟩ := hrel
        by_cases hlt : k < n
        · have hkl : k < l.length := by rw [Hn.out]; exact hlt
          obtain ⟨⟨N, T⟩, hx⟩ : ∃ x, l[k]? = some x := ⟨l[k], List.getElem?_eq_getElem hkl⟩
          obtain ⟨a', c', e', hr⟩ := HV0.out
          rw [Hn.out] at e'
          cases e'
          obtain ⟨b, o, vT, rfl, hbw, s0w, s1w, hTw⟩ := hr k N T hx
          have s0 := (hI.bel.cell (p := ⟨b, o + k * 2, none⟩) hbw).trans s0w
          have s1 := (hI.bel.cell (p := ⟨b, o + k * 2 + 1, none⟩) hbw).trans s1w
          have HFm := Lib.hid (fitsS_t (HFt.out k N T hx))
          have hb := Nat.lt_of_lt_of_le hbw hI.bel.size
          clear s0w s1w
          have HS1 := Lib.hid (joinM_take hx)
          have hb1 := HBd.out (k + 1)
          have hn1 := HNn.out k
          rw [HS1.out] at hb1
          obtain ⟨SN, hSN⟩ : ∃ SN, (joinM (l.take k)).1 = SN := ⟨_, rfl⟩
          obtain ⟨ST, hST⟩ : ∃ ST, (joinM (l.take k)).2 = ST := ⟨_, rfl⟩
          have hJ : joinS (joinM (l.take k)) (N, T) = (SN + N, ST ++ T.map (shT SN)) := by unfold joinS; rw [hSN, hST]
          rw [hJ] at hb1
          rw [hSN, hST] at hI
          rw [hSN] at hn1
          have HJ := Lib.hid hJ
          have hf := fitsS_n (HFt.out k N T hx)
          obtain ⟨aT, cT, rfl, hcT, hcT2, -⟩ := id hTw
          obtain ⟨aS, cS, rfl⟩ := ownsRow_slice hI.rT
          obtain ⟨nT, hnT⟩ : ∃ nT, T.length = nT := ⟨_, rfl⟩
          obtain ⟨nS, hnS⟩ : ∃ nS, ST.length = nS := ⟨_, rfl⟩
          have hlen : nS + nT ≤ 8192 ∧ SN + N ≤ 4096 := by
            have e1 : (ST ++ T.map (shT SN)).length = nS + nT := by simp [hnS, hnT]
            simp only [e1] at hb1
            omega
          have HRd := Lib.hid (fun (W : World) (hW : Below w.heap.size w W) => hTw.below hW)
          rw [hnT] at s1 HRd hcT
          rw [hnS] at hI
          have d1 : decide (4096 < SN + N) = false := by simp; omega
          have d2 : decide ((8192 : Int) < (nS : Int) + (nT : Int)) = false := by simp; omega
          have HI := Lib.hid hI
          obtain ⟨l4, y0, f0, y1, f1⟩ := hI.k4.two
          have hki : (k : Int) < (n : Int) := by omega
          have HnT := Lib.hid hnT
          have HnS := Lib.hid hnS
          obtain ⟨hle1, hle2⟩ := hlen
          have hN0 := hf.1
          have hzr := hI.bel.size
          have hB : Blk (wr.alloc (.cells #[.int .i64 N, .slice aT nT cT] 24)) wr.heap.size 24 #[.int .i64 N, .slice aT nT cT] := Blk.new _ _ _
          have HB8 := Lib.hid hB
          clear hI hTw hr hx hkl hJ hb1 hf hnT hnS hSN hST hB
          go_upto_region 13 with fail
          have HIa := Lib.hid (HI.out.alloc (.cells #[.int .i64 N, .slice aT nT cT] 24))
          obtain ⟨q, hq⟩ : ∃ q, wr.heap.size = q := ⟨_, rfl⟩
          have hq4 : q ≠ w.heap.size + 1 := by omega
          rw [hq] at HB8 ⊢
          generalize hWa : wr.alloc (.cells #[.int .i64 N, .slice aT nT cT] 24) = wa at *
          clear hWa y0 f0 y1 f1 s0 s1
          obtain ⟨lq, x0, g0, x1, g1⟩ := HB8.out.two
          go_wp2
          clear x0 g0 x1 g1
          go_loopw [48] (fun i wx => ∃ j : Nat, j ≤ nT ∧ i = .int .i64 j ∧ ∃ vS, JnSt w wx w.heap.size (w.heap.size + 1) SN (ST ++ (T.take j).map (shT SN)) vS ∧ Blk wx q 24 #[.int .i64 N, .slice aT nT cT]) (fun i _ => nT - (intOf i).toNat)
          case atStart => exact ⟨0, Nat.zero_le _, rfl, _, by simpa using HIa.out, HB8.out⟩
          case round =>
            rename World => wx
            obtain ⟨j, hj, rfl, vS', hI', hb8⟩ := hrel
            by_cases hlj : j < nT
            · have hjT : j < T.length := by rw [HnT.out]; exact hlj
              obtain ⟨⟨px, py, pz⟩, hp⟩ : ∃ t, T[j]? = some t := ⟨T[j], List.getElem?_eq_getElem hjT⟩
              have hrd := HRd.out wx hI'.bel
              obtain ⟨a', c', e', -, -, hr⟩ := hrd
              rw [HnT.out] at e'
              cases e'
              obtain ⟨bT, oT, rfl, hbT, s0, s1, s2⟩ := hr j px py pz hp
              obtain ⟨⟨p0, p1⟩, ⟨p2, p3⟩, ⟨p4, p5⟩, -⟩ := HFm.out _ (List.mem_of_getElem? hp)
              simp only at p0 p1 p2 p3 p4 p5
              obtain ⟨S9, hS9⟩ : ∃ S9, ST ++ (T.take j).map (shT SN) = S9 := ⟨_, rfl⟩
              have hl9 : S9.length ≤ 8191 := by
                rw [← hS9, List.length_append, List.length_map, List.length_take, HnS.out]
                omega
              have HS9 := Lib.hid (show ST ++ (T.take (j + 1)).map (shT SN) = S9 ++ [(px + SN, py + SN, pz + SN)] from by
                rw [← hS9, List.take_succ_eq_append_getElem hjT, List.map_append, ← List.append_assoc]
                congr 1
                have : T[j] = (px, py, pz) := by rw [List.getElem?_eq_getElem hjT] at hp; exact Option.some.inj hp
                rw [this]
                rfl)
              rw [hS9] at hI'
              have hzx := hI'.bel.size
              obtain ⟨l4', y0, f0, y1, f1⟩ := hI'.k4.two
              have HI' := Lib.hid hI'
              have HB9 := Lib.hid hb8
              have c9 : S9.length + 1 ≤ maxLen := by unfold maxLen; omega
              have c8 : (S9.length + 1) * 24 ≤ 140737488355328 := by omega
              have hlj9 : (j : Int) < (nT : Int) := by omega
              clear hI' hb8 hS9 hr hp hjT
              go_upto_region 17 with (at_builtin; go_loud (refine wpList_append_lies _ rfl (.tmp 53) (.tmp 70) 22 rfl w.heap.size 61 i0 _ 3 24 Try.underlying22 hi hz0 hz1 hz2 rfl (by decide) vS' S9.length (ws3 S9) rfl ((HI'.out.alloc (.cells #[.int .i64 px, .int .i64 py, .int .i64 pz] 61)).alloc (.cells #[.int .i64 (px + SN), .int .i64 (py + SN), .int .i64 (pz + SN)] 61)).rT ⟨wx.heap.size + 1, 0, none⟩ 1 1 [.int .i64 (px + SN), .int .i64 (py + SN), .int .i64 (pz + SN)] rfl rfl (World.news_of_block (blk_new_at (by simp))) (by simp [Value.oneCell']) (by decide) c9 c8 (by simp; omega) (wx.heap.size + 1 + 1) (by simp) ?_); go_loud (intro g8 cap8 W8 hr8 hg8 hat8 hlt8; have h9 := ((HI'.out.alloc (.cells #[.int .i64 px, .int .i64 py, .int .i64 pz] 61)).alloc (.cells #[.int .i64 (px + SN), .int .i64 (py + SN), .int .i64 (pz + SN)] 61)).app hg8 (T4 := S9 ++ [(px + SN, py + SN, pz + SN)]) (v4 := .slice (some ⟨g8, 0, none⟩) (S9.length + 1) cap8) (by rw [ws3_snoc, List.length_append]; exact hr8); have hq8 := ((HB9.out.alloc (.cells #[.int .i64 px, .int .i64 py, .int .i64 pz] 61)).alloc (.cells #[.int .i64 (px + SN), .int .i64 (py + SN), .int .i64 (pz + SN)] 61)).grown hg8 (fun e => own_blk_ne ((HI'.out.alloc (.cells #[.int .i64 px, .int .i64 py, .int .i64 pz] 61)).alloc (.cells #[.int .i64 (px + SN), .int .i64 (py + SN), .int .i64 (pz + SN)] 61)).rT ((HB9.out.alloc _).alloc _) (by decide) e.symm); obtain ⟨lx8, z0, q0, z1, q1⟩ := h9.1.two; have HF8 := Lib.hid h9.2; have HQ8 := Lib.hid (hq8.far (p := ⟨w.heap.size + 1, 1, none⟩) hq4 (.slice (some ⟨g8, 0, none⟩) (S9.length + 1) cap8)); clear hr8 hg8 hat8 hlt8 h9 hq8))
              go_wp2
              go_roundw
              case measure => simp [intOf]; omega
              case rel => exact ⟨j + 1, by omega, by go_num, _, by rw [HS9.out]; exact HF8.out, HQ8.out⟩
            · obtain rfl : j = nT := by omega
              have hI2 := (show JnSt w wx w.heap.size (w.heap.size + 1) SN (ST ++ T.map (shT SN)) vS' from by
                rw [List.take_of_length_le (by rw [HnT.out]; exact Nat.le_refl _)] at hI'
                exact hI')
              have hb2 := hb8
              clear hI' hb8
              obtain ⟨l4', y0, f0, y1, f1⟩ := hI2.k4.two
              obtain ⟨lq', x0', g0', x1', g1'⟩ := hb2.two
              have HI2 := Lib.hid (hI2.setN (N' := SN + N))
              clear hI2 hb2 HIa HB8 HI HRd
              go_wp2
              go_roundw
              case measure => simp [intOf]; omega
              case rel => exact ⟨k + 1, by omega, by go_num, _, by rw [HS1.out, HJ.out]; exact HI2.out⟩
        · obtain rfl : k = n := by omega
          have hI : JnSt w wr w.heap.size (w.heap.size + 1) (joinM l).1 (joinM l).2 vS := by
            rw [List.take_of_length_le (by rw [Hn.out]; exact Nat.le_refl _)] at hI
            exact hI
          obtain ⟨aS, cS, rfl⟩ := ownsRow_slice hI.rT
          have HI := Lib.hid hI
          obtain ⟨l4, y0, f0, y1, f1⟩ := hI.k4.two
          obtain ⟨l2, z0, q0, z1, q1⟩ := hI.k2.two
          have hB2 := (hI.k2.set_ 0 (.int .i64 (joinM l).1)).set_ 1 (.slice aS (joinM l).2.length cS)
          have HF := Lib.hid (And.intro (show Blk _ w.heap.size 24 #[.int .i64 (joinM l).1, .slice aS (joinM l).2.length cS] from by simpa using hB2) (And.intro (own_alloc_st (i := 1) (u := .slice aS (joinM l).2.length cS) (own_alloc_st (i := 0) (u := .int .i64 (joinM l).1) hI.rT hI.k2 (by decide)) (hI.k2.set_ 0 (.int .i64 (joinM l).1)) (by decide)) ((hI.bel.setCell (p := ⟨w.heap.size, 0, none⟩) (Nat.le_refl _) (.int .i64 (joinM l).1)).setCell (p := ⟨w.heap.size, 1, none⟩) (Nat.le_refl _) (.slice aS (joinM l).2.length cS))))
          clear hI hB2
          go_wp2
          obtain ⟨hb2, hr2, hbel⟩ := HF.out
          obtain ⟨-, p0, -, p1, -⟩ := hb2.two
          refine bodyPost_ret (v := .tuple #[.agg #[.int .i64 (joinM l).1, .slice aS (joinM l).2.length cS], .int .i64 0]) (by simp [results, Try.results10, go_sem, p0, p1]) rfl ?_
          exact ⟨_, rfl, hr2, hbel⟩
end Go.Proofs.Ytpnkhgjjlionnaa
namespace Go.Proofs.Ytpnkhgjjlionnaa
open Go.RowKit Go.Sort

def encO : Option RcV → List Value
  | none => [.slice none 0 0, .int .i64 0, .slice none 0 0, .slice none 0 0, .slice none 0 0, .slice none 0 0]
  | some x => x.enc
theorem encO_len (o : Option RcV) : (encO o).length = 6 := by cases o <;> rfl
theorem made_rc (n : Nat) : (madeCells (Value.agg #[.slice none 0 0, .int .i64 0, .slice none 0 0, .slice none 0 0, .slice none 0 0, .slice none 0 0]).cells (n * 6)).toList = (List.replicate n (none : Option RcV)).flatMap encO := by
  apply List.ext_getElem?
  intro j
  by_cases hj : j < n * 6
  · rw [flatMap_at encO_len (by decide) _ j (by simpa using hj)]
    have h3 : j / 6 < n := by omega
    have e : (List.replicate n (none : Option RcV))[j / 6]! = none := by rw [getElem!_pos _ _ (by simpa using h3)]; simp
    rw [e]
    have hz : (Value.agg #[.slice none 0 0, .int .i64 0, .slice none 0 0, .slice none 0 0, .slice none 0 0, .slice none 0 0]).cells = #[.slice none 0 0, .int .i64 0, .slice none 0 0, .slice none 0 0, .slice none 0 0, .slice none 0 0] := rfl
    rw [hz]
    unfold madeCells
    simp only [Array.getElem?_toList, Array.getElem?_map, Array.getElem?_range, hj, if_true, Option.map_some]
    show some (_[j % 6]!) = _
    rcases (by omega : j % 6 = 0 ∨ j % 6 = 1 ∨ j % 6 = 2 ∨ j % 6 = 3 ∨ j % 6 = 4 ∨ j % 6 = 5) with e | e | e | e | e | e <;> rw [e] <;> rfl
  · rw [List.getElem?_eq_none (by rw [Array.length_toList, size_madeCells]; omega), List.getElem?_eq_none (by rw [flatMap_len encO_len]; simp; omega)]
/-- Six cells behind one another are stored. -/
def set6a (w : World) (b i : Nat) (y0 y1 y2 y3 y4 y5 : Value) : World := (((((w.setCell ⟨b, i, none⟩ y0).setCell ⟨b, i + 1, none⟩ y1).setCell ⟨b, i + 2, none⟩ y2).setCell ⟨b, i + 3, none⟩ y3).setCell ⟨b, i + 4, none⟩ y4).setCell ⟨b, i + 5, none⟩ y5
theorem flat_set {xs : List (Option RcV)} {n : Nat} (hn : n < xs.length) (x : RcV) :
    ((((((xs.flatMap encO).set (n * 6) x.vR).set (n * 6 + 1) (.int .i64 x.N)).set (n * 6 + 2) x.vT).set (n * 6 + 3) x.vP).set (n * 6 + 4) x.vK).set (n * 6 + 5) x.vO = (xs.set n (some x)).flatMap encO := by
  obtain ⟨a, ha⟩ : ∃ a, xs[n] = a := ⟨_, rfl⟩
  have e1 : xs = xs.take n ++ a :: xs.drop (n + 1) := by
    rw [← ha, List.getElem_cons_drop, List.take_append_drop]
  have e2 : xs.set n (some x) = xs.take n ++ some x :: xs.drop (n + 1) := by rw [List.set_eq_take_append_cons_drop, if_pos hn]
  have hA : ((xs.take n).flatMap encO).length = n * 6 := by rw [flatMap_len encO_len, List.length_take]; congr 1; omega
  rw [e2]
  conv => lhs; rw [e1]
  simp only [List.flatMap_append, List.flatMap_cons]
  generalize (xs.take n).flatMap encO = A at *
  generalize (xs.drop (n + 1)).flatMap encO = B at *
  obtain ⟨a0, a1, a2, a3, a4, a5, he⟩ : ∃ a0 a1 a2 a3 a4 a5, encO a = [a0, a1, a2, a3, a4, a5] := by
    cases a with
    | none => exact ⟨_, _, _, _, _, _, rfl⟩
    | some y => exact ⟨_, _, _, _, _, _, rfl⟩
  rw [he, ← hA]
  have hx : encO (some x) = [x.vR, .int .i64 x.N, x.vT, x.vP, x.vK, x.vO] := rfl
  rw [hx]
  rw [List.set_append_right _ _ (by omega), List.set_append_right _ _ (by omega), List.set_append_right _ _ (by omega), List.set_append_right _ _ (by omega), List.set_append_right _ _ (by omega), List.set_append_right _ _ (by omega)]
  simp [Nat.add_sub_cancel_left]
theorem blk_set6a {W : World} {b : Nat} {xs : List (Option RcV)} (h : Blk W b 142 (xs.flatMap encO).toArray) {n : Nat} (hn : n < xs.length) (x : RcV) : Blk (set6a W b (n * 6) x.vR (.int .i64 x.N) x.vT x.vP x.vK x.vO) b 142 ((xs.set n (some x)).flatMap encO).toArray := by
  have h2 := (((((h.set_ (n * 6) x.vR).set_ (n * 6 + 1) (.int .i64 x.N)).set_ (n * 6 + 2) x.vT).set_ (n * 6 + 3) x.vP).set_ (n * 6 + 4) x.vK).set_ (n * 6 + 5) x.vO
  rw [← flat_set hn x]
  unfold set6a
  simpa using h2
theorem grown_set6a (W : World) (b i : Nat) (y0 y1 y2 y3 y4 y5 : Value) : W.grownBy (set6a W b i y0 y1 y2 y3 y4 y5) (some b) :=
  gStR (gStR (gStR (gStR (gStR (gStR (World.grownBy.refl _ _))))))
/-- Records, some of them none yet. -/
def BestO (W : World) (base b : Nat) (l : List (Option RecM)) : Prop := ∃ xs : List (Option RcV), xs.map (Option.map (·.m)) = l ∧ (∀ x, some x ∈ xs → RecOwn W base x.enc.toArray x.m) ∧ Blk W b 142 (xs.flatMap encO).toArray
structure StF (w1 W : World) (b : Nat) (vO : Value) (out : List Int) (l : List (Option RecM)) : Prop where
  best : BestO W w1.heap.size b l
  row : W.ownsRow w1.heap.size 3 1 vO out.length (intsV out)
  bel : Below w1.heap.size w1 W
  le : w1.heap.size ≤ b
section
variable {w1 W W' : World} {b : Nat} {vO : Value} {out : List Int} {l : List (Option RecM)}
theorem StF.below (h : StF w1 W b vO out l) (hb : Below W.heap.size W W') : StF w1 W' b vO out l := by
  obtain ⟨xs, h1, h2, h3⟩ := h.best
  exact ⟨⟨xs, h1, fun x hx => (h2 x hx).below hb, h3.below hb h3.lt⟩, own_below h.row hb, h.bel.trans (hb.mono h.bel.size), h.le⟩
theorem StF.put (h : StF w1 W b vO out l) {n : Nat} (hn : n < l.length) {x : RcV} (hx : RecOwn W w1.heap.size x.enc.toArray x.m) : StF w1 (set6a W b (n * 6) x.vR (.int .i64 x.N) x.vT x.vP x.vK x.vO) b vO out (l.set n (some x.m)) := by
  obtain ⟨xs, h1, h2, h3⟩ := h.best
  have hl : n < xs.length := by rw [← h1] at hn; simpa using hn
  have hg := grown_set6a W b (n * 6) x.vR (.int .i64 x.N) x.vT x.vP x.vK x.vO
  refine ⟨⟨xs.set n (some x), ?_, ?_, blk_set6a h3 hl x⟩, h.row.kept hg (.inr (own_blk_ne h.row h3 (by decide))), h.bel.grown hg h.bel.size (fun j e => by cases e; exact h.le), h.le⟩
  · rw [List.map_set, h1]
    rfl
  · intro y hy
    rcases List.mem_or_eq_of_mem_set hy with hy | hy
    · exact (h2 y hy).kept h3 hg
    · rw [Option.some.inj hy]
      exact hx.kept h3 hg
/-- What is read of the n-th: its row; its cells can be written. -/
theorem StF.get (h : StF w1 W b vO out l) {n : Nat} {o : Option RecM} (hn : l[n]? = some o) : (∀ i, W.frozen? ⟨b, i, none⟩ = false) ∧ (∀ i, i < 6 → ∃ u, W.cell? ⟨b, n * 6 + i, none⟩ = some u) ∧ (match o with
    | none => W.cell? ⟨b, n * 6, none⟩ = some (.slice none 0 0)
    | some r => ∃ a c, W.cell? ⟨b, n * 6, none⟩ = some (.slice a r.row.length c) ∧ W.ownsRow w1.heap.size 3 1 (.slice a r.row.length c) r.row.length (intsV r.row)) := by
  obtain ⟨xs, h1, h2, h3⟩ := h.best
  rw [← h1, List.getElem?_map] at hn
  obtain ⟨y, hy, hyo⟩ := Option.map_eq_some_iff.1 hn
  have hl : n < xs.length := (List.getElem?_eq_some_iff.1 hy).1
  have hc : ∀ i, i < 6 → W.cell? ⟨b, n * 6 + i, none⟩ = some (encO y)[i]! := by
    intro i hi
    rw [h3.cell]
    rw [List.getElem?_toArray, flatMap_at encO_len (by decide) xs (n * 6 + i) (by omega)]
    have e1 : (n * 6 + i) / 6 = n := by omega
    have e2 : (n * 6 + i) % 6 = i := by omega
    rw [e1, e2, getElem!_pos xs n hl]
    rw [List.getElem?_eq_getElem hl] at hy
    rw [Option.some.inj hy]
  refine ⟨fun i => h3.frozen i, fun i hi => ⟨_, hc i hi⟩, ?_⟩
  subst hyo
  have h0 := hc 0 (by decide)
  rw [Nat.add_zero] at h0
  cases y with
  | none => exact h0
  | some x =>
    obtain ⟨vR, vT, vP, vK, vO', e, g1, -⟩ := h2 x (List.mem_of_getElem? hy)
    obtain ⟨a, c, rfl⟩ := ownsRow_slice g1
    have e2 : x.enc = [.slice a x.m.row.length c, .int .i64 x.m.N, vT, vP, vK, vO'] := by simpa using congrArg Array.toList e
    refine ⟨a, c, ?_, g1⟩
    rw [h0]
    show some ((x.enc)[0]!) = _
    rw [e2]
    rfl
theorem StF.all (h : StF w1 W b vO out l) {rs : List RecM} (hl : l = rs.map some) (hm : rs.length * 6 ≤ maxLen) : Recs W w1.heap.size b rs := by
  obtain ⟨xs, h1, h2, h3⟩ := h.best
  subst hl
  have key : ∀ (xs : List (Option RcV)) (rs : List RecM), xs.map (Option.map (·.m)) = rs.map some → ∃ ys : List RcV, xs = ys.map some ∧ ys.map (·.m) = rs := by
    intro xs
    induction xs with
    | nil =>
      intro rs e
      cases rs with
      | nil => exact ⟨[], rfl, rfl⟩
      | cons r s => simp at e
    | cons a t ih =>
      intro rs e
      cases rs with
      | nil => simp at e
      | cons r s =>
        simp only [List.map_cons, List.cons.injEq] at e
        obtain ⟨ys, e1, e2⟩ := ih s e.2
        obtain ⟨x, hx, hx2⟩ := Option.map_eq_some_iff.1 e.1
        exact ⟨x :: ys, by rw [hx, e1]; rfl, by rw [List.map_cons, hx2, e2]⟩
  obtain ⟨ys, rfl, e2⟩ := key xs rs h1
  refine ⟨h.le, hm, ys, e2, fun x hx => h2 x (List.mem_map.2 ⟨x, hx, rfl⟩), ?_⟩
  rw [List.flatMap_map] at h3
  exact h3
end
theorem StF.first {w1 W : World} {b m : Nat} {vO : Value} {out : List Int} (hb : W.ownsRow w1.heap.size 142 6 (.slice (some ⟨b, 0, none⟩) m m) m ((List.replicate m (none : Option RcV)).flatMap encO)) (hr : W.ownsRow w1.heap.size 3 1 vO out.length (intsV out)) (hbel : Below w1.heap.size w1 W) : StF w1 W b vO out (List.replicate m none) :=
  ⟨⟨List.replicate m none, by simp, fun x hx => absurd (List.eq_of_mem_replicate hx) (by simp), owns_blk hb⟩, hr, hbel, (hb.lt b rfl).1⟩

/-- While it appends: the body's block, the soups, the paint, the sides, the old numbers. -/
structure AcF (w5 W : World) (bx : Nat) (ys : List RcV) (P : List Tr) (K O : List Int) (vA vP vK vO : Value) : Prop where
  kx : Blk W bx 98 #[.int .i64 0, .slice none 0 0, vP, vK]
  rA : W.ownsRow w5.heap.size 24 2 vA ys.length (ys.flatMap fun x => [.int .i64 x.N, x.vT])
  rP : W.ownsRow w5.heap.size 162 3 vP P.length (ws3 P)
  rK : W.ownsRow w5.heap.size 3 1 vK K.length (intsV K)
  rO : W.ownsRow w5.heap.size 3 1 vO O.length (intsV O)
  ne : ∀ j, vK.ownBlock = some j → vO.ownBlock ≠ some j
  bel : Below w5.heap.size w5 W
  le : w5.heap.size ≤ bx
section
variable {w5 W W' w4 : World} {bx : Nat} {ys : List RcV} {P : List Tr} {K O : List Int} {vA vP vK vO v4 : Value}
theorem AcF.below (h : AcF w5 W bx ys P K O vA vP vK vO) (hb : Below W.heap.size W W') : AcF w5 W' bx ys P K O vA vP vK vO :=
  ⟨h.kx.below hb h.kx.lt, own_below h.rA hb, own_below h.rP hb, own_below h.rK hb, own_below h.rO hb, h.ne, h.bel.trans (hb.mono h.bel.size), h.le⟩
theorem AcF.alloc (h : AcF w5 W bx ys P K O vA vP vK vO) (o : Obj) : AcF w5 (W.alloc o) bx ys P K O vA vP vK vO := h.below ((Below.refl _ _).alloc (Nat.le_refl _) _)
theorem AcF.appA (h : AcF w5 W bx ys P K O vA vP vK vO) (hg : W.grownBy w4 vA.ownBlock) {ys4 : List RcV} (hr : w4.ownsRow w5.heap.size 24 2 v4 ys4.length (ys4.flatMap fun x => [.int .i64 x.N, x.vT])) : AcF w5 w4 bx ys4 P K O v4 vP vK vO :=
  ⟨h.kx.grown hg (fun e => own_blk_ne h.rA h.kx (by decide) e.symm), hr, h.rP.kept hg (own_own_ne h.rP h.rA (by decide)), h.rK.kept hg (own_own_ne h.rK h.rA (by decide)), h.rO.kept hg (own_own_ne h.rO h.rA (by decide)), h.ne, h.bel.grown hg h.bel.size (fun j e => (h.rA.lt j e).1), h.le⟩
theorem AcF.appP (h : AcF w5 W bx ys P K O vA vP vK vO) (hg : W.grownBy w4 vP.ownBlock) {P4 : List Tr} (hr : w4.ownsRow w5.heap.size 162 3 v4 P4.length (ws3 P4)) :
    Blk w4 bx 98 #[.int .i64 0, .slice none 0 0, vP, vK] ∧ AcF w5 (w4.setCell ⟨bx, 2, none⟩ v4) bx ys P4 K O vA v4 vK vO := by
  have c := h.kx.grown hg (fun e => own_blk_ne h.rP h.kx (by decide) e.symm)
  have hS : w4.grownBy (w4.setCell ⟨bx, 2, none⟩ v4) (some bx) := gStR (World.grownBy.refl _ _)
  have a4 := h.rA.kept hg (own_own_ne h.rA h.rP (by decide))
  have k4 := h.rK.kept hg (own_own_ne h.rK h.rP (by decide))
  have o4 := h.rO.kept hg (own_own_ne h.rO h.rP (by decide))
  exact ⟨c, ⟨by simpa using c.set_ 2 v4, a4.kept hS (.inr (own_blk_ne a4 c (by decide))), hr.kept hS (.inr (own_blk_ne hr c (by decide))), k4.kept hS (.inr (own_blk_ne k4 c (by decide))), o4.kept hS (.inr (own_blk_ne o4 c (by decide))), h.ne, (h.bel.grown hg h.bel.size (fun j e => (h.rP.lt j e).1)).setCell h.le _, h.le⟩⟩
theorem AcF.appK (h : AcF w5 W bx ys P K O vA vP vK vO) (hg : W.grownBy w4 vK.ownBlock) {K4 : List Int} (hr : w4.ownsRow w5.heap.size 3 1 v4 K4.length (intsV K4)) (hat : v4.ownBlock = vK.ownBlock ∨ v4.ownBlock = some W.heap.size) :
    Blk w4 bx 98 #[.int .i64 0, .slice none 0 0, vP, vK] ∧ AcF w5 (w4.setCell ⟨bx, 3, none⟩ v4) bx ys P K4 O vA vP v4 vO := by
  have c := h.kx.grown hg (fun e => own_blk_ne h.rK h.kx (by decide) e.symm)
  have hS : w4.grownBy (w4.setCell ⟨bx, 3, none⟩ v4) (some bx) := gStR (World.grownBy.refl _ _)
  have a4 := h.rA.kept hg (own_own_ne h.rA h.rK (by decide))
  have p4 := h.rP.kept hg (own_own_ne h.rP h.rK (by decide))
  have o4 := h.rO.kept hg (by
    rcases hO : vO.ownBlock with _ | j
    · exact .inl rfl
    · exact .inr (fun e => h.ne j e.symm hO))
  refine ⟨c, ⟨by simpa using c.set_ 3 v4, a4.kept hS (.inr (own_blk_ne a4 c (by decide))), p4.kept hS (.inr (own_blk_ne p4 c (by decide))), hr.kept hS (.inr (own_blk_ne hr c (by decide))), o4.kept hS (.inr (own_blk_ne o4 c (by decide))), ?_, (h.bel.grown hg h.bel.size (fun j e => (h.rK.lt j e).1)).setCell h.le _, h.le⟩⟩
  intro j e e2
  rcases hat with h1 | h1
  · exact h.ne j (by rw [← h1]; exact e) e2
  · rw [h1] at e
    cases e
    have := (h.rO.lt _ e2).2
    omega
theorem AcF.appO (h : AcF w5 W bx ys P K O vA vP vK vO) (hg : W.grownBy w4 vO.ownBlock) {O4 : List Int} (hr : w4.ownsRow w5.heap.size 3 1 v4 O4.length (intsV O4)) (hat : v4.ownBlock = vO.ownBlock ∨ v4.ownBlock = some W.heap.size) : AcF w5 w4 bx ys P K O4 vA vP vK v4 := by
  refine ⟨h.kx.grown hg (fun e => own_blk_ne h.rO h.kx (by decide) e.symm), h.rA.kept hg (own_own_ne h.rA h.rO (by decide)), h.rP.kept hg (own_own_ne h.rP h.rO (by decide)), h.rK.kept hg (by
    rcases hK : vK.ownBlock with _ | j
    · exact .inl rfl
    · exact .inr (fun e => h.ne j hK e.symm)), hr, ?_, h.bel.grown hg h.bel.size (fun j e => (h.rO.lt j e).1), h.le⟩
  intro j e e2
  rcases hat with h1 | h1
  · exact h.ne j e (by rw [← h1]; exact e2)
  · rw [h1] at e2
    cases e2
    have := (h.rK.lt _ e).2
    omega
end
end Go.Proofs.Ytpnkhgjjlionnaa
namespace Go.Proofs.Ytpnkhgjjlionnaa
open Go.RowKit Go.Maps

theorem infoPt : (Try.prog.info? 162).map (fun i => (i.zero, i.size, i.bytes)) = some (some (.agg #[.int .i64 0, .int .i64 0, .int .i64 0]), 3, 24) := by kernel_rfl
theorem intsV_three (R : List Int) (x y z : Int) : intsV (R ++ [x, y, z]) = intsV R ++ [.int .i64 x, .int .i64 y, .int .i64 z] := by simp [intsV]
theorem intsV_one1 (R : List Int) (x : Int) : intsV (R ++ [x]) = intsV R ++ [.int .i64 x] := by simp [intsV]
theorem own_len1 {W : World} {base : Nat} {v : Value} {R : List Int} {x : Int} {us : List Value} (e : intsV (R ++ [x]) = us) (h : W.ownsRow base 3 1 v (R.length + 1) us) : W.ownsRow base 3 1 v (R ++ [x]).length (intsV (R ++ [x])) := by
  rw [e, List.length_append]
  exact h
theorem ne_new {v : Value} {q g n : Nat} (h : v.ownBlock ≠ some q) (hat : v.ownBlock = some g ∨ g = n) (hq : q < n) {k c : Nat} : (Value.slice (some ⟨g, 0, none⟩) k c).ownBlock ≠ some q := by
  intro e
  have e2 : g = q := by simpa [Value.ownBlock] using e
  subst e2
  rcases hat with h2 | h2
  · exact h h2
  · omega
theorem far_q {W : World} {x q : Nat} {cs ds : Array Value} (hx : Blk W x 142 cs) (hq : Blk W q 3 ds) (i : Nat) (u : Value) : Blk (W.setCell ⟨x, i, none⟩ u) q 3 ds :=
  hq.far (p := ⟨x, i, none⟩) (fun e => hx.ne_ hq (by decide) e.symm) u
theorem own_len3 {W : World} {base : Nat} {v : Value} {R : List Int} {x y z : Int} {us : List Value} (e : intsV (R ++ [x, y, z]) = us) (h : W.ownsRow base 3 1 v (R.length + 3) us) : W.ownsRow base 3 1 v (R ++ [x, y, z]).length (intsV (R ++ [x, y, z])) := by
  rw [e, List.length_append]
  exact h
theorem or_le {A : Prop} {g n : Nat} (h : A ∨ g = n) : A ∨ n ≤ g := h.imp id (fun e => by rw [e]; exact Nat.le_refl _)
theorem fourF {w : World} {b : Nat} {t : TypeId} {x0 x1 x2 x3 : Value} (h : Blk w b t #[x0, x1, x2, x3]) : b < w.heap.size ∧ w.cell? ⟨b, 0, none⟩ = some x0 ∧ w.cell? ⟨b, 1, none⟩ = some x1 ∧ w.cell? ⟨b, 2, none⟩ = some x2 ∧ w.cell? ⟨b, 3, none⟩ = some x3 :=
  ⟨h.lt, h.cell 0, h.cell 1, h.cell 2, h.cell 3⟩
theorem sixF {w : World} {b : Nat} {t : TypeId} {x0 x1 x2 x3 x4 x5 : Value} (h : Blk w b t #[x0, x1, x2, x3, x4, x5]) : b < w.heap.size ∧ w.cell? ⟨b, 0, none⟩ = some x0 ∧ w.frozen? ⟨b, 0, none⟩ = false ∧ w.cell? ⟨b, 1, none⟩ = some x1 ∧ w.frozen? ⟨b, 1, none⟩ = false ∧ w.cell? ⟨b, 2, none⟩ = some x2 ∧ w.frozen? ⟨b, 2, none⟩ = false ∧ w.cell? ⟨b, 3, none⟩ = some x3 ∧ w.frozen? ⟨b, 3, none⟩ = false ∧ w.cell? ⟨b, 4, none⟩ = some x4 ∧ w.frozen? ⟨b, 4, none⟩ = false ∧ w.cell? ⟨b, 5, none⟩ = some x5 ∧ w.frozen? ⟨b, 5, none⟩ = false :=
  ⟨h.lt, h.cell 0, h.frozen 0, h.cell 1, h.frozen 1, h.cell 2, h.frozen 2, h.cell 3, h.frozen 3, h.cell 4, h.frozen 4, h.cell 5, h.frozen 5⟩
section
variable {w w0 : World} {b : Nat} {t : TypeId} {x0 x1 x2 x3 x4 x5 : Value} (y0 y1 y2 y3 y4 y5 : Value)
/-- Six cells are stored, one behind the other. -/
def set6 (w : World) (b : Nat) (y0 y1 y2 y3 y4 y5 : Value) : World := (((((w.setCell ⟨b, 0, none⟩ y0).setCell ⟨b, 1, none⟩ y1).setCell ⟨b, 2, none⟩ y2).setCell ⟨b, 3, none⟩ y3).setCell ⟨b, 4, none⟩ y4).setCell ⟨b, 5, none⟩ y5
theorem blk_set6 (h : Blk w b t #[x0, x1, x2, x3, x4, x5]) : Blk (set6 w b y0 y1 y2 y3 y4 y5) b t #[y0, y1, y2, y3, y4, y5] := by
  have := (((((h.set_ 0 y0).set_ 1 y1).set_ 2 y2).set_ 3 y3).set_ 4 y4).set_ 5 y5
  simpa [set6] using this
theorem own_set6 {base n s : Nat} {e : TypeId} {v : Value} {xs : List Value} (hr : w.ownsRow base e s v n xs) (h : Blk w b t #[x0, x1, x2, x3, x4, x5]) (hne : e ≠ t) : (set6 w b y0 y1 y2 y3 y4 y5).ownsRow base e s v n xs :=
  own_alloc_st (own_alloc_st (own_alloc_st (own_alloc_st (own_alloc_st (own_alloc_st hr h hne) (h.set_ 0 y0) hne) ((h.set_ 0 y0).set_ 1 y1) hne) (((h.set_ 0 y0).set_ 1 y1).set_ 2 y2) hne) ((((h.set_ 0 y0).set_ 1 y1).set_ 2 y2).set_ 3 y3) hne) (((((h.set_ 0 y0).set_ 1 y1).set_ 2 y2).set_ 3 y3).set_ 4 y4) hne
theorem below_set6 {B : Nat} (h : Below B w0 w) (hb : B ≤ b) : Below B w0 (set6 w b y0 y1 y2 y3 y4 y5) :=
  (((((h.setCell (p := ⟨b, 0, none⟩) hb y0).setCell (p := ⟨b, 1, none⟩) hb y1).setCell (p := ⟨b, 2, none⟩) hb y2).setCell (p := ⟨b, 3, none⟩) hb y3).setCell (p := ⟨b, 4, none⟩) hb y4).setCell (p := ⟨b, 5, none⟩) hb y5
end
set_option maxRecDepth 100000 in
set_option maxHeartbeats 4000000 in
theorem from_any (g : Nat) (N : Int) (T : List Tr) (w : World) (c : Nat) (bN : Int) (bT bP bK : Value) (P : List Tr) (K : List Int) (hbT : ∃ a n m, bT = .slice a n m) (hP : TrisRd w bP P) (hK : IntsRd w bK K) (hT : Tab w g N T) (hc : c < 3 * T.length)
    (hPl : P ≠ [] → (P.length : Int) = N) (hKl : K ≠ [] → K.length = 3 * T.length) :
    Calls Try.prog 84 #[.pointer (some ⟨g, 0, none⟩), .agg #[.int .i64 bN, bT, bP, bK], .int .i64 (c : Int)] w fun e w' => ∃ cs, e = .returned (.agg cs) ∧ RecOwn w' w.heap.size cs (fromM T P K c) ∧ Below w.heap.size w w' := by
  obtain ⟨aB, nB, mB, rfl⟩ := hbT
  have HPr := Lib.hid (fun (W : World) (hW : Below w.heap.size w W) => hP.below hW)
  have HKr := Lib.hid (fun (W : World) (hW : Below w.heap.size w W) => hK.below hW)
  obtain ⟨aP, cP, rfl, hcP, hcP2, -⟩ := hP
  obtain ⟨aK, cK, rfl, hcK, -⟩ := hK
  obtain ⟨nP, hnP⟩ : ∃ nP, P.length = nP := ⟨_, rfl⟩
  obtain ⟨nK, hnK⟩ : ∃ nK, K.length = nK := ⟨_, rfl⟩
  rw [hnP] at hcP HPr hPl ⊢
  rw [hnK] at hcK HKr hKl ⊢
  have HnP := Lib.hid hnP
  have HnK := Lib.hid hnK
  clear hnP hnK
  have hB0 : Below w.heap.size w ((w.alloc (.cells #[.int .i64 bN, .slice aB nB mB, .slice aP nP cP, .slice aK nK cK] 98)).alloc (.cells #[.slice none 0 0, .int .i64 0, .slice none 0 0, .slice none 0 0, .slice none 0 0, .slice none 0 0] 142)) := ((Below.refl _ _).alloc (Nat.le_refl _) _).alloc (by simp) _
  have bb := (Blk.new w 98 #[.int .i64 bN, .slice aB nB mB, .slice aP nP cP, .slice aK nK cK]).alloc (.cells #[.slice none 0 0, .int .i64 0, .slice none 0 0, .slice none 0 0, .slice none 0 0, .slice none 0 0] 142)
  have br : Blk ((w.alloc (.cells #[.int .i64 bN, .slice aB nB mB, .slice aP nP cP, .slice aK nK cK] 98)).alloc (.cells #[.slice none 0 0, .int .i64 0, .slice none 0 0, .slice none 0 0, .slice none 0 0, .slice none 0 0] 142)) (w.heap.size + 1) 142 #[.slice none 0 0, .int .i64 0, .slice none 0 0, .slice none 0 0, .slice none 0 0, .slice none 0 0] := blk_new_at (by simp)
  have HR := Lib.hid (rooted_any g N T _ c (hT.below hB0) hc)
  have HT := Lib.hid (fun (W : World) (hW : Below w.heap.size w W) => hT.below hW)
  have HIn := Lib.hid (fun (d : Nat) (hd : d < 3 * T.length) => vertN_in hT.inr hd)
  obtain ⟨hn2, hn3, hn4⟩ := rtN_lens hc
  have hTl := hT.len
  have HN2 := Lib.hid hn2
  clear hn2
  have HPl := Lib.hid hPl
  have HKl := Lib.hid hKl
  have HB := Lib.hid hB0
  have HBb := Lib.hid bb
  have HBr := Lib.hid br
  clear hB0 hT hPl hKl bb br
  go_enter Try.func84, Try.ntmps84
  go_wp2_with (go_at_call 28; go_loud (refine HR.out.mono ?_; rintro e w1 ⟨vT, vO, vC, rfl, hrT, hrO, hrC, hb1⟩; have hHRT : TrisRd w1 vT (rtN T c).2 := TrisRd.of_row hrT; have HRW := Lib.hid (fun (W : World) (hW : Below w1.heap.size w1 W) => row_any ((rtN T c).1.length : Int) vT (rtN T c).2 W (hHRT.below hW) (by have := HN2.out; omega)); obtain ⟨aT, cT, rfl⟩ := ownsRow_slice hrT; obtain ⟨aO, cO, rfl⟩ := ownsRow_slice hrO; obtain ⟨aC, cC, rfl⟩ := ownsRow_slice hrC))
  obtain ⟨nT, hnT⟩ : ∃ nT, (rtN T c).2.length = nT := ⟨_, rfl⟩
  obtain ⟨nO, hnO⟩ : ∃ nO, (rtN T c).1.length = nO := ⟨_, rfl⟩
  obtain ⟨nC, hnC⟩ : ∃ nC, (rtL T c).length = nC := ⟨_, rfl⟩
  have hn2 := HN2.out
  rw [hnT] at hrT HRW hn2 ⊢
  rw [hnO] at hrO HRW hn4 ⊢
  rw [hnC] at hrC hn2 hn3 ⊢
  have bs := Blk.new w1 24 #[.int .i64 (nO : Int), .slice aT nT cT]
  obtain ⟨p7, s0, -, s1, -⟩ := bs.two
  have HBs := Lib.hid bs
  have HB1 := Lib.hid hb1
  have HBd := Lib.hid ((((Below.refl w1.heap.size w1).alloc (Nat.le_refl _) (.cells #[.int .i64 (nO : Int), .slice aT nT cT] 24)).drew))
  have HrT := Lib.hid hrT
  have HrO := Lib.hid hrO
  have HrC := Lib.hid hrC
  have HnT := Lib.hid hnT
  have HnO := Lib.hid hnO
  have HnC := Lib.hid hnC
  have hnTl : nT ≤ 8192 := by omega
  clear hrT hrO hrC hb1 hHRT bs hnT hnO hnC hn2
  have HBd2 := Lib.hid (((((Below.refl w1.heap.size w1).alloc (Nat.le_refl _) (.cells #[.int .i64 (nO : Int), .slice aT nT cT] 24)).alloc (by simp) (.cells #[.slice none 0 0, .int .i64 0, .slice none 0 0, .slice none 0 0, .slice none 0 0, .slice none 0 0] 142))).drew)
  have hbx : Blk (((w1.alloc (.cells #[.int .i64 (nO : Int), .slice aT nT cT] 24)).alloc (.cells #[.slice none 0 0, .int .i64 0, .slice none 0 0, .slice none 0 0, .slice none 0 0, .slice none 0 0] 142)).drew) (w1.heap.size + 1) 142 #[.slice none 0 0, .int .i64 0, .slice none 0 0, .slice none 0 0, .slice none 0 0, .slice none 0 0] := Blk.drew (blk_new_at (by simp))
  have HBx := Lib.hid hbx
  clear hbx
  go_cut [10] (fun v10 W => ∃ x vR, v10 = .pointer (some ⟨x, 0, none⟩) ∧ FrSt w1 W x (nO : Int) (.slice aT nT cT) (.slice aO nO cO) (rowM (nO : Int) (rtN T c).2) [] [] vR (.slice none 0 0) (.slice none 0 0))
  case first =>
    go_region_held3 (fun w' => w'.cell? ⟨w1.heap.size, 0, none⟩ = some (.int .i64 (nO : Int)) ∧ w'.cell? ⟨w1.heap.size, 1, none⟩ = some (.slice aT nT cT)) (go_keep)
      (first
      | (go_at_call 61; with_reducible refine (HRW.out _ HBd.out).mono ?_; rintro e wA ⟨vR, rfl, hA, hbA⟩; have hk := HBs.out.drew.below hbA HBs.out.drew.lt; obtain ⟨-, u0, -, u1, -⟩ := hk.two; obtain ⟨aR, cR, rfl⟩ := ownsRow_slice hA)
      | (go_at_call 61; go_loud (with_reducible refine (HRW.out _ HBd2.out).mono ?_); rintro e wA ⟨vR, rfl, hA, hbA⟩; have hk := (HBs.out.alloc (.cells #[.slice none 0 0, .int .i64 0, .slice none 0 0, .slice none 0 0, .slice none 0 0, .slice none 0 0] 142)).drew.below hbA (HBs.out.alloc _).drew.lt; obtain ⟨-, u0, -, u1, -⟩ := hk.two; have hkx := HBx.out.below hbA HBx.out.lt; obtain ⟨lx, y0, f0, y1, f1, y2, f2, y3, f3, y4, f4, y5, f5⟩ := sixF hkx; obtain ⟨aR, cR, rfl⟩ := ownsRow_slice hA))
    · go_wp2_with fail
      go_meet
      have hz := hbA.size
      have hb9 : Below w1.heap.size w1 wA := HBd.out.trans (hbA.mono HBd.out.size)
      exact ⟨wA.heap.size, _, rfl, Blk.new wA _ _, by rw [rowM_len, HnT.out]; exact (own_lower hA HBd.out.size).alloc _, World.ownsRow_nil _ _ _ _, World.ownsRow_nil _ _ _ _, fun j e => (by simp [Value.ownBlock]), hb9.alloc hb9.size _, hb9.size⟩
    · go_wp2_with fail
      go_meet
      have hb9 : Below w1.heap.size w1 wA := HBd2.out.trans (hbA.mono HBd2.out.size)
      exact ⟨w1.heap.size + 1, _, rfl, blk_set6 _ _ _ _ _ _ hkx, by have := own_set6 (.slice aR (2 + 3 * nT) cR) (.int .i64 (nO : Int)) (.slice aT nT cT) (.slice none 0 0) (.slice none 0 0) (.slice aO nO cO) (own_lower hA HBd2.out.size) hkx (by decide); rw [rowM_len, HnT.out]; exact this, World.ownsRow_nil _ _ _ _, World.ownsRow_nil _ _ _ _, fun j e => (by simp [Value.ownBlock]), below_set6 _ _ _ _ _ _ hb9 (by omega), by omega⟩
  case rest =>
    obtain ⟨x, vR, rfl, hF⟩ := hcut
    rename World => W2
    have HF := Lib.hid hF
    have HBb1 := Lib.hid (HBb.out.below HB1.out HBb.out.lt)
    have HB1b := Lib.hid (HB.out.trans (HB1.out.mono HB.out.size))
    have HBb2 := Lib.hid ((HBb.out.below HB1.out HBb.out.lt).below hF.bel (by have := HBb.out.lt; have := HB1.out.size; omega))
    obtain ⟨i2, hj2, hz0, hz1, hz2⟩ := info_parts infoInt
    obtain ⟨i3, hj3, hy0, hy1, hy2⟩ := info_parts infoPt
    have hxw := hF.xle
    have hw1 := HB1.out.size
    have hw1' : w.heap.size ≤ w1.heap.size := HB1b.out.size
    have hBb2 := HBb2.out
    obtain ⟨lb, b0, b1, b2, b3⟩ := fourF hBb2
    clear hF hBb2 HBd HBd2 HBx HBs p7 s0 s1
    go_upto_if 34 with (fail)
    go_cut [] (fun W => ∃ vR vP, FrSt w1 W x (nO : Int) (.slice aT nT cT) (.slice aO nO cO) (rowM (nO : Int) (rtN T c).2 ++ flatT (paintL P (rtN T c).1)) (paintL P (rtN T c).1) [] vR vP (.slice none 0 0))
    case first =>
      by_cases hP0 : P = []
      · have HF2 := Lib.hid (show FrSt w1 W2 x (nO : Int) (.slice aT nT cT) (.slice aO nO cO) (rowM (nO : Int) (rtN T c).2 ++ flatT (paintL P (rtN T c).1)) (paintL P (rtN T c).1) [] vR (.slice none 0 0) (.slice none 0 0) from by
          have e : paintL P (rtN T c).1 = [] := by unfold paintL; rw [if_pos hP0]
          rw [e]
          have e2 : rowM (nO : Int) (rtN T c).2 ++ flatT [] = rowM (nO : Int) (rtN T c).2 := by simp [flatT]
          rw [e2]
          exact HF.out)
        have h0 : nP = 0 := by rw [← HnP.out, hP0]; rfl
        subst h0
        clear hP0
        go_wp2
        go_meet
        exact ⟨_, _, HF2.out⟩
      · have hp0 : 0 < nP := by rw [← HnP.out]; exact List.length_pos_iff.2 hP0
        have HPN := Lib.hid (HPl.out hP0)
        have HP0 := Lib.hid hP0
        clear hP0
        have hdT : decide (0 < nP) = true := by simpa using hp0
        simp only [hdT]
        go_wp2
        clear b0 b1 b2 b3 lb hp0 hdT
        have HI0 := Lib.hid (show FrSt w1 W2 x (nO : Int) (.slice aT nT cT) (.slice aO nO cO) (rowM (nO : Int) (rtN T c).2 ++ flatT (paintF P ((rtN T c).1.take 0))) (paintF P ((rtN T c).1.take 0)) [] vR (.slice none 0 0) (.slice none 0 0) from by
          have e : paintF P ((rtN T c).1.take 0) = [] := rfl
          rw [e]
          have e2 : rowM (nO : Int) (rtN T c).2 ++ flatT [] = rowM (nO : Int) (rtN T c).2 := by simp [flatT]
          rw [e2]
          exact HF.out)
        go_loopw [37] (fun i wr => ∃ k : Nat, k ≤ nO ∧ i = .int .i64 k ∧ ∃ vR vP, FrSt w1 wr x (nO : Int) (.slice aT nT cT) (.slice aO nO cO) (rowM (nO : Int) (rtN T c).2 ++ flatT (paintF P ((rtN T c).1.take k))) (paintF P ((rtN T c).1.take k)) [] vR vP (.slice none 0 0)) (fun i _ => nO - (intOf i).toNat)
        case atStart => exact ⟨0, Nat.zero_le _, rfl, _, _, HI0.out⟩
        case round =>
          rename World => wr
          obtain ⟨k, hk, rfl, vR', vP, hI⟩ := hrel
          by_cases hlt : k < nO
          · have hkO : k < (rtN T c).1.length := by rw [HnO.out]; exact hlt
            obtain ⟨d, hd1, hd2⟩ := rtN_in hc (List.getElem_mem hkO)
            have hb9 := hI.bel
            have hrO := own_below HrO.out hb9
            obtain ⟨gO, capO, eO, -, -⟩ := hrO.form (by omega)
            cases eO
            obtain ⟨vn, hvn⟩ : ∃ vn : Nat, (rtN T c).1[k] = (vn : Int) := ⟨((rtN T c).1[k]).toNat, by have h9 := HIn.out d hd1; rw [hd2]; omega⟩
            have hvP : vn < nP := by have h9 := HIn.out d hd1; have h8 := HPN.out; omega
            have hcO : wr.cell? ⟨gO, k, none⟩ = some (.int .i64 (vn : Int)) := by
              rw [hrO.cellAt k (by omega)]
              unfold intsV
              rw [List.getElem?_map, List.getElem?_eq_getElem hkO, hvn]
              rfl
            obtain ⟨⟨px, py, pz⟩, hp⟩ : ∃ q, P[vn]? = some q := ⟨P[vn]'(by rw [HnP.out]; exact hvP), List.getElem?_eq_getElem _⟩
            have hPr := HPr.out wr (HB1b.out.trans (hb9.mono HB1b.out.size))
            obtain ⟨a', c', e', -, -, hr3⟩ := hPr
            rw [HnP.out] at e'
            cases e'
            obtain ⟨bP, oP, rfl, hbP, s0, s1, s2⟩ := hr3 vn px py pz hp
            have HTk := Lib.hid (paintF_take (P := P) (old := (rtN T c).1) (k := k) (v := (vn : Int)) (by rw [List.getElem?_eq_getElem hkO, hvn]))
            have Hp := Lib.hid (show P.getD ((vn : Int)).toNat (0, 0, 0) = (px, py, pz) from by simp [List.getD, hp])
            obtain ⟨Pk, hPk⟩ : ∃ Pk, paintF P ((rtN T c).1.take k) = Pk := ⟨_, rfl⟩
            obtain ⟨Rk, hRk⟩ : ∃ Rk, rowM (nO : Int) (rtN T c).2 ++ flatT Pk = Rk := ⟨_, rfl⟩
            have HLk := Lib.hid (show Pk.length = k ∧ Rk.length ≤ 200000 from by
              have e1 : Pk.length = k := by rw [← hPk, paintF_len, List.length_take]; omega
              refine ⟨e1, ?_⟩
              rw [← hRk, List.length_append, rowM_len, flatT_length, e1]
              have := HnT.out
              omega)
            rw [hPk] at hI HTk
            rw [hRk] at hI
            rw [Hp.out] at HTk
            have HRk := Lib.hid hRk
            obtain ⟨lb, b0, b1, b2, b3⟩ := fourF (HBb1.out.below hb9 HBb1.out.lt)
            obtain ⟨lx, y0, f0, y1, f1, y2, f2, y3, f3, y4, f4, y5, f5⟩ := sixF hI.bx
            have hvP' : (vn : Int) < (nP : Int) := by omega
            have hz9 := hb9.size
            have hltP := hI.rP.lt
            have HltP := Lib.hid hltP
            have HI := Lib.hid hI
            have hki : (k : Int) < (nO : Int) := by omega
            clear hI hrO hd2 hd1 hPk hRk hp hltP hr3 hb9 hvn hkO
            go_upto_region 8 with fail
            go_upto_region 9 with (first
              | (at_builtin; go_loud (refine wpList_append_lies _ rfl (.tmp 48) (.tmp 50) 96 rfl w1.heap.size 162 i3 _ 3 24 Try.underlying96 hj3 hy0 hy1 hy2 rfl (by decide) _ _ _ rfl ((HI.out.alloc (.cells #[.int .i64 px, .int .i64 py, .int .i64 pz] 162)).alloc (.cells #[.int .i64 px, .int .i64 py, .int .i64 pz] 162)).rP ⟨wr.heap.size + 1, 0, none⟩ 1 1 [.int .i64 px, .int .i64 py, .int .i64 pz] rfl rfl (World.news_of_block (blk_new_at (by simp))) (by simp [Value.oneCell']) (by decide) (by have := HLk.out; unfold maxLen; omega) (by have := HLk.out; omega) (by simp; omega) (wr.heap.size + 1 + 1) (by simp) ?_); intro g8 cap8 W8 hr8 hg8 hat8 hlt8; have h9 := ((HI.out.alloc (.cells #[.int .i64 px, .int .i64 py, .int .i64 pz] 162)).alloc (.cells #[.int .i64 px, .int .i64 py, .int .i64 pz] 162)).appP hg8 (P4 := Pk ++ [(px, py, pz)]) (by rw [ws3_snoc, List.length_append]; exact hr8); obtain ⟨lx8, z0, q0, z1, q1, z2, q2, z3, q3, z4, q4, z5, q5⟩ := sixF h9.1; have HF8 := Lib.hid h9.2; have hBx8 := h9.1; have hpt8 := ((Blk.new wr 162 #[.int .i64 px, .int .i64 py, .int .i64 pz]).alloc (.cells #[.int .i64 px, .int .i64 py, .int .i64 pz] 162)).grown hg8 (fun e => by have := (HltP.out _ e.symm).2; omega); have HPt8 := Lib.hid hpt8; have hNe8 := Lib.hid (Blk.ne_ hpt8 hBx8 (by decide)); clear hr8 hg8 hat8 hlt8 h9 hpt8 hBx8))
            have hpt9 := HPt8.out.far (p := ⟨x, 3, none⟩) (fun e => (hNe8.out e).elim) (.slice (some ⟨g8, 0, none⟩) (Pk.length + 1) cap8)
            generalize W8.setCell _ _ = W9 at *
            have HPt9 := Lib.hid hpt9.drew
            have HF9 := Lib.hid HF8.out.drew
            clear y0 f0 y1 f1 y2 f2 y3 f3 y4 f4 y5 f5 z0 q0 z1 q1 z2 q2 z3 q3 z4 q4 z5 q5 lx lx8 b0 b1 b2 b3 lb s0 s1 s2 hcO HPt8 hpt9
            obtain ⟨lx, y0, f0, -⟩ := sixF HF8.out.bx
            have HNw9 := Lib.hid (show ∀ (j : Nat) (u : Value), [Value.int .i64 px, .int .i64 py, .int .i64 pz][j]? = some u → W9.drew.cell? ((⟨wr.heap.size, 0, none⟩ : Addr).add j) = some u from World.news_of_block HPt9.out)
            have c9 : Rk.length + 3 ≤ maxLen := by have := HLk.out; unfold maxLen; omega
            have c8 : (Rk.length + 3) * 8 ≤ 140737488355328 := by have := HLk.out; omega
            have HrR9 := Lib.hid HF9.out.rR
            have hbe9 := HF9.out.bel.size
            go_region_law
              ((first
              | (refine step_append_lies W9.drew (by rfl) (.tmp 55) (.tmp 56) 35 (by rfl) w1.heap.size 3 i2 _ 1 8 Try.underlying35 hj2 hz0 hz1 hz2 (by rfl) (by decide) vR' Rk.length (intsV Rk) (by rfl) HrR9.out ⟨wr.heap.size, 0, none⟩ 3 3 [.int .i64 px, .int .i64 py, .int .i64 pz] (by rfl) (by rfl) HNw9.out (by simp [Value.oneCell']) (by decide) c9 c8 hbe9 _ rfl ?_; go_loud (intro g9 cap9 W10 hr9 hg9 hat9 hlt9; have e9 : intsV (Rk ++ [px, py, pz]) = intsV Rk ++ [.int .i64 px, .int .i64 py, .int .i64 pz] := (intsV_three Rk px py pz); have h9r : W10.ownsRow w1.heap.size 3 1 (.slice (some ⟨g9, 0, none⟩) (Rk.length + 3) cap9) (Rk ++ [px, py, pz]).length (intsV (Rk ++ [px, py, pz])) := (own_len3 e9 hr9); have h10 := HF9.out.appR hg9 (v4 := .slice (some ⟨g9, 0, none⟩) (Rk.length + 3) cap9) rfl h9r (or_le hat9); obtain ⟨lxA, z0, q0, -⟩ := sixF h10.1; have HF10 := Lib.hid h10.2; clear hr9 hg9 hat9 hlt9 h10))))
            all_goals
              go_wp2
              go_roundw
              case measure => simp [intOf]; omega
              case rel => exact ⟨k + 1, by omega, by go_num, _, _, by rw [HTk.out]; have e9 : rowM (nO : Int) (rtN T c).2 ++ flatT (Pk ++ [(px, py, pz)]) = Rk ++ [px, py, pz] := (by rw [flatT_snoc, ← List.append_assoc, HRk.out]); rw [e9]; exact HF10.out⟩
          · obtain rfl : k = nO := by omega
            have HI := Lib.hid (show FrSt w1 wr x (k : Int) (.slice aT nT cT) (.slice aO k cO) (rowM (k : Int) (rtN T c).2 ++ flatT (paintL P (rtN T c).1)) (paintL P (rtN T c).1) [] vR' vP (.slice none 0 0) from by
              have e : paintL P (rtN T c).1 = paintF P ((rtN T c).1.take k) := by unfold paintL; rw [if_neg HP0.out, List.take_of_length_le (by rw [HnO.out]; exact Nat.le_refl _)]
              rw [e]
              exact hI)
            clear hI
            go_wp2
            go_meet
            exact ⟨_, _, HI.out⟩
    case rest =>
      obtain ⟨vR2, vP2, hF3⟩ := hcut
      rename World => W3
      have HF3 := Lib.hid hF3
      have hBb3 := HBb1.out.below hF3.bel HBb1.out.lt
      clear b0 b1 b2 b3 lb HBb2 HF
      obtain ⟨lb, b0, b1, b2, b3⟩ := fourF hBb3
      clear hF3 hBb3
      go_upto_if 63 with (fail)
      go_cut [] (fun W => ∃ vR vK, FrSt w1 W x (nO : Int) (.slice aT nT cT) (.slice aO nO cO) (rowM (nO : Int) (rtN T c).2 ++ (flatT (paintL P (rtN T c).1) ++ sideL K (rtL T c))) (paintL P (rtN T c).1) (sideL K (rtL T c)) vR vP2 vK)
      case first =>
        by_cases hK0 : K = []
        · have HF4 := Lib.hid (show FrSt w1 W3 x (nO : Int) (.slice aT nT cT) (.slice aO nO cO) (rowM (nO : Int) (rtN T c).2 ++ (flatT (paintL P (rtN T c).1) ++ sideL K (rtL T c))) (paintL P (rtN T c).1) (sideL K (rtL T c)) vR2 vP2 (.slice none 0 0) from by
            have e : sideL K (rtL T c) = [] := by unfold sideL; rw [if_pos hK0]
            rw [e, List.append_nil]
            exact HF3.out)
          have h0 : nK = 0 := by rw [← HnK.out, hK0]; rfl
          subst h0
          clear hK0
          go_wp2
          go_meet
          exact ⟨_, _, HF4.out⟩
        · have hk0 : 0 < nK := by rw [← HnK.out]; exact List.length_pos_iff.2 hK0
          have HKN := Lib.hid (HKl.out hK0)
          have HK0 := Lib.hid hK0
          have hdT : decide (0 < nK) = true := by simpa using hk0
          simp only [hdT]
          clear hK0
          go_wp2
          clear b0 b1 b2 b3 lb hk0 hdT
          have HI0 := Lib.hid (show FrSt w1 W3 x (nO : Int) (.slice aT nT cT) (.slice aO nO cO) (rowM (nO : Int) (rtN T c).2 ++ (flatT (paintL P (rtN T c).1) ++ sideF K ((rtL T c).take 0))) (paintL P (rtN T c).1) (sideF K ((rtL T c).take 0)) vR2 vP2 (.slice none 0 0) from by
            have e : sideF K ((rtL T c).take 0) = [] := rfl
            rw [e, List.append_nil]
            exact HF3.out)
          go_loopg [66] (nC) (fun gk i wr => ∃ k : Nat, k ≤ nC ∧ gk = nC - k ∧ i = .int .i64 k ∧ ∃ vR vK, FrSt w1 wr x (nO : Int) (.slice aT nT cT) (.slice aO nO cO) (rowM (nO : Int) (rtN T c).2 ++ (flatT (paintL P (rtN T c).1) ++ sideF K ((rtL T c).take k))) (paintL P (rtN T c).1) (sideF K ((rtL T c).take k)) vR vP2 vK)
          case atStart => exact ⟨0, Nat.zero_le _, rfl, rfl, _, _, HI0.out⟩
          case round =>
            rename World => wr
            obtain ⟨k, hk, hgk, rfl, vR', vK', hI⟩ := hrel
            by_cases hlt : k < nC
            · have hkC : k < (rtL T c).length := by rw [HnC.out]; exact hlt
              obtain ⟨d, hd⟩ : ∃ d, (rtL T c)[k] = d := ⟨_, rfl⟩
              have hdl : d < 3 * T.length := by rw [← hd]; exact (LOk.rtL hc).lt _ (List.getElem_mem hkC)
              have hb9 := hI.bel
              have hrC := own_below HrC.out hb9
              obtain ⟨gC, capC, eC, -, -⟩ := hrC.form (by omega)
              cases eC
              have hcC : wr.cell? ⟨gC, k, none⟩ = some (.int .i64 (d : Int)) := by
                rw [hrC.cellAt k (by omega)]
                unfold intsV nats
                rw [List.getElem?_map, List.getElem?_map, List.getElem?_eq_getElem hkC, hd]
                rfl
              have HTk := Lib.hid (sideF_take (K := K) (L := rtL T c) (k := k) (d := d) (by rw [List.getElem?_eq_getElem hkC, hd]))
              obtain ⟨Sk, hSk⟩ : ∃ Sk, sideF K ((rtL T c).take k) = Sk := ⟨_, rfl⟩
              obtain ⟨Rk, hRk⟩ : ∃ Rk, rowM (nO : Int) (rtN T c).2 ++ (flatT (paintL P (rtN T c).1) ++ Sk) = Rk := ⟨_, rfl⟩
              rw [hSk] at hI HTk
              rw [hRk] at hI
              have HLk := Lib.hid (show Sk.length ≤ 30000 ∧ Rk.length ≤ 200000 from by
                have e1 : Sk.length = 3 * k := by rw [← hSk, sideF_len, List.length_take]; omega
                refine ⟨by omega, ?_⟩
                rw [← hRk, List.length_append, List.length_append, rowM_len, flatT_length, e1]
                have e2 : (paintL P (rtN T c).1).length ≤ nO := by
                  unfold paintL
                  split
                  · exact Nat.zero_le _
                  · rw [paintF_len, HnO.out]; exact Nat.le_refl _
                have := HnT.out
                omega)
              have HRk := Lib.hid hRk
              have HDl := Lib.hid hdl
              have HTr := Lib.hid ((HT.out wr (HB1b.out.trans (hb9.mono HB1b.out.size))).toTabS)
              have hz9 := hb9.size
              have hki : (k : Int) < (nC : Int) := by omega
              have HI := Lib.hid hI
              have hNx : nextI T (d : Int) = ((Jor.nx d : Nat) : Int) := by simp [nextI, hasC_true (T := T) (c := (d : Int)) (by omega) (by omega)]
              have hPv : prevI T (d : Int) = ((Jor.pv d : Nat) : Int) := by simp [prevI, hasC_true (T := T) (c := (d : Int)) (by omega) (by omega)]
              have HNx := Lib.hid (show Calls Try.prog 63 #[.pointer (some ⟨g, 0, none⟩), .int .i64 (d : Int)] wr fun e w' => e = .returned (.int .i64 ((Jor.nx d : Nat) : Int)) ∧ wr = w' from by rw [← hNx]; exact next_any g N d T wr HTr.out)
              have HPv := Lib.hid (show Calls Try.prog 64 #[.pointer (some ⟨g, 0, none⟩), .int .i64 (d : Int)] wr fun e w' => e = .returned (.int .i64 ((Jor.pv d : Nat) : Int)) ∧ wr = w' from by rw [← hPv]; exact prev_any g N d T wr HTr.out)
              clear hI hrC hSk hRk hb9 hd hkC hdl hNx hPv
              go_upto_region 16 with (first
                | (go_at_call 63; refine HNx.out.mono ?_; rintro e Wp ⟨rfl, rfl⟩)
                | (go_at_call 64; refine HPv.out.mono ?_; rintro e Wp ⟨rfl, rfl⟩))
              have bq := Blk.new wr 3 #[.int .i64 (d : Int), .int .i64 ((Jor.nx d : Nat) : Int), .int .i64 ((Jor.pv d : Nat) : Int)]
              have HI0' := Lib.hid (HI.out.alloc (.cells #[.int .i64 (d : Int), .int .i64 ((Jor.nx d : Nat) : Int), .int .i64 ((Jor.pv d : Nat) : Int)] 3))
              obtain ⟨q, hq⟩ : ∃ q, wr.heap.size = q := ⟨_, rfl⟩
              rw [hq] at bq
              have Hbq := Lib.hid bq
              have hqz : w1.heap.size ≤ q := by omega
              have hqI : q < (wr.alloc (.cells #[.int .i64 (d : Int), .int .i64 ((Jor.nx d : Nat) : Int), .int .i64 ((Jor.pv d : Nat) : Int)] 3)).heap.size := bq.lt
              have Hne0 := Lib.hid (show vR'.ownBlock ≠ some q ∧ vK'.ownBlock ≠ some q from ⟨fun e => by have := (HI.out.rR.lt q e).2; omega, fun e => by have := (HI.out.rK.lt q e).2; omega⟩)
              rw [hq]
              generalize wr.alloc _ = Wq at *
              clear HI bq HNx HPv HTr hcC hqI hz9
              go_loopg [79] (3) (fun gj i w9 => ∃ j : Nat, j ≤ 3 ∧ gj = 3 - j ∧ i = .int .i64 j ∧ ∃ vR vK, FrSt w1 w9 x (nO : Int) (.slice aT nT cT) (.slice aO nO cO) (Rk ++ ([K.getD d 0, K.getD (Jor.nx d) 0, K.getD (Jor.pv d) 0].take j)) (paintL P (rtN T c).1) (Sk ++ ([K.getD d 0, K.getD (Jor.nx d) 0, K.getD (Jor.pv d) 0].take j)) vR vP2 vK ∧ Blk w9 q 3 #[.int .i64 (d : Int), .int .i64 ((Jor.nx d : Nat) : Int), .int .i64 ((Jor.pv d : Nat) : Int)] ∧ vR.ownBlock ≠ some q ∧ vK.ownBlock ≠ some q)
              case atStart => exact ⟨0, Nat.zero_le _, rfl, rfl, _, _, by simpa using HI0'.out, Hbq.out, Hne0.out⟩
              case round =>
                rename World => w9
                obtain ⟨j, hj, hgj, rfl, vR9, vK9, hI9, hbq9, hneR, hneK⟩ := hrel
                have HneR := Lib.hid hneR
                have HneK := Lib.hid hneK
                clear hneR hneK
                by_cases hlt9 : j < 3
                · obtain ⟨e, he1, he2, he3⟩ : ∃ e : Nat, e < 3 * T.length ∧ w9.cell? ⟨q, j, none⟩ = some (.int .i64 (e : Int)) ∧ [K.getD d 0, K.getD (Jor.nx d) 0, K.getD (Jor.pv d) 0].take (j + 1) = [K.getD d 0, K.getD (Jor.nx d) 0, K.getD (Jor.pv d) 0].take j ++ [K.getD e 0] := by
                    have h9 := HDl.out
                    rcases (by omega : j = 0 ∨ j = 1 ∨ j = 2) with rfl | rfl | rfl
                    · exact ⟨d, h9, hbq9.cell 0, rfl⟩
                    · exact ⟨Jor.nx d, nx_lt3 h9, hbq9.cell 1, rfl⟩
                    · exact ⟨Jor.pv d, pv_lt3 h9, hbq9.cell 2, rfl⟩
                  have heK : e < nK := by rw [HKN.out]; exact he1
                  have hKr := HKr.out w9 (HB1b.out.trans (hI9.bel.mono HB1b.out.size))
                  obtain ⟨a', c', e', -, hr3⟩ := hKr
                  rw [HnK.out] at e'
                  cases e'
                  obtain ⟨bK, oK, rfl, hbK, s0⟩ := hr3 e (K.getD e 0) (by rw [List.getElem?_eq_getElem (by rw [HnK.out]; exact heK)]; simp [List.getD, List.getElem?_eq_getElem (show e < K.length by rw [HnK.out]; exact heK)])
                  generalize hkd : K.getD e 0 = kd at *
                  have HKe := Lib.hid (show K[e]? = some kd from by rw [List.getElem?_eq_getElem (show e < K.length by rw [HnK.out]; exact heK), ← hkd]; simp [List.getD, List.getElem?_eq_getElem (show e < K.length by rw [HnK.out]; exact heK)])
                  have HT9 := Lib.hid he3
                  obtain ⟨Lj, hLj⟩ : ∃ Lj, [K.getD d 0, K.getD (Jor.nx d) 0, K.getD (Jor.pv d) 0].take j = Lj := ⟨_, rfl⟩
                  have hLl : Lj.length ≤ 3 := by rw [← hLj, List.length_take]; simp; omega
                  rw [hLj] at hI9 HT9
                  obtain ⟨R9, hR9⟩ : ∃ R9, Rk ++ Lj = R9 := ⟨_, rfl⟩
                  obtain ⟨S9, hS9⟩ : ∃ S9, Sk ++ Lj = S9 := ⟨_, rfl⟩
                  rw [hR9, hS9] at hI9
                  have HL9 := Lib.hid (show S9.length ≤ 30003 ∧ R9.length ≤ 200003 from by rw [← hR9, ← hS9, List.length_append, List.length_append]; have := HLk.out; omega)
                  have HR9 := Lib.hid hR9
                  have HS9 := Lib.hid hS9
                  have HLj := Lib.hid hLj
                  obtain ⟨lb, b0, b1, b2, b3⟩ := fourF (HBb1.out.below hI9.bel HBb1.out.lt)
                  obtain ⟨lx, y0, f0, y1, f1, y2, f2, y3, f3, y4, f4, y5, f5⟩ := sixF hI9.bx
                  have heI : (e : Int) < (nK : Int) := by omega
                  have hjI : (j : Int) < 3 := by omega
                  have HI9 := Lib.hid hI9
                  have Hbq9 := Lib.hid hbq9
                  clear hI9 hbq9 he1 he3 hr3 hkd hLj hR9 hS9 hLl HI0'
                  go_upto_region 18 with fail
                  have hba := HI9.out.alloc (.cells #[.int .i64 kd] 3)
                  have HIa := Lib.hid hba.drew
                  have hna : Blk (w9.alloc (.cells #[.int .i64 kd] 3)).drew w9.heap.size 3 #[.int .i64 kd] := (Blk.new w9 _ _).drew
                  have HNa := Lib.hid (show ∀ (j : Nat) (u : Value), [Value.int .i64 kd][j]? = some u → (w9.alloc (.cells #[.int .i64 kd] 3)).drew.cell? ((⟨w9.heap.size, 0, none⟩ : Addr).add j) = some u from World.news_of_block hna)
                  have HrKa := Lib.hid HIa.out.rK
                  have hbea := HIa.out.bel.size
                  have c9 : S9.length + 1 ≤ maxLen := by have := HL9.out; unfold maxLen; omega
                  have c8 : (S9.length + 1) * 8 ≤ 140737488355328 := by have := HL9.out; omega
                  have Hbqa := Lib.hid ((Hbq9.out.alloc (.cells #[.int .i64 kd] 3)).drew)
                  have HltK := Lib.hid (fun (j9 : Nat) (e9 : vK9.ownBlock = some j9) => (HI9.out.rK.lt j9 e9).2)
                  have HltR := Lib.hid (fun (j9 : Nat) (e9 : vR9.ownBlock = some j9) => (HI9.out.rR.lt j9 e9).2)
                  clear hba hna
                  go_cut [] (fun W => ∃ vK, FrSt w1 W x (nO : Int) (.slice aT nT cT) (.slice aO nO cO) R9 (paintL P (rtN T c).1) (S9 ++ [kd]) vR9 vP2 vK ∧ Blk W q 3 #[.int .i64 (d : Int), .int .i64 ((Jor.nx d : Nat) : Int), .int .i64 ((Jor.pv d : Nat) : Int)] ∧ vK.ownBlock ≠ some q)
                  case first =>
                    go_region_law
                      ((first
                      | (refine step_append_lies (w9.alloc (.cells #[.int .i64 kd] 3)).drew (by rfl) (.tmp 85) (.tmp 91) 35 (by rfl) w1.heap.size 3 i2 _ 1 8 Try.underlying35 hj2 hz0 hz1 hz2 (by rfl) (by decide) vK9 S9.length (intsV S9) (by rfl) HrKa.out ⟨w9.heap.size, 0, none⟩ 1 1 [.int .i64 kd] (by rfl) (by rfl) HNa.out (by simp [Value.oneCell']) (by decide) c9 c8 hbea _ rfl ?_; go_loud (intro g9 cap9 W10 hr9 hg9 hat9 hlt9; have e9 : intsV (S9 ++ [kd]) = intsV S9 ++ [.int .i64 kd] := (intsV_one1 S9 kd); have h9r : W10.ownsRow w1.heap.size 3 1 (.slice (some ⟨g9, 0, none⟩) (S9.length + 1) cap9) (S9 ++ [kd]).length (intsV (S9 ++ [kd])) := (own_len1 e9 hr9); have h10 := HIa.out.appK hg9 (v4 := .slice (some ⟨g9, 0, none⟩) (S9.length + 1) cap9) rfl h9r (or_le hat9); obtain ⟨lxA, z0, q0, z1, q1, z2, q2, z3, q3, z4, q4, z5, q5⟩ := sixF h10.1; have HF10 := Lib.hid h10.2; have hbq9' : Blk W10 q 3 #[.int .i64 (d : Int), .int .i64 ((Jor.nx d : Nat) : Int), .int .i64 ((Jor.pv d : Nat) : Int)] := Hbqa.out.grown hg9 (fun e => HneK.out e.symm); have Hbq10 := Lib.hid (far_q h10.1 hbq9' 4 (.slice (some ⟨g9, 0, none⟩) (S9.length + 1) cap9)); have Hnew := Lib.hid (ne_new HneK.out hat9 Hbqa.out.lt (k := S9.length + 1) (c := cap9)); clear hr9 hg9 hat9 hlt9 h10 e9 h9r hbq9'))))
                    all_goals
                      go_wp2_with fail
                      go_meet
                      exact ⟨_, HF10.out, Hbq10.out, Hnew.out⟩
                  case rest =>
                    obtain ⟨vK10, hI10, hbq10, hneK10⟩ := hcut
                    rename World => w10
                    have hsz := hI10.bel.size
                    have HI10 := Lib.hid hI10
                    have Hbq10 := Lib.hid hbq10
                    have HneK10 := Lib.hid hneK10
                    clear hneK10 HIa HNa HrKa hbea c9 c8 Hbqa HltK HltR y0 f0 y1 f1 y2 f2 y3 f3 y4 f4 y5 f5 lx b0 b1 b2 b3 lb s0
                    obtain ⟨lb, b0, b1, b2, b3⟩ := fourF (HBb1.out.below HI10.out.bel HBb1.out.lt)
                    obtain ⟨lx, y0, f0, y1, f1, y2, f2, y3, f3, y4, f4, y5, f5⟩ := sixF HI10.out.bx
                    have hKr := HKr.out w10 (HB1b.out.trans (HI10.out.bel.mono HB1b.out.size))
                    obtain ⟨a', c', e', -, hr3⟩ := hKr
                    rw [HnK.out] at e'
                    cases e'
                    obtain ⟨bK2, oK2, eK2, hbK2, s0⟩ := hr3 e kd HKe.out
                    cases eK2
                    have hba := HI10.out.alloc (.cells #[.int .i64 kd] 3)
                    have HIa := Lib.hid hba.drew
                    have hna : Blk (w10.alloc (.cells #[.int .i64 kd] 3)).drew w10.heap.size 3 #[.int .i64 kd] := (Blk.new w10 _ _).drew
                    have HNa := Lib.hid (show ∀ (j : Nat) (u : Value), [Value.int .i64 kd][j]? = some u → (w10.alloc (.cells #[.int .i64 kd] 3)).drew.cell? ((⟨w10.heap.size, 0, none⟩ : Addr).add j) = some u from World.news_of_block hna)
                    have HrRa := Lib.hid HIa.out.rR
                    have hbea := HIa.out.bel.size
                    have c9 : R9.length + 1 ≤ maxLen := by have := HL9.out; unfold maxLen; omega
                    have c8 : (R9.length + 1) * 8 ≤ 140737488355328 := by have := HL9.out; omega
                    have Hbqa := Lib.hid ((Hbq10.out.alloc (.cells #[.int .i64 kd] 3)).drew)
                    clear hba hna hr3
                    go_upto_region 19 with fail
                    go_region_law
                      ((first
                      | (refine step_append_lies (w10.alloc (.cells #[.int .i64 kd] 3)).drew (by rfl) (.tmp 96) (.tmp 102) 35 (by rfl) w1.heap.size 3 i2 _ 1 8 Try.underlying35 hj2 hz0 hz1 hz2 (by rfl) (by decide) vR9 R9.length (intsV R9) (by rfl) HrRa.out ⟨w10.heap.size, 0, none⟩ 1 1 [.int .i64 kd] (by rfl) (by rfl) HNa.out (by simp [Value.oneCell']) (by decide) c9 c8 hbea _ rfl ?_; go_loud (intro g9 cap9 W10 hr9 hg9 hat9 hlt9; have e9 : intsV (R9 ++ [kd]) = intsV R9 ++ [.int .i64 kd] := (intsV_one1 R9 kd); have h9r : W10.ownsRow w1.heap.size 3 1 (.slice (some ⟨g9, 0, none⟩) (R9.length + 1) cap9) (R9 ++ [kd]).length (intsV (R9 ++ [kd])) := (own_len1 e9 hr9); have h10 := HIa.out.appR hg9 (v4 := .slice (some ⟨g9, 0, none⟩) (R9.length + 1) cap9) rfl h9r (or_le hat9); obtain ⟨lxA, z0, q0, z1, q1, z2, q2, z3, q3, z4, q4, z5, q5⟩ := sixF h10.1; have HF10 := Lib.hid h10.2; have hbq9' : Blk W10 q 3 #[.int .i64 (d : Int), .int .i64 ((Jor.nx d : Nat) : Int), .int .i64 ((Jor.pv d : Nat) : Int)] := Hbqa.out.grown hg9 (fun e => HneR.out e.symm); have Hbq11 := Lib.hid (far_q h10.1 hbq9' 0 (.slice (some ⟨g9, 0, none⟩) (R9.length + 1) cap9)); have Hnew := Lib.hid (ne_new HneR.out hat9 Hbqa.out.lt (k := R9.length + 1) (c := cap9)); clear hr9 hg9 hat9 hlt9 h10 e9 h9r hbq9'))))
                    all_goals
                      have HI11 := Lib.hid (show FrSt w1 _ x (nO : Int) (.slice aT nT cT) (.slice aO nO cO) (Rk ++ ([K.getD d 0, K.getD (Jor.nx d) 0, K.getD (Jor.pv d) 0].take (j + 1))) (paintL P (rtN T c).1) (Sk ++ ([K.getD d 0, K.getD (Jor.nx d) 0, K.getD (Jor.pv d) 0].take (j + 1))) _ vP2 vK10 from by
                        rw [HT9.out, ← List.append_assoc, ← List.append_assoc, HR9.out, HS9.out]
                        exact HF10.out)
                      clear y0 f0 y1 f1 y2 f2 y3 f3 y4 f4 y5 f5 lx b0 b1 b2 b3 lb s0
                      go_wp2
                      go_roundg (3 - (j + 1))
                      case measure => omega
                      case rel => exact ⟨j + 1, by omega, rfl, by go_num, _, _, HI11.out, Hbq11.out, Hnew.out, HneK10.out⟩
                · obtain rfl : j = 3 := by omega
                  have HI11 := Lib.hid (show FrSt w1 w9 x (nO : Int) (.slice aT nT cT) (.slice aO nO cO) (rowM (nO : Int) (rtN T c).2 ++ (flatT (paintL P (rtN T c).1) ++ sideF K ((rtL T c).take (k + 1)))) (paintL P (rtN T c).1) (sideF K ((rtL T c).take (k + 1))) vR9 vP2 vK9 from by
                    rw [HTk.out, ← List.append_assoc, ← List.append_assoc, List.append_assoc (rowM (nO : Int) (rtN T c).2), HRk.out]
                    exact hI9)
                  clear hI9 hbq9 HI0'
                  go_wp2
                  go_roundg (nC - (k + 1))
                  case measure => omega
                  case rel => exact ⟨k + 1, by omega, rfl, by go_num, _, _, HI11.out⟩
            · obtain rfl : k = nC := by omega
              have HI := Lib.hid (show FrSt w1 wr x (nO : Int) (.slice aT nT cT) (.slice aO nO cO) (rowM (nO : Int) (rtN T c).2 ++ (flatT (paintL P (rtN T c).1) ++ sideL K (rtL T c))) (paintL P (rtN T c).1) (sideL K (rtL T c)) vR' vP2 vK' from by
                have e : sideL K (rtL T c) = sideF K ((rtL T c).take k) := by unfold sideL; rw [if_neg HK0.out, List.take_of_length_le (by rw [HnC.out]; exact Nat.le_refl _)]
                rw [e]
                exact hI)
              clear hI
              go_wp2
              go_meet
              exact ⟨_, _, HI.out⟩
      case rest =>
        obtain ⟨vR3, vK3, hF4⟩ := hcut
        rename World => W4
        obtain ⟨aR9, cR9, rfl⟩ := ownsRow_slice hF4.rR
        obtain ⟨aP9, cP9, rfl⟩ := ownsRow_slice hF4.rP
        obtain ⟨aK9, cK9, rfl⟩ := ownsRow_slice hF4.rK
        have HF4 := Lib.hid hF4
        have hBr4 := (HBr.out.below HB1.out HBr.out.lt).below hF4.bel (by have := HBr.out.lt; have := HB1.out.size; omega)
        have HBr4 := Lib.hid hBr4
        obtain ⟨lx, y0, f0, y1, f1, y2, f2, y3, f3, y4, f4, y5, f5⟩ := sixF hF4.bx
        obtain ⟨lr, z0, q0, z1, q1, z2, q2, z3, q3, z4, q4, z5, q5⟩ := sixF hBr4
        have hxr : x ≠ w.heap.size + 1 := by have := HBr.out.lt; have := HB1.out.size; omega
        clear hF4 hBr4
        generalize hnR : (rowM (nO : Int) (rtN T c).2 ++ (flatT (paintL P (rtN T c).1) ++ sideL K (rtL T c))).length = nR at *
        generalize hnP9 : (paintL P (rtN T c).1).length = nP9 at *
        generalize hnK9 : (sideL K (rtL T c)).length = nK9 at *
        have HnR := Lib.hid hnR
        have HnP9 := Lib.hid hnP9
        have HnK9 := Lib.hid hnK9
        clear hnR hnP9 hnK9
        have hrT4 := own_set6 (.slice aR9 nR cR9) (.int .i64 (nO : Int)) (.slice aT nT cT) (.slice aP9 nP9 cP9) (.slice aK9 nK9 cK9) (.slice aO nO cO) (own_below HrT.out HF4.out.bel) HBr4.out (by decide)
        have hrO4 := own_set6 (.slice aR9 nR cR9) (.int .i64 (nO : Int)) (.slice aT nT cT) (.slice aP9 nP9 cP9) (.slice aK9 nK9 cK9) (.slice aO nO cO) (own_below HrO.out HF4.out.bel) HBr4.out (by decide)
        have hrR4 := own_set6 (.slice aR9 nR cR9) (.int .i64 (nO : Int)) (.slice aT nT cT) (.slice aP9 nP9 cP9) (.slice aK9 nK9 cK9) (.slice aO nO cO) HF4.out.rR HBr4.out (by decide)
        have hrP4 := own_set6 (.slice aR9 nR cR9) (.int .i64 (nO : Int)) (.slice aT nT cT) (.slice aP9 nP9 cP9) (.slice aK9 nK9 cK9) (.slice aO nO cO) HF4.out.rP HBr4.out (by decide)
        have hrK4 := own_set6 (.slice aR9 nR cR9) (.int .i64 (nO : Int)) (.slice aT nT cT) (.slice aP9 nP9 cP9) (.slice aK9 nK9 cK9) (.slice aO nO cO) HF4.out.rK HBr4.out (by decide)
        have hbF := below_set6 (.slice aR9 nR cR9) (.int .i64 (nO : Int)) (.slice aT nT cT) (.slice aP9 nP9 cP9) (.slice aK9 nK9 cK9) (.slice aO nO cO) (HB1b.out.trans (HF4.out.bel.mono hw1')) (b := w.heap.size + 1) (by omega)
        have bF := blk_set6 (.slice aR9 nR cR9) (.int .i64 (nO : Int)) (.slice aT nT cT) (.slice aP9 nP9 cP9) (.slice aK9 nK9 cK9) (.slice aO nO cO) HBr4.out
        have HFin := Lib.hid (And.intro hrT4 (And.intro hrO4 (And.intro hrR4 (And.intro hrP4 (And.intro hrK4 hbF)))))
        have HbF := Lib.hid bF
        clear hrT4 hrO4 hrR4 hrP4 hrK4 hbF bF
        go_wp2
        obtain ⟨-, p0, -, p1, -, p2, -, p3, -, p4, -, p5, -⟩ := sixF HbF.out
        unfold set6 at HFin p0 p1 p2 p3 p4 p5
        refine bodyPost_ret (v := .agg #[.slice aR9 nR cR9, .int .i64 (nO : Int), .slice aT nT cT, .slice aP9 nP9 cP9, .slice aK9 nK9 cK9, .slice aO nO cO]) (by simp [results, Try.results84, go_sem, p0, p1, p2, p3, p4, p5]) rfl ?_
        obtain ⟨hrT4, hrO4, hrR4, hrP4, hrK4, hbF⟩ := HFin.out
        refine ⟨_, rfl, ⟨.slice aR9 nR cR9, .slice aT nT cT, .slice aP9 nP9 cP9, .slice aK9 nK9 cK9, .slice aO nO cO, ?_, ?_, ?_, ?_, ?_, ?_⟩, hbF⟩
        · have e9 : (fromM T P K c).N = (nO : Int) := by show (((rtN T c).1.length : Nat) : Int) = _; rw [HnO.out]
          rw [e9]
        · have e9 : (fromM T P K c).row = rowM (nO : Int) (rtN T c).2 ++ (flatT (paintL P (rtN T c).1) ++ sideL K (rtL T c)) := by rw [← HnO.out]; rfl
          rw [e9]
          exact own_lower hrR4 hw1'
        · show World.ownsRow _ _ _ _ _ (rtN T c).2.length (ws3 (rtN T c).2)
          rw [HnT.out]
          exact own_lower hrT4 (by simp; omega)
        · exact own_lower hrP4 hw1'
        · exact own_lower hrK4 hw1'
        · show World.ownsRow _ _ _ _ _ (rtN T c).1.length _
          rw [HnO.out]
          exact own_lower hrO4 (by simp; omega)
end Go.Proofs.Ytpnkhgjjlionnaa
