/-
  word.Cost, by walking its text; and what it comes to for a text of letters alone.
-/
import Derived.Test.YtgjcigokjfhfkaaRightEq
import Derived.Test.YtgjcigokjfhfkaaCountR
namespace Go.Proofs.Ytgjcigokjfhfkaa
open Go.RowKit

def costSum (zs : List Int) : Int := zs.foldl (fun n c => n + codeN c) 0
/-- What word.Cost answers. -/
def costM (zs : List Int) : Int := if zs.all (fun c => !(codeN c == 0)) then costSum zs else -1
theorem costSum_snoc (zs : List Int) (c : Int) : costSum (zs ++ [c]) = costSum zs + codeN c := by simp [costSum]
theorem codeN_le (c : Int) : 0 ≤ codeN c ∧ codeN c ≤ 3 := by unfold codeN; repeat' split <;> omega
theorem costSum_le (zs : List Int) : 0 ≤ costSum zs ∧ costSum zs ≤ 3 * zs.length := by
  suffices H : ∀ (zs : List Int) (a : Int), a ≤ zs.foldl (fun n c => n + codeN c) a ∧ zs.foldl (fun n c => n + codeN c) a ≤ a + 3 * zs.length by
    have := H zs 0
    unfold costSum
    omega
  intro zs
  induction zs with
  | nil => intro a; simp
  | cons c r ih =>
    intro a
    have h1 := ih (a + codeN c)
    have h2 := codeN_le c
    simp only [List.foldl_cons, List.length_cons]
    omega

set_option maxRecDepth 100000 in
set_option maxHeartbeats 1000000 in
theorem cost_any (s : ByteArray) (hs : s.size ≤ 1000000) (w : World) :
    Calls Try.prog 22 #[.string s] w fun e w' => e = .returned (.int .i64 (costM (lettersOf s))) ∧ Below w.heap.size w w' := by
  have hcv : ∀ W, (convert 9 48 (.string s)).run Try.prog W = .ok (.slice (some ⟨W.heap.size, 0, none⟩) s.size (grownCap W s.size 0 5)) (Lib.bytesWorld W 5 s) :=
    fun W => Lib.run_convert_string_bytes W _ _ _ s Try.underlying9 Try.underlying48 Try.underlying5
  have hf := bytes_facts w 5 s
  go_enter Try.func22, Try.ntmps22
  go_wp2
  generalize grownCap _ _ _ _ = cap
  generalize hW1 : Lib.bytesWorld _ _ _ = W1 at hf ⊢
  obtain ⟨hz, hg, hcell, -⟩ := hf
  clear hW1 hcv
  have hB1 : Below w.heap.size w W1 := below_of_grown hg (Nat.le_refl _) (by simp)
  have hl := lettersOf_length s
  rw [← hl]
  have hlen : (lettersOf s).length ≤ 1000000 := by omega
  generalize hzs : lettersOf s = zs at *
  have Hl := Lib.hid hl
  have Hzs := Lib.hid hzs
  clear hl hg hzs
  go_loop [3, 11] (fun n i => ∃ k : Nat, k ≤ zs.length ∧ i = .int .i64 k ∧ n = .int .i64 (costSum (zs.take k)) ∧ (zs.take k).all (fun c => !(codeN c == 0)) = true) (fun _ i => zs.length - (intOf i).toNat)
  case atStart => exact ⟨0, Nat.zero_le _, rfl, by simp [costSum], by simp⟩
  case round =>
    obtain ⟨k, hk, rfl, rfl, hall⟩ := hrel
    by_cases hlt : k < zs.length
    · have hc := hcell k hlt
      have hts := take_snoc_int zs k hlt
      have hle := costSum_le (zs.take k)
      have hle2 := codeN_le zs[k]
      have hl3 : (zs.take k).length ≤ 1000000 := by rw [List.length_take]; omega
      have hsn := costSum_snoc (zs.take k) zs[k]
      rw [← hts] at hsn
      have Hsn := Lib.hid hsn
      have Hts := Lib.hid hts
      have Hall := Lib.hid hall
      rw [List.getElem?_eq_getElem hlt, Option.getD_some] at hc
      clear hts hsn hcell hall
      by_cases h0 : codeN zs[k] = 0
      · have hb : (codeN zs[k] == 0) = true := by simp [h0]
        have hM : costM zs = -1 := by
          unfold costM
          rw [if_neg]
          intro h
          rw [List.all_eq_true] at h
          have := h zs[k] (List.getElem_mem hlt)
          simp [h0] at this
        have HM := Lib.hid hM
        have H0 := Lib.hid h0
        clear hM h0
        go_wp2_with (go_at_call 30; refine (code_any _ _).mono ?_; rintro e w' ⟨rfl, rfl⟩)
        go_ret
        rw [Hzs.out, HM.out]
        exact ⟨rfl, hB1⟩
      · have hb : (codeN zs[k] == 0) = false := by simp [h0]
        clear h0
        go_wp2_with (go_at_call 30; refine (code_any _ _).mono ?_; rintro e w' ⟨rfl, rfl⟩)
        go_round
        case rel => exact ⟨k + 1, by omega, by go_num, by rw [Hsn.out], by rw [Hts.out, List.all_append, Hall.out]; simp [hb]⟩
        case measure => simp [intOf]; omega
    · obtain rfl : k = zs.length := by omega
      rw [List.take_length] at hall
      have hM : costM zs = costSum zs := by unfold costM; rw [if_pos hall]
      have HM := Lib.hid hM
      clear hM hall
      go_wp2
      go_ret
      rw [Hzs.out, HM.out]
      exact ⟨rfl, hB1⟩
end Go.Proofs.Ytgjcigokjfhfkaa
