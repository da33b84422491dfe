/-
  Maps that the call makes: of numbers by numbers, seen as a function; of bools, seen as the list of the keys that are set. (A look-up of bools: after the kit's law on integers.)
-/
import Derived.Maps.OwnOps
import Derived.Maps.OwnSet
import Derived.WideKeyPair
import Derived.Test.YtgjcigokjfhfkaaKitA
namespace Go.Proofs.Ytgjcigokjfhfkaa
open Go.RowKit Go.Maps

/-- Block b is a map from numbers to numbers: at a it holds f a. -/
def MapI (P : Program) (k e : TypeId) (qk q : IntKind) (w : World) (b n : Nat) (f : Int → Int) : Prop :=
  ∃ D : DataW Unit, w.ownsMap P k (plainElem P e) b n D ∧ IsMap D ∧ ∀ a, D.atKey (.int qk a) (.lit (.int q 0)) = .lit (.int q (f a))
section
variable {P : Program} {k e : TypeId} {qk q : IntKind} {w : World} {b n : Nat} {f : Int → Int}
theorem MapI.made (w : World) (P : Program) (k e : TypeId) (qk q : IntKind) : MapI P k e qk q (w.alloc (.map #[] 0)) w.heap.size 0 (fun _ => 0) :=
  ⟨_, World.ownsMap_made _ _ _ _, isMap_empty, fun _ => rfl⟩
theorem MapI.lt (h : MapI P k e qk q w b n f) : b < w.heap.size := by obtain ⟨D, h, _⟩ := h; exact h.lt
theorem MapI.kept {w' : World} {row : Option Nat} (h : MapI P k e qk q w b n f) (hg : w.grownBy w' row) (hne : some b ≠ row) : MapI P k e qk q w' b n f := by
  obtain ⟨D, h1, h2⟩ := h
  exact ⟨D, h1.kept hg hne, h2⟩
theorem MapI.below {w' : World} {B : Nat} (h : MapI P k e qk q w b n f) (hb : Below B w w') (hB : b < B) : MapI P k e qk q w' b n f := by
  obtain ⟨D, ⟨es, clock, hh, hr⟩, h2⟩ := h
  exact ⟨D, ⟨es, clock, (hb.block b hB).trans hh, hr⟩, h2⟩
theorem MapI.mono {m : Nat} (h : MapI P k e qk q w b n f) (hm : n ≤ m) : MapI P k e qk q w b m f := by
  obtain ⟨D, h1, h2⟩ := h
  exact ⟨D, h1.mono hm, h2⟩
theorem MapI.look {t : TypeId} (h : MapI P k e qk q w b n f) (hk : P.underlying k = some (.int qk)) (ht : P.underlying t = some (.map k e)) (he : P.underlying e = some (.int q)) (hz : (zeroValue e).run P w = .ok (.int q 0) w) {z : Int} (hwf : (Lit.int qk z).wf = true) :
    (Instr.lookup t (.map (some b)) (.int qk z) false).run P w = .ok (.int q (f z)) w := by
  obtain ⟨D, h1, _, h3⟩ := h
  obtain ⟨c, hrun, hat, _⟩ := h1.lookup_int (int_keyed hk) ht he hz (keyOf_int_mk hk hwf)
  rw [h3 z] at hat
  cases hat
  exact hrun
theorem MapI.store {t : TypeId} (h : MapI P k e qk q w b n f) (hk : P.underlying k = some (.int qk)) (ht : P.underlying t = some (.map k e)) (he : P.underlying e = some (.int q)) (hn : n < maxLen) {z c : Int} (hwf : (Lit.int qk z).wf = true) (hwc : (Lit.int q c).wf = true) :
    ∃ w', (Instr.mapUpdate t (.map (some b)) (.int qk z) (.int q c)).run P w = .ok () w' ∧ MapI P k e qk q w' b (n + 1) (fun y => if y = z then c else f y) ∧ w.grownBy w' (some b) := by
  obtain ⟨D, h1, h2, h3⟩ := h
  obtain ⟨w', hrun, hown, hg⟩ := h1.update (int_keyed hk) ht hn (keyOf_int_mk hk hwf) (plainElem_int he hwc)
  refine ⟨w', hrun, ⟨_, hown, h2.put _ _, fun a => ?_⟩, hg⟩
  by_cases ha : a = z
  · subst ha
    rw [atKey_put_same h2 (by trivial)]
    simp
  · rw [atKey_put_other (by intro e; cases e; exact ha rfl), h3]
    simp [ha]
theorem wpList_lookupI {ops : Array Oper} {rest : List Oper} {o : Oper} {a : Act} {Q : Exit → Act → World → Prop} (h : MapI P k e qk q w b n f)
    (hg : o.guard = none) (m x : Operand) (t : TypeId) (hop : o.op = Op.lookup t m x false) (hk : P.underlying k = some (.int qk)) (ht : P.underlying t = some (.map k e)) (he : P.underlying e = some (.int q)) (hz : (zeroValue e).run P w = .ok (.int q 0) w)
    (hm : a.eval m = .map (some b)) (z : Int) (hx : a.eval x = .int qk z) (hwf : (Lit.int qk z).wf = true)
    (hK : wpList P ops Q rest (a.put o.dst (.int q (f z))) w) : wpList P ops Q (o :: rest) a w := by
  refine wpList_plain hg fun K' hK' => ?_
  have hrun := h.look hk ht he hz hwf
  unfold Oper.wp
  simp [execOp, hop, hm, hx, hrun, Result.andThen]
  exact hK' _ _ hK
theorem wpList_storeI {ops : Array Oper} {rest : List Oper} {o : Oper} {a : Act} {Q : Exit → Act → World → Prop} (h : MapI P k e qk q w b n f)
    (hg : o.guard = none) (m x v : Operand) (t : TypeId) (hop : o.op = Op.mapUpdate t m x v) (hk : P.underlying k = some (.int qk)) (ht : P.underlying t = some (.map k e)) (he : P.underlying e = some (.int q)) (hn : n < maxLen)
    (hm : a.eval m = .map (some b)) (z c : Int) (hx : a.eval x = .int qk z) (hv : a.eval v = .int q c) (hwf : (Lit.int qk z).wf = true) (hwc : (Lit.int q c).wf = true)
    (hK : ∀ w', MapI P k e qk q w' b (n + 1) (fun y => if y = z then c else f y) → w.grownBy w' (some b) → wpList P ops Q rest (a.put o.dst undef) w') : wpList P ops Q (o :: rest) a w := by
  refine wpList_plain hg fun K' hK' => ?_
  obtain ⟨w', hrun, r1, r2⟩ := h.store hk ht he hn hwf hwc
  unfold Oper.wp
  simp [execOp, hop, hm, hx, hv, hrun, Result.andThen]
  exact hK' _ _ (hK w' r1 r2)
end

/-- Block b is a map of bools: true at the keys of the list. -/
def MapB (P : Program) (k e : TypeId) (w : World) (b n : Nat) (seen : List Value) : Prop :=
  ∃ D : DataW Unit, w.ownsMap P k (plainElem P e) b n D ∧ IsMap D ∧ ∀ key kl, keyOf P k key = some kl → ∃ x, D.atKey kl (.lit (.bool false)) = .lit (.bool x) ∧ (x = true ↔ key ∈ seen)
theorem plainElem_bool_inv {P : Program} {e : TypeId} (he : P.underlying e = some .bool) {v : Value} {z : DataW Unit × List MemPlace} (h : plainElem P e v = some z) : ∃ x, v = .bool x ∧ z = (.lit (.bool x), []) := by
  unfold plainElem at h
  rw [he] at h
  cases v <;> simp at h
  exact ⟨_, rfl, h.symm⟩
section
variable {P : Program} {k e : TypeId} {w : World} {b n : Nat} {seen : List Value}
theorem MapB.made (w : World) (P : Program) (k e : TypeId) : MapB P k e (w.alloc (.map #[] 0)) w.heap.size 0 [] :=
  ⟨_, World.ownsMap_made _ _ _ _, isMap_empty, fun _ _ _ => ⟨false, rfl, by simp⟩⟩
theorem MapB.lt (h : MapB P k e w b n seen) : b < w.heap.size := by obtain ⟨D, h, _⟩ := h; exact h.lt
theorem MapB.kept {w' : World} {row : Option Nat} (h : MapB P k e w b n seen) (hg : w.grownBy w' row) (hne : some b ≠ row) : MapB P k e w' b n seen := by
  obtain ⟨D, h1, h2⟩ := h
  exact ⟨D, h1.kept hg hne, h2⟩
theorem MapB.mono {m : Nat} (h : MapB P k e w b n seen) (hm : n ≤ m) : MapB P k e w b m seen := by
  obtain ⟨D, h1, h2⟩ := h
  exact ⟨D, h1.mono hm, h2⟩
theorem MapB.drew (h : MapB P k e w b n seen) : MapB P k e w.drew b n seen := h
theorem MapB.look {t : TypeId} (h : MapB P k e w b n seen) (K : Keyed P k) (ht : P.underlying t = some (.map k e)) (he : P.underlying e = some .bool) (hz : (zeroValue e).run P w = .ok (.bool false) w) {key : Value} {kl : Lit} (hkey : keyOf P k key = some kl) :
    ∃ x, (Instr.lookup t (.map (some b)) key false).run P w = .ok (.bool x) w ∧ (x = true ↔ key ∈ seen) := by
  obtain ⟨D, h1, _, h3⟩ := h
  obtain ⟨v, ps, hrun, hv⟩ := h1.lookup K ht hz (plainElem_bool he false) hkey
  obtain ⟨x, rfl, hx⟩ := plainElem_bool_inv he hv
  obtain ⟨x', hx', hi⟩ := h3 key kl hkey
  rw [hx'] at hx
  cases hx
  exact ⟨_, hrun, hi⟩
theorem MapB.store {t : TypeId} (h : MapB P k e w b n seen) (K : Keyed P k) (ht : P.underlying t = some (.map k e)) (he : P.underlying e = some .bool) (hn : n < maxLen) {key : Value} {kl : Lit} (hkey : keyOf P k key = some kl) :
    ∃ w', (Instr.mapUpdate t (.map (some b)) key (.bool true)).run P w = .ok () w' ∧ MapB P k e w' b (n + 1) (key :: seen) ∧ w.grownBy w' (some b) := by
  obtain ⟨D, h1, h2, h3⟩ := h
  obtain ⟨w', hrun, hown, hg⟩ := h1.update K ht hn hkey (plainElem_bool he true)
  refine ⟨w', hrun, ⟨_, hown, h2.put _ _, fun key' kl' hk' => ?_⟩, hg⟩
  by_cases ha : kl' = kl
  · subst ha
    obtain rfl := K.inj hk' hkey
    exact ⟨true, atKey_put_same h2 (K.key hkey) _ _, by simp⟩
  · obtain ⟨x, hx, hi⟩ := h3 key' kl' hk'
    refine ⟨x, by rw [atKey_put_other ha, hx], ?_⟩
    rw [hi, List.mem_cons]
    constructor
    · exact .inr
    · rintro (rfl | h)
      · rw [hk'] at hkey
        cases hkey
        exact absurd rfl ha
      · exact h
end

theorem keyOf_three {P : Program} {k e : TypeId} {q : IntKind} (A : WideMaps.ArrKey P k e 3) (he : P.underlying e = some (.int q)) (hsz : ∃ m, P.types.size = m + 1) {a b c : Int} (wa : (Lit.int q a).wf = true) (wb : (Lit.int q b).wf = true) (wc : (Lit.int q c).wf = true) :
    keyOf P k (.agg #[.int q a, .int q b, .int q c]) = some (.string (keyBytes [.int q a, .int q b, .int q c])) := by
  have hkt := A.keyType hsz
  obtain ⟨m, hm⟩ := hsz
  unfold keyOf
  simp only [A.hu]
  rw [if_pos (by simp [hkt, Value.formed, A.hu, A.size]), hm]
  unfold Program.keyLits
  simp only [A.hu, Value.cells]
  rw [if_pos (by rw [A.size]; rfl), show List.range 3 = [0, 1, 2] from rfl, List.mapM_cons, List.mapM_cons, List.mapM_cons, List.mapM_nil]
  simp [A.one, Program.keyLits, he, wa, wb, wc]
end Go.Proofs.Ytgjcigokjfhfkaa
