/-
  No cell of these rows narrows 'for every input' (looked for: loops, veiled, ifaces, maps, wideKeys, modest, calm, conditions, laid).
  DERIVED. THE GIVEN ROWS OF THIS SEAT. 4 by the template 'for every input the law returns true; each argument reads behind the call as it read before'; 0 by the template 'total and deterministic' (their statements: YtghlnknncahkgaaTotals.lean).
  GIVEN WITH THE SEED: the statements are not yours to turn. If you find one false, say at which input.
  Laid BY PROGRAM, IN A SANDBOX (cutbox-rows.mjs): the forced cells as the released guide's own fill.sh prints them over the translation 09c1e657f5ce73ab… (all of the seat's roots in one cut). By AI agents, Wed Nov 11 2026. No macro, syntax, notation, axiom, sorry.
-/
import Derived.Test.YtghlnknncahkgaaChecked
import GoSem.Claim
import GoSem.ClaimJoined
import GoSem.ClaimMapViews
import Derived.JoinedTies
import Derived.KernelRfl
namespace Go.Proofs.Ytghlnknncahkgaa
/- THE CELL 'sum', in the pinned program and in every row, IS THE sha256 OF THE DUMP (.gsa) THAT YtghlnknncahkgaaProg.lean LOADS. Nothing in Lean hashes anything: it is a label: what it is worth is what the hold of that sum in a sandbox is worth. -/
noncomputable def Try.pinned : Pinned := { name := "ytghlnknncahkgaa", sum := "09c1e657f5ce73abf2c90415350782922a4bf8afb1d61fc5add670c89741cd96", checked := Try.checked }
namespace Rows
def none {H : Type} : Left H := { results := [], args := [] }

/-- 'gypsumlaw46.CanonLess': WHATEVER THE INPUT: true; the input reads as it did. -/
def canonLessSpec : ChangeSpec := { name := "canonLess", fn := fun _ => fun
  | [d1, d2] => { results := [.lit (.bool true)], args := [d1, d2] }
  | _ => none }
def canonLessRow : OpenClaim := { program := "ytghlnknncahkgaa", sum := "09c1e657f5ce73abf2c90415350782922a4bf8afb1d61fc5add670c89741cd96", func := "gypsum/gypsumlaw46.CanonLess", spec := "canonLess", unfollowed := true, recurses := true, plainKeys := false, apart := false }
def CanonLessSaid : Prop := canonLessRow.holds Try.pinned (OpenSpec.ofChange canonLessSpec)

/-- ITS FALSE NEIGHBOUR: 'it returns false'. Refute it at one input. -/
def canonLessWrong : ChangeSpec := { name := "canonLess", fn := fun _ => fun
  | [d1, d2] => { results := [.lit (.bool false)], args := [d1, d2] }
  | _ => none }
def CanonLessWrongFalsely : Prop := canonLessRow.holds Try.pinned (OpenSpec.ofChange canonLessWrong)

/-- 'gypsumlaw21.WalkSimple': WHATEVER THE INPUT: true; the input reads as it did. -/
def walkSimpleSpec : ChangeSpec := { name := "walkSimple", fn := fun _ => fun
  | [d1, d2] => { results := [.lit (.bool true)], args := [d1, d2] }
  | _ => none }
def walkSimpleRow : OpenClaim := { program := "ytghlnknncahkgaa", sum := "09c1e657f5ce73abf2c90415350782922a4bf8afb1d61fc5add670c89741cd96", func := "gypsum/gypsumlaw21.WalkSimple", spec := "walkSimple", inPlace := ["slices.overlaps[int]"], unfollowed := true, recurses := true, plainKeys := false, apart := false }
def WalkSimpleSaid : Prop := walkSimpleRow.holds Try.pinned (OpenSpec.ofChange walkSimpleSpec)

/-- ITS FALSE NEIGHBOUR: 'it returns false'. Refute it at one input. -/
def walkSimpleWrong : ChangeSpec := { name := "walkSimple", fn := fun _ => fun
  | [d1, d2] => { results := [.lit (.bool false)], args := [d1, d2] }
  | _ => none }
def WalkSimpleWrongFalsely : Prop := walkSimpleRow.holds Try.pinned (OpenSpec.ofChange walkSimpleWrong)

/-- 'gypsumlaw21.WalkNone': WHATEVER THE INPUT: true; the input reads as it did. -/
def walkNoneSpec : ChangeSpec := { name := "walkNone", fn := fun _ => fun
  | [d1, d2] => { results := [.lit (.bool true)], args := [d1, d2] }
  | _ => none }
def walkNoneRow : OpenClaim := { program := "ytghlnknncahkgaa", sum := "09c1e657f5ce73abf2c90415350782922a4bf8afb1d61fc5add670c89741cd96", func := "gypsum/gypsumlaw21.WalkNone", spec := "walkNone", inPlace := ["slices.overlaps[int]"], unfollowed := true, recurses := true, plainKeys := false, apart := false }
def WalkNoneSaid : Prop := walkNoneRow.holds Try.pinned (OpenSpec.ofChange walkNoneSpec)

/-- ITS FALSE NEIGHBOUR: 'it returns false'. Refute it at one input. -/
def walkNoneWrong : ChangeSpec := { name := "walkNone", fn := fun _ => fun
  | [d1, d2] => { results := [.lit (.bool false)], args := [d1, d2] }
  | _ => none }
def WalkNoneWrongFalsely : Prop := walkNoneRow.holds Try.pinned (OpenSpec.ofChange walkNoneWrong)

/-- 'gypsumlaw46.CanonSides': WHATEVER THE INPUT: true; the input reads as it did. -/
def canonSidesSpec : ChangeSpec := { name := "canonSides", fn := fun _ => fun
  | [d1, d2] => { results := [.lit (.bool true)], args := [d1, d2] }
  | _ => none }
def canonSidesRow : OpenClaim := { program := "ytghlnknncahkgaa", sum := "09c1e657f5ce73abf2c90415350782922a4bf8afb1d61fc5add670c89741cd96", func := "gypsum/gypsumlaw46.CanonSides", spec := "canonSides", unfollowed := true, recurses := true, plainKeys := false, apart := false }
def CanonSidesSaid : Prop := canonSidesRow.holds Try.pinned (OpenSpec.ofChange canonSidesSpec)

/-- ITS FALSE NEIGHBOUR: 'it returns false'. Refute it at one input. -/
def canonSidesWrong : ChangeSpec := { name := "canonSides", fn := fun _ => fun
  | [d1, d2] => { results := [.lit (.bool false)], args := [d1, d2] }
  | _ => none }
def CanonSidesWrongFalsely : Prop := canonSidesRow.holds Try.pinned (OpenSpec.ofChange canonSidesWrong)

/- THE SECOND FORM. 'bulk': how many values and letters a reading holds, each counted each time it is reached (what is shared counts as often as it is met; a slice's spare places count too). A statement '..UptoSaid' is the law's where the arguments, and the package variables that the reading takes, are together of bulk at most 1048576: NARROWER than '..Said'. Prove '..Said' where nothing that the law and all that it calls make is longer than what came in: it says more and counts as full. Else prove '..UptoSaid'. A law counts once. -/
mutual
def uptoBulk {H : Type} : DataW H → Nat
  | .lit (.string bytes) => bytes.length + 1
  | .lit _ => 1
  | .nil => 1
  | .ptr d => uptoBulk d + 1
  | .slice elems spare => uptoBulkAll elems + uptoBulkAll spare + 1
  | .agg parts => uptoBulkAll parts + 1
  | .iface _ d => uptoBulk d + 1
  | .map entries => uptoBulkEntries entries + 1
  | .held _ => 1
def uptoBulkAll {H : Type} : List (DataW H) → Nat
  | [] => 0
  | d :: r => uptoBulk d + uptoBulkAll r
def uptoBulkEntries {H : Type} : List (Lit × DataW H) → Nat
  | [] => 0
  | x :: r => uptoBulkEntry x + uptoBulkEntries r
def uptoBulkEntry {H : Type} : Lit × DataW H → Nat
  | (.string bytes, d) => bytes.length + uptoBulk d + 1
  | (_, d) => uptoBulk d + 1
 end
def uptoSmall : (H : Type) → List (DataW H) → Bool := fun _ ds => decide (uptoBulkAll ds ≤ 1048576)
def OpenSpec.upto (s : _root_.Go.ChangeSpec) : _root_.Go.OpenSpec := { _root_.Go.OpenSpec.ofChange s with cond := some uptoSmall }

/-- 'gypsumlaw46.CanonLess', WHERE WHAT IT READS IS OF BULK AT MOST 1048576: true; the input reads as it did. -/
def canonLessUptoRow : OpenClaim := { program := "ytghlnknncahkgaa", sum := "09c1e657f5ce73abf2c90415350782922a4bf8afb1d61fc5add670c89741cd96", func := "gypsum/gypsumlaw46.CanonLess", spec := "canonLess", unfollowed := true, recurses := true, plainKeys := false, apart := false, narrowed := true }
def CanonLessUptoSaid : Prop := canonLessUptoRow.holds Try.pinned (OpenSpec.upto canonLessSpec)

/-- 'gypsumlaw21.WalkSimple', WHERE WHAT IT READS IS OF BULK AT MOST 1048576: true; the input reads as it did. -/
def walkSimpleUptoRow : OpenClaim := { program := "ytghlnknncahkgaa", sum := "09c1e657f5ce73abf2c90415350782922a4bf8afb1d61fc5add670c89741cd96", func := "gypsum/gypsumlaw21.WalkSimple", spec := "walkSimple", inPlace := ["slices.overlaps[int]"], unfollowed := true, recurses := true, plainKeys := false, apart := false, narrowed := true }
def WalkSimpleUptoSaid : Prop := walkSimpleUptoRow.holds Try.pinned (OpenSpec.upto walkSimpleSpec)

/-- 'gypsumlaw21.WalkNone', WHERE WHAT IT READS IS OF BULK AT MOST 1048576: true; the input reads as it did. -/
def walkNoneUptoRow : OpenClaim := { program := "ytghlnknncahkgaa", sum := "09c1e657f5ce73abf2c90415350782922a4bf8afb1d61fc5add670c89741cd96", func := "gypsum/gypsumlaw21.WalkNone", spec := "walkNone", inPlace := ["slices.overlaps[int]"], unfollowed := true, recurses := true, plainKeys := false, apart := false, narrowed := true }
def WalkNoneUptoSaid : Prop := walkNoneUptoRow.holds Try.pinned (OpenSpec.upto walkNoneSpec)

/-- 'gypsumlaw46.CanonSides', WHERE WHAT IT READS IS OF BULK AT MOST 1048576: true; the input reads as it did. -/
def canonSidesUptoRow : OpenClaim := { program := "ytghlnknncahkgaa", sum := "09c1e657f5ce73abf2c90415350782922a4bf8afb1d61fc5add670c89741cd96", func := "gypsum/gypsumlaw46.CanonSides", spec := "canonSides", unfollowed := true, recurses := true, plainKeys := false, apart := false, narrowed := true }
def CanonSidesUptoSaid : Prop := canonSidesUptoRow.holds Try.pinned (OpenSpec.upto canonSidesSpec)

end Rows
end Go.Proofs.Ytghlnknncahkgaa
