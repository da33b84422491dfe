/-
  No cell of these rows narrows 'for every input' (looked for: loops, veiled, ifaces, maps, wideKeys, modest, calm, conditions, laid).
  DERIVED. THE GIVEN ROWS OF THIS SEAT. 8 by the template 'for every input the law returns true; each argument reads behind the call as it read before'; 0 by the template 'total and deterministic' (their statements: YtghlnknncahkgaaGreatTotals.lean).
  GIVEN WITH THE SEED: the statements are not yours to turn. If you find one false, say at which input.
  Laid BY PROGRAM, IN A SANDBOX (cutbox-rows.mjs): the forced cells as the released guide's own fill.sh prints them over the translation 347def21056848cb… (all of the seat's roots in one cut). By AI agents, Wed Nov 11 2026. No macro, syntax, notation, axiom, sorry.
-/
import Derived.Test.YtghlnknncahkgaaGreatChecked
import GoSem.Claim
import GoSem.ClaimJoined
import GoSem.ClaimMapViews
import Derived.JoinedTies
import Derived.KernelRfl
namespace Go.Proofs.YtghlnknncahkgaaGreat
/- THE CELL 'sum', in the pinned program and in every row, IS THE sha256 OF THE DUMP (.gsa) THAT YtghlnknncahkgaaGreatProg.lean LOADS. Nothing in Lean hashes anything: it is a label: what it is worth is what the hold of that sum in a sandbox is worth. -/
noncomputable def Tryz.pinned : Pinned := { name := "ytghlnknncahkgaagreat", sum := "347def21056848cb89661c5b8aae4353e1c5c6ff2ff8c83e1472cbf2b99a87ea", checked := Tryz.checked }
namespace Rows
def none {H : Type} : Left H := { results := [], args := [] }

/-- 'gypsumlaw46.CanonRooted': WHATEVER THE INPUT: true; the input reads as it did. -/
def canonRootedSpec : ChangeSpec := { name := "canonRooted", fn := fun _ => fun
  | [d1, d2] => { results := [.lit (.bool true)], args := [d1, d2] }
  | _ => none }
def canonRootedRow : OpenClaim := { program := "ytghlnknncahkgaagreat", sum := "347def21056848cb89661c5b8aae4353e1c5c6ff2ff8c83e1472cbf2b99a87ea", func := "gypsum/gypsumlaw46.CanonRooted", spec := "canonRooted", unfollowed := true, recurses := true, plainKeys := false, apart := false }
def CanonRootedSaid : Prop := canonRootedRow.holds Tryz.pinned (OpenSpec.ofChange canonRootedSpec)

/-- ITS FALSE NEIGHBOUR: 'it returns false'. Refute it at one input. -/
def canonRootedWrong : ChangeSpec := { name := "canonRooted", fn := fun _ => fun
  | [d1, d2] => { results := [.lit (.bool false)], args := [d1, d2] }
  | _ => none }
def CanonRootedWrongFalsely : Prop := canonRootedRow.holds Tryz.pinned (OpenSpec.ofChange canonRootedWrong)

/-- 'gypsumlaw46.CanonForm': WHATEVER THE INPUT: true; the input reads as it did. -/
def canonFormSpec : ChangeSpec := { name := "canonForm", fn := fun _ => fun
  | [d] => { results := [.lit (.bool true)], args := [d] }
  | _ => none }
def canonFormRow : OpenClaim := { program := "ytghlnknncahkgaagreat", sum := "347def21056848cb89661c5b8aae4353e1c5c6ff2ff8c83e1472cbf2b99a87ea", func := "gypsum/gypsumlaw46.CanonForm", spec := "canonForm", unfollowed := true, recurses := true, plainKeys := false, apart := false }
def CanonFormSaid : Prop := canonFormRow.holds Tryz.pinned (OpenSpec.ofChange canonFormSpec)

/-- ITS FALSE NEIGHBOUR: 'it returns false'. Refute it at one input. -/
def canonFormWrong : ChangeSpec := { name := "canonForm", fn := fun _ => fun
  | [d] => { results := [.lit (.bool false)], args := [d] }
  | _ => none }
def CanonFormWrongFalsely : Prop := canonFormRow.holds Tryz.pinned (OpenSpec.ofChange canonFormWrong)

/-- 'gypsumlaw21.WalkTells': WHATEVER THE INPUT: true; the input reads as it did. -/
def walkTellsSpec : ChangeSpec := { name := "walkTells", fn := fun _ => fun
  | [d1, d2] => { results := [.lit (.bool true)], args := [d1, d2] }
  | _ => none }
def walkTellsRow : OpenClaim := { program := "ytghlnknncahkgaagreat", sum := "347def21056848cb89661c5b8aae4353e1c5c6ff2ff8c83e1472cbf2b99a87ea", func := "gypsum/gypsumlaw21.WalkTells", spec := "walkTells", inPlace := ["slices.overlaps[int]"], unfollowed := true, recurses := true, plainKeys := false, apart := false }
def WalkTellsSaid : Prop := walkTellsRow.holds Tryz.pinned (OpenSpec.ofChange walkTellsSpec)

/-- ITS FALSE NEIGHBOUR: 'it returns false'. Refute it at one input. -/
def walkTellsWrong : ChangeSpec := { name := "walkTells", fn := fun _ => fun
  | [d1, d2] => { results := [.lit (.bool false)], args := [d1, d2] }
  | _ => none }
def WalkTellsWrongFalsely : Prop := walkTellsRow.holds Tryz.pinned (OpenSpec.ofChange walkTellsWrong)

/-- 'gypsumlaw21.WalkSteps': WHATEVER THE INPUT: true; the input reads as it did. -/
def walkStepsSpec : ChangeSpec := { name := "walkSteps", fn := fun _ => fun
  | [d1, d2, d3] => { results := [.lit (.bool true)], args := [d1, d2, d3] }
  | _ => none }
def walkStepsRow : OpenClaim := { program := "ytghlnknncahkgaagreat", sum := "347def21056848cb89661c5b8aae4353e1c5c6ff2ff8c83e1472cbf2b99a87ea", func := "gypsum/gypsumlaw21.WalkSteps", spec := "walkSteps", inPlace := ["slices.overlaps[int]"], unfollowed := true, recurses := true, plainKeys := false, apart := false }
def WalkStepsSaid : Prop := walkStepsRow.holds Tryz.pinned (OpenSpec.ofChange walkStepsSpec)

/-- ITS FALSE NEIGHBOUR: 'it returns false'. Refute it at one input. -/
def walkStepsWrong : ChangeSpec := { name := "walkSteps", fn := fun _ => fun
  | [d1, d2, d3] => { results := [.lit (.bool false)], args := [d1, d2, d3] }
  | _ => none }
def WalkStepsWrongFalsely : Prop := walkStepsRow.holds Tryz.pinned (OpenSpec.ofChange walkStepsWrong)

/-- 'gypsumlaw21.WalkOnce': WHATEVER THE INPUT: true; the input reads as it did. -/
def walkOnceSpec : ChangeSpec := { name := "walkOnce", fn := fun _ => fun
  | [d1, d2] => { results := [.lit (.bool true)], args := [d1, d2] }
  | _ => none }
def walkOnceRow : OpenClaim := { program := "ytghlnknncahkgaagreat", sum := "347def21056848cb89661c5b8aae4353e1c5c6ff2ff8c83e1472cbf2b99a87ea", func := "gypsum/gypsumlaw21.WalkOnce", spec := "walkOnce", inPlace := ["slices.overlaps[int]"], unfollowed := true, recurses := true, plainKeys := false, apart := false }
def WalkOnceSaid : Prop := walkOnceRow.holds Tryz.pinned (OpenSpec.ofChange walkOnceSpec)

/-- ITS FALSE NEIGHBOUR: 'it returns false'. Refute it at one input. -/
def walkOnceWrong : ChangeSpec := { name := "walkOnce", fn := fun _ => fun
  | [d1, d2] => { results := [.lit (.bool false)], args := [d1, d2] }
  | _ => none }
def WalkOnceWrongFalsely : Prop := walkOnceRow.holds Tryz.pinned (OpenSpec.ofChange walkOnceWrong)

/-- 'gypsumlaw21.WalkBits': WHATEVER THE INPUT: true; the input reads as it did. -/
def walkBitsSpec : ChangeSpec := { name := "walkBits", fn := fun _ => fun
  | [d1, d2] => { results := [.lit (.bool true)], args := [d1, d2] }
  | _ => none }
def walkBitsRow : OpenClaim := { program := "ytghlnknncahkgaagreat", sum := "347def21056848cb89661c5b8aae4353e1c5c6ff2ff8c83e1472cbf2b99a87ea", func := "gypsum/gypsumlaw21.WalkBits", spec := "walkBits", inPlace := ["slices.overlaps[int]"], unfollowed := true, recurses := true, plainKeys := false, apart := false }
def WalkBitsSaid : Prop := walkBitsRow.holds Tryz.pinned (OpenSpec.ofChange walkBitsSpec)

/-- ITS FALSE NEIGHBOUR: 'it returns false'. Refute it at one input. -/
def walkBitsWrong : ChangeSpec := { name := "walkBits", fn := fun _ => fun
  | [d1, d2] => { results := [.lit (.bool false)], args := [d1, d2] }
  | _ => none }
def WalkBitsWrongFalsely : Prop := walkBitsRow.holds Tryz.pinned (OpenSpec.ofChange walkBitsWrong)

/-- 'gypsumlaw21.WalkLoops': WHATEVER THE INPUT: true; the input reads as it did. -/
def walkLoopsSpec : ChangeSpec := { name := "walkLoops", fn := fun _ => fun
  | [d1, d2] => { results := [.lit (.bool true)], args := [d1, d2] }
  | _ => none }
def walkLoopsRow : OpenClaim := { program := "ytghlnknncahkgaagreat", sum := "347def21056848cb89661c5b8aae4353e1c5c6ff2ff8c83e1472cbf2b99a87ea", func := "gypsum/gypsumlaw21.WalkLoops", spec := "walkLoops", inPlace := ["slices.overlaps[int]"], unfollowed := true, recurses := true, plainKeys := false, apart := false }
def WalkLoopsSaid : Prop := walkLoopsRow.holds Tryz.pinned (OpenSpec.ofChange walkLoopsSpec)

/-- ITS FALSE NEIGHBOUR: 'it returns false'. Refute it at one input. -/
def walkLoopsWrong : ChangeSpec := { name := "walkLoops", fn := fun _ => fun
  | [d1, d2] => { results := [.lit (.bool false)], args := [d1, d2] }
  | _ => none }
def WalkLoopsWrongFalsely : Prop := walkLoopsRow.holds Tryz.pinned (OpenSpec.ofChange walkLoopsWrong)

/-- 'gypsumlaw46.CanonBody': WHATEVER THE INPUT: true; the input reads as it did. -/
def canonBodySpec : ChangeSpec := { name := "canonBody", fn := fun _ => fun
  | [d] => { results := [.lit (.bool true)], args := [d] }
  | _ => none }
def canonBodyRow : OpenClaim := { program := "ytghlnknncahkgaagreat", sum := "347def21056848cb89661c5b8aae4353e1c5c6ff2ff8c83e1472cbf2b99a87ea", func := "gypsum/gypsumlaw46.CanonBody", spec := "canonBody", unfollowed := true, recurses := true, plainKeys := false, apart := false }
def CanonBodySaid : Prop := canonBodyRow.holds Tryz.pinned (OpenSpec.ofChange canonBodySpec)

/-- ITS FALSE NEIGHBOUR: 'it returns false'. Refute it at one input. -/
def canonBodyWrong : ChangeSpec := { name := "canonBody", fn := fun _ => fun
  | [d] => { results := [.lit (.bool false)], args := [d] }
  | _ => none }
def CanonBodyWrongFalsely : Prop := canonBodyRow.holds Tryz.pinned (OpenSpec.ofChange canonBodyWrong)

/- THE SECOND FORM. 'bulk': how many values and letters a reading holds, each counted each time it is reached (what is shared counts as often as it is met; a slice's spare places count too). A statement '..UptoSaid' is the law's where the arguments, and the package variables that the reading takes, are together of bulk at most 1048576: NARROWER than '..Said'. Prove '..Said' where nothing that the law and all that it calls make is longer than what came in: it says more and counts as full. Else prove '..UptoSaid'. A law counts once. -/
mutual
def uptoBulk {H : Type} : DataW H → Nat
  | .lit (.string bytes) => bytes.length + 1
  | .lit _ => 1
  | .nil => 1
  | .ptr d => uptoBulk d + 1
  | .slice elems spare => uptoBulkAll elems + uptoBulkAll spare + 1
  | .agg parts => uptoBulkAll parts + 1
  | .iface _ d => uptoBulk d + 1
  | .map entries => uptoBulkEntries entries + 1
  | .held _ => 1
def uptoBulkAll {H : Type} : List (DataW H) → Nat
  | [] => 0
  | d :: r => uptoBulk d + uptoBulkAll r
def uptoBulkEntries {H : Type} : List (Lit × DataW H) → Nat
  | [] => 0
  | x :: r => uptoBulkEntry x + uptoBulkEntries r
def uptoBulkEntry {H : Type} : Lit × DataW H → Nat
  | (.string bytes, d) => bytes.length + uptoBulk d + 1
  | (_, d) => uptoBulk d + 1
 end
def uptoSmall : (H : Type) → List (DataW H) → Bool := fun _ ds => decide (uptoBulkAll ds ≤ 1048576)
def OpenSpec.upto (s : _root_.Go.ChangeSpec) : _root_.Go.OpenSpec := { _root_.Go.OpenSpec.ofChange s with cond := some uptoSmall }

/-- 'gypsumlaw46.CanonRooted', WHERE WHAT IT READS IS OF BULK AT MOST 1048576: true; the input reads as it did. -/
def canonRootedUptoRow : OpenClaim := { program := "ytghlnknncahkgaagreat", sum := "347def21056848cb89661c5b8aae4353e1c5c6ff2ff8c83e1472cbf2b99a87ea", func := "gypsum/gypsumlaw46.CanonRooted", spec := "canonRooted", unfollowed := true, recurses := true, plainKeys := false, apart := false, narrowed := true }
def CanonRootedUptoSaid : Prop := canonRootedUptoRow.holds Tryz.pinned (OpenSpec.upto canonRootedSpec)

/-- 'gypsumlaw46.CanonForm', WHERE WHAT IT READS IS OF BULK AT MOST 1048576: true; the input reads as it did. -/
def canonFormUptoRow : OpenClaim := { program := "ytghlnknncahkgaagreat", sum := "347def21056848cb89661c5b8aae4353e1c5c6ff2ff8c83e1472cbf2b99a87ea", func := "gypsum/gypsumlaw46.CanonForm", spec := "canonForm", unfollowed := true, recurses := true, plainKeys := false, apart := false, narrowed := true }
def CanonFormUptoSaid : Prop := canonFormUptoRow.holds Tryz.pinned (OpenSpec.upto canonFormSpec)

/-- 'gypsumlaw21.WalkTells', WHERE WHAT IT READS IS OF BULK AT MOST 1048576: true; the input reads as it did. -/
def walkTellsUptoRow : OpenClaim := { program := "ytghlnknncahkgaagreat", sum := "347def21056848cb89661c5b8aae4353e1c5c6ff2ff8c83e1472cbf2b99a87ea", func := "gypsum/gypsumlaw21.WalkTells", spec := "walkTells", inPlace := ["slices.overlaps[int]"], unfollowed := true, recurses := true, plainKeys := false, apart := false, narrowed := true }
def WalkTellsUptoSaid : Prop := walkTellsUptoRow.holds Tryz.pinned (OpenSpec.upto walkTellsSpec)

/-- 'gypsumlaw21.WalkSteps', WHERE WHAT IT READS IS OF BULK AT MOST 1048576: true; the input reads as it did. -/
def walkStepsUptoRow : OpenClaim := { program := "ytghlnknncahkgaagreat", sum := "347def21056848cb89661c5b8aae4353e1c5c6ff2ff8c83e1472cbf2b99a87ea", func := "gypsum/gypsumlaw21.WalkSteps", spec := "walkSteps", inPlace := ["slices.overlaps[int]"], unfollowed := true, recurses := true, plainKeys := false, apart := false, narrowed := true }
def WalkStepsUptoSaid : Prop := walkStepsUptoRow.holds Tryz.pinned (OpenSpec.upto walkStepsSpec)

/-- 'gypsumlaw21.WalkOnce', WHERE WHAT IT READS IS OF BULK AT MOST 1048576: true; the input reads as it did. -/
def walkOnceUptoRow : OpenClaim := { program := "ytghlnknncahkgaagreat", sum := "347def21056848cb89661c5b8aae4353e1c5c6ff2ff8c83e1472cbf2b99a87ea", func := "gypsum/gypsumlaw21.WalkOnce", spec := "walkOnce", inPlace := ["slices.overlaps[int]"], unfollowed := true, recurses := true, plainKeys := false, apart := false, narrowed := true }
def WalkOnceUptoSaid : Prop := walkOnceUptoRow.holds Tryz.pinned (OpenSpec.upto walkOnceSpec)

/-- 'gypsumlaw21.WalkBits', WHERE WHAT IT READS IS OF BULK AT MOST 1048576: true; the input reads as it did. -/
def walkBitsUptoRow : OpenClaim := { program := "ytghlnknncahkgaagreat", sum := "347def21056848cb89661c5b8aae4353e1c5c6ff2ff8c83e1472cbf2b99a87ea", func := "gypsum/gypsumlaw21.WalkBits", spec := "walkBits", inPlace := ["slices.overlaps[int]"], unfollowed := true, recurses := true, plainKeys := false, apart := false, narrowed := true }
def WalkBitsUptoSaid : Prop := walkBitsUptoRow.holds Tryz.pinned (OpenSpec.upto walkBitsSpec)

/-- 'gypsumlaw21.WalkLoops', WHERE WHAT IT READS IS OF BULK AT MOST 1048576: true; the input reads as it did. -/
def walkLoopsUptoRow : OpenClaim := { program := "ytghlnknncahkgaagreat", sum := "347def21056848cb89661c5b8aae4353e1c5c6ff2ff8c83e1472cbf2b99a87ea", func := "gypsum/gypsumlaw21.WalkLoops", spec := "walkLoops", inPlace := ["slices.overlaps[int]"], unfollowed := true, recurses := true, plainKeys := false, apart := false, narrowed := true }
def WalkLoopsUptoSaid : Prop := walkLoopsUptoRow.holds Tryz.pinned (OpenSpec.upto walkLoopsSpec)

/-- 'gypsumlaw46.CanonBody', WHERE WHAT IT READS IS OF BULK AT MOST 1048576: true; the input reads as it did. -/
def canonBodyUptoRow : OpenClaim := { program := "ytghlnknncahkgaagreat", sum := "347def21056848cb89661c5b8aae4353e1c5c6ff2ff8c83e1472cbf2b99a87ea", func := "gypsum/gypsumlaw46.CanonBody", spec := "canonBody", unfollowed := true, recurses := true, plainKeys := false, apart := false, narrowed := true }
def CanonBodyUptoSaid : Prop := canonBodyUptoRow.holds Tryz.pinned (OpenSpec.upto canonBodySpec)

end Rows
end Go.Proofs.YtghlnknncahkgaaGreat
