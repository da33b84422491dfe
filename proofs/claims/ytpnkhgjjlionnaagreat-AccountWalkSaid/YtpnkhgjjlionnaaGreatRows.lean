/-
  No cell of these rows narrows 'for every input' (looked for: loops, veiled, ifaces, maps, wideKeys, modest, calm, conditions, laid).
  DERIVED. THE GIVEN ROWS OF THIS SEAT. 5 by the template 'for every input the law returns true; each argument reads behind the call as it read before'; 0 by the template 'total and deterministic' (their statements: YtpnkhgjjlionnaaGreatTotals.lean).
  GIVEN WITH THE SEED: the statements are not yours to turn. If you find one false, say at which input.
  Laid BY PROGRAM, IN A SANDBOX (cutbox-rows.mjs): the forced cells as the released guide's own fill.sh prints them over the translation ef35c8ac2ab244c6… (all of the seat's roots in one cut). By AI agents, Wed Nov 11 2026. No macro, syntax, notation, axiom, sorry.
-/
import Derived.Test.YtpnkhgjjlionnaaGreatChecked
import GoSem.Claim
import GoSem.ClaimJoined
import GoSem.ClaimMapViews
import Derived.JoinedTies
import Derived.KernelRfl
namespace Go.Proofs.YtpnkhgjjlionnaaGreat
/- THE CELL 'sum', in the pinned program and in every row, IS THE sha256 OF THE DUMP (.gsa) THAT YtpnkhgjjlionnaaGreatProg.lean LOADS. Nothing in Lean hashes anything: it is a label: what it is worth is what the hold of that sum in a sandbox is worth. -/
noncomputable def Tryz.pinned : Pinned := { name := "ytpnkhgjjlionnaagreat", sum := "ef35c8ac2ab244c60150388640a6eeea04708d16205c45e0dbab3454377c5314", checked := Tryz.checked }
namespace Rows
def none {H : Type} : Left H := { results := [], args := [] }

/-- 'gypsumlaw21.WalkMoved': WHATEVER THE INPUT: true; the input reads as it did. -/
def walkMovedSpec : ChangeSpec := { name := "walkMoved", fn := fun _ => fun
  | [d1, d2, d3] => { results := [.lit (.bool true)], args := [d1, d2, d3] }
  | _ => none }
def walkMovedRow : OpenClaim := { program := "ytpnkhgjjlionnaagreat", sum := "ef35c8ac2ab244c60150388640a6eeea04708d16205c45e0dbab3454377c5314", func := "gypsum/gypsumlaw21.WalkMoved", spec := "walkMoved", inPlace := ["slices.overlaps[int]"], unfollowed := true, recurses := true, plainKeys := false, apart := false }
def WalkMovedSaid : Prop := walkMovedRow.holds Tryz.pinned (OpenSpec.ofChange walkMovedSpec)

/-- ITS FALSE NEIGHBOUR: 'it returns false'. Refute it at one input. -/
def walkMovedWrong : ChangeSpec := { name := "walkMoved", fn := fun _ => fun
  | [d1, d2, d3] => { results := [.lit (.bool false)], args := [d1, d2, d3] }
  | _ => none }
def WalkMovedWrongFalsely : Prop := walkMovedRow.holds Tryz.pinned (OpenSpec.ofChange walkMovedWrong)

/-- 'gypsumlaw24.AccountWalk': WHATEVER THE INPUT: true; the input reads as it did. -/
def accountWalkSpec : ChangeSpec := { name := "accountWalk", fn := fun _ => fun
  | [d1, d2] => { results := [.lit (.bool true)], args := [d1, d2] }
  | _ => none }
def accountWalkRow : OpenClaim := { program := "ytpnkhgjjlionnaagreat", sum := "ef35c8ac2ab244c60150388640a6eeea04708d16205c45e0dbab3454377c5314", func := "gypsum/gypsumlaw24.AccountWalk", spec := "accountWalk", inPlace := ["slices.overlaps[int]"], unfollowed := true, recurses := true, plainKeys := false, apart := false }
def AccountWalkSaid : Prop := accountWalkRow.holds Tryz.pinned (OpenSpec.ofChange accountWalkSpec)

/-- ITS FALSE NEIGHBOUR: 'it returns false'. Refute it at one input. -/
def accountWalkWrong : ChangeSpec := { name := "accountWalk", fn := fun _ => fun
  | [d1, d2] => { results := [.lit (.bool false)], args := [d1, d2] }
  | _ => none }
def AccountWalkWrongFalsely : Prop := accountWalkRow.holds Tryz.pinned (OpenSpec.ofChange accountWalkWrong)

/-- 'gypsumlaw23.ZipWalked': WHATEVER THE INPUT: true; the input reads as it did. -/
def zipWalkedSpec : ChangeSpec := { name := "zipWalked", fn := fun _ => fun
  | [d1, d2] => { results := [.lit (.bool true)], args := [d1, d2] }
  | _ => none }
def zipWalkedRow : OpenClaim := { program := "ytpnkhgjjlionnaagreat", sum := "ef35c8ac2ab244c60150388640a6eeea04708d16205c45e0dbab3454377c5314", func := "gypsum/gypsumlaw23.ZipWalked", spec := "zipWalked", inPlace := ["slices.overlaps[int]"], unfollowed := true, recurses := true, plainKeys := false, apart := false }
def ZipWalkedSaid : Prop := zipWalkedRow.holds Tryz.pinned (OpenSpec.ofChange zipWalkedSpec)

/-- ITS FALSE NEIGHBOUR: 'it returns false'. Refute it at one input. -/
def zipWalkedWrong : ChangeSpec := { name := "zipWalked", fn := fun _ => fun
  | [d1, d2] => { results := [.lit (.bool false)], args := [d1, d2] }
  | _ => none }
def ZipWalkedWrongFalsely : Prop := zipWalkedRow.holds Tryz.pinned (OpenSpec.ofChange zipWalkedWrong)

/-- 'gypsumlaw23.ZipBack': WHATEVER THE INPUT: true; the input reads as it did. -/
def zipBackSpec : ChangeSpec := { name := "zipBack", fn := fun _ => fun
  | [d] => { results := [.lit (.bool true)], args := [d] }
  | _ => none }
def zipBackRow : OpenClaim := { program := "ytpnkhgjjlionnaagreat", sum := "ef35c8ac2ab244c60150388640a6eeea04708d16205c45e0dbab3454377c5314", func := "gypsum/gypsumlaw23.ZipBack", spec := "zipBack", inPlace := ["slices.overlaps[int]"], unfollowed := true, recurses := true, plainKeys := false, apart := false }
def ZipBackSaid : Prop := zipBackRow.holds Tryz.pinned (OpenSpec.ofChange zipBackSpec)

/-- ITS FALSE NEIGHBOUR: 'it returns false'. Refute it at one input. -/
def zipBackWrong : ChangeSpec := { name := "zipBack", fn := fun _ => fun
  | [d] => { results := [.lit (.bool false)], args := [d] }
  | _ => none }
def ZipBackWrongFalsely : Prop := zipBackRow.holds Tryz.pinned (OpenSpec.ofChange zipBackWrong)

/-- 'gypsumlaw23.ZipRoots': WHATEVER THE INPUT: true; the input reads as it did. -/
def zipRootsSpec : ChangeSpec := { name := "zipRoots", fn := fun _ => fun
  | [d1, d2, d3] => { results := [.lit (.bool true)], args := [d1, d2, d3] }
  | _ => none }
def zipRootsRow : OpenClaim := { program := "ytpnkhgjjlionnaagreat", sum := "ef35c8ac2ab244c60150388640a6eeea04708d16205c45e0dbab3454377c5314", func := "gypsum/gypsumlaw23.ZipRoots", spec := "zipRoots", inPlace := ["slices.overlaps[int]"], unfollowed := true, recurses := true, plainKeys := false, apart := false }
def ZipRootsSaid : Prop := zipRootsRow.holds Tryz.pinned (OpenSpec.ofChange zipRootsSpec)

/-- ITS FALSE NEIGHBOUR: 'it returns false'. Refute it at one input. -/
def zipRootsWrong : ChangeSpec := { name := "zipRoots", fn := fun _ => fun
  | [d1, d2, d3] => { results := [.lit (.bool false)], args := [d1, d2, d3] }
  | _ => none }
def ZipRootsWrongFalsely : Prop := zipRootsRow.holds Tryz.pinned (OpenSpec.ofChange zipRootsWrong)

/- THE SECOND FORM. 'bulk': how many values and letters a reading holds, each counted each time it is reached (what is shared counts as often as it is met; a slice's spare places count too). A statement '..UptoSaid' is the law's where the arguments, and the package variables that the reading takes, are together of bulk at most 1048576: NARROWER than '..Said'. Prove '..Said' where nothing that the law and all that it calls make is longer than what came in: it says more and counts as full. Else prove '..UptoSaid'. A law counts once. -/
mutual
def uptoBulk {H : Type} : DataW H → Nat
  | .lit (.string bytes) => bytes.length + 1
  | .lit _ => 1
  | .nil => 1
  | .ptr d => uptoBulk d + 1
  | .slice elems spare => uptoBulkAll elems + uptoBulkAll spare + 1
  | .agg parts => uptoBulkAll parts + 1
  | .iface _ d => uptoBulk d + 1
  | .map entries => uptoBulkEntries entries + 1
  | .held _ => 1
def uptoBulkAll {H : Type} : List (DataW H) → Nat
  | [] => 0
  | d :: r => uptoBulk d + uptoBulkAll r
def uptoBulkEntries {H : Type} : List (Lit × DataW H) → Nat
  | [] => 0
  | x :: r => uptoBulkEntry x + uptoBulkEntries r
def uptoBulkEntry {H : Type} : Lit × DataW H → Nat
  | (.string bytes, d) => bytes.length + uptoBulk d + 1
  | (_, d) => uptoBulk d + 1
 end
def uptoSmall : (H : Type) → List (DataW H) → Bool := fun _ ds => decide (uptoBulkAll ds ≤ 1048576)
def OpenSpec.upto (s : _root_.Go.ChangeSpec) : _root_.Go.OpenSpec := { _root_.Go.OpenSpec.ofChange s with cond := some uptoSmall }

/-- 'gypsumlaw21.WalkMoved', WHERE WHAT IT READS IS OF BULK AT MOST 1048576: true; the input reads as it did. -/
def walkMovedUptoRow : OpenClaim := { program := "ytpnkhgjjlionnaagreat", sum := "ef35c8ac2ab244c60150388640a6eeea04708d16205c45e0dbab3454377c5314", func := "gypsum/gypsumlaw21.WalkMoved", spec := "walkMoved", inPlace := ["slices.overlaps[int]"], unfollowed := true, recurses := true, plainKeys := false, apart := false, narrowed := true }
def WalkMovedUptoSaid : Prop := walkMovedUptoRow.holds Tryz.pinned (OpenSpec.upto walkMovedSpec)

/-- 'gypsumlaw24.AccountWalk', WHERE WHAT IT READS IS OF BULK AT MOST 1048576: true; the input reads as it did. -/
def accountWalkUptoRow : OpenClaim := { program := "ytpnkhgjjlionnaagreat", sum := "ef35c8ac2ab244c60150388640a6eeea04708d16205c45e0dbab3454377c5314", func := "gypsum/gypsumlaw24.AccountWalk", spec := "accountWalk", inPlace := ["slices.overlaps[int]"], unfollowed := true, recurses := true, plainKeys := false, apart := false, narrowed := true }
def AccountWalkUptoSaid : Prop := accountWalkUptoRow.holds Tryz.pinned (OpenSpec.upto accountWalkSpec)

/-- 'gypsumlaw23.ZipWalked', WHERE WHAT IT READS IS OF BULK AT MOST 1048576: true; the input reads as it did. -/
def zipWalkedUptoRow : OpenClaim := { program := "ytpnkhgjjlionnaagreat", sum := "ef35c8ac2ab244c60150388640a6eeea04708d16205c45e0dbab3454377c5314", func := "gypsum/gypsumlaw23.ZipWalked", spec := "zipWalked", inPlace := ["slices.overlaps[int]"], unfollowed := true, recurses := true, plainKeys := false, apart := false, narrowed := true }
def ZipWalkedUptoSaid : Prop := zipWalkedUptoRow.holds Tryz.pinned (OpenSpec.upto zipWalkedSpec)

/-- 'gypsumlaw23.ZipBack', WHERE WHAT IT READS IS OF BULK AT MOST 1048576: true; the input reads as it did. -/
def zipBackUptoRow : OpenClaim := { program := "ytpnkhgjjlionnaagreat", sum := "ef35c8ac2ab244c60150388640a6eeea04708d16205c45e0dbab3454377c5314", func := "gypsum/gypsumlaw23.ZipBack", spec := "zipBack", inPlace := ["slices.overlaps[int]"], unfollowed := true, recurses := true, plainKeys := false, apart := false, narrowed := true }
def ZipBackUptoSaid : Prop := zipBackUptoRow.holds Tryz.pinned (OpenSpec.upto zipBackSpec)

/-- 'gypsumlaw23.ZipRoots', WHERE WHAT IT READS IS OF BULK AT MOST 1048576: true; the input reads as it did. -/
def zipRootsUptoRow : OpenClaim := { program := "ytpnkhgjjlionnaagreat", sum := "ef35c8ac2ab244c60150388640a6eeea04708d16205c45e0dbab3454377c5314", func := "gypsum/gypsumlaw23.ZipRoots", spec := "zipRoots", inPlace := ["slices.overlaps[int]"], unfollowed := true, recurses := true, plainKeys := false, apart := false, narrowed := true }
def ZipRootsUptoSaid : Prop := zipRootsUptoRow.holds Tryz.pinned (OpenSpec.upto zipRootsSpec)

end Rows
end Go.Proofs.YtpnkhgjjlionnaaGreat
