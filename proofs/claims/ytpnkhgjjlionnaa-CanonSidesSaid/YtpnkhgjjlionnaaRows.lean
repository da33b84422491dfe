/-
  No cell of these rows narrows 'for every input' (looked for: loops, veiled, ifaces, maps, wideKeys, modest, calm, conditions, laid).
  DERIVED. THE GIVEN ROWS OF THIS SEAT. 5 by the template 'for every input the law returns true; each argument reads behind the call as it read before'; 0 by the template 'total and deterministic' (their statements: YtpnkhgjjlionnaaTotals.lean).
  GIVEN WITH THE SEED: the statements are not yours to turn. If you find one false, say at which input.
  Laid BY PROGRAM, IN A SANDBOX (cutbox-rows.mjs): the forced cells as the released guide's own fill.sh prints them over the translation 5803fbda17b136c4… (all of the seat's roots in one cut). By AI agents, Wed Nov 11 2026. No macro, syntax, notation, axiom, sorry.
-/
import Derived.Test.YtpnkhgjjlionnaaChecked
import GoSem.Claim
import GoSem.ClaimJoined
import GoSem.ClaimMapViews
import Derived.JoinedTies
import Derived.KernelRfl
namespace Go.Proofs.Ytpnkhgjjlionnaa
/- THE CELL 'sum', in the pinned program and in every row, IS THE sha256 OF THE DUMP (.gsa) THAT YtpnkhgjjlionnaaProg.lean LOADS. Nothing in Lean hashes anything: it is a label: what it is worth is what the hold of that sum in a sandbox is worth. -/
noncomputable def Try.pinned : Pinned := { name := "ytpnkhgjjlionnaa", sum := "5803fbda17b136c4214b8f2fef933e0c3f2c889794fb1351d86f52fc26d1a7c6", checked := Try.checked }
namespace Rows
def none {H : Type} : Left H := { results := [], args := [] }

/-- 'gypsumlaw46.CanonSides': WHATEVER THE INPUT: true; the input reads as it did. -/
def canonSidesSpec : ChangeSpec := { name := "canonSides", fn := fun _ => fun
  | [d1, d2] => { results := [.lit (.bool true)], args := [d1, d2] }
  | _ => none }
def canonSidesRow : OpenClaim := { program := "ytpnkhgjjlionnaa", sum := "5803fbda17b136c4214b8f2fef933e0c3f2c889794fb1351d86f52fc26d1a7c6", func := "gypsum/gypsumlaw46.CanonSides", spec := "canonSides", unfollowed := true, recurses := true, plainKeys := false, apart := false }
def CanonSidesSaid : Prop := canonSidesRow.holds Try.pinned (OpenSpec.ofChange canonSidesSpec)

/-- ITS FALSE NEIGHBOUR: 'it returns false'. Refute it at one input. -/
def canonSidesWrong : ChangeSpec := { name := "canonSides", fn := fun _ => fun
  | [d1, d2] => { results := [.lit (.bool false)], args := [d1, d2] }
  | _ => none }
def CanonSidesWrongFalsely : Prop := canonSidesRow.holds Try.pinned (OpenSpec.ofChange canonSidesWrong)

/-- 'gypsumlaw46.CanonBrute': WHATEVER THE INPUT: true; the input reads as it did. -/
def canonBruteSpec : ChangeSpec := { name := "canonBrute", fn := fun _ => fun
  | [d1, d2] => { results := [.lit (.bool true)], args := [d1, d2] }
  | _ => none }
def canonBruteRow : OpenClaim := { program := "ytpnkhgjjlionnaa", sum := "5803fbda17b136c4214b8f2fef933e0c3f2c889794fb1351d86f52fc26d1a7c6", func := "gypsum/gypsumlaw46.CanonBrute", spec := "canonBrute", unfollowed := true, recurses := true, plainKeys := false, apart := false }
def CanonBruteSaid : Prop := canonBruteRow.holds Try.pinned (OpenSpec.ofChange canonBruteSpec)

/-- ITS FALSE NEIGHBOUR: 'it returns false'. Refute it at one input. -/
def canonBruteWrong : ChangeSpec := { name := "canonBrute", fn := fun _ => fun
  | [d1, d2] => { results := [.lit (.bool false)], args := [d1, d2] }
  | _ => none }
def CanonBruteWrongFalsely : Prop := canonBruteRow.holds Try.pinned (OpenSpec.ofChange canonBruteWrong)

/-- 'gypsumlaw46.CanonMap': WHATEVER THE INPUT: true; the input reads as it did. -/
def canonMapSpec : ChangeSpec := { name := "canonMap", fn := fun _ => fun
  | [d1, d2] => { results := [.lit (.bool true)], args := [d1, d2] }
  | _ => none }
def canonMapRow : OpenClaim := { program := "ytpnkhgjjlionnaa", sum := "5803fbda17b136c4214b8f2fef933e0c3f2c889794fb1351d86f52fc26d1a7c6", func := "gypsum/gypsumlaw46.CanonMap", spec := "canonMap", unfollowed := true, recurses := true, plainKeys := false, apart := false }
def CanonMapSaid : Prop := canonMapRow.holds Try.pinned (OpenSpec.ofChange canonMapSpec)

/-- ITS FALSE NEIGHBOUR: 'it returns false'. Refute it at one input. -/
def canonMapWrong : ChangeSpec := { name := "canonMap", fn := fun _ => fun
  | [d1, d2] => { results := [.lit (.bool false)], args := [d1, d2] }
  | _ => none }
def CanonMapWrongFalsely : Prop := canonMapRow.holds Try.pinned (OpenSpec.ofChange canonMapWrong)

/-- 'gypsumlaw23.ZipShape': WHATEVER THE INPUT: true; the input reads as it did. -/
def zipShapeSpec : ChangeSpec := { name := "zipShape", fn := fun _ => fun
  | [d] => { results := [.lit (.bool true)], args := [d] }
  | _ => none }
def zipShapeRow : OpenClaim := { program := "ytpnkhgjjlionnaa", sum := "5803fbda17b136c4214b8f2fef933e0c3f2c889794fb1351d86f52fc26d1a7c6", func := "gypsum/gypsumlaw23.ZipShape", spec := "zipShape", unfollowed := true, recurses := true, plainKeys := false, apart := false }
def ZipShapeSaid : Prop := zipShapeRow.holds Try.pinned (OpenSpec.ofChange zipShapeSpec)

/-- ITS FALSE NEIGHBOUR: 'it returns false'. Refute it at one input. -/
def zipShapeWrong : ChangeSpec := { name := "zipShape", fn := fun _ => fun
  | [d] => { results := [.lit (.bool false)], args := [d] }
  | _ => none }
def ZipShapeWrongFalsely : Prop := zipShapeRow.holds Try.pinned (OpenSpec.ofChange zipShapeWrong)

/-- 'gypsumlaw46.CanonTwice': WHATEVER THE INPUT: true; the input reads as it did. -/
def canonTwiceSpec : ChangeSpec := { name := "canonTwice", fn := fun _ => fun
  | [d1, d2] => { results := [.lit (.bool true)], args := [d1, d2] }
  | _ => none }
def canonTwiceRow : OpenClaim := { program := "ytpnkhgjjlionnaa", sum := "5803fbda17b136c4214b8f2fef933e0c3f2c889794fb1351d86f52fc26d1a7c6", func := "gypsum/gypsumlaw46.CanonTwice", spec := "canonTwice", unfollowed := true, recurses := true, plainKeys := false, apart := false }
def CanonTwiceSaid : Prop := canonTwiceRow.holds Try.pinned (OpenSpec.ofChange canonTwiceSpec)

/-- ITS FALSE NEIGHBOUR: 'it returns false'. Refute it at one input. -/
def canonTwiceWrong : ChangeSpec := { name := "canonTwice", fn := fun _ => fun
  | [d1, d2] => { results := [.lit (.bool false)], args := [d1, d2] }
  | _ => none }
def CanonTwiceWrongFalsely : Prop := canonTwiceRow.holds Try.pinned (OpenSpec.ofChange canonTwiceWrong)

/- THE SECOND FORM. 'bulk': how many values and letters a reading holds, each counted each time it is reached (what is shared counts as often as it is met; a slice's spare places count too). A statement '..UptoSaid' is the law's where the arguments, and the package variables that the reading takes, are together of bulk at most 1048576: NARROWER than '..Said'. Prove '..Said' where nothing that the law and all that it calls make is longer than what came in: it says more and counts as full. Else prove '..UptoSaid'. A law counts once. -/
mutual
def uptoBulk {H : Type} : DataW H → Nat
  | .lit (.string bytes) => bytes.length + 1
  | .lit _ => 1
  | .nil => 1
  | .ptr d => uptoBulk d + 1
  | .slice elems spare => uptoBulkAll elems + uptoBulkAll spare + 1
  | .agg parts => uptoBulkAll parts + 1
  | .iface _ d => uptoBulk d + 1
  | .map entries => uptoBulkEntries entries + 1
  | .held _ => 1
def uptoBulkAll {H : Type} : List (DataW H) → Nat
  | [] => 0
  | d :: r => uptoBulk d + uptoBulkAll r
def uptoBulkEntries {H : Type} : List (Lit × DataW H) → Nat
  | [] => 0
  | x :: r => uptoBulkEntry x + uptoBulkEntries r
def uptoBulkEntry {H : Type} : Lit × DataW H → Nat
  | (.string bytes, d) => bytes.length + uptoBulk d + 1
  | (_, d) => uptoBulk d + 1
 end
def uptoSmall : (H : Type) → List (DataW H) → Bool := fun _ ds => decide (uptoBulkAll ds ≤ 1048576)
def OpenSpec.upto (s : _root_.Go.ChangeSpec) : _root_.Go.OpenSpec := { _root_.Go.OpenSpec.ofChange s with cond := some uptoSmall }

/-- 'gypsumlaw46.CanonSides', WHERE WHAT IT READS IS OF BULK AT MOST 1048576: true; the input reads as it did. -/
def canonSidesUptoRow : OpenClaim := { program := "ytpnkhgjjlionnaa", sum := "5803fbda17b136c4214b8f2fef933e0c3f2c889794fb1351d86f52fc26d1a7c6", func := "gypsum/gypsumlaw46.CanonSides", spec := "canonSides", unfollowed := true, recurses := true, plainKeys := false, apart := false, narrowed := true }
def CanonSidesUptoSaid : Prop := canonSidesUptoRow.holds Try.pinned (OpenSpec.upto canonSidesSpec)

/-- 'gypsumlaw46.CanonBrute', WHERE WHAT IT READS IS OF BULK AT MOST 1048576: true; the input reads as it did. -/
def canonBruteUptoRow : OpenClaim := { program := "ytpnkhgjjlionnaa", sum := "5803fbda17b136c4214b8f2fef933e0c3f2c889794fb1351d86f52fc26d1a7c6", func := "gypsum/gypsumlaw46.CanonBrute", spec := "canonBrute", unfollowed := true, recurses := true, plainKeys := false, apart := false, narrowed := true }
def CanonBruteUptoSaid : Prop := canonBruteUptoRow.holds Try.pinned (OpenSpec.upto canonBruteSpec)

/-- 'gypsumlaw46.CanonMap', WHERE WHAT IT READS IS OF BULK AT MOST 1048576: true; the input reads as it did. -/
def canonMapUptoRow : OpenClaim := { program := "ytpnkhgjjlionnaa", sum := "5803fbda17b136c4214b8f2fef933e0c3f2c889794fb1351d86f52fc26d1a7c6", func := "gypsum/gypsumlaw46.CanonMap", spec := "canonMap", unfollowed := true, recurses := true, plainKeys := false, apart := false, narrowed := true }
def CanonMapUptoSaid : Prop := canonMapUptoRow.holds Try.pinned (OpenSpec.upto canonMapSpec)

/-- 'gypsumlaw23.ZipShape', WHERE WHAT IT READS IS OF BULK AT MOST 1048576: true; the input reads as it did. -/
def zipShapeUptoRow : OpenClaim := { program := "ytpnkhgjjlionnaa", sum := "5803fbda17b136c4214b8f2fef933e0c3f2c889794fb1351d86f52fc26d1a7c6", func := "gypsum/gypsumlaw23.ZipShape", spec := "zipShape", unfollowed := true, recurses := true, plainKeys := false, apart := false, narrowed := true }
def ZipShapeUptoSaid : Prop := zipShapeUptoRow.holds Try.pinned (OpenSpec.upto zipShapeSpec)

/-- 'gypsumlaw46.CanonTwice', WHERE WHAT IT READS IS OF BULK AT MOST 1048576: true; the input reads as it did. -/
def canonTwiceUptoRow : OpenClaim := { program := "ytpnkhgjjlionnaa", sum := "5803fbda17b136c4214b8f2fef933e0c3f2c889794fb1351d86f52fc26d1a7c6", func := "gypsum/gypsumlaw46.CanonTwice", spec := "canonTwice", unfollowed := true, recurses := true, plainKeys := false, apart := false, narrowed := true }
def CanonTwiceUptoSaid : Prop := canonTwiceUptoRow.holds Try.pinned (OpenSpec.upto canonTwiceSpec)

end Rows
end Go.Proofs.Ytpnkhgjjlionnaa
