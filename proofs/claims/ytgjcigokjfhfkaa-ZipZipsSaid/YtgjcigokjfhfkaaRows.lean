/-
  No cell of these rows narrows 'for every input' (looked for: loops, veiled, ifaces, maps, wideKeys, modest, calm, conditions, laid).
  DERIVED. THE GIVEN ROWS OF THIS SEAT. 10 by the template 'for every input the law returns true; each argument reads behind the call as it read before'; 0 by the template 'total and deterministic' (their statements: YtgjcigokjfhfkaaTotals.lean).
  GIVEN WITH THE SEED: the statements are not yours to turn. If you find one false, say at which input.
  Laid BY PROGRAM, IN A SANDBOX (cutbox-rows.mjs): the forced cells as the released guide's own fill.sh prints them over the translation 3ba0bec6b9f22b10… (all of the seat's roots in one cut). By AI agents, Wed Nov 11 2026. No macro, syntax, notation, axiom, sorry.
-/
import Derived.Test.YtgjcigokjfhfkaaChecked
import GoSem.Claim
import GoSem.ClaimJoined
import GoSem.ClaimMapViews
import Derived.JoinedTies
import Derived.KernelRfl
namespace Go.Proofs.Ytgjcigokjfhfkaa
/- THE CELL 'sum', in the pinned program and in every row, IS THE sha256 OF THE DUMP (.gsa) THAT YtgjcigokjfhfkaaProg.lean LOADS. Nothing in Lean hashes anything: it is a label: what it is worth is what the hold of that sum in a sandbox is worth. -/
noncomputable def Try.pinned : Pinned := { name := "ytgjcigokjfhfkaa", sum := "3ba0bec6b9f22b10d4c3a6abb6b2a46e40fdc24def60b71847d79039a38bf4ef", checked := Try.checked }
namespace Rows
def none {H : Type} : Left H := { results := [], args := [] }

/-- 'gypsumlaw24.AccountOf': WHATEVER THE INPUT: true; the input reads as it did. -/
def accountOfSpec : ChangeSpec := { name := "accountOf", fn := fun _ => fun
  | [d] => { results := [.lit (.bool true)], args := [d] }
  | _ => none }
def accountOfRow : OpenClaim := { program := "ytgjcigokjfhfkaa", sum := "3ba0bec6b9f22b10d4c3a6abb6b2a46e40fdc24def60b71847d79039a38bf4ef", func := "gypsum/gypsumlaw24.AccountOf", spec := "accountOf", unfollowed := true, recurses := true, plainKeys := false, apart := false }
def AccountOfSaid : Prop := accountOfRow.holds Try.pinned (OpenSpec.ofChange accountOfSpec)

/-- ITS FALSE NEIGHBOUR: 'it returns false'. Refute it at one input. -/
def accountOfWrong : ChangeSpec := { name := "accountOf", fn := fun _ => fun
  | [d] => { results := [.lit (.bool false)], args := [d] }
  | _ => none }
def AccountOfWrongFalsely : Prop := accountOfRow.holds Try.pinned (OpenSpec.ofChange accountOfWrong)

/-- 'gypsumlaw24.AccountParts': WHATEVER THE INPUT: true; the input reads as it did. -/
def accountPartsSpec : ChangeSpec := { name := "accountParts", fn := fun _ => fun
  | [d1, d2] => { results := [.lit (.bool true)], args := [d1, d2] }
  | _ => none }
def accountPartsRow : OpenClaim := { program := "ytgjcigokjfhfkaa", sum := "3ba0bec6b9f22b10d4c3a6abb6b2a46e40fdc24def60b71847d79039a38bf4ef", func := "gypsum/gypsumlaw24.AccountParts", spec := "accountParts", unfollowed := true, recurses := true, plainKeys := false, apart := false }
def AccountPartsSaid : Prop := accountPartsRow.holds Try.pinned (OpenSpec.ofChange accountPartsSpec)

/-- ITS FALSE NEIGHBOUR: 'it returns false'. Refute it at one input. -/
def accountPartsWrong : ChangeSpec := { name := "accountParts", fn := fun _ => fun
  | [d1, d2] => { results := [.lit (.bool false)], args := [d1, d2] }
  | _ => none }
def AccountPartsWrongFalsely : Prop := accountPartsRow.holds Try.pinned (OpenSpec.ofChange accountPartsWrong)

/-- 'gypsumlaw24.AccountMost': WHATEVER THE INPUT: true; the input reads as it did. -/
def accountMostSpec : ChangeSpec := { name := "accountMost", fn := fun _ => fun
  | [d1, d2, d3] => { results := [.lit (.bool true)], args := [d1, d2, d3] }
  | _ => none }
def accountMostRow : OpenClaim := { program := "ytgjcigokjfhfkaa", sum := "3ba0bec6b9f22b10d4c3a6abb6b2a46e40fdc24def60b71847d79039a38bf4ef", func := "gypsum/gypsumlaw24.AccountMost", spec := "accountMost", unfollowed := true, recurses := true, plainKeys := false, apart := false }
def AccountMostSaid : Prop := accountMostRow.holds Try.pinned (OpenSpec.ofChange accountMostSpec)

/-- ITS FALSE NEIGHBOUR: 'it returns false'. Refute it at one input. -/
def accountMostWrong : ChangeSpec := { name := "accountMost", fn := fun _ => fun
  | [d1, d2, d3] => { results := [.lit (.bool false)], args := [d1, d2, d3] }
  | _ => none }
def AccountMostWrongFalsely : Prop := accountMostRow.holds Try.pinned (OpenSpec.ofChange accountMostWrong)

/-- 'gypsumlaw24.AccountChecks': WHATEVER THE INPUT: true; the input reads as it did. -/
def accountChecksSpec : ChangeSpec := { name := "accountChecks", fn := fun _ => fun
  | [d1, d2] => { results := [.lit (.bool true)], args := [d1, d2] }
  | _ => none }
def accountChecksRow : OpenClaim := { program := "ytgjcigokjfhfkaa", sum := "3ba0bec6b9f22b10d4c3a6abb6b2a46e40fdc24def60b71847d79039a38bf4ef", func := "gypsum/gypsumlaw24.AccountChecks", spec := "accountChecks", unfollowed := true, recurses := true, plainKeys := false, apart := false }
def AccountChecksSaid : Prop := accountChecksRow.holds Try.pinned (OpenSpec.ofChange accountChecksSpec)

/-- ITS FALSE NEIGHBOUR: 'it returns false'. Refute it at one input. -/
def accountChecksWrong : ChangeSpec := { name := "accountChecks", fn := fun _ => fun
  | [d1, d2] => { results := [.lit (.bool false)], args := [d1, d2] }
  | _ => none }
def AccountChecksWrongFalsely : Prop := accountChecksRow.holds Try.pinned (OpenSpec.ofChange accountChecksWrong)

/-- 'gypsumlaw24.AccountTwo': WHATEVER THE INPUT: true; the input reads as it did. -/
def accountTwoSpec : ChangeSpec := { name := "accountTwo", fn := fun _ => fun
  | [d] => { results := [.lit (.bool true)], args := [d] }
  | _ => none }
def accountTwoRow : OpenClaim := { program := "ytgjcigokjfhfkaa", sum := "3ba0bec6b9f22b10d4c3a6abb6b2a46e40fdc24def60b71847d79039a38bf4ef", func := "gypsum/gypsumlaw24.AccountTwo", spec := "accountTwo", unfollowed := true, recurses := true, plainKeys := false, apart := false }
def AccountTwoSaid : Prop := accountTwoRow.holds Try.pinned (OpenSpec.ofChange accountTwoSpec)

/-- ITS FALSE NEIGHBOUR: 'it returns false'. Refute it at one input. -/
def accountTwoWrong : ChangeSpec := { name := "accountTwo", fn := fun _ => fun
  | [d] => { results := [.lit (.bool false)], args := [d] }
  | _ => none }
def AccountTwoWrongFalsely : Prop := accountTwoRow.holds Try.pinned (OpenSpec.ofChange accountTwoWrong)

/-- 'gypsumlaw23.ZipZips': WHATEVER THE INPUT: true; the input reads as it did. -/
def zipZipsSpec : ChangeSpec := { name := "zipZips", fn := fun _ => fun
  | [d] => { results := [.lit (.bool true)], args := [d] }
  | _ => none }
def zipZipsRow : OpenClaim := { program := "ytgjcigokjfhfkaa", sum := "3ba0bec6b9f22b10d4c3a6abb6b2a46e40fdc24def60b71847d79039a38bf4ef", func := "gypsum/gypsumlaw23.ZipZips", spec := "zipZips", unfollowed := true, recurses := true, plainKeys := false, apart := false }
def ZipZipsSaid : Prop := zipZipsRow.holds Try.pinned (OpenSpec.ofChange zipZipsSpec)

/-- ITS FALSE NEIGHBOUR: 'it returns false'. Refute it at one input. -/
def zipZipsWrong : ChangeSpec := { name := "zipZips", fn := fun _ => fun
  | [d] => { results := [.lit (.bool false)], args := [d] }
  | _ => none }
def ZipZipsWrongFalsely : Prop := zipZipsRow.holds Try.pinned (OpenSpec.ofChange zipZipsWrong)

/-- 'gypsumlaw23.ZipCuts': WHATEVER THE INPUT: true; the input reads as it did. -/
def zipCutsSpec : ChangeSpec := { name := "zipCuts", fn := fun _ => fun
  | [d1, d2, d3] => { results := [.lit (.bool true)], args := [d1, d2, d3] }
  | _ => none }
def zipCutsRow : OpenClaim := { program := "ytgjcigokjfhfkaa", sum := "3ba0bec6b9f22b10d4c3a6abb6b2a46e40fdc24def60b71847d79039a38bf4ef", func := "gypsum/gypsumlaw23.ZipCuts", spec := "zipCuts", unfollowed := true, recurses := true, plainKeys := false, apart := false }
def ZipCutsSaid : Prop := zipCutsRow.holds Try.pinned (OpenSpec.ofChange zipCutsSpec)

/-- ITS FALSE NEIGHBOUR: 'it returns false'. Refute it at one input. -/
def zipCutsWrong : ChangeSpec := { name := "zipCuts", fn := fun _ => fun
  | [d1, d2, d3] => { results := [.lit (.bool false)], args := [d1, d2, d3] }
  | _ => none }
def ZipCutsWrongFalsely : Prop := zipCutsRow.holds Try.pinned (OpenSpec.ofChange zipCutsWrong)

/-- 'gypsumlaw23.ZipOther': WHATEVER THE INPUT: true; the input reads as it did. -/
def zipOtherSpec : ChangeSpec := { name := "zipOther", fn := fun _ => fun
  | [d1, d2] => { results := [.lit (.bool true)], args := [d1, d2] }
  | _ => none }
def zipOtherRow : OpenClaim := { program := "ytgjcigokjfhfkaa", sum := "3ba0bec6b9f22b10d4c3a6abb6b2a46e40fdc24def60b71847d79039a38bf4ef", func := "gypsum/gypsumlaw23.ZipOther", spec := "zipOther", unfollowed := true, recurses := true, plainKeys := false, apart := false }
def ZipOtherSaid : Prop := zipOtherRow.holds Try.pinned (OpenSpec.ofChange zipOtherSpec)

/-- ITS FALSE NEIGHBOUR: 'it returns false'. Refute it at one input. -/
def zipOtherWrong : ChangeSpec := { name := "zipOther", fn := fun _ => fun
  | [d1, d2] => { results := [.lit (.bool false)], args := [d1, d2] }
  | _ => none }
def ZipOtherWrongFalsely : Prop := zipOtherRow.holds Try.pinned (OpenSpec.ofChange zipOtherWrong)

/-- 'gypsumlaw23.ZipCosts': WHATEVER THE INPUT: true; the input reads as it did. -/
def zipCostsSpec : ChangeSpec := { name := "zipCosts", fn := fun _ => fun
  | [d] => { results := [.lit (.bool true)], args := [d] }
  | _ => none }
def zipCostsRow : OpenClaim := { program := "ytgjcigokjfhfkaa", sum := "3ba0bec6b9f22b10d4c3a6abb6b2a46e40fdc24def60b71847d79039a38bf4ef", func := "gypsum/gypsumlaw23.ZipCosts", spec := "zipCosts", unfollowed := true, recurses := true, plainKeys := false, apart := false }
def ZipCostsSaid : Prop := zipCostsRow.holds Try.pinned (OpenSpec.ofChange zipCostsSpec)

/-- ITS FALSE NEIGHBOUR: 'it returns false'. Refute it at one input. -/
def zipCostsWrong : ChangeSpec := { name := "zipCosts", fn := fun _ => fun
  | [d] => { results := [.lit (.bool false)], args := [d] }
  | _ => none }
def ZipCostsWrongFalsely : Prop := zipCostsRow.holds Try.pinned (OpenSpec.ofChange zipCostsWrong)

/-- 'gypsumlaw24.AccountZip': WHATEVER THE INPUT: true; the input reads as it did. -/
def accountZipSpec : ChangeSpec := { name := "accountZip", fn := fun _ => fun
  | [d] => { results := [.lit (.bool true)], args := [d] }
  | _ => none }
def accountZipRow : OpenClaim := { program := "ytgjcigokjfhfkaa", sum := "3ba0bec6b9f22b10d4c3a6abb6b2a46e40fdc24def60b71847d79039a38bf4ef", func := "gypsum/gypsumlaw24.AccountZip", spec := "accountZip", unfollowed := true, recurses := true, plainKeys := false, apart := false }
def AccountZipSaid : Prop := accountZipRow.holds Try.pinned (OpenSpec.ofChange accountZipSpec)

/-- ITS FALSE NEIGHBOUR: 'it returns false'. Refute it at one input. -/
def accountZipWrong : ChangeSpec := { name := "accountZip", fn := fun _ => fun
  | [d] => { results := [.lit (.bool false)], args := [d] }
  | _ => none }
def AccountZipWrongFalsely : Prop := accountZipRow.holds Try.pinned (OpenSpec.ofChange accountZipWrong)

/- THE SECOND FORM. 'bulk': how many values and letters a reading holds, each counted each time it is reached (what is shared counts as often as it is met; a slice's spare places count too). A statement '..UptoSaid' is the law's where the arguments, and the package variables that the reading takes, are together of bulk at most 1048576: NARROWER than '..Said'. Prove '..Said' where nothing that the law and all that it calls make is longer than what came in: it says more and counts as full. Else prove '..UptoSaid'. A law counts once. -/
mutual
def uptoBulk {H : Type} : DataW H → Nat
  | .lit (.string bytes) => bytes.length + 1
  | .lit _ => 1
  | .nil => 1
  | .ptr d => uptoBulk d + 1
  | .slice elems spare => uptoBulkAll elems + uptoBulkAll spare + 1
  | .agg parts => uptoBulkAll parts + 1
  | .iface _ d => uptoBulk d + 1
  | .map entries => uptoBulkEntries entries + 1
  | .held _ => 1
def uptoBulkAll {H : Type} : List (DataW H) → Nat
  | [] => 0
  | d :: r => uptoBulk d + uptoBulkAll r
def uptoBulkEntries {H : Type} : List (Lit × DataW H) → Nat
  | [] => 0
  | x :: r => uptoBulkEntry x + uptoBulkEntries r
def uptoBulkEntry {H : Type} : Lit × DataW H → Nat
  | (.string bytes, d) => bytes.length + uptoBulk d + 1
  | (_, d) => uptoBulk d + 1
 end
def uptoSmall : (H : Type) → List (DataW H) → Bool := fun _ ds => decide (uptoBulkAll ds ≤ 1048576)
def OpenSpec.upto (s : _root_.Go.ChangeSpec) : _root_.Go.OpenSpec := { _root_.Go.OpenSpec.ofChange s with cond := some uptoSmall }

/-- 'gypsumlaw24.AccountOf', WHERE WHAT IT READS IS OF BULK AT MOST 1048576: true; the input reads as it did. -/
def accountOfUptoRow : OpenClaim := { program := "ytgjcigokjfhfkaa", sum := "3ba0bec6b9f22b10d4c3a6abb6b2a46e40fdc24def60b71847d79039a38bf4ef", func := "gypsum/gypsumlaw24.AccountOf", spec := "accountOf", unfollowed := true, recurses := true, plainKeys := false, apart := false, narrowed := true }
def AccountOfUptoSaid : Prop := accountOfUptoRow.holds Try.pinned (OpenSpec.upto accountOfSpec)

/-- 'gypsumlaw24.AccountParts', WHERE WHAT IT READS IS OF BULK AT MOST 1048576: true; the input reads as it did. -/
def accountPartsUptoRow : OpenClaim := { program := "ytgjcigokjfhfkaa", sum := "3ba0bec6b9f22b10d4c3a6abb6b2a46e40fdc24def60b71847d79039a38bf4ef", func := "gypsum/gypsumlaw24.AccountParts", spec := "accountParts", unfollowed := true, recurses := true, plainKeys := false, apart := false, narrowed := true }
def AccountPartsUptoSaid : Prop := accountPartsUptoRow.holds Try.pinned (OpenSpec.upto accountPartsSpec)

/-- 'gypsumlaw24.AccountMost', WHERE WHAT IT READS IS OF BULK AT MOST 1048576: true; the input reads as it did. -/
def accountMostUptoRow : OpenClaim := { program := "ytgjcigokjfhfkaa", sum := "3ba0bec6b9f22b10d4c3a6abb6b2a46e40fdc24def60b71847d79039a38bf4ef", func := "gypsum/gypsumlaw24.AccountMost", spec := "accountMost", unfollowed := true, recurses := true, plainKeys := false, apart := false, narrowed := true }
def AccountMostUptoSaid : Prop := accountMostUptoRow.holds Try.pinned (OpenSpec.upto accountMostSpec)

/-- 'gypsumlaw24.AccountChecks', WHERE WHAT IT READS IS OF BULK AT MOST 1048576: true; the input reads as it did. -/
def accountChecksUptoRow : OpenClaim := { program := "ytgjcigokjfhfkaa", sum := "3ba0bec6b9f22b10d4c3a6abb6b2a46e40fdc24def60b71847d79039a38bf4ef", func := "gypsum/gypsumlaw24.AccountChecks", spec := "accountChecks", unfollowed := true, recurses := true, plainKeys := false, apart := false, narrowed := true }
def AccountChecksUptoSaid : Prop := accountChecksUptoRow.holds Try.pinned (OpenSpec.upto accountChecksSpec)

/-- 'gypsumlaw24.AccountTwo', WHERE WHAT IT READS IS OF BULK AT MOST 1048576: true; the input reads as it did. -/
def accountTwoUptoRow : OpenClaim := { program := "ytgjcigokjfhfkaa", sum := "3ba0bec6b9f22b10d4c3a6abb6b2a46e40fdc24def60b71847d79039a38bf4ef", func := "gypsum/gypsumlaw24.AccountTwo", spec := "accountTwo", unfollowed := true, recurses := true, plainKeys := false, apart := false, narrowed := true }
def AccountTwoUptoSaid : Prop := accountTwoUptoRow.holds Try.pinned (OpenSpec.upto accountTwoSpec)

/-- 'gypsumlaw23.ZipZips', WHERE WHAT IT READS IS OF BULK AT MOST 1048576: true; the input reads as it did. -/
def zipZipsUptoRow : OpenClaim := { program := "ytgjcigokjfhfkaa", sum := "3ba0bec6b9f22b10d4c3a6abb6b2a46e40fdc24def60b71847d79039a38bf4ef", func := "gypsum/gypsumlaw23.ZipZips", spec := "zipZips", unfollowed := true, recurses := true, plainKeys := false, apart := false, narrowed := true }
def ZipZipsUptoSaid : Prop := zipZipsUptoRow.holds Try.pinned (OpenSpec.upto zipZipsSpec)

/-- 'gypsumlaw23.ZipCuts', WHERE WHAT IT READS IS OF BULK AT MOST 1048576: true; the input reads as it did. -/
def zipCutsUptoRow : OpenClaim := { program := "ytgjcigokjfhfkaa", sum := "3ba0bec6b9f22b10d4c3a6abb6b2a46e40fdc24def60b71847d79039a38bf4ef", func := "gypsum/gypsumlaw23.ZipCuts", spec := "zipCuts", unfollowed := true, recurses := true, plainKeys := false, apart := false, narrowed := true }
def ZipCutsUptoSaid : Prop := zipCutsUptoRow.holds Try.pinned (OpenSpec.upto zipCutsSpec)

/-- 'gypsumlaw23.ZipOther', WHERE WHAT IT READS IS OF BULK AT MOST 1048576: true; the input reads as it did. -/
def zipOtherUptoRow : OpenClaim := { program := "ytgjcigokjfhfkaa", sum := "3ba0bec6b9f22b10d4c3a6abb6b2a46e40fdc24def60b71847d79039a38bf4ef", func := "gypsum/gypsumlaw23.ZipOther", spec := "zipOther", unfollowed := true, recurses := true, plainKeys := false, apart := false, narrowed := true }
def ZipOtherUptoSaid : Prop := zipOtherUptoRow.holds Try.pinned (OpenSpec.upto zipOtherSpec)

/-- 'gypsumlaw23.ZipCosts', WHERE WHAT IT READS IS OF BULK AT MOST 1048576: true; the input reads as it did. -/
def zipCostsUptoRow : OpenClaim := { program := "ytgjcigokjfhfkaa", sum := "3ba0bec6b9f22b10d4c3a6abb6b2a46e40fdc24def60b71847d79039a38bf4ef", func := "gypsum/gypsumlaw23.ZipCosts", spec := "zipCosts", unfollowed := true, recurses := true, plainKeys := false, apart := false, narrowed := true }
def ZipCostsUptoSaid : Prop := zipCostsUptoRow.holds Try.pinned (OpenSpec.upto zipCostsSpec)

/-- 'gypsumlaw24.AccountZip', WHERE WHAT IT READS IS OF BULK AT MOST 1048576: true; the input reads as it did. -/
def accountZipUptoRow : OpenClaim := { program := "ytgjcigokjfhfkaa", sum := "3ba0bec6b9f22b10d4c3a6abb6b2a46e40fdc24def60b71847d79039a38bf4ef", func := "gypsum/gypsumlaw24.AccountZip", spec := "accountZip", unfollowed := true, recurses := true, plainKeys := false, apart := false, narrowed := true }
def AccountZipUptoSaid : Prop := accountZipUptoRow.holds Try.pinned (OpenSpec.upto accountZipSpec)

end Rows
end Go.Proofs.Ytgjcigokjfhfkaa
