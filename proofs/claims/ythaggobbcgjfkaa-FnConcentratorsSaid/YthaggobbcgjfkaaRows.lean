/-
  No cell of these rows narrows 'for every input' (looked for: loops, veiled, ifaces, maps, wideKeys, modest, calm, conditions, laid).
  DERIVED. THE GIVEN ROWS OF THIS SEAT. 10 by the template 'for every input the law returns true; each argument reads behind the call as it read before'; 0 by the template 'total and deterministic' (their statements: YthaggobbcgjfkaaTotals.lean).
  GIVEN WITH THE SEED: the statements are not yours to turn. If you find one false, say at which input.
  Laid BY PROGRAM, IN A SANDBOX (cutbox-rows.mjs): the forced cells as the released guide's own fill.sh prints them over the translation 1f090026518cc174… (all of the seat's roots in one cut). By AI agents, Wed Nov 11 2026. No macro, syntax, notation, axiom, sorry.
-/
import Derived.Test.YthaggobbcgjfkaaChecked
import GoSem.Claim
import GoSem.ClaimJoined
import GoSem.ClaimMapViews
import Derived.JoinedTies
import Derived.KernelRfl
namespace Go.Proofs.Ythaggobbcgjfkaa
/- THE CELL 'sum', in the pinned program and in every row, IS THE sha256 OF THE DUMP (.gsa) THAT YthaggobbcgjfkaaProg.lean LOADS. Nothing in Lean hashes anything: it is a label: what it is worth is what the hold of that sum in a sandbox is worth. -/
noncomputable def Try.pinned : Pinned := { name := "ythaggobbcgjfkaa", sum := "1f090026518cc1747d759e7037f8b98c003b4904b9df00e46c131021ea5c03b5", checked := Try.checked }
namespace Rows
def none {H : Type} : Left H := { results := [], args := [] }

/-- 'laws.FnExactPlanOk': WHATEVER THE INPUT: true; the input reads as it did. -/
def fnExactPlanOkSpec : ChangeSpec := { name := "fnExactPlanOk", fn := fun _ => fun
  | [d] => { results := [.lit (.bool true)], args := [d] }
  | _ => none }
def fnExactPlanOkRow : OpenClaim := { program := "ythaggobbcgjfkaa", sum := "1f090026518cc1747d759e7037f8b98c003b4904b9df00e46c131021ea5c03b5", func := "loop.example/g03207/laws.FnExactPlanOk", spec := "fnExactPlanOk", apart := false }
def FnExactPlanOkSaid : Prop := fnExactPlanOkRow.holds Try.pinned (OpenSpec.ofChange fnExactPlanOkSpec)

/-- ITS FALSE NEIGHBOUR: 'it returns false'. Refute it at one input. -/
def fnExactPlanOkWrong : ChangeSpec := { name := "fnExactPlanOk", fn := fun _ => fun
  | [d] => { results := [.lit (.bool false)], args := [d] }
  | _ => none }
def FnExactPlanOkWrongFalsely : Prop := fnExactPlanOkRow.holds Try.pinned (OpenSpec.ofChange fnExactPlanOkWrong)

/-- 'laws.FnExactWithoutOutput': WHATEVER THE INPUT: true; the input reads as it did. -/
def fnExactWithoutOutputSpec : ChangeSpec := { name := "fnExactWithoutOutput", fn := fun _ => fun
  | [d1, d2] => { results := [.lit (.bool true)], args := [d1, d2] }
  | _ => none }
def fnExactWithoutOutputRow : OpenClaim := { program := "ythaggobbcgjfkaa", sum := "1f090026518cc1747d759e7037f8b98c003b4904b9df00e46c131021ea5c03b5", func := "loop.example/g03207/laws.FnExactWithoutOutput", spec := "fnExactWithoutOutput", apart := false }
def FnExactWithoutOutputSaid : Prop := fnExactWithoutOutputRow.holds Try.pinned (OpenSpec.ofChange fnExactWithoutOutputSpec)

/-- ITS FALSE NEIGHBOUR: 'it returns false'. Refute it at one input. -/
def fnExactWithoutOutputWrong : ChangeSpec := { name := "fnExactWithoutOutput", fn := fun _ => fun
  | [d1, d2] => { results := [.lit (.bool false)], args := [d1, d2] }
  | _ => none }
def FnExactWithoutOutputWrongFalsely : Prop := fnExactWithoutOutputRow.holds Try.pinned (OpenSpec.ofChange fnExactWithoutOutputWrong)

/-- 'laws.FnExactJoinedWith': WHATEVER THE INPUT: true; the input reads as it did. -/
def fnExactJoinedWithSpec : ChangeSpec := { name := "fnExactJoinedWith", fn := fun _ => fun
  | [d1, d2] => { results := [.lit (.bool true)], args := [d1, d2] }
  | _ => none }
def fnExactJoinedWithRow : OpenClaim := { program := "ythaggobbcgjfkaa", sum := "1f090026518cc1747d759e7037f8b98c003b4904b9df00e46c131021ea5c03b5", func := "loop.example/g03207/laws.FnExactJoinedWith", spec := "fnExactJoinedWith", apart := false }
def FnExactJoinedWithSaid : Prop := fnExactJoinedWithRow.holds Try.pinned (OpenSpec.ofChange fnExactJoinedWithSpec)

/-- ITS FALSE NEIGHBOUR: 'it returns false'. Refute it at one input. -/
def fnExactJoinedWithWrong : ChangeSpec := { name := "fnExactJoinedWith", fn := fun _ => fun
  | [d1, d2] => { results := [.lit (.bool false)], args := [d1, d2] }
  | _ => none }
def FnExactJoinedWithWrongFalsely : Prop := fnExactJoinedWithRow.holds Try.pinned (OpenSpec.ofChange fnExactJoinedWithWrong)

/-- 'laws.FnExactLeastCover': WHATEVER THE INPUT: true; the input reads as it did. -/
def fnExactLeastCoverSpec : ChangeSpec := { name := "fnExactLeastCover", fn := fun _ => fun
  | [d] => { results := [.lit (.bool true)], args := [d] }
  | _ => none }
def fnExactLeastCoverRow : OpenClaim := { program := "ythaggobbcgjfkaa", sum := "1f090026518cc1747d759e7037f8b98c003b4904b9df00e46c131021ea5c03b5", func := "loop.example/g03207/laws.FnExactLeastCover", spec := "fnExactLeastCover", recurses := true, apart := false }
def FnExactLeastCoverSaid : Prop := fnExactLeastCoverRow.holds Try.pinned (OpenSpec.ofChange fnExactLeastCoverSpec)

/-- ITS FALSE NEIGHBOUR: 'it returns false'. Refute it at one input. -/
def fnExactLeastCoverWrong : ChangeSpec := { name := "fnExactLeastCover", fn := fun _ => fun
  | [d] => { results := [.lit (.bool false)], args := [d] }
  | _ => none }
def FnExactLeastCoverWrongFalsely : Prop := fnExactLeastCoverRow.holds Try.pinned (OpenSpec.ofChange fnExactLeastCoverWrong)

/-- 'laws.FnExactMatchingSize': WHATEVER THE INPUT: true; the input reads as it did. -/
def fnExactMatchingSizeSpec : ChangeSpec := { name := "fnExactMatchingSize", fn := fun _ => fun
  | [d1, d2] => { results := [.lit (.bool true)], args := [d1, d2] }
  | _ => none }
def fnExactMatchingSizeRow : OpenClaim := { program := "ythaggobbcgjfkaa", sum := "1f090026518cc1747d759e7037f8b98c003b4904b9df00e46c131021ea5c03b5", func := "loop.example/g03207/laws.FnExactMatchingSize", spec := "fnExactMatchingSize", recurses := true, apart := false }
def FnExactMatchingSizeSaid : Prop := fnExactMatchingSizeRow.holds Try.pinned (OpenSpec.ofChange fnExactMatchingSizeSpec)

/-- ITS FALSE NEIGHBOUR: 'it returns false'. Refute it at one input. -/
def fnExactMatchingSizeWrong : ChangeSpec := { name := "fnExactMatchingSize", fn := fun _ => fun
  | [d1, d2] => { results := [.lit (.bool false)], args := [d1, d2] }
  | _ => none }
def FnExactMatchingSizeWrongFalsely : Prop := fnExactMatchingSizeRow.holds Try.pinned (OpenSpec.ofChange fnExactMatchingSizeWrong)

/-- 'laws.FnExactMatchingOf': WHATEVER THE INPUT: true; the input reads as it did. -/
def fnExactMatchingOfSpec : ChangeSpec := { name := "fnExactMatchingOf", fn := fun _ => fun
  | [d1, d2] => { results := [.lit (.bool true)], args := [d1, d2] }
  | _ => none }
def fnExactMatchingOfRow : OpenClaim := { program := "ythaggobbcgjfkaa", sum := "1f090026518cc1747d759e7037f8b98c003b4904b9df00e46c131021ea5c03b5", func := "loop.example/g03207/laws.FnExactMatchingOf", spec := "fnExactMatchingOf", recurses := true, apart := false }
def FnExactMatchingOfSaid : Prop := fnExactMatchingOfRow.holds Try.pinned (OpenSpec.ofChange fnExactMatchingOfSpec)

/-- ITS FALSE NEIGHBOUR: 'it returns false'. Refute it at one input. -/
def fnExactMatchingOfWrong : ChangeSpec := { name := "fnExactMatchingOf", fn := fun _ => fun
  | [d1, d2] => { results := [.lit (.bool false)], args := [d1, d2] }
  | _ => none }
def FnExactMatchingOfWrongFalsely : Prop := fnExactMatchingOfRow.holds Try.pinned (OpenSpec.ofChange fnExactMatchingOfWrong)

/-- 'laws.FnExactTightSet': WHATEVER THE INPUT: true; the input reads as it did. -/
def fnExactTightSetSpec : ChangeSpec := { name := "fnExactTightSet", fn := fun _ => fun
  | [d1, d2] => { results := [.lit (.bool true)], args := [d1, d2] }
  | _ => none }
def fnExactTightSetRow : OpenClaim := { program := "ythaggobbcgjfkaa", sum := "1f090026518cc1747d759e7037f8b98c003b4904b9df00e46c131021ea5c03b5", func := "loop.example/g03207/laws.FnExactTightSet", spec := "fnExactTightSet", apart := false }
def FnExactTightSetSaid : Prop := fnExactTightSetRow.holds Try.pinned (OpenSpec.ofChange fnExactTightSetSpec)

/-- ITS FALSE NEIGHBOUR: 'it returns false'. Refute it at one input. -/
def fnExactTightSetWrong : ChangeSpec := { name := "fnExactTightSet", fn := fun _ => fun
  | [d1, d2] => { results := [.lit (.bool false)], args := [d1, d2] }
  | _ => none }
def FnExactTightSetWrongFalsely : Prop := fnExactTightSetRow.holds Try.pinned (OpenSpec.ofChange fnExactTightSetWrong)

/-- 'laws.FnExactIsConcentrator': WHATEVER THE INPUT: true; the input reads as it did. -/
def fnExactIsConcentratorSpec : ChangeSpec := { name := "fnExactIsConcentrator", fn := fun _ => fun
  | [d1, d2] => { results := [.lit (.bool true)], args := [d1, d2] }
  | _ => none }
def fnExactIsConcentratorRow : OpenClaim := { program := "ythaggobbcgjfkaa", sum := "1f090026518cc1747d759e7037f8b98c003b4904b9df00e46c131021ea5c03b5", func := "loop.example/g03207/laws.FnExactIsConcentrator", spec := "fnExactIsConcentrator", recurses := true, apart := false }
def FnExactIsConcentratorSaid : Prop := fnExactIsConcentratorRow.holds Try.pinned (OpenSpec.ofChange fnExactIsConcentratorSpec)

/-- ITS FALSE NEIGHBOUR: 'it returns false'. Refute it at one input. -/
def fnExactIsConcentratorWrong : ChangeSpec := { name := "fnExactIsConcentrator", fn := fun _ => fun
  | [d1, d2] => { results := [.lit (.bool false)], args := [d1, d2] }
  | _ => none }
def FnExactIsConcentratorWrongFalsely : Prop := fnExactIsConcentratorRow.holds Try.pinned (OpenSpec.ofChange fnExactIsConcentratorWrong)

/-- 'laws.FnExactGreatestConcentration': WHATEVER THE INPUT: true; the input reads as it did. -/
def fnExactGreatestConcentrationSpec : ChangeSpec := { name := "fnExactGreatestConcentration", fn := fun _ => fun
  | [d] => { results := [.lit (.bool true)], args := [d] }
  | _ => none }
def fnExactGreatestConcentrationRow : OpenClaim := { program := "ythaggobbcgjfkaa", sum := "1f090026518cc1747d759e7037f8b98c003b4904b9df00e46c131021ea5c03b5", func := "loop.example/g03207/laws.FnExactGreatestConcentration", spec := "fnExactGreatestConcentration", recurses := true, apart := false }
def FnExactGreatestConcentrationSaid : Prop := fnExactGreatestConcentrationRow.holds Try.pinned (OpenSpec.ofChange fnExactGreatestConcentrationSpec)

/-- ITS FALSE NEIGHBOUR: 'it returns false'. Refute it at one input. -/
def fnExactGreatestConcentrationWrong : ChangeSpec := { name := "fnExactGreatestConcentration", fn := fun _ => fun
  | [d] => { results := [.lit (.bool false)], args := [d] }
  | _ => none }
def FnExactGreatestConcentrationWrongFalsely : Prop := fnExactGreatestConcentrationRow.holds Try.pinned (OpenSpec.ofChange fnExactGreatestConcentrationWrong)

/-- 'laws.FnConcentrators': WHATEVER THE INPUT: true; the input reads as it did. -/
def fnConcentratorsSpec : ChangeSpec := { name := "fnConcentrators", fn := fun _ => fun
  | [d] => { results := [.lit (.bool true)], args := [d] }
  | _ => none }
def fnConcentratorsRow : OpenClaim := { program := "ythaggobbcgjfkaa", sum := "1f090026518cc1747d759e7037f8b98c003b4904b9df00e46c131021ea5c03b5", func := "loop.example/g03207/laws.FnConcentrators", spec := "fnConcentrators", recurses := true, apart := false }
def FnConcentratorsSaid : Prop := fnConcentratorsRow.holds Try.pinned (OpenSpec.ofChange fnConcentratorsSpec)

/-- ITS FALSE NEIGHBOUR: 'it returns false'. Refute it at one input. -/
def fnConcentratorsWrong : ChangeSpec := { name := "fnConcentrators", fn := fun _ => fun
  | [d] => { results := [.lit (.bool false)], args := [d] }
  | _ => none }
def FnConcentratorsWrongFalsely : Prop := fnConcentratorsRow.holds Try.pinned (OpenSpec.ofChange fnConcentratorsWrong)

/- THE SECOND FORM. 'bulk': how many values and letters a reading holds, each counted each time it is reached (what is shared counts as often as it is met; a slice's spare places count too). A statement '..UptoSaid' is the law's where the arguments, and the package variables that the reading takes, are together of bulk at most 1048576: NARROWER than '..Said'. Prove '..Said' where nothing that the law and all that it calls make is longer than what came in: it says more and counts as full. Else prove '..UptoSaid'. A law counts once. -/
mutual
def uptoBulk {H : Type} : DataW H → Nat
  | .lit (.string bytes) => bytes.length + 1
  | .lit _ => 1
  | .nil => 1
  | .ptr d => uptoBulk d + 1
  | .slice elems spare => uptoBulkAll elems + uptoBulkAll spare + 1
  | .agg parts => uptoBulkAll parts + 1
  | .iface _ d => uptoBulk d + 1
  | .map entries => uptoBulkEntries entries + 1
  | .held _ => 1
def uptoBulkAll {H : Type} : List (DataW H) → Nat
  | [] => 0
  | d :: r => uptoBulk d + uptoBulkAll r
def uptoBulkEntries {H : Type} : List (Lit × DataW H) → Nat
  | [] => 0
  | x :: r => uptoBulkEntry x + uptoBulkEntries r
def uptoBulkEntry {H : Type} : Lit × DataW H → Nat
  | (.string bytes, d) => bytes.length + uptoBulk d + 1
  | (_, d) => uptoBulk d + 1
 end
def uptoSmall : (H : Type) → List (DataW H) → Bool := fun _ ds => decide (uptoBulkAll ds ≤ 1048576)
def OpenSpec.upto (s : _root_.Go.ChangeSpec) : _root_.Go.OpenSpec := { _root_.Go.OpenSpec.ofChange s with cond := some uptoSmall }

/-- 'laws.FnExactPlanOk', WHERE WHAT IT READS IS OF BULK AT MOST 1048576: true; the input reads as it did. -/
def fnExactPlanOkUptoRow : OpenClaim := { program := "ythaggobbcgjfkaa", sum := "1f090026518cc1747d759e7037f8b98c003b4904b9df00e46c131021ea5c03b5", func := "loop.example/g03207/laws.FnExactPlanOk", spec := "fnExactPlanOk", apart := false, narrowed := true }
def FnExactPlanOkUptoSaid : Prop := fnExactPlanOkUptoRow.holds Try.pinned (OpenSpec.upto fnExactPlanOkSpec)

/-- 'laws.FnExactWithoutOutput', WHERE WHAT IT READS IS OF BULK AT MOST 1048576: true; the input reads as it did. -/
def fnExactWithoutOutputUptoRow : OpenClaim := { program := "ythaggobbcgjfkaa", sum := "1f090026518cc1747d759e7037f8b98c003b4904b9df00e46c131021ea5c03b5", func := "loop.example/g03207/laws.FnExactWithoutOutput", spec := "fnExactWithoutOutput", apart := false, narrowed := true }
def FnExactWithoutOutputUptoSaid : Prop := fnExactWithoutOutputUptoRow.holds Try.pinned (OpenSpec.upto fnExactWithoutOutputSpec)

/-- 'laws.FnExactJoinedWith', WHERE WHAT IT READS IS OF BULK AT MOST 1048576: true; the input reads as it did. -/
def fnExactJoinedWithUptoRow : OpenClaim := { program := "ythaggobbcgjfkaa", sum := "1f090026518cc1747d759e7037f8b98c003b4904b9df00e46c131021ea5c03b5", func := "loop.example/g03207/laws.FnExactJoinedWith", spec := "fnExactJoinedWith", apart := false, narrowed := true }
def FnExactJoinedWithUptoSaid : Prop := fnExactJoinedWithUptoRow.holds Try.pinned (OpenSpec.upto fnExactJoinedWithSpec)

/-- 'laws.FnExactLeastCover', WHERE WHAT IT READS IS OF BULK AT MOST 1048576: true; the input reads as it did. -/
def fnExactLeastCoverUptoRow : OpenClaim := { program := "ythaggobbcgjfkaa", sum := "1f090026518cc1747d759e7037f8b98c003b4904b9df00e46c131021ea5c03b5", func := "loop.example/g03207/laws.FnExactLeastCover", spec := "fnExactLeastCover", recurses := true, apart := false, narrowed := true }
def FnExactLeastCoverUptoSaid : Prop := fnExactLeastCoverUptoRow.holds Try.pinned (OpenSpec.upto fnExactLeastCoverSpec)

/-- 'laws.FnExactMatchingSize', WHERE WHAT IT READS IS OF BULK AT MOST 1048576: true; the input reads as it did. -/
def fnExactMatchingSizeUptoRow : OpenClaim := { program := "ythaggobbcgjfkaa", sum := "1f090026518cc1747d759e7037f8b98c003b4904b9df00e46c131021ea5c03b5", func := "loop.example/g03207/laws.FnExactMatchingSize", spec := "fnExactMatchingSize", recurses := true, apart := false, narrowed := true }
def FnExactMatchingSizeUptoSaid : Prop := fnExactMatchingSizeUptoRow.holds Try.pinned (OpenSpec.upto fnExactMatchingSizeSpec)

/-- 'laws.FnExactMatchingOf', WHERE WHAT IT READS IS OF BULK AT MOST 1048576: true; the input reads as it did. -/
def fnExactMatchingOfUptoRow : OpenClaim := { program := "ythaggobbcgjfkaa", sum := "1f090026518cc1747d759e7037f8b98c003b4904b9df00e46c131021ea5c03b5", func := "loop.example/g03207/laws.FnExactMatchingOf", spec := "fnExactMatchingOf", recurses := true, apart := false, narrowed := true }
def FnExactMatchingOfUptoSaid : Prop := fnExactMatchingOfUptoRow.holds Try.pinned (OpenSpec.upto fnExactMatchingOfSpec)

/-- 'laws.FnExactTightSet', WHERE WHAT IT READS IS OF BULK AT MOST 1048576: true; the input reads as it did. -/
def fnExactTightSetUptoRow : OpenClaim := { program := "ythaggobbcgjfkaa", sum := "1f090026518cc1747d759e7037f8b98c003b4904b9df00e46c131021ea5c03b5", func := "loop.example/g03207/laws.FnExactTightSet", spec := "fnExactTightSet", apart := false, narrowed := true }
def FnExactTightSetUptoSaid : Prop := fnExactTightSetUptoRow.holds Try.pinned (OpenSpec.upto fnExactTightSetSpec)

/-- 'laws.FnExactIsConcentrator', WHERE WHAT IT READS IS OF BULK AT MOST 1048576: true; the input reads as it did. -/
def fnExactIsConcentratorUptoRow : OpenClaim := { program := "ythaggobbcgjfkaa", sum := "1f090026518cc1747d759e7037f8b98c003b4904b9df00e46c131021ea5c03b5", func := "loop.example/g03207/laws.FnExactIsConcentrator", spec := "fnExactIsConcentrator", recurses := true, apart := false, narrowed := true }
def FnExactIsConcentratorUptoSaid : Prop := fnExactIsConcentratorUptoRow.holds Try.pinned (OpenSpec.upto fnExactIsConcentratorSpec)

/-- 'laws.FnExactGreatestConcentration', WHERE WHAT IT READS IS OF BULK AT MOST 1048576: true; the input reads as it did. -/
def fnExactGreatestConcentrationUptoRow : OpenClaim := { program := "ythaggobbcgjfkaa", sum := "1f090026518cc1747d759e7037f8b98c003b4904b9df00e46c131021ea5c03b5", func := "loop.example/g03207/laws.FnExactGreatestConcentration", spec := "fnExactGreatestConcentration", recurses := true, apart := false, narrowed := true }
def FnExactGreatestConcentrationUptoSaid : Prop := fnExactGreatestConcentrationUptoRow.holds Try.pinned (OpenSpec.upto fnExactGreatestConcentrationSpec)

/-- 'laws.FnConcentrators', WHERE WHAT IT READS IS OF BULK AT MOST 1048576: true; the input reads as it did. -/
def fnConcentratorsUptoRow : OpenClaim := { program := "ythaggobbcgjfkaa", sum := "1f090026518cc1747d759e7037f8b98c003b4904b9df00e46c131021ea5c03b5", func := "loop.example/g03207/laws.FnConcentrators", spec := "fnConcentrators", recurses := true, apart := false, narrowed := true }
def FnConcentratorsUptoSaid : Prop := fnConcentratorsUptoRow.holds Try.pinned (OpenSpec.upto fnConcentratorsSpec)

end Rows
end Go.Proofs.Ythaggobbcgjfkaa
