/-
  No cell of these rows narrows 'for every input' (looked for: loops, veiled, ifaces, maps, wideKeys, modest, calm, conditions, laid).
  DERIVED. THE GIVEN ROWS OF THIS SEAT. 10 by the template 'for every input the law returns true; each argument reads behind the call as it read before'; 0 by the template 'total and deterministic' (their statements: YtogfnmjedeoecaaTotals.lean).
  GIVEN WITH THE SEED: the statements are not yours to turn. If you find one false, say at which input.
  Laid BY PROGRAM, IN A SANDBOX (cutbox-rows.mjs): the forced cells as the released guide's own fill.sh prints them over the translation 273849dce070b7f1… (all of the seat's roots in one cut). By AI agents, Wed Nov 11 2026. No macro, syntax, notation, axiom, sorry.
-/
import Derived.Test.YtogfnmjedeoecaaChecked
import GoSem.Claim
import GoSem.ClaimJoined
import GoSem.ClaimMapViews
import Derived.JoinedTies
import Derived.KernelRfl
namespace Go.Proofs.Ytogfnmjedeoecaa
/- THE CELL 'sum', in the pinned program and in every row, IS THE sha256 OF THE DUMP (.gsa) THAT YtogfnmjedeoecaaProg.lean LOADS. Nothing in Lean hashes anything: it is a label: what it is worth is what the hold of that sum in a sandbox is worth. -/
noncomputable def Try.pinned : Pinned := { name := "ytogfnmjedeoecaa", sum := "273849dce070b7f19fac6fafe10c1914472e3b0c07449fcdaa844cb7427c102c", checked := Try.checked }
namespace Rows
def none {H : Type} : Left H := { results := [], args := [] }

/-- 'laws.FnExactShearBound': WHATEVER THE INPUT: true; the input reads as it did. -/
def fnExactShearBoundSpec : ChangeSpec := { name := "fnExactShearBound", fn := fun _ => fun
  | [d] => { results := [.lit (.bool true)], args := [d] }
  | _ => none }
def fnExactShearBoundRow : OpenClaim := { program := "ytogfnmjedeoecaa", sum := "273849dce070b7f19fac6fafe10c1914472e3b0c07449fcdaa844cb7427c102c", func := "loop.example/g03207/laws.FnExactShearBound", spec := "fnExactShearBound", apart := false }
def FnExactShearBoundSaid : Prop := fnExactShearBoundRow.holds Try.pinned (OpenSpec.ofChange fnExactShearBoundSpec)

/-- ITS FALSE NEIGHBOUR: 'it returns false'. Refute it at one input. -/
def fnExactShearBoundWrong : ChangeSpec := { name := "fnExactShearBound", fn := fun _ => fun
  | [d] => { results := [.lit (.bool false)], args := [d] }
  | _ => none }
def FnExactShearBoundWrongFalsely : Prop := fnExactShearBoundRow.holds Try.pinned (OpenSpec.ofChange fnExactShearBoundWrong)

/-- 'laws.FnExactMeshOk': WHATEVER THE INPUT: true; the input reads as it did. -/
def fnExactMeshOkSpec : ChangeSpec := { name := "fnExactMeshOk", fn := fun _ => fun
  | [d] => { results := [.lit (.bool true)], args := [d] }
  | _ => none }
def fnExactMeshOkRow : OpenClaim := { program := "ytogfnmjedeoecaa", sum := "273849dce070b7f19fac6fafe10c1914472e3b0c07449fcdaa844cb7427c102c", func := "loop.example/g03207/laws.FnExactMeshOk", spec := "fnExactMeshOk", apart := false }
def FnExactMeshOkSaid : Prop := fnExactMeshOkRow.holds Try.pinned (OpenSpec.ofChange fnExactMeshOkSpec)

/-- ITS FALSE NEIGHBOUR: 'it returns false'. Refute it at one input. -/
def fnExactMeshOkWrong : ChangeSpec := { name := "fnExactMeshOk", fn := fun _ => fun
  | [d] => { results := [.lit (.bool false)], args := [d] }
  | _ => none }
def FnExactMeshOkWrongFalsely : Prop := fnExactMeshOkRow.holds Try.pinned (OpenSpec.ofChange fnExactMeshOkWrong)

/-- 'laws.FnExactMeshOf': WHATEVER THE INPUT: true; the input reads as it did. -/
def fnExactMeshOfSpec : ChangeSpec := { name := "fnExactMeshOf", fn := fun _ => fun
  | [d1, d2, d3] => { results := [.lit (.bool true)], args := [d1, d2, d3] }
  | _ => none }
def fnExactMeshOfRow : OpenClaim := { program := "ytogfnmjedeoecaa", sum := "273849dce070b7f19fac6fafe10c1914472e3b0c07449fcdaa844cb7427c102c", func := "loop.example/g03207/laws.FnExactMeshOf", spec := "fnExactMeshOf", apart := false }
def FnExactMeshOfSaid : Prop := fnExactMeshOfRow.holds Try.pinned (OpenSpec.ofChange fnExactMeshOfSpec)

/-- ITS FALSE NEIGHBOUR: 'it returns false'. Refute it at one input. -/
def fnExactMeshOfWrong : ChangeSpec := { name := "fnExactMeshOf", fn := fun _ => fun
  | [d1, d2, d3] => { results := [.lit (.bool false)], args := [d1, d2, d3] }
  | _ => none }
def FnExactMeshOfWrongFalsely : Prop := fnExactMeshOfRow.holds Try.pinned (OpenSpec.ofChange fnExactMeshOfWrong)

/-- 'laws.FnExactDirtyRows': WHATEVER THE INPUT: true; the input reads as it did. -/
def fnExactDirtyRowsSpec : ChangeSpec := { name := "fnExactDirtyRows", fn := fun _ => fun
  | [d1, d2] => { results := [.lit (.bool true)], args := [d1, d2] }
  | _ => none }
def fnExactDirtyRowsRow : OpenClaim := { program := "ytogfnmjedeoecaa", sum := "273849dce070b7f19fac6fafe10c1914472e3b0c07449fcdaa844cb7427c102c", func := "loop.example/g03207/laws.FnExactDirtyRows", spec := "fnExactDirtyRows", apart := false }
def FnExactDirtyRowsSaid : Prop := fnExactDirtyRowsRow.holds Try.pinned (OpenSpec.ofChange fnExactDirtyRowsSpec)

/-- ITS FALSE NEIGHBOUR: 'it returns false'. Refute it at one input. -/
def fnExactDirtyRowsWrong : ChangeSpec := { name := "fnExactDirtyRows", fn := fun _ => fun
  | [d1, d2] => { results := [.lit (.bool false)], args := [d1, d2] }
  | _ => none }
def FnExactDirtyRowsWrongFalsely : Prop := fnExactDirtyRowsRow.holds Try.pinned (OpenSpec.ofChange fnExactDirtyRowsWrong)

/-- 'laws.FnExactTurnedMesh': WHATEVER THE INPUT: true; the input reads as it did. -/
def fnExactTurnedMeshSpec : ChangeSpec := { name := "fnExactTurnedMesh", fn := fun _ => fun
  | [d] => { results := [.lit (.bool true)], args := [d] }
  | _ => none }
def fnExactTurnedMeshRow : OpenClaim := { program := "ytogfnmjedeoecaa", sum := "273849dce070b7f19fac6fafe10c1914472e3b0c07449fcdaa844cb7427c102c", func := "loop.example/g03207/laws.FnExactTurnedMesh", spec := "fnExactTurnedMesh", apart := false }
def FnExactTurnedMeshSaid : Prop := fnExactTurnedMeshRow.holds Try.pinned (OpenSpec.ofChange fnExactTurnedMeshSpec)

/-- ITS FALSE NEIGHBOUR: 'it returns false'. Refute it at one input. -/
def fnExactTurnedMeshWrong : ChangeSpec := { name := "fnExactTurnedMesh", fn := fun _ => fun
  | [d] => { results := [.lit (.bool false)], args := [d] }
  | _ => none }
def FnExactTurnedMeshWrongFalsely : Prop := fnExactTurnedMeshRow.holds Try.pinned (OpenSpec.ofChange fnExactTurnedMeshWrong)

/-- 'laws.FnExactSnakeOf': WHATEVER THE INPUT: true; the input reads as it did. -/
def fnExactSnakeOfSpec : ChangeSpec := { name := "fnExactSnakeOf", fn := fun _ => fun
  | [d] => { results := [.lit (.bool true)], args := [d] }
  | _ => none }
def fnExactSnakeOfRow : OpenClaim := { program := "ytogfnmjedeoecaa", sum := "273849dce070b7f19fac6fafe10c1914472e3b0c07449fcdaa844cb7427c102c", func := "loop.example/g03207/laws.FnExactSnakeOf", spec := "fnExactSnakeOf", apart := false }
def FnExactSnakeOfSaid : Prop := fnExactSnakeOfRow.holds Try.pinned (OpenSpec.ofChange fnExactSnakeOfSpec)

/-- ITS FALSE NEIGHBOUR: 'it returns false'. Refute it at one input. -/
def fnExactSnakeOfWrong : ChangeSpec := { name := "fnExactSnakeOf", fn := fun _ => fun
  | [d] => { results := [.lit (.bool false)], args := [d] }
  | _ => none }
def FnExactSnakeOfWrongFalsely : Prop := fnExactSnakeOfRow.holds Try.pinned (OpenSpec.ofChange fnExactSnakeOfWrong)

/-- 'laws.FnExactSortColumns': WHATEVER THE INPUT: true; the input reads as it did. -/
def fnExactSortColumnsSpec : ChangeSpec := { name := "fnExactSortColumns", fn := fun _ => fun
  | [d] => { results := [.lit (.bool true)], args := [d] }
  | _ => none }
def fnExactSortColumnsRow : OpenClaim := { program := "ytogfnmjedeoecaa", sum := "273849dce070b7f19fac6fafe10c1914472e3b0c07449fcdaa844cb7427c102c", func := "loop.example/g03207/laws.FnExactSortColumns", spec := "fnExactSortColumns", recurses := true, apart := false }
def FnExactSortColumnsSaid : Prop := fnExactSortColumnsRow.holds Try.pinned (OpenSpec.ofChange fnExactSortColumnsSpec)

/-- ITS FALSE NEIGHBOUR: 'it returns false'. Refute it at one input. -/
def fnExactSortColumnsWrong : ChangeSpec := { name := "fnExactSortColumns", fn := fun _ => fun
  | [d] => { results := [.lit (.bool false)], args := [d] }
  | _ => none }
def FnExactSortColumnsWrongFalsely : Prop := fnExactSortColumnsRow.holds Try.pinned (OpenSpec.ofChange fnExactSortColumnsWrong)

/-- 'laws.FnExactSortRows': WHATEVER THE INPUT: true; the input reads as it did. -/
def fnExactSortRowsSpec : ChangeSpec := { name := "fnExactSortRows", fn := fun _ => fun
  | [d] => { results := [.lit (.bool true)], args := [d] }
  | _ => none }
def fnExactSortRowsRow : OpenClaim := { program := "ytogfnmjedeoecaa", sum := "273849dce070b7f19fac6fafe10c1914472e3b0c07449fcdaa844cb7427c102c", func := "loop.example/g03207/laws.FnExactSortRows", spec := "fnExactSortRows", recurses := true, apart := false }
def FnExactSortRowsSaid : Prop := fnExactSortRowsRow.holds Try.pinned (OpenSpec.ofChange fnExactSortRowsSpec)

/-- ITS FALSE NEIGHBOUR: 'it returns false'. Refute it at one input. -/
def fnExactSortRowsWrong : ChangeSpec := { name := "fnExactSortRows", fn := fun _ => fun
  | [d] => { results := [.lit (.bool false)], args := [d] }
  | _ => none }
def FnExactSortRowsWrongFalsely : Prop := fnExactSortRowsRow.holds Try.pinned (OpenSpec.ofChange fnExactSortRowsWrong)

/-- 'laws.FnExactShearSort': WHATEVER THE INPUT: true; the input reads as it did. -/
def fnExactShearSortSpec : ChangeSpec := { name := "fnExactShearSort", fn := fun _ => fun
  | [d] => { results := [.lit (.bool true)], args := [d] }
  | _ => none }
def fnExactShearSortRow : OpenClaim := { program := "ytogfnmjedeoecaa", sum := "273849dce070b7f19fac6fafe10c1914472e3b0c07449fcdaa844cb7427c102c", func := "loop.example/g03207/laws.FnExactShearSort", spec := "fnExactShearSort", recurses := true, apart := false }
def FnExactShearSortSaid : Prop := fnExactShearSortRow.holds Try.pinned (OpenSpec.ofChange fnExactShearSortSpec)

/-- ITS FALSE NEIGHBOUR: 'it returns false'. Refute it at one input. -/
def fnExactShearSortWrong : ChangeSpec := { name := "fnExactShearSort", fn := fun _ => fun
  | [d] => { results := [.lit (.bool false)], args := [d] }
  | _ => none }
def FnExactShearSortWrongFalsely : Prop := fnExactShearSortRow.holds Try.pinned (OpenSpec.ofChange fnExactShearSortWrong)

/-- 'laws.FnMeshes': WHATEVER THE INPUT: true; the input reads as it did. -/
def fnMeshesSpec : ChangeSpec := { name := "fnMeshes", fn := fun _ => fun
  | [d] => { results := [.lit (.bool true)], args := [d] }
  | _ => none }
def fnMeshesRow : OpenClaim := { program := "ytogfnmjedeoecaa", sum := "273849dce070b7f19fac6fafe10c1914472e3b0c07449fcdaa844cb7427c102c", func := "loop.example/g03207/laws.FnMeshes", spec := "fnMeshes", recurses := true, apart := false }
def FnMeshesSaid : Prop := fnMeshesRow.holds Try.pinned (OpenSpec.ofChange fnMeshesSpec)

/-- ITS FALSE NEIGHBOUR: 'it returns false'. Refute it at one input. -/
def fnMeshesWrong : ChangeSpec := { name := "fnMeshes", fn := fun _ => fun
  | [d] => { results := [.lit (.bool false)], args := [d] }
  | _ => none }
def FnMeshesWrongFalsely : Prop := fnMeshesRow.holds Try.pinned (OpenSpec.ofChange fnMeshesWrong)

/- THE SECOND FORM. 'bulk': how many values and letters a reading holds, each counted each time it is reached (what is shared counts as often as it is met; a slice's spare places count too). A statement '..UptoSaid' is the law's where the arguments, and the package variables that the reading takes, are together of bulk at most 1048576: NARROWER than '..Said'. Prove '..Said' where nothing that the law and all that it calls make is longer than what came in: it says more and counts as full. Else prove '..UptoSaid'. A law counts once. -/
mutual
def uptoBulk {H : Type} : DataW H → Nat
  | .lit (.string bytes) => bytes.length + 1
  | .lit _ => 1
  | .nil => 1
  | .ptr d => uptoBulk d + 1
  | .slice elems spare => uptoBulkAll elems + uptoBulkAll spare + 1
  | .agg parts => uptoBulkAll parts + 1
  | .iface _ d => uptoBulk d + 1
  | .map entries => uptoBulkEntries entries + 1
  | .held _ => 1
def uptoBulkAll {H : Type} : List (DataW H) → Nat
  | [] => 0
  | d :: r => uptoBulk d + uptoBulkAll r
def uptoBulkEntries {H : Type} : List (Lit × DataW H) → Nat
  | [] => 0
  | x :: r => uptoBulkEntry x + uptoBulkEntries r
def uptoBulkEntry {H : Type} : Lit × DataW H → Nat
  | (.string bytes, d) => bytes.length + uptoBulk d + 1
  | (_, d) => uptoBulk d + 1
 end
def uptoSmall : (H : Type) → List (DataW H) → Bool := fun _ ds => decide (uptoBulkAll ds ≤ 1048576)
def OpenSpec.upto (s : _root_.Go.ChangeSpec) : _root_.Go.OpenSpec := { _root_.Go.OpenSpec.ofChange s with cond := some uptoSmall }

/-- 'laws.FnExactShearBound', WHERE WHAT IT READS IS OF BULK AT MOST 1048576: true; the input reads as it did. -/
def fnExactShearBoundUptoRow : OpenClaim := { program := "ytogfnmjedeoecaa", sum := "273849dce070b7f19fac6fafe10c1914472e3b0c07449fcdaa844cb7427c102c", func := "loop.example/g03207/laws.FnExactShearBound", spec := "fnExactShearBound", apart := false, narrowed := true }
def FnExactShearBoundUptoSaid : Prop := fnExactShearBoundUptoRow.holds Try.pinned (OpenSpec.upto fnExactShearBoundSpec)

/-- 'laws.FnExactMeshOk', WHERE WHAT IT READS IS OF BULK AT MOST 1048576: true; the input reads as it did. -/
def fnExactMeshOkUptoRow : OpenClaim := { program := "ytogfnmjedeoecaa", sum := "273849dce070b7f19fac6fafe10c1914472e3b0c07449fcdaa844cb7427c102c", func := "loop.example/g03207/laws.FnExactMeshOk", spec := "fnExactMeshOk", apart := false, narrowed := true }
def FnExactMeshOkUptoSaid : Prop := fnExactMeshOkUptoRow.holds Try.pinned (OpenSpec.upto fnExactMeshOkSpec)

/-- 'laws.FnExactMeshOf', WHERE WHAT IT READS IS OF BULK AT MOST 1048576: true; the input reads as it did. -/
def fnExactMeshOfUptoRow : OpenClaim := { program := "ytogfnmjedeoecaa", sum := "273849dce070b7f19fac6fafe10c1914472e3b0c07449fcdaa844cb7427c102c", func := "loop.example/g03207/laws.FnExactMeshOf", spec := "fnExactMeshOf", apart := false, narrowed := true }
def FnExactMeshOfUptoSaid : Prop := fnExactMeshOfUptoRow.holds Try.pinned (OpenSpec.upto fnExactMeshOfSpec)

/-- 'laws.FnExactDirtyRows', WHERE WHAT IT READS IS OF BULK AT MOST 1048576: true; the input reads as it did. -/
def fnExactDirtyRowsUptoRow : OpenClaim := { program := "ytogfnmjedeoecaa", sum := "273849dce070b7f19fac6fafe10c1914472e3b0c07449fcdaa844cb7427c102c", func := "loop.example/g03207/laws.FnExactDirtyRows", spec := "fnExactDirtyRows", apart := false, narrowed := true }
def FnExactDirtyRowsUptoSaid : Prop := fnExactDirtyRowsUptoRow.holds Try.pinned (OpenSpec.upto fnExactDirtyRowsSpec)

/-- 'laws.FnExactTurnedMesh', WHERE WHAT IT READS IS OF BULK AT MOST 1048576: true; the input reads as it did. -/
def fnExactTurnedMeshUptoRow : OpenClaim := { program := "ytogfnmjedeoecaa", sum := "273849dce070b7f19fac6fafe10c1914472e3b0c07449fcdaa844cb7427c102c", func := "loop.example/g03207/laws.FnExactTurnedMesh", spec := "fnExactTurnedMesh", apart := false, narrowed := true }
def FnExactTurnedMeshUptoSaid : Prop := fnExactTurnedMeshUptoRow.holds Try.pinned (OpenSpec.upto fnExactTurnedMeshSpec)

/-- 'laws.FnExactSnakeOf', WHERE WHAT IT READS IS OF BULK AT MOST 1048576: true; the input reads as it did. -/
def fnExactSnakeOfUptoRow : OpenClaim := { program := "ytogfnmjedeoecaa", sum := "273849dce070b7f19fac6fafe10c1914472e3b0c07449fcdaa844cb7427c102c", func := "loop.example/g03207/laws.FnExactSnakeOf", spec := "fnExactSnakeOf", apart := false, narrowed := true }
def FnExactSnakeOfUptoSaid : Prop := fnExactSnakeOfUptoRow.holds Try.pinned (OpenSpec.upto fnExactSnakeOfSpec)

/-- 'laws.FnExactSortColumns', WHERE WHAT IT READS IS OF BULK AT MOST 1048576: true; the input reads as it did. -/
def fnExactSortColumnsUptoRow : OpenClaim := { program := "ytogfnmjedeoecaa", sum := "273849dce070b7f19fac6fafe10c1914472e3b0c07449fcdaa844cb7427c102c", func := "loop.example/g03207/laws.FnExactSortColumns", spec := "fnExactSortColumns", recurses := true, apart := false, narrowed := true }
def FnExactSortColumnsUptoSaid : Prop := fnExactSortColumnsUptoRow.holds Try.pinned (OpenSpec.upto fnExactSortColumnsSpec)

/-- 'laws.FnExactSortRows', WHERE WHAT IT READS IS OF BULK AT MOST 1048576: true; the input reads as it did. -/
def fnExactSortRowsUptoRow : OpenClaim := { program := "ytogfnmjedeoecaa", sum := "273849dce070b7f19fac6fafe10c1914472e3b0c07449fcdaa844cb7427c102c", func := "loop.example/g03207/laws.FnExactSortRows", spec := "fnExactSortRows", recurses := true, apart := false, narrowed := true }
def FnExactSortRowsUptoSaid : Prop := fnExactSortRowsUptoRow.holds Try.pinned (OpenSpec.upto fnExactSortRowsSpec)

/-- 'laws.FnExactShearSort', WHERE WHAT IT READS IS OF BULK AT MOST 1048576: true; the input reads as it did. -/
def fnExactShearSortUptoRow : OpenClaim := { program := "ytogfnmjedeoecaa", sum := "273849dce070b7f19fac6fafe10c1914472e3b0c07449fcdaa844cb7427c102c", func := "loop.example/g03207/laws.FnExactShearSort", spec := "fnExactShearSort", recurses := true, apart := false, narrowed := true }
def FnExactShearSortUptoSaid : Prop := fnExactShearSortUptoRow.holds Try.pinned (OpenSpec.upto fnExactShearSortSpec)

/-- 'laws.FnMeshes', WHERE WHAT IT READS IS OF BULK AT MOST 1048576: true; the input reads as it did. -/
def fnMeshesUptoRow : OpenClaim := { program := "ytogfnmjedeoecaa", sum := "273849dce070b7f19fac6fafe10c1914472e3b0c07449fcdaa844cb7427c102c", func := "loop.example/g03207/laws.FnMeshes", spec := "fnMeshes", recurses := true, apart := false, narrowed := true }
def FnMeshesUptoSaid : Prop := fnMeshesUptoRow.holds Try.pinned (OpenSpec.upto fnMeshesSpec)

end Rows
end Go.Proofs.Ytogfnmjedeoecaa
