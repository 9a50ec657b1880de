/-
  No cell of these rows narrows 'for every input' (looked for: loops, veiled, ifaces, maps, wideKeys, modest, calm, conditions, laid).
  DERIVED. THE GIVEN ROWS OF THIS SEAT. 6 by the template 'for every input the law returns true; each argument reads behind the call as it read before'; 0 by the template 'total and deterministic' (their statements: YtojlcpfnkpfgnaaTotals.lean).
  GIVEN WITH THE SEED: the statements are not yours to turn. If you find one false, say at which input.
  Laid BY PROGRAM, IN A SANDBOX (cutbox-rows.mjs): the forced cells as the released guide's own fill.sh prints them over the translation a3932ce8b856cc1c… (all of the seat's roots in one cut). By AI agents, Wed Nov 11 2026. No macro, syntax, notation, axiom, sorry.
-/
import Derived.Test.YtojlcpfnkpfgnaaChecked
import GoSem.Claim
import GoSem.ClaimJoined
import GoSem.ClaimMapViews
import Derived.JoinedTies
import Derived.KernelRfl
namespace Go.Proofs.Ytojlcpfnkpfgnaa
/- THE CELL 'sum', in the pinned program and in every row, IS THE sha256 OF THE DUMP (.gsa) THAT YtojlcpfnkpfgnaaProg.lean LOADS. Nothing in Lean hashes anything: it is a label: what it is worth is what the hold of that sum in a sandbox is worth. -/
noncomputable def Try.pinned : Pinned := { name := "ytojlcpfnkpfgnaa", sum := "a3932ce8b856cc1ccaf120ce64fa070279e333d541ca3dff110dde5710211781", checked := Try.checked }
namespace Rows
def none {H : Type} : Left H := { results := [], args := [] }

/-- 'laws.FnExactIsGapSorted': WHATEVER THE INPUT: true; the input reads as it did. -/
def fnExactIsGapSortedSpec : ChangeSpec := { name := "fnExactIsGapSorted", fn := fun _ => fun
  | [d1, d2] => { results := [.lit (.bool true)], args := [d1, d2] }
  | _ => none }
def fnExactIsGapSortedRow : OpenClaim := { program := "ytojlcpfnkpfgnaa", sum := "a3932ce8b856cc1ccaf120ce64fa070279e333d541ca3dff110dde5710211781", func := "loop.example/g03207/laws.FnExactIsGapSorted", spec := "fnExactIsGapSorted", apart := false }
def FnExactIsGapSortedSaid : Prop := fnExactIsGapSortedRow.holds Try.pinned (OpenSpec.ofChange fnExactIsGapSortedSpec)

/-- ITS FALSE NEIGHBOUR: 'it returns false'. Refute it at one input. -/
def fnExactIsGapSortedWrong : ChangeSpec := { name := "fnExactIsGapSorted", fn := fun _ => fun
  | [d1, d2] => { results := [.lit (.bool false)], args := [d1, d2] }
  | _ => none }
def FnExactIsGapSortedWrongFalsely : Prop := fnExactIsGapSortedRow.holds Try.pinned (OpenSpec.ofChange fnExactIsGapSortedWrong)

/-- 'laws.FnExactGapMoves': WHATEVER THE INPUT: true; the input reads as it did. -/
def fnExactGapMovesSpec : ChangeSpec := { name := "fnExactGapMoves", fn := fun _ => fun
  | [d1, d2] => { results := [.lit (.bool true)], args := [d1, d2] }
  | _ => none }
def fnExactGapMovesRow : OpenClaim := { program := "ytojlcpfnkpfgnaa", sum := "a3932ce8b856cc1ccaf120ce64fa070279e333d541ca3dff110dde5710211781", func := "loop.example/g03207/laws.FnExactGapMoves", spec := "fnExactGapMoves", apart := false }
def FnExactGapMovesSaid : Prop := fnExactGapMovesRow.holds Try.pinned (OpenSpec.ofChange fnExactGapMovesSpec)

/-- ITS FALSE NEIGHBOUR: 'it returns false'. Refute it at one input. -/
def fnExactGapMovesWrong : ChangeSpec := { name := "fnExactGapMoves", fn := fun _ => fun
  | [d1, d2] => { results := [.lit (.bool false)], args := [d1, d2] }
  | _ => none }
def FnExactGapMovesWrongFalsely : Prop := fnExactGapMovesRow.holds Try.pinned (OpenSpec.ofChange fnExactGapMovesWrong)

/-- 'laws.FnExactGreatestUnreached': WHATEVER THE INPUT: true; the input reads as it did. -/
def fnExactGreatestUnreachedSpec : ChangeSpec := { name := "fnExactGreatestUnreached", fn := fun _ => fun
  | [d1, d2] => { results := [.lit (.bool true)], args := [d1, d2] }
  | _ => none }
def fnExactGreatestUnreachedRow : OpenClaim := { program := "ytojlcpfnkpfgnaa", sum := "a3932ce8b856cc1ccaf120ce64fa070279e333d541ca3dff110dde5710211781", func := "loop.example/g03207/laws.FnExactGreatestUnreached", spec := "fnExactGreatestUnreached", apart := false }
def FnExactGreatestUnreachedSaid : Prop := fnExactGreatestUnreachedRow.holds Try.pinned (OpenSpec.ofChange fnExactGreatestUnreachedSpec)

/-- ITS FALSE NEIGHBOUR: 'it returns false'. Refute it at one input. -/
def fnExactGreatestUnreachedWrong : ChangeSpec := { name := "fnExactGreatestUnreached", fn := fun _ => fun
  | [d1, d2] => { results := [.lit (.bool false)], args := [d1, d2] }
  | _ => none }
def FnExactGreatestUnreachedWrongFalsely : Prop := fnExactGreatestUnreachedRow.holds Try.pinned (OpenSpec.ofChange fnExactGreatestUnreachedWrong)

/-- 'laws.FnExactUnreached': WHATEVER THE INPUT: true; the input reads as it did. -/
def fnExactUnreachedSpec : ChangeSpec := { name := "fnExactUnreached", fn := fun _ => fun
  | [d1, d2] => { results := [.lit (.bool true)], args := [d1, d2] }
  | _ => none }
def fnExactUnreachedRow : OpenClaim := { program := "ytojlcpfnkpfgnaa", sum := "a3932ce8b856cc1ccaf120ce64fa070279e333d541ca3dff110dde5710211781", func := "loop.example/g03207/laws.FnExactUnreached", spec := "fnExactUnreached", apart := false }
def FnExactUnreachedSaid : Prop := fnExactUnreachedRow.holds Try.pinned (OpenSpec.ofChange fnExactUnreachedSpec)

/-- ITS FALSE NEIGHBOUR: 'it returns false'. Refute it at one input. -/
def fnExactUnreachedWrong : ChangeSpec := { name := "fnExactUnreached", fn := fun _ => fun
  | [d1, d2] => { results := [.lit (.bool false)], args := [d1, d2] }
  | _ => none }
def FnExactUnreachedWrongFalsely : Prop := fnExactUnreachedRow.holds Try.pinned (OpenSpec.ofChange fnExactUnreachedWrong)

/-- 'laws.FnExactGapNetwork': WHATEVER THE INPUT: true; the input reads as it did. -/
def fnExactGapNetworkSpec : ChangeSpec := { name := "fnExactGapNetwork", fn := fun _ => fun
  | [d1, d2] => { results := [.lit (.bool true)], args := [d1, d2] }
  | _ => none }
def fnExactGapNetworkRow : OpenClaim := { program := "ytojlcpfnkpfgnaa", sum := "a3932ce8b856cc1ccaf120ce64fa070279e333d541ca3dff110dde5710211781", func := "loop.example/g03207/laws.FnExactGapNetwork", spec := "fnExactGapNetwork", apart := false }
def FnExactGapNetworkSaid : Prop := fnExactGapNetworkRow.holds Try.pinned (OpenSpec.ofChange fnExactGapNetworkSpec)

/-- ITS FALSE NEIGHBOUR: 'it returns false'. Refute it at one input. -/
def fnExactGapNetworkWrong : ChangeSpec := { name := "fnExactGapNetwork", fn := fun _ => fun
  | [d1, d2] => { results := [.lit (.bool false)], args := [d1, d2] }
  | _ => none }
def FnExactGapNetworkWrongFalsely : Prop := fnExactGapNetworkRow.holds Try.pinned (OpenSpec.ofChange fnExactGapNetworkWrong)

/-- 'laws.FnExactGapSort': WHATEVER THE INPUT: true; the input reads as it did. -/
def fnExactGapSortSpec : ChangeSpec := { name := "fnExactGapSort", fn := fun _ => fun
  | [d1, d2] => { results := [.lit (.bool true)], args := [d1, d2] }
  | _ => none }
def fnExactGapSortRow : OpenClaim := { program := "ytojlcpfnkpfgnaa", sum := "a3932ce8b856cc1ccaf120ce64fa070279e333d541ca3dff110dde5710211781", func := "loop.example/g03207/laws.FnExactGapSort", spec := "fnExactGapSort", recurses := true, apart := false }
def FnExactGapSortSaid : Prop := fnExactGapSortRow.holds Try.pinned (OpenSpec.ofChange fnExactGapSortSpec)

/-- ITS FALSE NEIGHBOUR: 'it returns false'. Refute it at one input. -/
def fnExactGapSortWrong : ChangeSpec := { name := "fnExactGapSort", fn := fun _ => fun
  | [d1, d2] => { results := [.lit (.bool false)], args := [d1, d2] }
  | _ => none }
def FnExactGapSortWrongFalsely : Prop := fnExactGapSortRow.holds Try.pinned (OpenSpec.ofChange fnExactGapSortWrong)

/- THE SECOND FORM. 'bulk': how many values and letters a reading holds, each counted each time it is reached (what is shared counts as often as it is met; a slice's spare places count too). A statement '..UptoSaid' is the law's where the arguments, and the package variables that the reading takes, are together of bulk at most 1048576: NARROWER than '..Said'. Prove '..Said' where nothing that the law and all that it calls make is longer than what came in: it says more and counts as full. Else prove '..UptoSaid'. A law counts once. -/
mutual
def uptoBulk {H : Type} : DataW H → Nat
  | .lit (.string bytes) => bytes.length + 1
  | .lit _ => 1
  | .nil => 1
  | .ptr d => uptoBulk d + 1
  | .slice elems spare => uptoBulkAll elems + uptoBulkAll spare + 1
  | .agg parts => uptoBulkAll parts + 1
  | .iface _ d => uptoBulk d + 1
  | .map entries => uptoBulkEntries entries + 1
  | .held _ => 1
def uptoBulkAll {H : Type} : List (DataW H) → Nat
  | [] => 0
  | d :: r => uptoBulk d + uptoBulkAll r
def uptoBulkEntries {H : Type} : List (Lit × DataW H) → Nat
  | [] => 0
  | x :: r => uptoBulkEntry x + uptoBulkEntries r
def uptoBulkEntry {H : Type} : Lit × DataW H → Nat
  | (.string bytes, d) => bytes.length + uptoBulk d + 1
  | (_, d) => uptoBulk d + 1
 end
def uptoSmall : (H : Type) → List (DataW H) → Bool := fun _ ds => decide (uptoBulkAll ds ≤ 1048576)
def OpenSpec.upto (s : _root_.Go.ChangeSpec) : _root_.Go.OpenSpec := { _root_.Go.OpenSpec.ofChange s with cond := some uptoSmall }

/-- 'laws.FnExactIsGapSorted', WHERE WHAT IT READS IS OF BULK AT MOST 1048576: true; the input reads as it did. -/
def fnExactIsGapSortedUptoRow : OpenClaim := { program := "ytojlcpfnkpfgnaa", sum := "a3932ce8b856cc1ccaf120ce64fa070279e333d541ca3dff110dde5710211781", func := "loop.example/g03207/laws.FnExactIsGapSorted", spec := "fnExactIsGapSorted", apart := false, narrowed := true }
def FnExactIsGapSortedUptoSaid : Prop := fnExactIsGapSortedUptoRow.holds Try.pinned (OpenSpec.upto fnExactIsGapSortedSpec)

/-- 'laws.FnExactGapMoves', WHERE WHAT IT READS IS OF BULK AT MOST 1048576: true; the input reads as it did. -/
def fnExactGapMovesUptoRow : OpenClaim := { program := "ytojlcpfnkpfgnaa", sum := "a3932ce8b856cc1ccaf120ce64fa070279e333d541ca3dff110dde5710211781", func := "loop.example/g03207/laws.FnExactGapMoves", spec := "fnExactGapMoves", apart := false, narrowed := true }
def FnExactGapMovesUptoSaid : Prop := fnExactGapMovesUptoRow.holds Try.pinned (OpenSpec.upto fnExactGapMovesSpec)

/-- 'laws.FnExactGreatestUnreached', WHERE WHAT IT READS IS OF BULK AT MOST 1048576: true; the input reads as it did. -/
def fnExactGreatestUnreachedUptoRow : OpenClaim := { program := "ytojlcpfnkpfgnaa", sum := "a3932ce8b856cc1ccaf120ce64fa070279e333d541ca3dff110dde5710211781", func := "loop.example/g03207/laws.FnExactGreatestUnreached", spec := "fnExactGreatestUnreached", apart := false, narrowed := true }
def FnExactGreatestUnreachedUptoSaid : Prop := fnExactGreatestUnreachedUptoRow.holds Try.pinned (OpenSpec.upto fnExactGreatestUnreachedSpec)

/-- 'laws.FnExactUnreached', WHERE WHAT IT READS IS OF BULK AT MOST 1048576: true; the input reads as it did. -/
def fnExactUnreachedUptoRow : OpenClaim := { program := "ytojlcpfnkpfgnaa", sum := "a3932ce8b856cc1ccaf120ce64fa070279e333d541ca3dff110dde5710211781", func := "loop.example/g03207/laws.FnExactUnreached", spec := "fnExactUnreached", apart := false, narrowed := true }
def FnExactUnreachedUptoSaid : Prop := fnExactUnreachedUptoRow.holds Try.pinned (OpenSpec.upto fnExactUnreachedSpec)

/-- 'laws.FnExactGapNetwork', WHERE WHAT IT READS IS OF BULK AT MOST 1048576: true; the input reads as it did. -/
def fnExactGapNetworkUptoRow : OpenClaim := { program := "ytojlcpfnkpfgnaa", sum := "a3932ce8b856cc1ccaf120ce64fa070279e333d541ca3dff110dde5710211781", func := "loop.example/g03207/laws.FnExactGapNetwork", spec := "fnExactGapNetwork", apart := false, narrowed := true }
def FnExactGapNetworkUptoSaid : Prop := fnExactGapNetworkUptoRow.holds Try.pinned (OpenSpec.upto fnExactGapNetworkSpec)

/-- 'laws.FnExactGapSort', WHERE WHAT IT READS IS OF BULK AT MOST 1048576: true; the input reads as it did. -/
def fnExactGapSortUptoRow : OpenClaim := { program := "ytojlcpfnkpfgnaa", sum := "a3932ce8b856cc1ccaf120ce64fa070279e333d541ca3dff110dde5710211781", func := "loop.example/g03207/laws.FnExactGapSort", spec := "fnExactGapSort", recurses := true, apart := false, narrowed := true }
def FnExactGapSortUptoSaid : Prop := fnExactGapSortUptoRow.holds Try.pinned (OpenSpec.upto fnExactGapSortSpec)

end Rows
end Go.Proofs.Ytojlcpfnkpfgnaa
