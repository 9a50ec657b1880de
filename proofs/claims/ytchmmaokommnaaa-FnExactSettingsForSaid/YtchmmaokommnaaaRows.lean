/-
  No cell of these rows narrows 'for every input' (looked for: loops, veiled, ifaces, maps, wideKeys, modest, calm, conditions, laid).
  DERIVED. THE GIVEN ROWS OF THIS SEAT. 9 by the template 'for every input the law returns true; each argument reads behind the call as it read before'; 0 by the template 'total and deterministic' (their statements: YtchmmaokommnaaaTotals.lean).
  GIVEN WITH THE SEED: the statements are not yours to turn. If you find one false, say at which input.
  Laid BY PROGRAM, IN A SANDBOX (cutbox-rows.mjs): the forced cells as the released guide's own fill.sh prints them over the translation 5b17819274badbaa… (all of the seat's roots in one cut). By AI agents, Wed Nov 11 2026. No macro, syntax, notation, axiom, sorry.
-/
import Derived.Test.YtchmmaokommnaaaChecked
import GoSem.Claim
import GoSem.ClaimJoined
import GoSem.ClaimMapViews
import Derived.JoinedTies
import Derived.KernelRfl
namespace Go.Proofs.Ytchmmaokommnaaa
/- THE CELL 'sum', in the pinned program and in every row, IS THE sha256 OF THE DUMP (.gsa) THAT YtchmmaokommnaaaProg.lean LOADS. Nothing in Lean hashes anything: it is a label: what it is worth is what the hold of that sum in a sandbox is worth. -/
noncomputable def Try.pinned : Pinned := { name := "ytchmmaokommnaaa", sum := "5b17819274badbaa917b09d47b42dcbfbf389cb11db8cb582210a6a3df0a572a", checked := Try.checked }
namespace Rows
def none {H : Type} : Left H := { results := [], args := [] }

/-- 'laws.FnExactSwitchCount': WHATEVER THE INPUT: true; the input reads as it did. -/
def fnExactSwitchCountSpec : ChangeSpec := { name := "fnExactSwitchCount", fn := fun _ => fun
  | [d] => { results := [.lit (.bool true)], args := [d] }
  | _ => none }
def fnExactSwitchCountRow : OpenClaim := { program := "ytchmmaokommnaaa", sum := "5b17819274badbaa917b09d47b42dcbfbf389cb11db8cb582210a6a3df0a572a", func := "loop.example/g03207/laws.FnExactSwitchCount", spec := "fnExactSwitchCount", recurses := true, apart := false }
def FnExactSwitchCountSaid : Prop := fnExactSwitchCountRow.holds Try.pinned (OpenSpec.ofChange fnExactSwitchCountSpec)

/-- ITS FALSE NEIGHBOUR: 'it returns false'. Refute it at one input. -/
def fnExactSwitchCountWrong : ChangeSpec := { name := "fnExactSwitchCount", fn := fun _ => fun
  | [d] => { results := [.lit (.bool false)], args := [d] }
  | _ => none }
def FnExactSwitchCountWrongFalsely : Prop := fnExactSwitchCountRow.holds Try.pinned (OpenSpec.ofChange fnExactSwitchCountWrong)

/-- 'laws.FnExactSettingsOk': WHATEVER THE INPUT: true; the input reads as it did. -/
def fnExactSettingsOkSpec : ChangeSpec := { name := "fnExactSettingsOk", fn := fun _ => fun
  | [d1, d2] => { results := [.lit (.bool true)], args := [d1, d2] }
  | _ => none }
def fnExactSettingsOkRow : OpenClaim := { program := "ytchmmaokommnaaa", sum := "5b17819274badbaa917b09d47b42dcbfbf389cb11db8cb582210a6a3df0a572a", func := "loop.example/g03207/laws.FnExactSettingsOk", spec := "fnExactSettingsOk", unfollowed := true, recurses := true, apart := false }
def FnExactSettingsOkSaid : Prop := fnExactSettingsOkRow.holds Try.pinned (OpenSpec.ofChange fnExactSettingsOkSpec)

/-- ITS FALSE NEIGHBOUR: 'it returns false'. Refute it at one input. -/
def fnExactSettingsOkWrong : ChangeSpec := { name := "fnExactSettingsOk", fn := fun _ => fun
  | [d1, d2] => { results := [.lit (.bool false)], args := [d1, d2] }
  | _ => none }
def FnExactSettingsOkWrongFalsely : Prop := fnExactSettingsOkRow.holds Try.pinned (OpenSpec.ofChange fnExactSettingsOkWrong)

/-- 'laws.FnExactParityOf': WHATEVER THE INPUT: true; the input reads as it did. -/
def fnExactParityOfSpec : ChangeSpec := { name := "fnExactParityOf", fn := fun _ => fun
  | [d] => { results := [.lit (.bool true)], args := [d] }
  | _ => none }
def fnExactParityOfRow : OpenClaim := { program := "ytchmmaokommnaaa", sum := "5b17819274badbaa917b09d47b42dcbfbf389cb11db8cb582210a6a3df0a572a", func := "loop.example/g03207/laws.FnExactParityOf", spec := "fnExactParityOf", apart := false }
def FnExactParityOfSaid : Prop := fnExactParityOfRow.holds Try.pinned (OpenSpec.ofChange fnExactParityOfSpec)

/-- ITS FALSE NEIGHBOUR: 'it returns false'. Refute it at one input. -/
def fnExactParityOfWrong : ChangeSpec := { name := "fnExactParityOf", fn := fun _ => fun
  | [d] => { results := [.lit (.bool false)], args := [d] }
  | _ => none }
def FnExactParityOfWrongFalsely : Prop := fnExactParityOfRow.holds Try.pinned (OpenSpec.ofChange fnExactParityOfWrong)

/-- 'laws.FnExactInverseOrder': WHATEVER THE INPUT: true; the input reads as it did. -/
def fnExactInverseOrderSpec : ChangeSpec := { name := "fnExactInverseOrder", fn := fun _ => fun
  | [d] => { results := [.lit (.bool true)], args := [d] }
  | _ => none }
def fnExactInverseOrderRow : OpenClaim := { program := "ytchmmaokommnaaa", sum := "5b17819274badbaa917b09d47b42dcbfbf389cb11db8cb582210a6a3df0a572a", func := "loop.example/g03207/laws.FnExactInverseOrder", spec := "fnExactInverseOrder", apart := false }
def FnExactInverseOrderSaid : Prop := fnExactInverseOrderRow.holds Try.pinned (OpenSpec.ofChange fnExactInverseOrderSpec)

/-- ITS FALSE NEIGHBOUR: 'it returns false'. Refute it at one input. -/
def fnExactInverseOrderWrong : ChangeSpec := { name := "fnExactInverseOrder", fn := fun _ => fun
  | [d] => { results := [.lit (.bool false)], args := [d] }
  | _ => none }
def FnExactInverseOrderWrongFalsely : Prop := fnExactInverseOrderRow.holds Try.pinned (OpenSpec.ofChange fnExactInverseOrderWrong)

/-- 'laws.FnExactApplyFabric': WHATEVER THE INPUT: true; the input reads as it did. -/
def fnExactApplyFabricSpec : ChangeSpec := { name := "fnExactApplyFabric", fn := fun _ => fun
  | [d1, d2, d3] => { results := [.lit (.bool true)], args := [d1, d2, d3] }
  | _ => none }
def fnExactApplyFabricRow : OpenClaim := { program := "ytchmmaokommnaaa", sum := "5b17819274badbaa917b09d47b42dcbfbf389cb11db8cb582210a6a3df0a572a", func := "loop.example/g03207/laws.FnExactApplyFabric", spec := "fnExactApplyFabric", unfollowed := true, recurses := true, apart := false }
def FnExactApplyFabricSaid : Prop := fnExactApplyFabricRow.holds Try.pinned (OpenSpec.ofChange fnExactApplyFabricSpec)

/-- ITS FALSE NEIGHBOUR: 'it returns false'. Refute it at one input. -/
def fnExactApplyFabricWrong : ChangeSpec := { name := "fnExactApplyFabric", fn := fun _ => fun
  | [d1, d2, d3] => { results := [.lit (.bool false)], args := [d1, d2, d3] }
  | _ => none }
def FnExactApplyFabricWrongFalsely : Prop := fnExactApplyFabricRow.holds Try.pinned (OpenSpec.ofChange fnExactApplyFabricWrong)

/-- 'laws.FnExactOrderOf': WHATEVER THE INPUT: true; the input reads as it did. -/
def fnExactOrderOfSpec : ChangeSpec := { name := "fnExactOrderOf", fn := fun _ => fun
  | [d1, d2] => { results := [.lit (.bool true)], args := [d1, d2] }
  | _ => none }
def fnExactOrderOfRow : OpenClaim := { program := "ytchmmaokommnaaa", sum := "5b17819274badbaa917b09d47b42dcbfbf389cb11db8cb582210a6a3df0a572a", func := "loop.example/g03207/laws.FnExactOrderOf", spec := "fnExactOrderOf", unfollowed := true, recurses := true, apart := false }
def FnExactOrderOfSaid : Prop := fnExactOrderOfRow.holds Try.pinned (OpenSpec.ofChange fnExactOrderOfSpec)

/-- ITS FALSE NEIGHBOUR: 'it returns false'. Refute it at one input. -/
def fnExactOrderOfWrong : ChangeSpec := { name := "fnExactOrderOf", fn := fun _ => fun
  | [d1, d2] => { results := [.lit (.bool false)], args := [d1, d2] }
  | _ => none }
def FnExactOrderOfWrongFalsely : Prop := fnExactOrderOfRow.holds Try.pinned (OpenSpec.ofChange fnExactOrderOfWrong)

/-- 'laws.FnExactSettingsFor': WHATEVER THE INPUT: true; the input reads as it did. -/
def fnExactSettingsForSpec : ChangeSpec := { name := "fnExactSettingsFor", fn := fun _ => fun
  | [d] => { results := [.lit (.bool true)], args := [d] }
  | _ => none }
def fnExactSettingsForRow : OpenClaim := { program := "ytchmmaokommnaaa", sum := "5b17819274badbaa917b09d47b42dcbfbf389cb11db8cb582210a6a3df0a572a", func := "loop.example/g03207/laws.FnExactSettingsFor", spec := "fnExactSettingsFor", recurses := true, apart := false }
def FnExactSettingsForSaid : Prop := fnExactSettingsForRow.holds Try.pinned (OpenSpec.ofChange fnExactSettingsForSpec)

/-- ITS FALSE NEIGHBOUR: 'it returns false'. Refute it at one input. -/
def fnExactSettingsForWrong : ChangeSpec := { name := "fnExactSettingsFor", fn := fun _ => fun
  | [d] => { results := [.lit (.bool false)], args := [d] }
  | _ => none }
def FnExactSettingsForWrongFalsely : Prop := fnExactSettingsForRow.holds Try.pinned (OpenSpec.ofChange fnExactSettingsForWrong)

/-- 'laws.FnExactCountSettings': WHATEVER THE INPUT: true; the input reads as it did. -/
def fnExactCountSettingsSpec : ChangeSpec := { name := "fnExactCountSettings", fn := fun _ => fun
  | [d] => { results := [.lit (.bool true)], args := [d] }
  | _ => none }
def fnExactCountSettingsRow : OpenClaim := { program := "ytchmmaokommnaaa", sum := "5b17819274badbaa917b09d47b42dcbfbf389cb11db8cb582210a6a3df0a572a", func := "loop.example/g03207/laws.FnExactCountSettings", spec := "fnExactCountSettings", recurses := true, apart := false }
def FnExactCountSettingsSaid : Prop := fnExactCountSettingsRow.holds Try.pinned (OpenSpec.ofChange fnExactCountSettingsSpec)

/-- ITS FALSE NEIGHBOUR: 'it returns false'. Refute it at one input. -/
def fnExactCountSettingsWrong : ChangeSpec := { name := "fnExactCountSettings", fn := fun _ => fun
  | [d] => { results := [.lit (.bool false)], args := [d] }
  | _ => none }
def FnExactCountSettingsWrongFalsely : Prop := fnExactCountSettingsRow.holds Try.pinned (OpenSpec.ofChange fnExactCountSettingsWrong)

/-- 'laws.FnExactCanRouteWith': WHATEVER THE INPUT: true; the input reads as it did. -/
def fnExactCanRouteWithSpec : ChangeSpec := { name := "fnExactCanRouteWith", fn := fun _ => fun
  | [d1, d2, d3] => { results := [.lit (.bool true)], args := [d1, d2, d3] }
  | _ => none }
def fnExactCanRouteWithRow : OpenClaim := { program := "ytchmmaokommnaaa", sum := "5b17819274badbaa917b09d47b42dcbfbf389cb11db8cb582210a6a3df0a572a", func := "loop.example/g03207/laws.FnExactCanRouteWith", spec := "fnExactCanRouteWith", unfollowed := true, recurses := true, apart := false }
def FnExactCanRouteWithSaid : Prop := fnExactCanRouteWithRow.holds Try.pinned (OpenSpec.ofChange fnExactCanRouteWithSpec)

/-- ITS FALSE NEIGHBOUR: 'it returns false'. Refute it at one input. -/
def fnExactCanRouteWithWrong : ChangeSpec := { name := "fnExactCanRouteWith", fn := fun _ => fun
  | [d1, d2, d3] => { results := [.lit (.bool false)], args := [d1, d2, d3] }
  | _ => none }
def FnExactCanRouteWithWrongFalsely : Prop := fnExactCanRouteWithRow.holds Try.pinned (OpenSpec.ofChange fnExactCanRouteWithWrong)

/- THE SECOND FORM. 'bulk': how many values and letters a reading holds, each counted each time it is reached (what is shared counts as often as it is met; a slice's spare places count too). A statement '..UptoSaid' is the law's where the arguments, and the package variables that the reading takes, are together of bulk at most 1048576: NARROWER than '..Said'. Prove '..Said' where nothing that the law and all that it calls make is longer than what came in: it says more and counts as full. Else prove '..UptoSaid'. A law counts once. -/
mutual
def uptoBulk {H : Type} : DataW H → Nat
  | .lit (.string bytes) => bytes.length + 1
  | .lit _ => 1
  | .nil => 1
  | .ptr d => uptoBulk d + 1
  | .slice elems spare => uptoBulkAll elems + uptoBulkAll spare + 1
  | .agg parts => uptoBulkAll parts + 1
  | .iface _ d => uptoBulk d + 1
  | .map entries => uptoBulkEntries entries + 1
  | .held _ => 1
def uptoBulkAll {H : Type} : List (DataW H) → Nat
  | [] => 0
  | d :: r => uptoBulk d + uptoBulkAll r
def uptoBulkEntries {H : Type} : List (Lit × DataW H) → Nat
  | [] => 0
  | x :: r => uptoBulkEntry x + uptoBulkEntries r
def uptoBulkEntry {H : Type} : Lit × DataW H → Nat
  | (.string bytes, d) => bytes.length + uptoBulk d + 1
  | (_, d) => uptoBulk d + 1
 end
def uptoSmall : (H : Type) → List (DataW H) → Bool := fun _ ds => decide (uptoBulkAll ds ≤ 1048576)
def OpenSpec.upto (s : _root_.Go.ChangeSpec) : _root_.Go.OpenSpec := { _root_.Go.OpenSpec.ofChange s with cond := some uptoSmall }

/-- 'laws.FnExactSwitchCount', WHERE WHAT IT READS IS OF BULK AT MOST 1048576: true; the input reads as it did. -/
def fnExactSwitchCountUptoRow : OpenClaim := { program := "ytchmmaokommnaaa", sum := "5b17819274badbaa917b09d47b42dcbfbf389cb11db8cb582210a6a3df0a572a", func := "loop.example/g03207/laws.FnExactSwitchCount", spec := "fnExactSwitchCount", recurses := true, apart := false, narrowed := true }
def FnExactSwitchCountUptoSaid : Prop := fnExactSwitchCountUptoRow.holds Try.pinned (OpenSpec.upto fnExactSwitchCountSpec)

/-- 'laws.FnExactSettingsOk', WHERE WHAT IT READS IS OF BULK AT MOST 1048576: true; the input reads as it did. -/
def fnExactSettingsOkUptoRow : OpenClaim := { program := "ytchmmaokommnaaa", sum := "5b17819274badbaa917b09d47b42dcbfbf389cb11db8cb582210a6a3df0a572a", func := "loop.example/g03207/laws.FnExactSettingsOk", spec := "fnExactSettingsOk", unfollowed := true, recurses := true, apart := false, narrowed := true }
def FnExactSettingsOkUptoSaid : Prop := fnExactSettingsOkUptoRow.holds Try.pinned (OpenSpec.upto fnExactSettingsOkSpec)

/-- 'laws.FnExactParityOf', WHERE WHAT IT READS IS OF BULK AT MOST 1048576: true; the input reads as it did. -/
def fnExactParityOfUptoRow : OpenClaim := { program := "ytchmmaokommnaaa", sum := "5b17819274badbaa917b09d47b42dcbfbf389cb11db8cb582210a6a3df0a572a", func := "loop.example/g03207/laws.FnExactParityOf", spec := "fnExactParityOf", apart := false, narrowed := true }
def FnExactParityOfUptoSaid : Prop := fnExactParityOfUptoRow.holds Try.pinned (OpenSpec.upto fnExactParityOfSpec)

/-- 'laws.FnExactInverseOrder', WHERE WHAT IT READS IS OF BULK AT MOST 1048576: true; the input reads as it did. -/
def fnExactInverseOrderUptoRow : OpenClaim := { program := "ytchmmaokommnaaa", sum := "5b17819274badbaa917b09d47b42dcbfbf389cb11db8cb582210a6a3df0a572a", func := "loop.example/g03207/laws.FnExactInverseOrder", spec := "fnExactInverseOrder", apart := false, narrowed := true }
def FnExactInverseOrderUptoSaid : Prop := fnExactInverseOrderUptoRow.holds Try.pinned (OpenSpec.upto fnExactInverseOrderSpec)

/-- 'laws.FnExactApplyFabric', WHERE WHAT IT READS IS OF BULK AT MOST 1048576: true; the input reads as it did. -/
def fnExactApplyFabricUptoRow : OpenClaim := { program := "ytchmmaokommnaaa", sum := "5b17819274badbaa917b09d47b42dcbfbf389cb11db8cb582210a6a3df0a572a", func := "loop.example/g03207/laws.FnExactApplyFabric", spec := "fnExactApplyFabric", unfollowed := true, recurses := true, apart := false, narrowed := true }
def FnExactApplyFabricUptoSaid : Prop := fnExactApplyFabricUptoRow.holds Try.pinned (OpenSpec.upto fnExactApplyFabricSpec)

/-- 'laws.FnExactOrderOf', WHERE WHAT IT READS IS OF BULK AT MOST 1048576: true; the input reads as it did. -/
def fnExactOrderOfUptoRow : OpenClaim := { program := "ytchmmaokommnaaa", sum := "5b17819274badbaa917b09d47b42dcbfbf389cb11db8cb582210a6a3df0a572a", func := "loop.example/g03207/laws.FnExactOrderOf", spec := "fnExactOrderOf", unfollowed := true, recurses := true, apart := false, narrowed := true }
def FnExactOrderOfUptoSaid : Prop := fnExactOrderOfUptoRow.holds Try.pinned (OpenSpec.upto fnExactOrderOfSpec)

/-- 'laws.FnExactSettingsFor', WHERE WHAT IT READS IS OF BULK AT MOST 1048576: true; the input reads as it did. -/
def fnExactSettingsForUptoRow : OpenClaim := { program := "ytchmmaokommnaaa", sum := "5b17819274badbaa917b09d47b42dcbfbf389cb11db8cb582210a6a3df0a572a", func := "loop.example/g03207/laws.FnExactSettingsFor", spec := "fnExactSettingsFor", recurses := true, apart := false, narrowed := true }
def FnExactSettingsForUptoSaid : Prop := fnExactSettingsForUptoRow.holds Try.pinned (OpenSpec.upto fnExactSettingsForSpec)

/-- 'laws.FnExactCountSettings', WHERE WHAT IT READS IS OF BULK AT MOST 1048576: true; the input reads as it did. -/
def fnExactCountSettingsUptoRow : OpenClaim := { program := "ytchmmaokommnaaa", sum := "5b17819274badbaa917b09d47b42dcbfbf389cb11db8cb582210a6a3df0a572a", func := "loop.example/g03207/laws.FnExactCountSettings", spec := "fnExactCountSettings", recurses := true, apart := false, narrowed := true }
def FnExactCountSettingsUptoSaid : Prop := fnExactCountSettingsUptoRow.holds Try.pinned (OpenSpec.upto fnExactCountSettingsSpec)

/-- 'laws.FnExactCanRouteWith', WHERE WHAT IT READS IS OF BULK AT MOST 1048576: true; the input reads as it did. -/
def fnExactCanRouteWithUptoRow : OpenClaim := { program := "ytchmmaokommnaaa", sum := "5b17819274badbaa917b09d47b42dcbfbf389cb11db8cb582210a6a3df0a572a", func := "loop.example/g03207/laws.FnExactCanRouteWith", spec := "fnExactCanRouteWith", unfollowed := true, recurses := true, apart := false, narrowed := true }
def FnExactCanRouteWithUptoSaid : Prop := fnExactCanRouteWithUptoRow.holds Try.pinned (OpenSpec.upto fnExactCanRouteWithSpec)

end Rows
end Go.Proofs.Ytchmmaokommnaaa
