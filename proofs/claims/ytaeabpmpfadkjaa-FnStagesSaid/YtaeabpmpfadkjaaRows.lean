/-
  No cell of these rows narrows 'for every input' (looked for: loops, veiled, ifaces, maps, wideKeys, modest, calm, conditions, laid).
  DERIVED. THE GIVEN ROWS OF THIS SEAT. 10 by the template 'for every input the law returns true; each argument reads behind the call as it read before'; 0 by the template 'total and deterministic' (their statements: YtaeabpmpfadkjaaTotals.lean).
  GIVEN WITH THE SEED: the statements are not yours to turn. If you find one false, say at which input.
  Laid BY PROGRAM, IN A SANDBOX (cutbox-rows.mjs): the forced cells as the released guide's own fill.sh prints them over the translation 87a742f151f4ad50… (all of the seat's roots in one cut). By AI agents, Wed Nov 11 2026. No macro, syntax, notation, axiom, sorry.
-/
import Derived.Test.YtaeabpmpfadkjaaChecked
import GoSem.Claim
import GoSem.ClaimJoined
import GoSem.ClaimMapViews
import Derived.JoinedTies
import Derived.KernelRfl
namespace Go.Proofs.Ytaeabpmpfadkjaa
/- THE CELL 'sum', in the pinned program and in every row, IS THE sha256 OF THE DUMP (.gsa) THAT YtaeabpmpfadkjaaProg.lean LOADS. Nothing in Lean hashes anything: it is a label: what it is worth is what the hold of that sum in a sandbox is worth. -/
noncomputable def Try.pinned : Pinned := { name := "ytaeabpmpfadkjaa", sum := "87a742f151f4ad503092a0c90cc3ef77154ea694df3342392e7601ec015b9154", checked := Try.checked }
namespace Rows
def none {H : Type} : Left H := { results := [], args := [] }

/-- 'laws.FnExactCountStages': WHATEVER THE INPUT: true; the input reads as it did. -/
def fnExactCountStagesSpec : ChangeSpec := { name := "fnExactCountStages", fn := fun _ => fun
  | [d] => { results := [.lit (.bool true)], args := [d] }
  | _ => none }
def fnExactCountStagesRow : OpenClaim := { program := "ytaeabpmpfadkjaa", sum := "87a742f151f4ad503092a0c90cc3ef77154ea694df3342392e7601ec015b9154", func := "loop.example/g03207/laws.FnExactCountStages", spec := "fnExactCountStages", apart := false }
def FnExactCountStagesSaid : Prop := fnExactCountStagesRow.holds Try.pinned (OpenSpec.ofChange fnExactCountStagesSpec)

/-- ITS FALSE NEIGHBOUR: 'it returns false'. Refute it at one input. -/
def fnExactCountStagesWrong : ChangeSpec := { name := "fnExactCountStages", fn := fun _ => fun
  | [d] => { results := [.lit (.bool false)], args := [d] }
  | _ => none }
def FnExactCountStagesWrongFalsely : Prop := fnExactCountStagesRow.holds Try.pinned (OpenSpec.ofChange fnExactCountStagesWrong)

/-- 'laws.FnExactCountPassing': WHATEVER THE INPUT: true; the input reads as it did. -/
def fnExactCountPassingSpec : ChangeSpec := { name := "fnExactCountPassing", fn := fun _ => fun
  | [d] => { results := [.lit (.bool true)], args := [d] }
  | _ => none }
def fnExactCountPassingRow : OpenClaim := { program := "ytaeabpmpfadkjaa", sum := "87a742f151f4ad503092a0c90cc3ef77154ea694df3342392e7601ec015b9154", func := "loop.example/g03207/laws.FnExactCountPassing", spec := "fnExactCountPassing", apart := false }
def FnExactCountPassingSaid : Prop := fnExactCountPassingRow.holds Try.pinned (OpenSpec.ofChange fnExactCountPassingSpec)

/-- ITS FALSE NEIGHBOUR: 'it returns false'. Refute it at one input. -/
def fnExactCountPassingWrong : ChangeSpec := { name := "fnExactCountPassing", fn := fun _ => fun
  | [d] => { results := [.lit (.bool false)], args := [d] }
  | _ => none }
def FnExactCountPassingWrongFalsely : Prop := fnExactCountPassingRow.holds Try.pinned (OpenSpec.ofChange fnExactCountPassingWrong)

/-- 'laws.FnExactShiftOrder': WHATEVER THE INPUT: true; the input reads as it did. -/
def fnExactShiftOrderSpec : ChangeSpec := { name := "fnExactShiftOrder", fn := fun _ => fun
  | [d1, d2] => { results := [.lit (.bool true)], args := [d1, d2] }
  | _ => none }
def fnExactShiftOrderRow : OpenClaim := { program := "ytaeabpmpfadkjaa", sum := "87a742f151f4ad503092a0c90cc3ef77154ea694df3342392e7601ec015b9154", func := "loop.example/g03207/laws.FnExactShiftOrder", spec := "fnExactShiftOrder", apart := false }
def FnExactShiftOrderSaid : Prop := fnExactShiftOrderRow.holds Try.pinned (OpenSpec.ofChange fnExactShiftOrderSpec)

/-- ITS FALSE NEIGHBOUR: 'it returns false'. Refute it at one input. -/
def fnExactShiftOrderWrong : ChangeSpec := { name := "fnExactShiftOrder", fn := fun _ => fun
  | [d1, d2] => { results := [.lit (.bool false)], args := [d1, d2] }
  | _ => none }
def FnExactShiftOrderWrongFalsely : Prop := fnExactShiftOrderRow.holds Try.pinned (OpenSpec.ofChange fnExactShiftOrderWrong)

/-- 'laws.FnExactDoMeet': WHATEVER THE INPUT: true; the input reads as it did. -/
def fnExactDoMeetSpec : ChangeSpec := { name := "fnExactDoMeet", fn := fun _ => fun
  | [d1, d2, d3, d4, d5] => { results := [.lit (.bool true)], args := [d1, d2, d3, d4, d5] }
  | _ => none }
def fnExactDoMeetRow : OpenClaim := { program := "ytaeabpmpfadkjaa", sum := "87a742f151f4ad503092a0c90cc3ef77154ea694df3342392e7601ec015b9154", func := "loop.example/g03207/laws.FnExactDoMeet", spec := "fnExactDoMeet", apart := false }
def FnExactDoMeetSaid : Prop := fnExactDoMeetRow.holds Try.pinned (OpenSpec.ofChange fnExactDoMeetSpec)

/-- ITS FALSE NEIGHBOUR: 'it returns false'. Refute it at one input. -/
def fnExactDoMeetWrong : ChangeSpec := { name := "fnExactDoMeet", fn := fun _ => fun
  | [d1, d2, d3, d4, d5] => { results := [.lit (.bool false)], args := [d1, d2, d3, d4, d5] }
  | _ => none }
def FnExactDoMeetWrongFalsely : Prop := fnExactDoMeetRow.holds Try.pinned (OpenSpec.ofChange fnExactDoMeetWrong)

/-- 'laws.FnExactPathOf': WHATEVER THE INPUT: true; the input reads as it did. -/
def fnExactPathOfSpec : ChangeSpec := { name := "fnExactPathOf", fn := fun _ => fun
  | [d1, d2, d3] => { results := [.lit (.bool true)], args := [d1, d2, d3] }
  | _ => none }
def fnExactPathOfRow : OpenClaim := { program := "ytaeabpmpfadkjaa", sum := "87a742f151f4ad503092a0c90cc3ef77154ea694df3342392e7601ec015b9154", func := "loop.example/g03207/laws.FnExactPathOf", spec := "fnExactPathOf", apart := false }
def FnExactPathOfSaid : Prop := fnExactPathOfRow.holds Try.pinned (OpenSpec.ofChange fnExactPathOfSpec)

/-- ITS FALSE NEIGHBOUR: 'it returns false'. Refute it at one input. -/
def fnExactPathOfWrong : ChangeSpec := { name := "fnExactPathOf", fn := fun _ => fun
  | [d1, d2, d3] => { results := [.lit (.bool false)], args := [d1, d2, d3] }
  | _ => none }
def FnExactPathOfWrongFalsely : Prop := fnExactPathOfRow.holds Try.pinned (OpenSpec.ofChange fnExactPathOfWrong)

/-- 'laws.FnExactCanPass': WHATEVER THE INPUT: true; the input reads as it did. -/
def fnExactCanPassSpec : ChangeSpec := { name := "fnExactCanPass", fn := fun _ => fun
  | [d] => { results := [.lit (.bool true)], args := [d] }
  | _ => none }
def fnExactCanPassRow : OpenClaim := { program := "ytaeabpmpfadkjaa", sum := "87a742f151f4ad503092a0c90cc3ef77154ea694df3342392e7601ec015b9154", func := "loop.example/g03207/laws.FnExactCanPass", spec := "fnExactCanPass", apart := false }
def FnExactCanPassSaid : Prop := fnExactCanPassRow.holds Try.pinned (OpenSpec.ofChange fnExactCanPassSpec)

/-- ITS FALSE NEIGHBOUR: 'it returns false'. Refute it at one input. -/
def fnExactCanPassWrong : ChangeSpec := { name := "fnExactCanPass", fn := fun _ => fun
  | [d] => { results := [.lit (.bool false)], args := [d] }
  | _ => none }
def FnExactCanPassWrongFalsely : Prop := fnExactCanPassRow.holds Try.pinned (OpenSpec.ofChange fnExactCanPassWrong)

/-- 'laws.FnExactRoundsNeeded': WHATEVER THE INPUT: true; the input reads as it did. -/
def fnExactRoundsNeededSpec : ChangeSpec := { name := "fnExactRoundsNeeded", fn := fun _ => fun
  | [d] => { results := [.lit (.bool true)], args := [d] }
  | _ => none }
def fnExactRoundsNeededRow : OpenClaim := { program := "ytaeabpmpfadkjaa", sum := "87a742f151f4ad503092a0c90cc3ef77154ea694df3342392e7601ec015b9154", func := "loop.example/g03207/laws.FnExactRoundsNeeded", spec := "fnExactRoundsNeeded", unfollowed := true, recurses := true, apart := false }
def FnExactRoundsNeededSaid : Prop := fnExactRoundsNeededRow.holds Try.pinned (OpenSpec.ofChange fnExactRoundsNeededSpec)

/-- ITS FALSE NEIGHBOUR: 'it returns false'. Refute it at one input. -/
def fnExactRoundsNeededWrong : ChangeSpec := { name := "fnExactRoundsNeeded", fn := fun _ => fun
  | [d] => { results := [.lit (.bool false)], args := [d] }
  | _ => none }
def FnExactRoundsNeededWrongFalsely : Prop := fnExactRoundsNeededRow.holds Try.pinned (OpenSpec.ofChange fnExactRoundsNeededWrong)

/-- 'laws.FnExactRunStages': WHATEVER THE INPUT: true; the input reads as it did. -/
def fnExactRunStagesSpec : ChangeSpec := { name := "fnExactRunStages", fn := fun _ => fun
  | [d1, d2] => { results := [.lit (.bool true)], args := [d1, d2] }
  | _ => none }
def fnExactRunStagesRow : OpenClaim := { program := "ytaeabpmpfadkjaa", sum := "87a742f151f4ad503092a0c90cc3ef77154ea694df3342392e7601ec015b9154", func := "loop.example/g03207/laws.FnExactRunStages", spec := "fnExactRunStages", unfollowed := true, recurses := true, apart := false }
def FnExactRunStagesSaid : Prop := fnExactRunStagesRow.holds Try.pinned (OpenSpec.ofChange fnExactRunStagesSpec)

/-- ITS FALSE NEIGHBOUR: 'it returns false'. Refute it at one input. -/
def fnExactRunStagesWrong : ChangeSpec := { name := "fnExactRunStages", fn := fun _ => fun
  | [d1, d2] => { results := [.lit (.bool false)], args := [d1, d2] }
  | _ => none }
def FnExactRunStagesWrongFalsely : Prop := fnExactRunStagesRow.holds Try.pinned (OpenSpec.ofChange fnExactRunStagesWrong)

/-- 'laws.FnExactStageSettings': WHATEVER THE INPUT: true; the input reads as it did. -/
def fnExactStageSettingsSpec : ChangeSpec := { name := "fnExactStageSettings", fn := fun _ => fun
  | [d] => { results := [.lit (.bool true)], args := [d] }
  | _ => none }
def fnExactStageSettingsRow : OpenClaim := { program := "ytaeabpmpfadkjaa", sum := "87a742f151f4ad503092a0c90cc3ef77154ea694df3342392e7601ec015b9154", func := "loop.example/g03207/laws.FnExactStageSettings", spec := "fnExactStageSettings", apart := false }
def FnExactStageSettingsSaid : Prop := fnExactStageSettingsRow.holds Try.pinned (OpenSpec.ofChange fnExactStageSettingsSpec)

/-- ITS FALSE NEIGHBOUR: 'it returns false'. Refute it at one input. -/
def fnExactStageSettingsWrong : ChangeSpec := { name := "fnExactStageSettings", fn := fun _ => fun
  | [d] => { results := [.lit (.bool false)], args := [d] }
  | _ => none }
def FnExactStageSettingsWrongFalsely : Prop := fnExactStageSettingsRow.holds Try.pinned (OpenSpec.ofChange fnExactStageSettingsWrong)

/-- 'laws.FnStages': WHATEVER THE INPUT: true; the input reads as it did. -/
def fnStagesSpec : ChangeSpec := { name := "fnStages", fn := fun _ => fun
  | [d] => { results := [.lit (.bool true)], args := [d] }
  | _ => none }
def fnStagesRow : OpenClaim := { program := "ytaeabpmpfadkjaa", sum := "87a742f151f4ad503092a0c90cc3ef77154ea694df3342392e7601ec015b9154", func := "loop.example/g03207/laws.FnStages", spec := "fnStages", unfollowed := true, recurses := true, apart := false }
def FnStagesSaid : Prop := fnStagesRow.holds Try.pinned (OpenSpec.ofChange fnStagesSpec)

/-- ITS FALSE NEIGHBOUR: 'it returns false'. Refute it at one input. -/
def fnStagesWrong : ChangeSpec := { name := "fnStages", fn := fun _ => fun
  | [d] => { results := [.lit (.bool false)], args := [d] }
  | _ => none }
def FnStagesWrongFalsely : Prop := fnStagesRow.holds Try.pinned (OpenSpec.ofChange fnStagesWrong)

/- THE SECOND FORM. 'bulk': how many values and letters a reading holds, each counted each time it is reached (what is shared counts as often as it is met; a slice's spare places count too). A statement '..UptoSaid' is the law's where the arguments, and the package variables that the reading takes, are together of bulk at most 1048576: NARROWER than '..Said'. Prove '..Said' where nothing that the law and all that it calls make is longer than what came in: it says more and counts as full. Else prove '..UptoSaid'. A law counts once. -/
mutual
def uptoBulk {H : Type} : DataW H → Nat
  | .lit (.string bytes) => bytes.length + 1
  | .lit _ => 1
  | .nil => 1
  | .ptr d => uptoBulk d + 1
  | .slice elems spare => uptoBulkAll elems + uptoBulkAll spare + 1
  | .agg parts => uptoBulkAll parts + 1
  | .iface _ d => uptoBulk d + 1
  | .map entries => uptoBulkEntries entries + 1
  | .held _ => 1
def uptoBulkAll {H : Type} : List (DataW H) → Nat
  | [] => 0
  | d :: r => uptoBulk d + uptoBulkAll r
def uptoBulkEntries {H : Type} : List (Lit × DataW H) → Nat
  | [] => 0
  | x :: r => uptoBulkEntry x + uptoBulkEntries r
def uptoBulkEntry {H : Type} : Lit × DataW H → Nat
  | (.string bytes, d) => bytes.length + uptoBulk d + 1
  | (_, d) => uptoBulk d + 1
 end
def uptoSmall : (H : Type) → List (DataW H) → Bool := fun _ ds => decide (uptoBulkAll ds ≤ 1048576)
def OpenSpec.upto (s : _root_.Go.ChangeSpec) : _root_.Go.OpenSpec := { _root_.Go.OpenSpec.ofChange s with cond := some uptoSmall }

/-- 'laws.FnExactCountStages', WHERE WHAT IT READS IS OF BULK AT MOST 1048576: true; the input reads as it did. -/
def fnExactCountStagesUptoRow : OpenClaim := { program := "ytaeabpmpfadkjaa", sum := "87a742f151f4ad503092a0c90cc3ef77154ea694df3342392e7601ec015b9154", func := "loop.example/g03207/laws.FnExactCountStages", spec := "fnExactCountStages", apart := false, narrowed := true }
def FnExactCountStagesUptoSaid : Prop := fnExactCountStagesUptoRow.holds Try.pinned (OpenSpec.upto fnExactCountStagesSpec)

/-- 'laws.FnExactCountPassing', WHERE WHAT IT READS IS OF BULK AT MOST 1048576: true; the input reads as it did. -/
def fnExactCountPassingUptoRow : OpenClaim := { program := "ytaeabpmpfadkjaa", sum := "87a742f151f4ad503092a0c90cc3ef77154ea694df3342392e7601ec015b9154", func := "loop.example/g03207/laws.FnExactCountPassing", spec := "fnExactCountPassing", apart := false, narrowed := true }
def FnExactCountPassingUptoSaid : Prop := fnExactCountPassingUptoRow.holds Try.pinned (OpenSpec.upto fnExactCountPassingSpec)

/-- 'laws.FnExactShiftOrder', WHERE WHAT IT READS IS OF BULK AT MOST 1048576: true; the input reads as it did. -/
def fnExactShiftOrderUptoRow : OpenClaim := { program := "ytaeabpmpfadkjaa", sum := "87a742f151f4ad503092a0c90cc3ef77154ea694df3342392e7601ec015b9154", func := "loop.example/g03207/laws.FnExactShiftOrder", spec := "fnExactShiftOrder", apart := false, narrowed := true }
def FnExactShiftOrderUptoSaid : Prop := fnExactShiftOrderUptoRow.holds Try.pinned (OpenSpec.upto fnExactShiftOrderSpec)

/-- 'laws.FnExactDoMeet', WHERE WHAT IT READS IS OF BULK AT MOST 1048576: true; the input reads as it did. -/
def fnExactDoMeetUptoRow : OpenClaim := { program := "ytaeabpmpfadkjaa", sum := "87a742f151f4ad503092a0c90cc3ef77154ea694df3342392e7601ec015b9154", func := "loop.example/g03207/laws.FnExactDoMeet", spec := "fnExactDoMeet", apart := false, narrowed := true }
def FnExactDoMeetUptoSaid : Prop := fnExactDoMeetUptoRow.holds Try.pinned (OpenSpec.upto fnExactDoMeetSpec)

/-- 'laws.FnExactPathOf', WHERE WHAT IT READS IS OF BULK AT MOST 1048576: true; the input reads as it did. -/
def fnExactPathOfUptoRow : OpenClaim := { program := "ytaeabpmpfadkjaa", sum := "87a742f151f4ad503092a0c90cc3ef77154ea694df3342392e7601ec015b9154", func := "loop.example/g03207/laws.FnExactPathOf", spec := "fnExactPathOf", apart := false, narrowed := true }
def FnExactPathOfUptoSaid : Prop := fnExactPathOfUptoRow.holds Try.pinned (OpenSpec.upto fnExactPathOfSpec)

/-- 'laws.FnExactCanPass', WHERE WHAT IT READS IS OF BULK AT MOST 1048576: true; the input reads as it did. -/
def fnExactCanPassUptoRow : OpenClaim := { program := "ytaeabpmpfadkjaa", sum := "87a742f151f4ad503092a0c90cc3ef77154ea694df3342392e7601ec015b9154", func := "loop.example/g03207/laws.FnExactCanPass", spec := "fnExactCanPass", apart := false, narrowed := true }
def FnExactCanPassUptoSaid : Prop := fnExactCanPassUptoRow.holds Try.pinned (OpenSpec.upto fnExactCanPassSpec)

/-- 'laws.FnExactRoundsNeeded', WHERE WHAT IT READS IS OF BULK AT MOST 1048576: true; the input reads as it did. -/
def fnExactRoundsNeededUptoRow : OpenClaim := { program := "ytaeabpmpfadkjaa", sum := "87a742f151f4ad503092a0c90cc3ef77154ea694df3342392e7601ec015b9154", func := "loop.example/g03207/laws.FnExactRoundsNeeded", spec := "fnExactRoundsNeeded", unfollowed := true, recurses := true, apart := false, narrowed := true }
def FnExactRoundsNeededUptoSaid : Prop := fnExactRoundsNeededUptoRow.holds Try.pinned (OpenSpec.upto fnExactRoundsNeededSpec)

/-- 'laws.FnExactRunStages', WHERE WHAT IT READS IS OF BULK AT MOST 1048576: true; the input reads as it did. -/
def fnExactRunStagesUptoRow : OpenClaim := { program := "ytaeabpmpfadkjaa", sum := "87a742f151f4ad503092a0c90cc3ef77154ea694df3342392e7601ec015b9154", func := "loop.example/g03207/laws.FnExactRunStages", spec := "fnExactRunStages", unfollowed := true, recurses := true, apart := false, narrowed := true }
def FnExactRunStagesUptoSaid : Prop := fnExactRunStagesUptoRow.holds Try.pinned (OpenSpec.upto fnExactRunStagesSpec)

/-- 'laws.FnExactStageSettings', WHERE WHAT IT READS IS OF BULK AT MOST 1048576: true; the input reads as it did. -/
def fnExactStageSettingsUptoRow : OpenClaim := { program := "ytaeabpmpfadkjaa", sum := "87a742f151f4ad503092a0c90cc3ef77154ea694df3342392e7601ec015b9154", func := "loop.example/g03207/laws.FnExactStageSettings", spec := "fnExactStageSettings", apart := false, narrowed := true }
def FnExactStageSettingsUptoSaid : Prop := fnExactStageSettingsUptoRow.holds Try.pinned (OpenSpec.upto fnExactStageSettingsSpec)

/-- 'laws.FnStages', WHERE WHAT IT READS IS OF BULK AT MOST 1048576: true; the input reads as it did. -/
def fnStagesUptoRow : OpenClaim := { program := "ytaeabpmpfadkjaa", sum := "87a742f151f4ad503092a0c90cc3ef77154ea694df3342392e7601ec015b9154", func := "loop.example/g03207/laws.FnStages", spec := "fnStages", unfollowed := true, recurses := true, apart := false, narrowed := true }
def FnStagesUptoSaid : Prop := fnStagesUptoRow.holds Try.pinned (OpenSpec.upto fnStagesSpec)

end Rows
end Go.Proofs.Ytaeabpmpfadkjaa
