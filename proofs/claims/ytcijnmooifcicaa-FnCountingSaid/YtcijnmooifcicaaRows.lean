/-
  No cell of these rows narrows 'for every input' (looked for: loops, veiled, ifaces, maps, wideKeys, modest, calm, conditions, laid).
  DERIVED. THE GIVEN ROWS OF THIS SEAT. 9 by the template 'for every input the law returns true; each argument reads behind the call as it read before'; 0 by the template 'total and deterministic' (their statements: YtcijnmooifcicaaTotals.lean).
  GIVEN WITH THE SEED: the statements are not yours to turn. If you find one false, say at which input.
  Laid BY PROGRAM, IN A SANDBOX (cutbox-rows.mjs): the forced cells as the released guide's own fill.sh prints them over the translation db2d26c042f4f249… (all of the seat's roots in one cut). By AI agents, Wed Nov 11 2026. No macro, syntax, notation, axiom, sorry.
-/
import Derived.Test.YtcijnmooifcicaaChecked
import GoSem.Claim
import GoSem.ClaimJoined
import GoSem.ClaimMapViews
import Derived.JoinedTies
import Derived.KernelRfl
namespace Go.Proofs.Ytcijnmooifcicaa
/- THE CELL 'sum', in the pinned program and in every row, IS THE sha256 OF THE DUMP (.gsa) THAT YtcijnmooifcicaaProg.lean LOADS. Nothing in Lean hashes anything: it is a label: what it is worth is what the hold of that sum in a sandbox is worth. -/
noncomputable def Try.pinned : Pinned := { name := "ytcijnmooifcicaa", sum := "db2d26c042f4f249da3082ac048cc711cf5a6cb496e913a1fd374ded2ef5e716", checked := Try.checked }
namespace Rows
def none {H : Type} : Left H := { results := [], args := [] }

/-- 'laws.FnExactHasStep': WHATEVER THE INPUT: true; the input reads as it did. -/
def fnExactHasStepSpec : ChangeSpec := { name := "fnExactHasStep", fn := fun _ => fun
  | [d] => { results := [.lit (.bool true)], args := [d] }
  | _ => none }
def fnExactHasStepRow : OpenClaim := { program := "ytcijnmooifcicaa", sum := "db2d26c042f4f249da3082ac048cc711cf5a6cb496e913a1fd374ded2ef5e716", func := "loop.example/g03207/laws.FnExactHasStep", spec := "fnExactHasStep", apart := false }
def FnExactHasStepSaid : Prop := fnExactHasStepRow.holds Try.pinned (OpenSpec.ofChange fnExactHasStepSpec)

/-- ITS FALSE NEIGHBOUR: 'it returns false'. Refute it at one input. -/
def fnExactHasStepWrong : ChangeSpec := { name := "fnExactHasStep", fn := fun _ => fun
  | [d] => { results := [.lit (.bool false)], args := [d] }
  | _ => none }
def FnExactHasStepWrongFalsely : Prop := fnExactHasStepRow.holds Try.pinned (OpenSpec.ofChange fnExactHasStepWrong)

/-- 'laws.FnExactStepOf': WHATEVER THE INPUT: true; the input reads as it did. -/
def fnExactStepOfSpec : ChangeSpec := { name := "fnExactStepOf", fn := fun _ => fun
  | [d1, d2] => { results := [.lit (.bool true)], args := [d1, d2] }
  | _ => none }
def fnExactStepOfRow : OpenClaim := { program := "ytcijnmooifcicaa", sum := "db2d26c042f4f249da3082ac048cc711cf5a6cb496e913a1fd374ded2ef5e716", func := "loop.example/g03207/laws.FnExactStepOf", spec := "fnExactStepOf", apart := false }
def FnExactStepOfSaid : Prop := fnExactStepOfRow.holds Try.pinned (OpenSpec.ofChange fnExactStepOfSpec)

/-- ITS FALSE NEIGHBOUR: 'it returns false'. Refute it at one input. -/
def fnExactStepOfWrong : ChangeSpec := { name := "fnExactStepOf", fn := fun _ => fun
  | [d1, d2] => { results := [.lit (.bool false)], args := [d1, d2] }
  | _ => none }
def FnExactStepOfWrongFalsely : Prop := fnExactStepOfRow.holds Try.pinned (OpenSpec.ofChange fnExactStepOfWrong)

/-- 'laws.FnExactBalanceOf': WHATEVER THE INPUT: true; the input reads as it did. -/
def fnExactBalanceOfSpec : ChangeSpec := { name := "fnExactBalanceOf", fn := fun _ => fun
  | [d] => { results := [.lit (.bool true)], args := [d] }
  | _ => none }
def fnExactBalanceOfRow : OpenClaim := { program := "ytcijnmooifcicaa", sum := "db2d26c042f4f249da3082ac048cc711cf5a6cb496e913a1fd374ded2ef5e716", func := "loop.example/g03207/laws.FnExactBalanceOf", spec := "fnExactBalanceOf", apart := false }
def FnExactBalanceOfSaid : Prop := fnExactBalanceOfRow.holds Try.pinned (OpenSpec.ofChange fnExactBalanceOfSpec)

/-- ITS FALSE NEIGHBOUR: 'it returns false'. Refute it at one input. -/
def fnExactBalanceOfWrong : ChangeSpec := { name := "fnExactBalanceOf", fn := fun _ => fun
  | [d] => { results := [.lit (.bool false)], args := [d] }
  | _ => none }
def FnExactBalanceOfWrongFalsely : Prop := fnExactBalanceOfRow.holds Try.pinned (OpenSpec.ofChange fnExactBalanceOfWrong)

/-- 'laws.FnExactTokensOk': WHATEVER THE INPUT: true; the input reads as it did. -/
def fnExactTokensOkSpec : ChangeSpec := { name := "fnExactTokensOk", fn := fun _ => fun
  | [d1, d2] => { results := [.lit (.bool true)], args := [d1, d2] }
  | _ => none }
def fnExactTokensOkRow : OpenClaim := { program := "ytcijnmooifcicaa", sum := "db2d26c042f4f249da3082ac048cc711cf5a6cb496e913a1fd374ded2ef5e716", func := "loop.example/g03207/laws.FnExactTokensOk", spec := "fnExactTokensOk", apart := false }
def FnExactTokensOkSaid : Prop := fnExactTokensOkRow.holds Try.pinned (OpenSpec.ofChange fnExactTokensOkSpec)

/-- ITS FALSE NEIGHBOUR: 'it returns false'. Refute it at one input. -/
def fnExactTokensOkWrong : ChangeSpec := { name := "fnExactTokensOk", fn := fun _ => fun
  | [d1, d2] => { results := [.lit (.bool false)], args := [d1, d2] }
  | _ => none }
def FnExactTokensOkWrongFalsely : Prop := fnExactTokensOkRow.holds Try.pinned (OpenSpec.ofChange fnExactTokensOkWrong)

/-- 'laws.FnExactTraceTokens': WHATEVER THE INPUT: true; the input reads as it did. -/
def fnExactTraceTokensSpec : ChangeSpec := { name := "fnExactTraceTokens", fn := fun _ => fun
  | [d1, d2] => { results := [.lit (.bool true)], args := [d1, d2] }
  | _ => none }
def fnExactTraceTokensRow : OpenClaim := { program := "ytcijnmooifcicaa", sum := "db2d26c042f4f249da3082ac048cc711cf5a6cb496e913a1fd374ded2ef5e716", func := "loop.example/g03207/laws.FnExactTraceTokens", spec := "fnExactTraceTokens", apart := false }
def FnExactTraceTokensSaid : Prop := fnExactTraceTokensRow.holds Try.pinned (OpenSpec.ofChange fnExactTraceTokensSpec)

/-- ITS FALSE NEIGHBOUR: 'it returns false'. Refute it at one input. -/
def fnExactTraceTokensWrong : ChangeSpec := { name := "fnExactTraceTokens", fn := fun _ => fun
  | [d1, d2] => { results := [.lit (.bool false)], args := [d1, d2] }
  | _ => none }
def FnExactTraceTokensWrongFalsely : Prop := fnExactTraceTokensRow.holds Try.pinned (OpenSpec.ofChange fnExactTraceTokensWrong)

/-- 'laws.FnExactIsCounting': WHATEVER THE INPUT: true; the input reads as it did. -/
def fnExactIsCountingSpec : ChangeSpec := { name := "fnExactIsCounting", fn := fun _ => fun
  | [d1, d2] => { results := [.lit (.bool true)], args := [d1, d2] }
  | _ => none }
def fnExactIsCountingRow : OpenClaim := { program := "ytcijnmooifcicaa", sum := "db2d26c042f4f249da3082ac048cc711cf5a6cb496e913a1fd374ded2ef5e716", func := "loop.example/g03207/laws.FnExactIsCounting", spec := "fnExactIsCounting", apart := false }
def FnExactIsCountingSaid : Prop := fnExactIsCountingRow.holds Try.pinned (OpenSpec.ofChange fnExactIsCountingSpec)

/-- ITS FALSE NEIGHBOUR: 'it returns false'. Refute it at one input. -/
def fnExactIsCountingWrong : ChangeSpec := { name := "fnExactIsCounting", fn := fun _ => fun
  | [d1, d2] => { results := [.lit (.bool false)], args := [d1, d2] }
  | _ => none }
def FnExactIsCountingWrongFalsely : Prop := fnExactIsCountingRow.holds Try.pinned (OpenSpec.ofChange fnExactIsCountingWrong)

/-- 'laws.FnExactCountTokens': WHATEVER THE INPUT: true; the input reads as it did. -/
def fnExactCountTokensSpec : ChangeSpec := { name := "fnExactCountTokens", fn := fun _ => fun
  | [d1, d2] => { results := [.lit (.bool true)], args := [d1, d2] }
  | _ => none }
def fnExactCountTokensRow : OpenClaim := { program := "ytcijnmooifcicaa", sum := "db2d26c042f4f249da3082ac048cc711cf5a6cb496e913a1fd374ded2ef5e716", func := "loop.example/g03207/laws.FnExactCountTokens", spec := "fnExactCountTokens", apart := false }
def FnExactCountTokensSaid : Prop := fnExactCountTokensRow.holds Try.pinned (OpenSpec.ofChange fnExactCountTokensSpec)

/-- ITS FALSE NEIGHBOUR: 'it returns false'. Refute it at one input. -/
def fnExactCountTokensWrong : ChangeSpec := { name := "fnExactCountTokens", fn := fun _ => fun
  | [d1, d2] => { results := [.lit (.bool false)], args := [d1, d2] }
  | _ => none }
def FnExactCountTokensWrongFalsely : Prop := fnExactCountTokensRow.holds Try.pinned (OpenSpec.ofChange fnExactCountTokensWrong)

/-- 'laws.FnExactCountFrom': WHATEVER THE INPUT: true; the input reads as it did. -/
def fnExactCountFromSpec : ChangeSpec := { name := "fnExactCountFrom", fn := fun _ => fun
  | [d1, d2] => { results := [.lit (.bool true)], args := [d1, d2] }
  | _ => none }
def fnExactCountFromRow : OpenClaim := { program := "ytcijnmooifcicaa", sum := "db2d26c042f4f249da3082ac048cc711cf5a6cb496e913a1fd374ded2ef5e716", func := "loop.example/g03207/laws.FnExactCountFrom", spec := "fnExactCountFrom", apart := false }
def FnExactCountFromSaid : Prop := fnExactCountFromRow.holds Try.pinned (OpenSpec.ofChange fnExactCountFromSpec)

/-- ITS FALSE NEIGHBOUR: 'it returns false'. Refute it at one input. -/
def fnExactCountFromWrong : ChangeSpec := { name := "fnExactCountFrom", fn := fun _ => fun
  | [d1, d2] => { results := [.lit (.bool false)], args := [d1, d2] }
  | _ => none }
def FnExactCountFromWrongFalsely : Prop := fnExactCountFromRow.holds Try.pinned (OpenSpec.ofChange fnExactCountFromWrong)

/-- 'laws.FnCounting': WHATEVER THE INPUT: true; the input reads as it did. -/
def fnCountingSpec : ChangeSpec := { name := "fnCounting", fn := fun _ => fun
  | [d] => { results := [.lit (.bool true)], args := [d] }
  | _ => none }
def fnCountingRow : OpenClaim := { program := "ytcijnmooifcicaa", sum := "db2d26c042f4f249da3082ac048cc711cf5a6cb496e913a1fd374ded2ef5e716", func := "loop.example/g03207/laws.FnCounting", spec := "fnCounting", recurses := true, apart := false }
def FnCountingSaid : Prop := fnCountingRow.holds Try.pinned (OpenSpec.ofChange fnCountingSpec)

/-- ITS FALSE NEIGHBOUR: 'it returns false'. Refute it at one input. -/
def fnCountingWrong : ChangeSpec := { name := "fnCounting", fn := fun _ => fun
  | [d] => { results := [.lit (.bool false)], args := [d] }
  | _ => none }
def FnCountingWrongFalsely : Prop := fnCountingRow.holds Try.pinned (OpenSpec.ofChange fnCountingWrong)

/- THE SECOND FORM. 'bulk': how many values and letters a reading holds, each counted each time it is reached (what is shared counts as often as it is met; a slice's spare places count too). A statement '..UptoSaid' is the law's where the arguments, and the package variables that the reading takes, are together of bulk at most 1048576: NARROWER than '..Said'. Prove '..Said' where nothing that the law and all that it calls make is longer than what came in: it says more and counts as full. Else prove '..UptoSaid'. A law counts once. -/
mutual
def uptoBulk {H : Type} : DataW H → Nat
  | .lit (.string bytes) => bytes.length + 1
  | .lit _ => 1
  | .nil => 1
  | .ptr d => uptoBulk d + 1
  | .slice elems spare => uptoBulkAll elems + uptoBulkAll spare + 1
  | .agg parts => uptoBulkAll parts + 1
  | .iface _ d => uptoBulk d + 1
  | .map entries => uptoBulkEntries entries + 1
  | .held _ => 1
def uptoBulkAll {H : Type} : List (DataW H) → Nat
  | [] => 0
  | d :: r => uptoBulk d + uptoBulkAll r
def uptoBulkEntries {H : Type} : List (Lit × DataW H) → Nat
  | [] => 0
  | x :: r => uptoBulkEntry x + uptoBulkEntries r
def uptoBulkEntry {H : Type} : Lit × DataW H → Nat
  | (.string bytes, d) => bytes.length + uptoBulk d + 1
  | (_, d) => uptoBulk d + 1
 end
def uptoSmall : (H : Type) → List (DataW H) → Bool := fun _ ds => decide (uptoBulkAll ds ≤ 1048576)
def OpenSpec.upto (s : _root_.Go.ChangeSpec) : _root_.Go.OpenSpec := { _root_.Go.OpenSpec.ofChange s with cond := some uptoSmall }

/-- 'laws.FnExactHasStep', WHERE WHAT IT READS IS OF BULK AT MOST 1048576: true; the input reads as it did. -/
def fnExactHasStepUptoRow : OpenClaim := { program := "ytcijnmooifcicaa", sum := "db2d26c042f4f249da3082ac048cc711cf5a6cb496e913a1fd374ded2ef5e716", func := "loop.example/g03207/laws.FnExactHasStep", spec := "fnExactHasStep", apart := false, narrowed := true }
def FnExactHasStepUptoSaid : Prop := fnExactHasStepUptoRow.holds Try.pinned (OpenSpec.upto fnExactHasStepSpec)

/-- 'laws.FnExactStepOf', WHERE WHAT IT READS IS OF BULK AT MOST 1048576: true; the input reads as it did. -/
def fnExactStepOfUptoRow : OpenClaim := { program := "ytcijnmooifcicaa", sum := "db2d26c042f4f249da3082ac048cc711cf5a6cb496e913a1fd374ded2ef5e716", func := "loop.example/g03207/laws.FnExactStepOf", spec := "fnExactStepOf", apart := false, narrowed := true }
def FnExactStepOfUptoSaid : Prop := fnExactStepOfUptoRow.holds Try.pinned (OpenSpec.upto fnExactStepOfSpec)

/-- 'laws.FnExactBalanceOf', WHERE WHAT IT READS IS OF BULK AT MOST 1048576: true; the input reads as it did. -/
def fnExactBalanceOfUptoRow : OpenClaim := { program := "ytcijnmooifcicaa", sum := "db2d26c042f4f249da3082ac048cc711cf5a6cb496e913a1fd374ded2ef5e716", func := "loop.example/g03207/laws.FnExactBalanceOf", spec := "fnExactBalanceOf", apart := false, narrowed := true }
def FnExactBalanceOfUptoSaid : Prop := fnExactBalanceOfUptoRow.holds Try.pinned (OpenSpec.upto fnExactBalanceOfSpec)

/-- 'laws.FnExactTokensOk', WHERE WHAT IT READS IS OF BULK AT MOST 1048576: true; the input reads as it did. -/
def fnExactTokensOkUptoRow : OpenClaim := { program := "ytcijnmooifcicaa", sum := "db2d26c042f4f249da3082ac048cc711cf5a6cb496e913a1fd374ded2ef5e716", func := "loop.example/g03207/laws.FnExactTokensOk", spec := "fnExactTokensOk", apart := false, narrowed := true }
def FnExactTokensOkUptoSaid : Prop := fnExactTokensOkUptoRow.holds Try.pinned (OpenSpec.upto fnExactTokensOkSpec)

/-- 'laws.FnExactTraceTokens', WHERE WHAT IT READS IS OF BULK AT MOST 1048576: true; the input reads as it did. -/
def fnExactTraceTokensUptoRow : OpenClaim := { program := "ytcijnmooifcicaa", sum := "db2d26c042f4f249da3082ac048cc711cf5a6cb496e913a1fd374ded2ef5e716", func := "loop.example/g03207/laws.FnExactTraceTokens", spec := "fnExactTraceTokens", apart := false, narrowed := true }
def FnExactTraceTokensUptoSaid : Prop := fnExactTraceTokensUptoRow.holds Try.pinned (OpenSpec.upto fnExactTraceTokensSpec)

/-- 'laws.FnExactIsCounting', WHERE WHAT IT READS IS OF BULK AT MOST 1048576: true; the input reads as it did. -/
def fnExactIsCountingUptoRow : OpenClaim := { program := "ytcijnmooifcicaa", sum := "db2d26c042f4f249da3082ac048cc711cf5a6cb496e913a1fd374ded2ef5e716", func := "loop.example/g03207/laws.FnExactIsCounting", spec := "fnExactIsCounting", apart := false, narrowed := true }
def FnExactIsCountingUptoSaid : Prop := fnExactIsCountingUptoRow.holds Try.pinned (OpenSpec.upto fnExactIsCountingSpec)

/-- 'laws.FnExactCountTokens', WHERE WHAT IT READS IS OF BULK AT MOST 1048576: true; the input reads as it did. -/
def fnExactCountTokensUptoRow : OpenClaim := { program := "ytcijnmooifcicaa", sum := "db2d26c042f4f249da3082ac048cc711cf5a6cb496e913a1fd374ded2ef5e716", func := "loop.example/g03207/laws.FnExactCountTokens", spec := "fnExactCountTokens", apart := false, narrowed := true }
def FnExactCountTokensUptoSaid : Prop := fnExactCountTokensUptoRow.holds Try.pinned (OpenSpec.upto fnExactCountTokensSpec)

/-- 'laws.FnExactCountFrom', WHERE WHAT IT READS IS OF BULK AT MOST 1048576: true; the input reads as it did. -/
def fnExactCountFromUptoRow : OpenClaim := { program := "ytcijnmooifcicaa", sum := "db2d26c042f4f249da3082ac048cc711cf5a6cb496e913a1fd374ded2ef5e716", func := "loop.example/g03207/laws.FnExactCountFrom", spec := "fnExactCountFrom", apart := false, narrowed := true }
def FnExactCountFromUptoSaid : Prop := fnExactCountFromUptoRow.holds Try.pinned (OpenSpec.upto fnExactCountFromSpec)

/-- 'laws.FnCounting', WHERE WHAT IT READS IS OF BULK AT MOST 1048576: true; the input reads as it did. -/
def fnCountingUptoRow : OpenClaim := { program := "ytcijnmooifcicaa", sum := "db2d26c042f4f249da3082ac048cc711cf5a6cb496e913a1fd374ded2ef5e716", func := "loop.example/g03207/laws.FnCounting", spec := "fnCounting", recurses := true, apart := false, narrowed := true }
def FnCountingUptoSaid : Prop := fnCountingUptoRow.holds Try.pinned (OpenSpec.upto fnCountingSpec)

end Rows
end Go.Proofs.Ytcijnmooifcicaa
