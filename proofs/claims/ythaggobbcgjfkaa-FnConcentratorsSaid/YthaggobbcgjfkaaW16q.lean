/- Chapter 16: the law of concentrators, at bytes as they are handed in. -/
import Derived.Test.YthaggobbcgjfkaaC16q
import Derived.Test.YthaggobbcgjfkaaArgB
namespace Go.Proofs.Ythaggobbcgjfkaa
open Go.RowKit Go.Deep
set_option linter.unusedVariables false

theorem lawConcB (w : World) (A : Option Addr) (n c : Nat) (bs : List Int) (g : RdArgB w A n c bs) :
    Calls Try.prog 12 #[.slice A n c] w fun e w' => e = .returned (.bool true) ∧ Below w.heap.size w w' :=
  lawConcentrators w A n c bs g.1 g.2
end Go.Proofs.Ythaggobbcgjfkaa
