/- bits.OnesCount at masks below 256. -/
import Derived.Test.YtobdkfhmmpigiaaIntS
namespace Go.Proofs.Ytobdkfhmmpigiaa
open Go.RowKit Go.Deep
set_option linter.unusedVariables false
attribute [local go_sem] bits_and_one

/-- How many ones a number below 256 has. -/
def pop (q : Nat) : Nat := q % 2 + q / 2 % 2 + q / 4 % 2 + q / 8 % 2 + q / 16 % 2 + q / 32 % 2 + q / 64 % 2 + q / 128 % 2
theorem pop_step (m : Nat) (h : m < 256) : pop m = m % 2 + pop (m / 2) := by unfold pop; omega
theorem pop_le (m : Nat) : pop m ≤ 8 := by unfold pop; omega

def pop1 (x : Nat) : Nat := (x / 2 &&& 85) + (x &&& 85)
def pop2 (x : Nat) : Nat := (x / 4 &&& 51) + (x &&& 51)
def pop3 (x : Nat) : Nat := (x / 16 + x) &&& 3855
theorem pop1_lt : ∀ x : Nat, x < 256 → pop1 x < 256 := by decide +kernel
theorem pop2_lt : ∀ x : Nat, x < 256 → pop2 (pop1 x) < 256 := by decide +kernel
theorem pop3_eq : ∀ x : Nat, x < 256 → pop3 (pop2 (pop1 x)) = pop x := by decide +kernel
theorem pop1_fact : ∀ x : Nat, x < 256 → IntKind.u64.wrap (bits .and .u64 ((x : Int) / 2) 6148914691236517205 + bits .and .u64 (x : Int) 6148914691236517205) = (pop1 x : Int) := by decide +kernel
theorem pop2_fact : ∀ x : Nat, x < 256 → IntKind.u64.wrap (bits .and .u64 ((x : Int) / 4) 3689348814741910323 + bits .and .u64 (x : Int) 3689348814741910323) = (pop2 x : Int) := by decide +kernel
theorem pop3_fact : ∀ x : Nat, x < 256 → bits .and .u64 ((x : Int) / 16 + (x : Int)) 1085102592571150095 = (pop3 x : Int) := by decide +kernel
theorem and127 : ∀ x : Nat, x < 9 → bits .and .i64 (x : Int) 127 = (x : Int) := by decide +kernel
theorem pop_zero : pop 0 = 0 := rfl
attribute [irreducible] pop pop1 pop2 pop3

end Go.Proofs.Ytobdkfhmmpigiaa
