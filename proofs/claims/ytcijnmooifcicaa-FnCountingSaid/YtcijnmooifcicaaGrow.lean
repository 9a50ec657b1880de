/- Worlds that grow but for the cursor's box. -/
import Derived.Test.YtcijnmooifcicaaDraw
namespace Go.Proofs.Ytcijnmooifcicaa
open Go.RowKit Go.Deep
set_option linter.unusedVariables false

theorem grown_own {w a b : World} {g B : Nat} {r : Option Nat} (h : w.grownBy a (some g)) (hB : w.heap.size = B) (h2 : a.grownBy b r) (hr : ∀ q, r = some q → B ≤ q) : w.grownBy b (some g) :=
  ⟨h2.os.trans h.os, h2.tape.trans h.tape, h2.output.trans h.output, Nat.le_trans h.size h2.size, fun k hk hne =>
    (h2.block k (Nat.lt_of_lt_of_le hk h.size) (fun he => by have := hr k he.symm; omega)).trans (h.block k hk hne)⟩
theorem grown_alloc (w : World) (g : Nat) (o : Obj) : w.grownBy (w.alloc o) (some g) :=
  ⟨rfl, rfl, rfl, by simp, fun k hk _ => Below.heap_alloc w o k hk⟩
theorem grown_below {w a b : World} {g : Nat} (h : w.grownBy a (some g)) (h2 : Below a.heap.size a b) : w.grownBy b (some g) :=
  ⟨h2.os.trans h.os, h2.tape.trans h.tape, h2.output.trans h.output, Nat.le_trans h.size h2.size, fun k hk hne =>
    (h2.block k (Nat.lt_of_lt_of_le hk h.size)).trans (h.block k hk hne)⟩
end Go.Proofs.Ytcijnmooifcicaa
