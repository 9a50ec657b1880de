/- An append of one element, the new block's number given. -/
import Derived.Test.YtobdkfhmmpigiaaGreatMA
namespace Go.Proofs.YtobdkfhmmpigiaaGreat
open Go.RowKit Go.Deep
set_option linter.unusedVariables false

/-- 'append(s, x)' of one element, the new block's number given. -/
theorem wpL_append1_at {P : Program} (w : World) {ops : Array Oper} {rest : List Oper} {o : Oper} {a : Act} {Q : Exit → Act → World → Prop} (hgd : o.guard = none) (s x : Operand) (t : TypeId)
    (ho : o.op = .call { callee := .builtin .append, args := #[s, x], argTypes := #[t, t] })
    (base : Nat) (e : TypeId) (z : Value) (bytes : Nat) (ht : P.underlying t = some (.slice e)) (hinfo : (P.info? e).map (fun i => (i.zero, i.size, i.bytes)) = some (some z, 1, bytes)) (hzs : z.cells.size = 1)
    (A : Option Addr) (n c : Nat) (xs : List Value) (hs : a.eval s = .slice A n c) (hown : Own w base e A n c xs)
    (u : Value) (sz : Nat) (hsz : w.heap.size = sz) (hx : a.eval x = .slice (some ⟨sz, 0, none⟩) 1 1) (h1 : u.oneCell' = true)
    (h63 : n + 1 ≤ maxLen) (hbytes : (n + 1) * bytes ≤ 140737488355328) (hbase : base ≤ w.heap.size)
    (h : ∀ A' c' w', Own w' base e A' (n + 1) c' (xs ++ [u]) → w.grownBy w' (blk A) → (blk A' = blk A ∨ blk A' = some (w.heap.size + 1)) → wpList P ops Q rest (a.put o.dst (.slice A' (n + 1) c')) w') : wpList P ops Q (o :: rest) a (w.alloc (.cells #[u] e)) := by
  subst hsz
  exact wpL_append1 w hgd s x t ho base e z bytes ht hinfo hzs A n c xs hs hown u hx h1 h63 hbytes hbase h
end Go.Proofs.YtobdkfhmmpigiaaGreat
