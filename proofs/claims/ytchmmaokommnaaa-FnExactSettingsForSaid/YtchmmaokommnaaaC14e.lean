/- Chapter 14: what a fabric makes of a list: the plain law. -/
import Derived.Test.YtchmmaokommnaaaPart
import Derived.Test.YtchmmaokommnaaaC14d
namespace Go.Proofs.Ytchmmaokommnaaa
open Go.RowKit Go.Deep
set_option linter.unusedVariables false

/-- The i-th switch. -/
def sb (s : List Int) (i : Nat) : Nat := (nth s i).toNat
/-- What the first i switches lead up; what they lead down. -/
def upTo (s l : List Int) : Nat → List Int
  | 0 => []
  | i + 1 => upTo s l i ++ [nth l (2 * i + sb s i)]
def loTo (s l : List Int) : Nat → List Int
  | 0 => []
  | i + 1 => loTo s l i ++ [nth l (2 * i + 1 - sb s i)]
def outTo (s : List Int) (o : Nat) (u v : List Int) : Nat → List Int
  | 0 => []
  | i + 1 => outTo s o u v i ++ (if nth s (o + i) = 0 then [nth u i, nth v i] else [nth v i, nth u i])
theorem upTo_len (s l : List Int) (i : Nat) : (upTo s l i).length = i := by
  induction i with
  | zero => rfl
  | succ i ih => rw [upTo, List.length_append, ih]; rfl
theorem loTo_len (s l : List Int) (i : Nat) : (loTo s l i).length = i := by
  induction i with
  | zero => rfl
  | succ i ih => rw [loTo, List.length_append, ih]; rfl
theorem outTo_len (s : List Int) (o : Nat) (u v : List Int) (i : Nat) : (outTo s o u v i).length = 2 * i := by
  induction i with
  | zero => rfl
  | succ i ih => rw [outTo, List.length_append, ih]; split <;> simp <;> omega
theorem upTo_zero (s l : List Int) : upTo s l 0 = [] := rfl
theorem loTo_zero (s l : List Int) : loTo s l 0 = [] := rfl
theorem outTo_zero (s : List Int) (o : Nat) (u v : List Int) : outTo s o u v 0 = [] := rfl
theorem upTo_succ (s l : List Int) (i : Nat) : upTo s l (i + 1) = upTo s l i ++ [nth l (2 * i + sb s i)] := rfl
theorem loTo_succ (s l : List Int) (i : Nat) : loTo s l (i + 1) = loTo s l i ++ [nth l (2 * i + 1 - sb s i)] := rfl
theorem outTo_on {s : List Int} {o i : Nat} (u v : List Int) (h : nth s (o + i) = 0) : outTo s o u v (i + 1) = outTo s o u v i ++ [nth u i, nth v i] := by rw [outTo, if_pos h]
theorem outTo_off {s : List Int} {o i : Nat} (u v : List Int) (h : nth s (o + i) ≠ 0) : outTo s o u v (i + 1) = outTo s o u v i ++ [nth v i, nth u i] := by rw [outTo, if_neg h]

def fab1 (s l : List Int) : List Int := [nth l 0]
def fab2 (s l : List Int) : List Int := [nth l (sb s 0), nth l (1 - sb s 0)]
def fabN (h c : Nat) (F : List Int → List Int → List Int) (s l : List Int) : List Int :=
  outTo s (h + 2 * c) (F (cutL s h c) (upTo s l h)) (F (cutL s (h + c) c) (loTo s l h)) h
def fab4 : List Int → List Int → List Int := fabN 2 1 fab2
def fab8 : List Int → List Int → List Int := fabN 4 6 fab4
/-- The fabric of n inputs. -/
def fab (n : Nat) : List Int → List Int → List Int := if n = 1 then fab1 else if n = 2 then fab2 else if n = 4 then fab4 else fab8
def swc (n : Nat) : Nat := (swN n).toNat
def Bits (s : List Int) (m : Nat) : Prop := ∀ i, i < m → nth s i = 0 ∨ nth s i = 1
theorem bits_cut {s : List Int} {m p q : Nat} (h : Bits s m) (hp : p + q ≤ m) : Bits (cutL s p q) q := fun i hi => by rw [cut_nth hi]; exact h _ (by omega)
theorem Bits.le {s : List Int} {m i : Nat} (h : Bits s m) (hi : i < m) : nth s i = (sb s i : Int) ∧ sb s i ≤ 1 := by
  unfold sb
  rcases h i hi with e | e <;> rw [e] <;> simp
theorem bits_of {s : List Int} {m : Nat} (h : bitsTo s m = true) : Bits s m := by
  intro i hi
  have : ∀ m, bitsTo s m = true → i < m → isBit (nth s i) = true := by
    intro m
    induction m with
    | zero => intro _ h; omega
    | succ m ih =>
      intro h hi
      rw [bitsTo, Bool.and_eq_true] at h
      by_cases e : i = m
      · subst e; exact h.2
      · exact ih h.1 (by omega)
  have := isBit_yes (this m h hi)
  omega
theorem fab1_len (s l : List Int) : (fab1 s l).length = 1 := rfl
theorem fab2_len (s l : List Int) : (fab2 s l).length = 2 := rfl
theorem fabN_len (h c : Nat) (F : List Int → List Int → List Int) (s l : List Int) : (fabN h c F s l).length = 2 * h := outTo_len _ _ _ _ _
/-- Storing both results of a switch. -/
theorem out_set {ys : List Int} {s : List Int} {o i n : Nat} {u v : List Int} (hl : ys.length = n) (h : ys.take (2 * i) = outTo s o u v i) (hb : nth s (o + i) = (sb s (o + i) : Int) ∧ sb s (o + i) ≤ 1) (hi : 2 * i + 1 < n) :
    ((ys.set (2 * i + sb s (o + i)) (nth u i)).set (2 * i + 1 - sb s (o + i)) (nth v i)).take (2 * (i + 1)) = outTo s o u v (i + 1) := by
  obtain ⟨h1, h2⟩ := hb
  have key : ∀ (a b : Int) (zs : List Int), zs = ((ys.set (2 * i) a).set (2 * i + 1) b) → zs.take (2 * (i + 1)) = outTo s o u v i ++ [a, b] := by
    intro a b zs hz
    subst hz
    have e : 2 * (i + 1) = 2 * i + 1 + 1 := by omega
    rw [e, take_nth (by simp; omega), take_nth (by simp; omega), List.take_set_of_le (by omega), List.take_set_of_le (by omega), h]
    rw [nth_eq (by simp; omega), nth_eq (by simp; omega)]
    simp
  generalize sb s (o + i) = b at *
  have hb2 : b = 0 ∨ b = 1 := by omega
  rcases hb2 with rfl | rfl
  · rw [outTo_on u v (by rw [h1]; rfl)]
    exact key _ _ _ rfl
  · rw [outTo_off u v (by rw [h1]; simp)]
    refine key _ _ _ ?_
    rw [show 2 * i + 1 - 1 = 2 * i by omega]
    exact List.set_comm _ _ (by omega)
attribute [irreducible] upTo loTo outTo sb

end Go.Proofs.Ytchmmaokommnaaa
