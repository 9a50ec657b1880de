/- Chapter 13: tracing tokens, the plain part. -/
import Derived.Test.YtcijnmooifcicaaC13e
namespace Go.Proofs.Ytcijnmooifcicaa
open Go.RowKit Go.Deep
set_option linter.unusedVariables false

def bAt (up : List Bool) (k : Nat) : Bool := up.getD k false
/-- One token through the first k pairs: the flags, and the wire that it is on. -/
def ttIn (zss : List (List Int)) (up : List Bool) (a : Nat) : Nat → List Bool × Nat
  | 0 => (up, a)
  | k + 1 =>
    if (nth (row zss k) 0).toNat = (ttIn zss up a k).2 ∨ (nth (row zss k) 1).toNat = (ttIn zss up a k).2 then
      ((ttIn zss up a k).1.set k (!bAt (ttIn zss up a k).1 k), if bAt (ttIn zss up a k).1 k then (nth (row zss k) 1).toNat else (nth (row zss k) 0).toNat)
    else ttIn zss up a k
theorem ttIn_zero (zss : List (List Int)) (up : List Bool) (a : Nat) : ttIn zss up a 0 = (up, a) := rfl
theorem ttIn_skip {zss : List (List Int)} {up v : List Bool} {a b k p q : Nat} (h : ttIn zss up a k = (v, b)) (hp : nth (row zss k) 0 = p) (hq : nth (row zss k) 1 = q) (h1 : p ≠ b) (h2 : q ≠ b) : ttIn zss up a (k + 1) = (v, b) := by
  rw [ttIn, h, hp, hq, if_neg]
  rintro (e | e)
  · exact h1 e
  · exact h2 e
theorem ttIn_low {zss : List (List Int)} {up v : List Bool} {a b k p q : Nat} (h : ttIn zss up a k = (v, b)) (hp : nth (row zss k) 0 = p) (hq : nth (row zss k) 1 = q) (h1 : p = b ∨ q = b) (hb : bAt v k = false) : ttIn zss up a (k + 1) = (v.set k true, p) := by
  rw [ttIn, h, hp, hq, if_pos (by simpa using h1), hb]; rfl
theorem ttIn_high {zss : List (List Int)} {up v : List Bool} {a b k p q : Nat} (h : ttIn zss up a k = (v, b)) (hp : nth (row zss k) 0 = p) (hq : nth (row zss k) 1 = q) (h1 : p = b ∨ q = b) (hb : bAt v k = true) : ttIn zss up a (k + 1) = (v.set k false, q) := by
  rw [ttIn, h, hp, hq, if_pos (by simpa using h1), hb]; rfl
/-- The tokens one after the other: the flags and the list. -/
def ttTo (zss : List (List Int)) (n : Nat) (es : List Int) : Nat → List Bool × List Int
  | 0 => (List.replicate n false, [])
  | k + 1 => ((ttIn zss (ttTo zss n es k).1 (nth es k).toNat n).1, (ttTo zss n es k).2 ++ [((ttIn zss (ttTo zss n es k).1 (nth es k).toNat n).2 : Int)])
theorem ttTo_zero (zss : List (List Int)) (n : Nat) (es : List Int) : ttTo zss n es 0 = (List.replicate n false, []) := rfl
theorem ttTo_succ {zss : List (List Int)} {n : Nat} {es : List Int} {k a b : Nat} {v v2 : List Bool} {out : List Int} (h : ttTo zss n es k = (v, out)) (ha : nth es k = a) (h2 : ttIn zss v a n = (v2, b)) : ttTo zss n es (k + 1) = (v2, out ++ [(b : Int)]) := by
  rw [ttTo, h, ha, Int.toNat_natCast]
  show ((ttIn zss v a n).1, out ++ [((ttIn zss v a n).2 : Int)]) = _
  rw [h2]
theorem ttTo_len (zss : List (List Int)) (n : Nat) (es : List Int) : ∀ k, (ttTo zss n es k).2.length = k := by
  intro k
  induction k with
  | zero => rfl
  | succ k ih => rw [ttTo]; simp [ih]
def wiTo (x : Int) (es : List Int) : Nat → Bool
  | 0 => true
  | k + 1 => wiTo x es k && inW x (nth es k)
theorem wiTo_zero (x : Int) (es : List Int) : wiTo x es 0 = true := rfl
theorem wiTo_on {x : Int} {es : List Int} {k : Nat} (h : wiTo x es k = true) (h2 : inW x (nth es k) = true) : wiTo x es (k + 1) = true := by rw [wiTo, h, h2]; rfl
theorem wiTo_bad {x : Int} {es : List Int} {k : Nat} (h2 : inW x (nth es k) = false) : ∀ m, k < m → wiTo x es m = false := by
  intro m
  induction m with
  | zero => intro h; omega
  | succ m ih =>
    intro hm
    by_cases e : k = m
    · subst e; rw [wiTo, h2, Bool.and_false]
    · rw [wiTo, ih (by omega)]; rfl
def ttB (x : Int) (zss : List (List Int)) (es : List Int) : Bool := netV x zss && (decide (es.length ≤ 60) && wiTo x es es.length)
def ttOut (x : Int) (zss : List (List Int)) (es : List Int) : List Int := if ttB x zss es then (ttTo zss zss.length es es.length).2 else []
theorem ttOut_le {x : Int} {zss : List (List Int)} {es : List Int} (h : es.length ≤ 1048576) : (ttOut x zss es).length ≤ 1048576 := by
  unfold ttOut
  split
  · rw [ttTo_len]; exact h
  · simp
attribute [irreducible] ttIn ttTo wiTo

end Go.Proofs.Ytcijnmooifcicaa
