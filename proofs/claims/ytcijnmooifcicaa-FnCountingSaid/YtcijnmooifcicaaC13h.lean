/- Chapter 13: counting from tokens and the digits of a count, the plain part. -/
import Derived.Test.YtcijnmooifcicaaC13g
namespace Go.Proofs.Ytcijnmooifcicaa
open Go.RowKit Go.Deep
set_option linter.unusedVariables false

/-- How many of the first k numbers are j. -/
def cnt (l : List Int) : Nat → Nat → Nat
  | 0, _ => 0
  | k + 1, j => cnt l k j + if nth l k = (j : Int) then 1 else 0
theorem cnt_le (l : List Int) (k j : Nat) : cnt l k j ≤ k := by
  induction k with
  | zero => exact Nat.le_refl _
  | succ k ih => rw [cnt]; split <;> omega
def cntL (N : Nat) (l : List Int) (k : Nat) : List Int := (List.range N).map fun j => (cnt l k j : Int)
theorem cntL_len (N : Nat) (l : List Int) (k : Nat) : (cntL N l k).length = N := by simp [cntL]
theorem cntL_nth {N : Nat} {l : List Int} {k j : Nat} (h : j < N) : nth (cntL N l k) j = cnt l k j := by
  simp [nth, cntL, List.getD, h]
theorem cntL_zero (N : Nat) (l : List Int) : List.replicate N 0 = cntL N l 0 := by
  apply List.ext_getElem
  · simp [cntL]
  · intro j h1 h2
    simp [cntL, cnt]
theorem cntL_set {N : Nat} {l : List Int} {k a : Nat} (ha : nth l k = a) (hN : a < N) : (cntL N l k).set a ((cnt l k a : Int) + 1) = cntL N l (k + 1) := by
  apply List.ext_getElem
  · simp [cntL]
  · intro j h1 h2
    rw [List.getElem_set]
    by_cases e : a = j
    · subst e
      simp [cntL, cnt, ha]
    · have e2 : ¬ (a : Int) = (j : Int) := by omega
      simp [cntL, cnt, ha, e, e2]
/-- The numbers that the first k tokens get. -/
def cfTo (x : Int) (l : List Int) : Nat → List Int
  | 0 => []
  | k + 1 => cfTo x l k ++ [x * (cnt l k (nth l k).toNat : Int) + nth l k]
theorem cfTo_zero (x : Int) (l : List Int) : cfTo x l 0 = [] := rfl
theorem cfTo_succ {x : Int} {l : List Int} {k a q : Nat} {r s : Int} (ha : nth l k = a) (hq : cnt l k a = q) (hr : x * (q : Int) = r) (hs : r + (a : Int) = s) : cfTo x l (k + 1) = cfTo x l k ++ [s] := by
  rw [cfTo, ha, Int.toNat_natCast, hq, hr, hs]
theorem cfTo_len (x : Int) (l : List Int) (k : Nat) : (cfTo x l k).length = k := by
  induction k with
  | zero => rfl
  | succ k ih => rw [cfTo]; simp [ih]
def cfOut (x : Int) (zss : List (List Int)) (es : List Int) : List Int := if ttB x zss es then cfTo x (ttOut x zss es) es.length else []
theorem cfOut_no {x : Int} {zss : List (List Int)} {es : List Int} (h : ttB x zss es = false) : cfOut x zss es = [] := by rw [cfOut, h]; rfl
theorem cfOut_yes {x : Int} {zss : List (List Int)} {es l : List Int} {m : Nat} (h : ttB x zss es = true) (hl : ttOut x zss es = l) (hm : es.length = m) : cfOut x zss es = cfTo x l m := by rw [cfOut, h, hl, hm]; rfl
theorem cfOut_le {x : Int} {zss : List (List Int)} {es : List Int} (h : es.length ≤ 1048576) : (cfOut x zss es).length ≤ 1048576 := by
  unfold cfOut
  split
  · rw [cfTo_len]; exact h
  · simp
/-- A token stays on the network's wires. -/
theorem ttIn_lt {zss : List (List Int)} {W n : Nat} (hrow : ∀ k, k < n → ∃ p q : Nat, nth (row zss k) 0 = p ∧ nth (row zss k) 1 = q ∧ p < W ∧ q < W) (up : List Bool) (a : Nat) (ha : a < W) :
    ∀ k, k ≤ n → ∃ v b, ttIn zss up a k = (v, b) ∧ b < W := by
  intro k
  induction k with
  | zero => intro _; exact ⟨_, _, ttIn_zero _ _ _, ha⟩
  | succ k ih =>
    intro hk
    obtain ⟨v, b, hvb, hb⟩ := ih (by omega)
    obtain ⟨p, q, hp, hq, hpW, hqW⟩ := hrow k (by omega)
    by_cases h : p = b ∨ q = b
    · cases hf : bAt v k with
      | false => exact ⟨_, _, ttIn_low hvb hp hq h hf, hpW⟩
      | true => exact ⟨_, _, ttIn_high hvb hp hq h hf, hqW⟩
    · exact ⟨_, _, ttIn_skip hvb hp hq (fun e => h (.inl e)) (fun e => h (.inr e)), hb⟩
theorem wiTo_on' {x : Int} {es : List Int} : ∀ m, wiTo x es m = true → ∀ k, k < m → inW x (nth es k) = true := by
  intro m h k hk
  cases hc : inW x (nth es k) with
  | true => rfl
  | false => rw [wiTo_bad hc m hk] at h; cases h
theorem ttTo_lt {zss : List (List Int)} {W n m : Nat} {es : List Int} (hrow : ∀ k, k < n → ∃ p q : Nat, nth (row zss k) 0 = p ∧ nth (row zss k) 1 = q ∧ p < W ∧ q < W) (hw : wiTo (W : Int) es m = true) :
    ∀ k, k ≤ m → ∃ v l, ttTo zss n es k = (v, l) ∧ l.length = k ∧ ∀ z ∈ l, 0 ≤ z ∧ z < (W : Int) := by
  intro k
  induction k with
  | zero => intro _; exact ⟨_, _, ttTo_zero _ _ _, rfl, by simp⟩
  | succ k ih =>
    intro hk
    obtain ⟨v, l, hvl, hlen, hl⟩ := ih (by omega)
    have hin := wiTo_on' m hw k (by omega)
    simp only [inW, decide_eq_true_eq] at hin
    obtain ⟨a, ha⟩ := Int.eq_ofNat_of_zero_le hin.1
    obtain ⟨v2, b, hb, hbW⟩ := ttIn_lt hrow v a (by omega) n (Nat.le_refl _)
    refine ⟨_, _, ttTo_succ hvl ha hb, by simp [hlen], fun z hz => ?_⟩
    rcases List.mem_append.1 hz with hz | hz
    · exact hl z hz
    · rw [List.mem_singleton.1 hz]; omega
/-- What a valid list of entries gives: as many wires. -/
theorem tt_out {W n m : Nat} {zss : List (List Int)} {es : List Int} (hn : zss.length = n) (hm : es.length = m) (h : ttB (W : Int) zss es = true) :
    1 ≤ W ∧ W ≤ 8 ∧ m ≤ 60 ∧ ∃ l, ttOut (W : Int) zss es = l ∧ l.length = m ∧ ∀ k, k < m → ∃ a : Nat, nth l k = a ∧ a < W := by
  have h' := h
  rw [ttB, Bool.and_eq_true, Bool.and_eq_true, decide_eq_true_eq, hm] at h'
  obtain ⟨h1, h2, h3⟩ := h'
  obtain ⟨W', hW', hW1, hW8, hn60, hrow⟩ := net_out hn h1
  obtain rfl : W = W' := by omega
  obtain ⟨v, l, hvl, hlen, hl⟩ := ttTo_lt (n := n) (fun k hk => by obtain ⟨_, p, q, a, b, c, d, _⟩ := hrow k hk; exact ⟨p, q, a, b, c, d⟩) h3 m (Nat.le_refl _)
  refine ⟨hW1, hW8, h2, l, ttOut_yes h hn hm hvl, hlen, fun k hk => ?_⟩
  have h4 := hl _ (nth_mem (show k < l.length by omega))
  obtain ⟨a, ha⟩ := Int.eq_ofNat_of_zero_le h4.1
  exact ⟨a, ha, by omega⟩
attribute [irreducible] cnt cfTo cntL

/-- Is x one of y, y + 1? -/
def stP (x y : Int) : Bool := decide (x = y ∨ x = y + 1)
def stRow (x : Int) (ys : List Int) : Nat → Bool
  | 0 => true
  | j + 1 => stRow x ys j && stP x (nth ys j)
def stTo (zs : List Int) : Nat → Bool
  | 0 => true
  | k + 1 => stTo zs k && stRow (nth zs k) (zs.drop (k + 1)) (zs.length - (k + 1))
def stepB (zs : List Int) : Bool := stTo zs zs.length
theorem stRow_zero (x : Int) (ys : List Int) : stRow x ys 0 = true := rfl
theorem stTo_zero (zs : List Int) : stTo zs 0 = true := rfl
theorem stRow_on {x : Int} {ys : List Int} {j : Nat} (h : stRow x ys j = true) (h2 : x = nth ys j ∨ x = nth ys j + 1) : stRow x ys (j + 1) = true := by rw [stRow, h, stP, decide_eq_true h2]; rfl
theorem stRow_bad {x : Int} {ys : List Int} {j : Nat} (h2 : ¬ (x = nth ys j ∨ x = nth ys j + 1)) : ∀ m, j < m → stRow x ys m = false := by
  intro m
  induction m with
  | zero => intro h; omega
  | succ m ih =>
    intro hm
    by_cases e : j = m
    · subst e; rw [stRow, stP, decide_eq_false h2, Bool.and_false]
    · rw [stRow, ih (by omega)]; rfl
theorem stTo_on {zs : List Int} {n k : Nat} (hl : zs.length = n) (h : stTo zs k = true) (h2 : stRow (nth zs k) (zs.drop (k + 1)) (n - (k + 1)) = true) : stTo zs (k + 1) = true := by rw [stTo, h, hl, h2]; rfl
theorem stTo_bad {zs : List Int} {n k : Nat} (hl : zs.length = n) (h2 : stRow (nth zs k) (zs.drop (k + 1)) (n - (k + 1)) = false) : ∀ m, k < m → stTo zs m = false := by
  intro m
  induction m with
  | zero => intro h; omega
  | succ m ih =>
    intro hm
    by_cases e : k = m
    · subst e; rw [stTo, hl, h2, Bool.and_false]
    · rw [stTo, ih (by omega)]; rfl
theorem step_bad {zs : List Int} {n k j : Nat} (hl : zs.length = n) (hk : k < n) (hj : j < n - (k + 1)) (h : ¬ (nth zs k = nth (zs.drop (k + 1)) j ∨ nth zs k = nth (zs.drop (k + 1)) j + 1)) : stepB zs = false := by
  rw [stepB, hl]; exact stTo_bad hl (stRow_bad h _ hj) n hk
theorem step_yes {zs : List Int} {n : Nat} (hl : zs.length = n) (h : stTo zs n = true) : stepB zs = true := by rw [stepB, hl]; exact h
attribute [irreducible] stRow stTo

/-- The digits of s, the least first. -/
def digs (b : Nat) : Nat → Nat → List Int
  | 0, _ => []
  | W + 1, s => ((s % b : Nat) : Int) :: digs b W (s / b)
def incL (b : Nat) : List Int → Option (List Int)
  | [] => none
  | d :: r => if d + 1 = (b : Int) then (incL b r).map (0 :: ·) else some ((d + 1) :: r)
theorem digs_len (b W s : Nat) : (digs b W s).length = W := by
  induction W generalizing s with
  | zero => rfl
  | succ W ih => rw [digs, List.length_cons, ih]
theorem digs_lt {b : Nat} (hb : 0 < b) (W s : Nat) : ∀ d ∈ digs b W s, ∃ y : Nat, d = y ∧ y < b := by
  induction W generalizing s with
  | zero => intro d hd; cases hd
  | succ W ih =>
    intro d hd
    rw [digs] at hd
    rcases List.mem_cons.1 hd with rfl | hd
    · exact ⟨_, rfl, Nat.mod_lt _ hb⟩
    · exact ih _ d hd
theorem digs_zero {b : Nat} (W : Nat) : digs b W 0 = List.replicate W 0 := by
  induction W with
  | zero => rfl
  | succ W ih => rw [digs, Nat.zero_div, ih, Nat.zero_mod, List.replicate_succ]; rfl
theorem inc_digs {b : Nat} (hb : 2 ≤ b) : ∀ W s, s < b ^ W → incL b (digs b W s) = if s + 1 < b ^ W then some (digs b W (s + 1)) else none := by
  intro W
  induction W with
  | zero => intro s hs; have : s = 0 := by simpa using hs
            subst this; rfl
  | succ W ih =>
    intro s hs
    have hq : s / b < b ^ W := by
      rw [Nat.div_lt_iff_lt_mul (by omega)]; rw [Nat.pow_succ] at hs; exact hs
    have hs2 : s = b * (s / b) + s % b := (Nat.div_add_mod s b).symm
    have hr : s % b < b := Nat.mod_lt _ (by omega)
    rw [digs, incL]
    by_cases e : s % b + 1 = b
    · rw [if_pos (by omega), ih _ hq]
      have e1 : s + 1 = b * (s / b + 1) := by rw [Nat.mul_add]; omega
      have e2 : (s + 1) / b = s / b + 1 := by rw [e1]; exact Nat.mul_div_cancel_left _ (by omega)
      have e3 : (s + 1) % b = 0 := by rw [e1]; exact Nat.mul_mod_right _ _
      have e4 : s + 1 < b ^ (W + 1) ↔ s / b + 1 < b ^ W := by
        rw [e1, Nat.pow_succ, Nat.mul_comm (b ^ W) b]
        exact Nat.mul_lt_mul_left (by omega)
      by_cases h : s / b + 1 < b ^ W
      · rw [if_pos h, if_pos (e4.2 h), digs, e2, e3]; rfl
      · rw [if_neg h, if_neg (fun h2 => h (e4.1 h2))]; rfl
    · rw [if_neg (by omega)]
      have e2 : (s + 1) / b = s / b := by
        rw [show s + 1 = s % b + 1 + b * (s / b) by omega, Nat.add_mul_div_left _ _ (by omega), Nat.div_eq_of_lt (by omega)]; omega
      have e3 : (s + 1) % b = s % b + 1 := by
        rw [show s + 1 = s % b + 1 + b * (s / b) by omega, Nat.add_mul_mod_self_left, Nat.mod_eq_of_lt (by omega)]
      have e4 : s + 1 < b ^ (W + 1) := by
        have h1 : b * (s / b + 1) ≤ b * b ^ W := Nat.mul_le_mul_left _ hq
        rw [Nat.pow_succ, Nat.mul_comm]
        rw [Nat.mul_add] at h1
        omega
      rw [if_pos e4, digs, e2, e3]
      rfl
/-- The first k digits are put to 0, all of them were the greatest. -/
def IcK (b : Nat) (ts z : List Int) (k : Nat) : Prop := z = List.replicate k 0 ++ ts.drop k ∧ incL b ts = (incL b (ts.drop k)).map (fun r => List.replicate k 0 ++ r)
theorem icK_zero (b : Nat) (ts : List Int) : IcK b ts ts 0 := by
  refine ⟨by simp, ?_⟩
  show incL b ts = (incL b ts).map (fun r => [] ++ r)
  simp
theorem icK_nth {b : Nat} {ts z : List Int} {k : Nat} (h : IcK b ts z k) : nth z k = nth ts k := by
  rw [h.1]
  simp [nth, List.getD, List.getElem?_append_right]
theorem icK_next {b : Nat} {ts z : List Int} {k : Nat} (h : IcK b ts z k) (hk : k < ts.length) (hy : nth ts k + 1 = (b : Int)) : IcK b ts (z.set k 0) (k + 1) := by
  obtain ⟨h1, h2⟩ := h
  constructor
  · rw [h1, drop_nth hk, List.set_append_right _ _ (by simp)]
    simp [List.replicate_succ']
  · rw [h2, drop_nth hk, incL, if_pos hy, Option.map_map]
    congr 1
    funext r
    simp [List.replicate_succ']
theorem icK_end {b : Nat} {ts z : List Int} {k : Nat} (h : IcK b ts z k) (hk : k < ts.length) (hy : ¬ nth ts k + 1 = (b : Int)) : incL b ts = some (z.set k (nth ts k + 1)) := by
  obtain ⟨h1, h2⟩ := h
  rw [h2, drop_nth hk, incL, if_neg hy, h1, drop_nth hk, List.set_append_right _ _ (by simp)]
  simp
theorem icK_full {b : Nat} {ts z : List Int} {k : Nat} (h : IcK b ts z k) (hk : ts.length = k) : incL b ts = none := by
  rw [h.2, ← hk, List.drop_length]; rfl
/-- Do the first s numbers of tokens come out in steps? -/
def icOk (zss : List (List Int)) (b W s : Nat) : Bool := stepB (ctTo (digs b W s) zss zss.length)
def icTo (zss : List (List Int)) (b W : Nat) : Nat → Bool
  | 0 => true
  | s + 1 => icTo zss b W s && icOk zss b W s
def icV (x : Int) (zss : List (List Int)) (mo : Int) : Bool := netV x zss && (decide (x ≤ 4) && (decide (1 ≤ mo ∧ mo ≤ 4) && icTo zss (mo.toNat + 1) x.toNat ((mo.toNat + 1) ^ x.toNat)))
theorem icTo_zero (zss : List (List Int)) (b W : Nat) : icTo zss b W 0 = true := rfl
theorem icTo_on {zss : List (List Int)} {b W s : Nat} (h : icTo zss b W s = true) (h2 : icOk zss b W s = true) : icTo zss b W (s + 1) = true := by rw [icTo, h, h2]; rfl
theorem icTo_bad {zss : List (List Int)} {b W s : Nat} (h2 : icOk zss b W s = false) : ∀ m, s < m → icTo zss b W m = false := by
  intro m
  induction m with
  | zero => intro h; omega
  | succ m ih =>
    intro hm
    by_cases e : s = m
    · subst e; rw [icTo, h2, Bool.and_false]
    · rw [icTo, ih (by omega)]; rfl
theorem icV_net {x : Int} {zss : List (List Int)} {mo : Int} (h : netV x zss = false) : icV x zss mo = false := by rw [icV, h]; rfl
theorem icV_four {x : Int} {zss : List (List Int)} {mo : Int} (h : ¬ x ≤ 4) : icV x zss mo = false := by rw [icV, decide_eq_false h]; simp
theorem icV_most {x : Int} {zss : List (List Int)} {mo : Int} (h : ¬ (1 ≤ mo ∧ mo ≤ 4)) : icV x zss mo = false := by rw [icV, decide_eq_false h]; simp
theorem icV_is {zss : List (List Int)} {W t : Nat} (h1 : netV (W : Int) zss = true) (h2 : W ≤ 4) (h3 : 1 ≤ t) (h4 : t ≤ 4) : icV (W : Int) zss (t : Int) = icTo zss (t + 1) W ((t + 1) ^ W) := by
  rw [icV, h1, decide_eq_true (by omega), decide_eq_true (by omega)]; simp
/-- Running keeps the bounds. -/
theorem bdT_ct {ts : List Int} {zss : List (List Int)} {W n : Nat} (hl : ts.length = W) (h : BdT ts) (hrow : ∀ k, k < n → ∃ p q : Nat, nth (row zss k) 0 = p ∧ nth (row zss k) 1 = q ∧ p < W ∧ q < W) : ∀ k, k ≤ n → BdT (ctTo ts zss k) := by
  intro k
  induction k with
  | zero => intro _; rw [ct_zero]; exact h
  | succ k ih =>
    intro hk
    obtain ⟨p, q, hp, hq, hpW, hqW⟩ := hrow k (by omega)
    rw [ct_succ hp hq]
    exact bdT_step (ih (by omega)) (by rw [ct_len, hl]; exact hpW) (by rw [ct_len, hl]; exact hqW)
attribute [irreducible] digs incL icTo IcK

end Go.Proofs.Ytcijnmooifcicaa
