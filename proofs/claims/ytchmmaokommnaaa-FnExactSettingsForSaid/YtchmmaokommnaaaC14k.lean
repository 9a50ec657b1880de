/- Chapter 14: CountSettings. -/
import Derived.Test.YtchmmaokommnaaaC14j
import Derived.Test.YtchmmaokommnaaaOrd
namespace Go.Proofs.Ytchmmaokommnaaa
open Go.RowKit Go.Deep
set_option linter.unusedVariables false

def o14 (zs : List Int) : Bool := decide (IsP zs.length) && isOrd zs
def sm14 (zs : List Int) : Bool := o14 zs && decide (zs.length ≤ 4)
theorem sm_out {zs : List Int} {n : Nat} (hl : zs.length = n) (h : sm14 zs = true) : n = 1 ∨ n = 2 ∨ n = 4 := by
  rw [sm14, o14, Bool.and_eq_true, Bool.and_eq_true, decide_eq_true_eq, decide_eq_true_eq, hl] at h
  obtain ⟨⟨h1, _⟩, h2⟩ := h
  unfold IsP at h1
  omega
set_option maxHeartbeats 1000000 in
theorem specOrder14 (A : Option Addr) (n c : Nat) (zs : List Int) (w : World) (ha : RdI w A n zs) (hn : n ≤ 1048576) :
    Calls Try.prog 49 #[.slice A n c] w fun e w' => e = .returned (.bool (o14 zs)) ∧ Below w.heap.size w w' := by
  have hl := ha.lenI
  have CP := Lib.hid (specPerm A n c zs w ha hn)
  by_cases h : IsP n
  · have H := Lib.hid (show o14 zs = isOrd zs by rw [o14, hl, decide_eq_true h]; rfl)
    have C1 := Lib.hid (specP_yes n w h)
    clear h hl
    go_enter Try.func49, Try.ntmps49
    go_wp2_with fail
    refine C1.out.mono ?_
    rintro e w' ⟨rfl, rfl⟩
    go_wp2_with fail
    refine CP.out.mono ?_
    rintro e w1 ⟨rfl, hb1⟩
    go_wp2_with fail
    go_ret
    exact ⟨ret_bool H.out.symm, hb1⟩
  · have H := Lib.hid (show o14 zs = false by rw [o14, hl, decide_eq_false h]; rfl)
    have C1 := Lib.hid (specP_no n w h)
    clear h hl
    go_enter Try.func49, Try.ntmps49
    go_wp2_with fail
    refine C1.out.mono ?_
    rintro e w' ⟨rfl, rfl⟩
    go_wp2_with fail
    go_ret
    exact ⟨ret_bool H.out.symm, Below.refl _ _⟩
set_option maxHeartbeats 1000000 in
theorem implSmall14 (A : Option Addr) (n c : Nat) (zs : List Int) (w : World) (ha : RdI w A n zs) (hn : n ≤ 1048576) :
    Calls Try.prog 54 #[.slice A n c] w fun e w' => e = .returned (.bool (sm14 zs)) ∧ Below w.heap.size w w' := by
  have hl := ha.lenI
  have CP := Lib.hid (implIsOrder A n c zs w ha hn)
  by_cases h : IsP n
  · have C1 := Lib.hid (implP_yes n w h)
    by_cases h4 : n ≤ 4
    · have H := Lib.hid (show sm14 zs = isOrd zs by rw [sm14, o14, hl, decide_eq_true h, decide_eq_true h4]; simp)
      clear h hl
      go_enter Try.func54, Try.ntmps54
      go_wp2_with fail
      refine C1.out.mono ?_
      rintro e w' ⟨rfl, rfl⟩
      go_wp2_with fail
      refine CP.out.mono ?_
      rintro e w1 ⟨rfl, hb1⟩
      go_wp2_with fail
      go_ret
      exact ⟨ret_bool H.out.symm, hb1⟩
    · have H := Lib.hid (show sm14 zs = false by rw [sm14, hl, decide_eq_false h4]; simp)
      have d4 : decide (n ≤ 4) = false := by simp; omega
      have d5 : decide ((n : Int) ≤ 4) = false := by simp; omega
      clear h hl h4
      go_enter Try.func54, Try.ntmps54
      go_wp2_with fail
      refine C1.out.mono ?_
      rintro e w' ⟨rfl, rfl⟩
      go_wp2_with fail
      go_ret
      exact ⟨ret_bool H.out.symm, Below.refl _ _⟩
  · have H := Lib.hid (show sm14 zs = false by rw [sm14, o14, hl, decide_eq_false h]; rfl)
    have C1 := Lib.hid (implP_no n w h)
    clear h hl
    go_enter Try.func54, Try.ntmps54
    go_wp2_with fail
    refine C1.out.mono ?_
    rintro e w' ⟨rfl, rfl⟩
    go_wp2_with fail
    go_ret
    exact ⟨ret_bool H.out.symm, Below.refl _ _⟩

theorem specAllNone {n : Nat} (hn : n = 1 ∨ n = 2 ∨ n = 4) (A : Option Addr) (c : Nat) (zs : List Int) (w : World) (ha : RdI w A n zs) :
    Calls Try.prog 53 #[.slice A n c, .int .i64 (-1), .int .i64 0] w fun e w' => e = .returned (.int .i64 (cntG (good n (swc n) zs) (2 ^ swc n))) ∧ Below w.heap.size w w' := by
  rcases hn with rfl | rfl | rfl
  · exact specAll1None A c zs w ha
  · exact specAll2None A c zs w ha
  · exact specAll4None A c zs w ha
theorem implAllAny {n : Nat} (hn : n = 1 ∨ n = 2 ∨ n = 4) (A : Option Addr) (c : Nat) (zs : List Int) (w : World) (ha : RdI w A n zs) :
    Calls Try.prog 55 #[.slice A n c] w fun e w' => ∃ A' n' c' vs, e = .returned (.slice A' n' c') ∧ n' = cntG (good n (swc n) zs) (2 ^ swc n) ∧ Own w' w.heap.size 24 A' n' c' vs ∧ RowsIn w' w.heap.size w'.heap.size A' n' (row (allL (swc n) (good n (swc n) zs) (2 ^ swc n))) vs ∧ Below w.heap.size w w' := by
  rcases hn with rfl | rfl | rfl
  · exact implAll1 A c zs w ha
  · exact implAll2 A c zs w ha
  · exact implAll4 A c zs w ha
def csV (zs : List Int) : Int := if sm14 zs = true then (cntG (good zs.length (swc zs.length) zs) (2 ^ swc zs.length) : Int) else -1
theorem csV_no {zs : List Int} (h : sm14 zs = false) : csV zs = -1 := by rw [csV, h]; rfl
theorem csV_yes {zs : List Int} {n : Nat} (hl : zs.length = n) (h : sm14 zs = true) : csV zs = (cntG (good n (swc n) zs) (2 ^ swc n) : Int) := by rw [csV, h, hl]; rfl

set_option maxHeartbeats 1000000 in
theorem specCountSettings (A : Option Addr) (n c : Nat) (zs : List Int) (w : World) (ha : RdI w A n zs) (hn : n ≤ 1048576) :
    Calls Try.prog 30 #[.slice A n c] w fun e w' => e = .returned (.int .i64 (csV zs)) ∧ Below w.heap.size w w' := by
  have hl := ha.lenI
  have C := specOrder14 A n c zs w ha hn
  cases ho : o14 zs with
  | false =>
    have H := Lib.hid (csV_no (show sm14 zs = false by rw [sm14, ho]; rfl))
    rw [ho] at C
    have CC := Lib.hid C
    clear C ho hl
    go_enter Try.func30, Try.ntmps30
    go_wp2_with fail
    refine CC.out.mono ?_
    rintro e w1 ⟨rfl, hb1⟩
    go_wp2_with fail
    go_ret
    exact ⟨ret_int H.out.symm, hb1⟩
  | true =>
    rw [ho] at C
    have CC := Lib.hid C
    by_cases h4 : n ≤ 4
    · have hs : sm14 zs = true := by rw [sm14, ho, hl]; simpa using h4
      have H := Lib.hid (csV_yes hl hs)
      have CA := Lib.hid (fun w' h => specAllNone (sm_out hl hs) A c zs w' h)
      clear C ho hl hs
      go_enter Try.func30, Try.ntmps30
      go_wp2_with fail
      refine CC.out.mono ?_
      rintro e w1 ⟨rfl, hb1⟩
      go_wp2_with fail
      refine (CA.out _ (ha.below hb1)).mono ?_
      rintro e w2 ⟨rfl, hb2⟩
      go_wp2_with fail
      go_ret
      exact ⟨ret_int H.out.symm, hb1.trans (hb2.mono hb1.size)⟩
    · have H := Lib.hid (csV_no (show sm14 zs = false by rw [sm14, hl, decide_eq_false h4]; simp))
      have h5 : 4 < n := by omega
      clear C ho hl h4
      go_enter Try.func30, Try.ntmps30
      go_wp2_with fail
      refine CC.out.mono ?_
      rintro e w1 ⟨rfl, hb1⟩
      go_wp2_with fail
      go_ret
      exact ⟨ret_int H.out.symm, hb1⟩

set_option maxHeartbeats 1000000 in
theorem implCountSettings (A : Option Addr) (n c : Nat) (zs : List Int) (w : World) (ha : RdI w A n zs) (hn : n ≤ 1048576) :
    Calls Try.prog 31 #[.slice A n c] w fun e w' => e = .returned (.int .i64 (csV zs)) ∧ Below w.heap.size w w' := by
  have hl := ha.lenI
  have C := implSmall14 A n c zs w ha hn
  cases hs : sm14 zs with
  | false =>
    have H := Lib.hid (csV_no hs)
    rw [hs] at C
    have CC := Lib.hid C
    clear C hs hl
    go_enter Try.func31, Try.ntmps31
    go_wp2_with fail
    refine CC.out.mono ?_
    rintro e w1 ⟨rfl, hb1⟩
    go_wp2_with fail
    go_ret
    exact ⟨ret_int H.out.symm, hb1⟩
  | true =>
    rw [hs] at C
    have CC := Lib.hid C
    have H := Lib.hid (csV_yes hl hs)
    have CA := Lib.hid (fun w' h => implAllAny (sm_out hl hs) A c zs w' h)
    clear C hl hs
    go_enter Try.func31, Try.ntmps31
    go_wp2_with fail
    refine CC.out.mono ?_
    rintro e w1 ⟨rfl, hb1⟩
    go_wp2_with fail
    refine (CA.out _ (ha.below hb1)).mono ?_
    rintro e w2 ⟨A2, n2, c2, vs, rfl, hn2, _, _, hb2⟩
    have HN := Lib.hid hn2
    clear hn2
    go_wp2_with fail
    go_ret
    exact ⟨ret_int (by rw [H.out, HN.out]), hb1.trans (hb2.mono hb1.size)⟩

end Go.Proofs.Ytchmmaokommnaaa
