/- Chapter 14: ApplyFabric and OrderOf. -/
import Derived.Test.YtchmmaokommnaaaC14g
import Derived.Test.YtchmmaokommnaaaFirst
namespace Go.Proofs.Ytchmmaokommnaaa
open Go.RowKit Go.Deep
set_option linter.unusedVariables false

theorem implFab_any {n : Nat} (hn : n = 1 ∨ n = 2 ∨ n = 4 ∨ n = 8) : FabI n (swc n) (fab n) := by
  rcases hn with rfl | rfl | rfl | rfl
  · exact implFab1
  · exact implFab2
  · exact implFab4
  · exact implFab8
theorem specFab_any {n : Nat} (hn : n = 1 ∨ n = 2 ∨ n = 4 ∨ n = 8) : FabS n (swc n) (fab n) := by
  rcases hn with rfl | rfl | rfl | rfl
  · exact specFab1
  · exact specFab2
  · exact specFab4
  · exact specFab8
theorem fab_len {n : Nat} (hn : n = 1 ∨ n = 2 ∨ n = 4 ∨ n = 8) (s l : List Int) : (fab n s l).length = n := by
  rcases hn with rfl | rfl | rfl | rfl
  · exact fab1_len s l
  · exact fab2_len s l
  · exact fabN_len 2 1 fab2 s l
  · exact fabN_len 4 6 fab4 s l
theorem set_out {x : Int} {s : List Int} (h : setV x s = true) : ∃ n : Nat, x = n ∧ (n = 1 ∨ n = 2 ∨ n = 4 ∨ n = 8) ∧ s.length = swc n ∧ Bits s (swc n) := by
  rw [setV, Bool.and_eq_true, decide_eq_true_eq] at h
  obtain ⟨hp, hr⟩ := h
  have key : ∀ n : Nat, (n = 1 ∨ n = 2 ∨ n = 4 ∨ n = 8) → bitRow s.length s (swN n) = true → s.length = swc n ∧ Bits s (swc n) := by
    intro n hn h
    rw [bitRow, Bool.and_eq_true, decide_eq_true_eq] at h
    have e : s.length = swc n := by unfold swc; rw [← h.1]; rfl
    exact ⟨e, by rw [← e]; exact bits_of h.2⟩
  rcases hp with rfl | rfl | rfl | rfl
  · exact ⟨1, rfl, by omega, key 1 (by omega) hr⟩
  · exact ⟨2, rfl, by omega, key 2 (by omega) hr⟩
  · exact ⟨4, rfl, by omega, key 4 (by omega) hr⟩
  · exact ⟨8, rfl, by omega, key 8 (by omega) hr⟩
def appB (x : Int) (s l : List Int) : Bool := setV x s && decide ((l.length : Int) = x)
def appV (x : Int) (s l : List Int) : List Int := if appB x s l = true then fab x.toNat s l else []
theorem appV_no {x : Int} {s l : List Int} (h : appB x s l = false) : appV x s l = [] := by rw [appV, h]; rfl
theorem appV_yes {n : Nat} {s l : List Int} (h : appB n s l = true) : appV n s l = fab n s l := by rw [appV, h, Int.toNat_natCast]; rfl
theorem appV_le (x : Int) (s l : List Int) : (appV x s l).length ≤ 1048576 := by
  cases h : appB x s l with
  | false => rw [appV_no h]; simp
  | true =>
    have h' := h
    rw [appB, Bool.and_eq_true] at h'
    obtain ⟨n, rfl, hn, _, _⟩ := set_out h'.1
    rw [appV_yes h, fab_len hn]
    omega
def ofV (x : Int) (s : List Int) : List Int := if setV x s = true then fab x.toNat s (marks 0 x.toNat) else []
theorem ofV_no {x : Int} {s : List Int} (h : setV x s = false) : ofV x s = [] := by rw [ofV, h]; rfl
theorem ofV_yes {n : Nat} {s : List Int} (h : setV n s = true) : ofV n s = fab n s (marks 0 n) := by rw [ofV, h, Int.toNat_natCast]; rfl
theorem ofV_le (x : Int) (s : List Int) : (ofV x s).length ≤ 1048576 := by
  cases h : setV x s with
  | false => rw [ofV_no h]; simp
  | true =>
    obtain ⟨n, rfl, hn, _, _⟩ := set_out h
    rw [ofV_yes h, fab_len hn]
    omega

set_option maxHeartbeats 1000000 in
theorem specApply (x : Int) (S : Option Addr) (m d : Nat) (s : List Int) (A : Option Addr) (n c : Nat) (l : List Int) (w : World) (hs : RdI w S m s) (hm : m ≤ 1048576) (hcs : m ≤ d ∧ d ≤ maxLen) (hl : RdI w A n l) (hn : n ≤ 1048576) (hcl : n ≤ c ∧ c ≤ maxLen) :
    Calls Try.prog 24 #[.int .i64 x, .slice S m d, .slice A n c] w fun e w' => ∃ A' n' c', e = .returned (.tuple #[.slice A' n' c', .bool (appB x s l)]) ∧ OwnI w' w.heap.size 3 A' n' c' (appV x s l) ∧ Below w.heap.size w w' := by
  have C := specSettings x S m d s w hs hm
  cases hg : setV x s with
  | false =>
    have HB := Lib.hid (show appB x s l = false by rw [appB, hg]; rfl)
    have H := Lib.hid (appV_no HB.out)
    rw [hg] at C
    have CC := Lib.hid C
    clear C hg
    go_enter Try.func24, Try.ntmps24
    go_wp2_with fail
    refine CC.out.mono ?_
    rintro e w1 ⟨rfl, hb1⟩
    go_wp2_with fail
    go_ret2
    exact ⟨_, _, _, ret_sb HB.out.symm, by rw [H.out]; exact Own.nil_ _ _ _, hb1⟩
  | true =>
    obtain ⟨k, rfl, hk, hsl, hbits⟩ := set_out hg
    have hm2 : m = swc k := by rw [← hs.lenI]; exact hsl
    subst hm2
    rw [hg] at C
    have CC := Lib.hid C
    have hk8 : k ≤ 8 := by omega
    by_cases hnk : n = k
    · subst hnk
      have HB := Lib.hid (show appB n s l = true by rw [appB, hg, hl.lenI]; simp)
      have H := Lib.hid (appV_yes HB.out)
      have CF := Lib.hid (fun w' (h1 : RdI w' S (swc n) s) (h2 : RdI w' A n l) => specFab_any hk S d s A c l w' h1 hcs.1 hcs.2 hbits h2)
      clear C hg hsl hk
      go_enter Try.func24, Try.ntmps24
      go_wp2_with fail
      refine CC.out.mono ?_
      rintro e w1 ⟨rfl, hb1⟩
      go_wp2_with fail
      refine (CF.out _ (hs.below hb1) (hl.below hb1)).mono ?_
      rintro e w2 ⟨A2, c2, rfl, o2, hb2⟩
      go_wp2_with fail
      go_ret2
      exact ⟨_, _, _, ret_sb HB.out.symm, by rw [H.out]; exact o2.more hb1.size, hb1.trans (hb2.mono hb1.size)⟩
    · have HB := Lib.hid (show appB k s l = false by rw [appB, hg, hl.lenI, decide_eq_false (by omega)]; rfl)
      have H := Lib.hid (appV_no HB.out)
      have e0 : ((n : Int) != (k : Int)) = true := by simp; omega
      clear C hg hsl hk hnk
      go_enter Try.func24, Try.ntmps24
      go_wp2_with fail
      refine CC.out.mono ?_
      rintro e w1 ⟨rfl, hb1⟩
      go_wp2_with fail
      go_ret2
      exact ⟨_, _, _, ret_sb HB.out.symm, by rw [H.out]; exact Own.nil_ _ _ _, hb1⟩

set_option maxHeartbeats 1000000 in
theorem implApply (x : Int) (S : Option Addr) (m d : Nat) (s : List Int) (A : Option Addr) (n c : Nat) (l : List Int) (w : World) (hs : RdI w S m s) (hm : m ≤ 1048576) (hcs : m ≤ d ∧ d ≤ maxLen) (hl : RdI w A n l) (hn : n ≤ 1048576) (hcl : n ≤ c ∧ c ≤ maxLen) :
    Calls Try.prog 25 #[.int .i64 x, .slice S m d, .slice A n c] w fun e w' => ∃ A' n' c', e = .returned (.tuple #[.slice A' n' c', .bool (appB x s l)]) ∧ OwnI w' w.heap.size 3 A' n' c' (appV x s l) ∧ Below w.heap.size w w' := by
  have C := implSettings x S m d s w hs hm
  cases hg : setV x s with
  | false =>
    have HB := Lib.hid (show appB x s l = false by rw [appB, hg]; rfl)
    have H := Lib.hid (appV_no HB.out)
    rw [hg] at C
    have CC := Lib.hid C
    clear C hg
    go_enter Try.func25, Try.ntmps25
    go_wp2_with fail
    refine CC.out.mono ?_
    rintro e w1 ⟨rfl, hb1⟩
    go_wp2_with fail
    go_ret2
    exact ⟨_, _, _, ret_sb HB.out.symm, by rw [H.out]; exact Own.nil_ _ _ _, hb1⟩
  | true =>
    obtain ⟨k, rfl, hk, hsl, hbits⟩ := set_out hg
    have hm2 : m = swc k := by rw [← hs.lenI]; exact hsl
    subst hm2
    rw [hg] at C
    have CC := Lib.hid C
    have hk8 : k ≤ 8 := by omega
    by_cases hnk : n = k
    · subst hnk
      have HB := Lib.hid (show appB n s l = true by rw [appB, hg, hl.lenI]; simp)
      have H := Lib.hid (appV_yes HB.out)
      have CF := Lib.hid (fun w' (h1 : RdI w' S (swc n) s) (h2 : RdI w' A n l) => implFab_any hk S d s A c l w' h1 hcs.1 hcs.2 hbits h2)
      clear C hg hsl hk
      go_enter Try.func25, Try.ntmps25
      go_wp2_with fail
      refine CC.out.mono ?_
      rintro e w1 ⟨rfl, hb1⟩
      go_wp2_with fail
      refine (CF.out _ (hs.below hb1) (hl.below hb1)).mono ?_
      rintro e w2 ⟨A2, c2, rfl, o2, hb2⟩
      go_wp2_with fail
      go_ret2
      exact ⟨_, _, _, ret_sb HB.out.symm, by rw [H.out]; exact o2.more hb1.size, hb1.trans (hb2.mono hb1.size)⟩
    · have HB := Lib.hid (show appB k s l = false by rw [appB, hg, hl.lenI, decide_eq_false (by omega)]; rfl)
      have H := Lib.hid (appV_no HB.out)
      have e0 : ((n : Int) != (k : Int)) = true := by simp; omega
      clear C hg hsl hk hnk
      go_enter Try.func25, Try.ntmps25
      go_wp2_with fail
      refine CC.out.mono ?_
      rintro e w1 ⟨rfl, hb1⟩
      go_wp2_with fail
      go_ret2
      exact ⟨_, _, _, ret_sb HB.out.symm, by rw [H.out]; exact Own.nil_ _ _ _, hb1⟩

set_option maxHeartbeats 1000000 in
theorem specOrderOf (x : Int) (S : Option Addr) (m d : Nat) (s : List Int) (w : World) (hs : RdI w S m s) (hm : m ≤ 1048576) (hcs : m ≤ d ∧ d ≤ maxLen) :
    Calls Try.prog 26 #[.int .i64 x, .slice S m d] w fun e w' => ∃ A' n' c', e = .returned (.slice A' n' c') ∧ OwnI w' w.heap.size 3 A' n' c' (ofV x s) ∧ Below w.heap.size w w' := by
  have C := specSettings x S m d s w hs hm
  cases hg : setV x s with
  | false =>
    have H := Lib.hid (ofV_no hg)
    rw [hg] at C
    have CC := Lib.hid C
    clear C hg
    go_enter Try.func26, Try.ntmps26
    go_wp2_with fail
    refine CC.out.mono ?_
    rintro e w1 ⟨rfl, hb1⟩
    go_wp2_with fail
    go_ret
    exact ⟨_, _, _, rfl, by rw [H.out]; exact Own.nil_ _ _ _, hb1⟩
  | true =>
    obtain ⟨n, rfl, hk, hsl, hbits⟩ := set_out hg
    have hm2 : m = swc n := by rw [← hs.lenI]; exact hsl
    subst hm2
    rw [hg] at C
    have CC := Lib.hid C
    have hk8 : n ≤ 8 := by omega
    have H := Lib.hid (ofV_yes hg)
    have CF := Lib.hid (fun A c w' (h1 : RdI w' S (swc n) s) (h2 : RdI w' A n (marks 0 n)) => specFab_any hk S d s A c _ w' h1 hcs.1 hcs.2 hbits h2)
    have C1 := Lib.hid (fun w' => specFirst n w' (by omega))
    clear C hg hsl hk
    go_enter Try.func26, Try.ntmps26
    go_wp2_with fail
    refine CC.out.mono ?_
    rintro e w1 ⟨rfl, hb1⟩
    have hs1 := hb1.size
    go_wp2_with fail
    refine (C1.out _).mono ?_
    rintro e w2 ⟨A1, c1, rfl, o1, hb2⟩
    have hb12 := hb1.trans (hb2.mono hs1)
    go_wp2_with fail
    refine (CF.out _ _ _ (hs.below hb12) o1.rd).mono ?_
    rintro e w3 ⟨A2, c2, rfl, o2, hb3⟩
    go_wp2_with fail
    go_ret
    exact ⟨_, _, _, rfl, by rw [H.out]; exact o2.more hb12.size, hb12.trans (hb3.mono hb12.size)⟩

set_option maxHeartbeats 1000000 in
theorem implOrderOf (x : Int) (S : Option Addr) (m d : Nat) (s : List Int) (w : World) (hs : RdI w S m s) (hm : m ≤ 1048576) (hcs : m ≤ d ∧ d ≤ maxLen) :
    Calls Try.prog 27 #[.int .i64 x, .slice S m d] w fun e w' => ∃ A' n' c', e = .returned (.slice A' n' c') ∧ OwnI w' w.heap.size 3 A' n' c' (ofV x s) ∧ Below w.heap.size w w' := by
  have C := implSettings x S m d s w hs hm
  cases hg : setV x s with
  | false =>
    have H := Lib.hid (ofV_no hg)
    rw [hg] at C
    have CC := Lib.hid C
    clear C hg
    go_enter Try.func27, Try.ntmps27
    go_wp2_with fail
    refine CC.out.mono ?_
    rintro e w1 ⟨rfl, hb1⟩
    go_wp2_with fail
    go_ret
    exact ⟨_, _, _, rfl, by rw [H.out]; exact Own.nil_ _ _ _, hb1⟩
  | true =>
    obtain ⟨n, rfl, hk, hsl, hbits⟩ := set_out hg
    have hm2 : m = swc n := by rw [← hs.lenI]; exact hsl
    subst hm2
    rw [hg] at C
    have CC := Lib.hid C
    have hk8 : n ≤ 8 := by omega
    have H := Lib.hid (ofV_yes hg)
    have CF := Lib.hid (fun A c w' (h1 : RdI w' S (swc n) s) (h2 : RdI w' A n (marks 0 n)) => implFab_any hk S d s A c _ w' h1 hcs.1 hcs.2 hbits h2)
    have C1 := Lib.hid (fun w' => implFirst n w' (by omega))
    clear C hg hsl hk
    go_enter Try.func27, Try.ntmps27
    go_wp2_with fail
    refine CC.out.mono ?_
    rintro e w1 ⟨rfl, hb1⟩
    have hs1 := hb1.size
    go_wp2_with fail
    refine (C1.out _).mono ?_
    rintro e w2 ⟨A1, c1, rfl, o1, hb2⟩
    have hb12 := hb1.trans (hb2.mono hs1)
    go_wp2_with fail
    refine (CF.out _ _ _ (hs.below hb12) o1.rd).mono ?_
    rintro e w3 ⟨A2, c2, rfl, o2, hb3⟩
    go_wp2_with fail
    go_ret
    exact ⟨_, _, _, rfl, by rw [H.out]; exact o2.more hb12.size, hb12.trans (hb3.mono hb12.size)⟩

end Go.Proofs.Ytchmmaokommnaaa
