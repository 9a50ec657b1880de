/- Chapter 12: impl.renamedMasks, impl.fitsInto. -/
import Derived.Test.YtobdkfhmmpigiaaC12m
namespace Go.Proofs.Ytobdkfhmmpigiaa
open Go.RowKit Go.Deep
set_option linter.unusedVariables false

theorem box_cell (w : World) (v : Value) (t : TypeId) : (w.alloc (.cells #[v] t)).cell? ⟨w.heap.size, 0, none⟩ = some v := by
  have h := (rd_one (w := w) v t).2 (by omega)
  obtain ⟨ad, e, _, hc⟩ := h
  injection e with e
  subst e
  have := hc 0 v rfl
  rw [add0_] at this
  exact this
def renI (names : List Int) (n : Nat) (set : List Int) : List Int := imL (fun z => (renO names z.toNat n : Nat)) set

set_option maxHeartbeats 2000000 in
theorem implRenamed (m n : Nat) (A B : Option Addr) (c d : Nat) (names set : List Int) (w : World) (hb : RdI w B m set) (ha : RdI w A n names) (hS : MaskR 16 m set) (hP : MaskR 4 n names) (hn : n ≤ 4) (hm : m ≤ 1000) :
    Calls Try.prog 33 #[.slice B m d, .slice A n c] w fun e w' => ∃ g' m' c', e = .returned (.slice (some ⟨g', 0, none⟩) m' c') ∧ OwnI w' w.heap.size 3 (some ⟨g', 0, none⟩) m' c' (renI names n set) ∧ Below w.heap.size w w' := by
  have eg : ∀ args w, (callFunc 46 args).run Try.prog w = .ok (.enter 46 args) w := enters_of Try.func46 (by kernel_rfl) rfl
  have HC := Lib.hid (box_cell w (.slice A n c) 28)
  have CI := Lib.hid (implImages B m d set 46 #[.pointer (some ⟨w.heap.size, 0, none⟩)] (fun z => (renO names z.toNat n : Nat)) (w.alloc (.cells #[.slice A n c] 28)) (hb.alloc _) hm eg
    (fun wx hbx k hk => by
      obtain ⟨s, hs, hs16⟩ := hS k hk
      have h := implRenC s n ⟨w.heap.size, 0, none⟩ A c names wx hs16 hn ((hbx.cell (p := ⟨w.heap.size, 0, none⟩) (by simp)).trans HC.out) ((ha.alloc _).below hbx) hP
      rw [hs]
      simpa using h))
  have HB0 := Lib.hid (below_alloc w (.cells #[.slice A n c] 28))
  clear ha hb hS hP eg HC
  go_enter Try.func33, Try.ntmps33
  go_wp2_with fail
  refine CI.out.mono ?_
  rintro e w2 ⟨g', m', c', rfl, ho, hb2⟩
  go_wp2_with fail
  go_ret
  exact ⟨g', m', c', rfl, ho.more (by simp), HB0.out.trans (hb2.mono (by simp))⟩

def ordFB (n : Nat) : Bool := (List.range (ordR n n).length).all fun j => decide ((row (ordR n n) j).length = n) && (List.range n).all fun i => decide (0 ≤ nth (row (ordR n n) j) i ∧ nth (row (ordR n n) j) i < 4)
theorem ordFB_all : ∀ n : Nat, n < 5 → ordFB n = true := by decide +kernel
theorem ordF_facts {n : Nat} (hn : n ≤ 4) {j : Nat} (hj : j < (ordR n n).length) : (row (ordR n n) j).length = n ∧ MaskR 4 n (row (ordR n n) j) := by
  have h := List.all_eq_true.1 (ordFB_all n (by omega)) j (List.mem_range.2 hj)
  simp only [Bool.and_eq_true] at h
  refine ⟨of_decide_eq_true h.1, fun i hi => ?_⟩
  have := of_decide_eq_true (List.all_eq_true.1 h.2 i (List.mem_range.2 hi))
  exact ⟨(nth (row (ordR n n) j) i).toNat, by omega, by omega⟩
theorem renI_bd {names : List Int} {n : Nat} {set : List Int} (hP : MaskR 4 n names) : ∀ x ∈ renI names n set, 0 ≤ x ∧ x ≤ 1048576 := by
  intro x hx
  obtain ⟨z, _, rfl⟩ := imL_mem.1 hx
  have key : ∀ k, k ≤ n → renO names z.toNat k < 16 := by
    intro k
    induction k with
    | zero => intro _; rw [renO_zero]; omega
    | succ k ih =>
      intro hk
      obtain ⟨q, hq, hq4⟩ := hP k (by omega)
      cases hb : bitAt z.toNat k with
      | true => exact (by rw [renO_on hb hq rfl rfl]; exact (or_pow (ih (by omega)) hq4 rfl).1)
      | false => rw [renO_off hb rfl]; exact ih (by omega)
  have := key n (Nat.le_refl _)
  omega
/-- Does one of the orders bring a set into another one (the program's words)? -/
def fitI (n : Nat) (a b : List Int) : Bool := (ordR n n).any fun names => witI (renI names n a) b
theorem any_snoc {α : Type} {z : List α} {f : α → Bool} {k : Nat} {d : α} (h : k < z.length) : (z.take (k + 1)).any f = ((z.take k).any f || f (z.getD k d)) := by
  rw [List.take_succ_eq_append_getElem h, List.any_append]
  simp [List.getD, List.getElem?_eq_getElem h]
theorem any_on {α : Type} {z : List α} {f : α → Bool} {k : Nat} {d : α} (h : k < z.length) (h2 : f (z.getD k d) = true) : z.any f = true := by
  rw [List.any_eq_true]
  exact ⟨_, List.getElem_mem h, by rw [List.getD_eq_getElem?_getD, List.getElem?_eq_getElem h] at h2; exact h2⟩
theorem row_getD (z : List (List Int)) (k : Nat) : z.getD k [] = row z k := by unfold row; rfl
attribute [irreducible] renI

set_option maxHeartbeats 4000000 in
theorem implFits (n ma mb : Nat) (A B : Option Addr) (c d : Nat) (a b : List Int) (w : World) (ha : RdI w A ma a) (hb : RdI w B mb b) (hSa : MaskR 16 ma a) (hzb : ∀ x ∈ b, 0 ≤ x ∧ x ≤ 1048576) (h4 : n ≤ 4) (hma : ma ≤ 16) (hmb : mb ≤ 16) :
    Calls Try.prog 13 #[.int .i64 n, .slice A ma c, .slice B mb d] w fun e w' => e = .returned (.bool (fitI n a b)) ∧ Below w.heap.size w w' := by
  have HLA := Lib.hid ha.lenI
  have HA := Lib.hid ha
  have HB := Lib.hid hb
  have HSA := Lib.hid hSa
  have HZB := Lib.hid hzb
  have CO := Lib.hid (implOrders n w h4)
  clear ha hb hSa hzb
  go_enter Try.func13, Try.ntmps13
  go_wp2_with fail
  refine CO.out.mono ?_
  rintro e w1 ⟨A1, m1, c1, rfl, ho1, hb1⟩
  obtain ⟨L, hL⟩ : ∃ L, ordR n n = L := ⟨_, rfl⟩
  have HLL := Lib.hid hL
  rw [hL] at ho1
  have HR := Lib.hid ho1.rd
  have HLN := Lib.hid ho1.1
  have hm24 : m1 ≤ 24 := by rw [← ho1.1, ← hL]; exact (ordR_facts h4 (Nat.le_refl _)).1
  have HB1 := Lib.hid hb1
  have hs1 := hb1.size
  clear ho1 hb1 CO hL
  go_wp2_with fail
  go_loopw [12] (fun jv wr => ∃ j : Nat, jv = .int .i64 (j : Nat) ∧ j ≤ m1 ∧ Hid ((L.take j).any (fun names => witI (renI names n a) b) = false) ∧ Below w1.heap.size w1 wr) (fun jv _ => m1 - (intOf jv).toNat)
  case atStart => exact ⟨0, rfl, Nat.zero_le _, Lib.hid (by simp), Below.refl _ _⟩
  case round =>
    obtain ⟨j, rfl, hj, HJ, hbl⟩ := hrel
    have hsz := hbl.size
    have HBL := Lib.hid (HB1.out.trans (hbl.mono hs1))
    by_cases hlt : j < m1
    · obtain ⟨ad, BN, mN, dN, rfl, _, hcN, hBN, hmN, hdN⟩ := (HR.out.below hbl).2 j hlt
      have hjl : j < (ordR n n).length := by rw [HLL.out, HLN.out]; exact hlt
      obtain ⟨q1, q2⟩ := ordF_facts h4 hjl
      rw [HLL.out] at q1 q2
      obtain rfl : n = mN := by rw [← q1, hBN.lenI]
      have CR := Lib.hid (implRenamed ma n BN A dN c (row L j) a wr (HA.out.below HBL.out) hBN HSA.out q2 h4 (by omega))
      have HZN := Lib.hid (renI_bd (set := a) q2)
      have HS := Lib.hid (any_snoc (f := fun names => witI (renI names n a) b) (d := []) (show j < L.length by rw [HLN.out]; exact hlt))
      have HON := Lib.hid (fun h => any_on (f := fun names => witI (renI names n a) b) (d := []) (show j < L.length by rw [HLN.out]; exact hlt) h)
      rw [row_getD] at HS HON
      have HB2 := Lib.hid hbl
      clear hBN q1 q2 hbl hjl
      go_wp2_with fail
      refine CR.out.mono ?_
      rintro e w4 ⟨g4, m4, c4, rfl, o4, hb4⟩
      have HB4 := Lib.hid (HB2.out.trans (hb4.mono hsz))
      have HB5 := Lib.hid (HBL.out.trans (hb4.mono HBL.out.size))
      have CW := Lib.hid (implWithin (some ⟨g4, 0, none⟩) B m4 mb c4 d _ b w4 o4.rd (HB.out.below HB5.out) (by
        have h1 := o4.lenI
        have h2 := imL_len (fun z => (renO (row L j) z.toNat n : Nat)) a
        unfold renI at h1
        rw [HLA.out] at h2
        omega) (by omega) HZN.out HZB.out)
      clear o4 hb4 CR
      go_wp2_with fail
      refine CW.out.mono ?_
      rintro e w5 ⟨rfl, hb5⟩
      have HB6 := Lib.hid (HB4.out.trans (hb5.mono HB4.out.size))
      have HB7 := Lib.hid (HB5.out.trans (hb5.mono HB5.out.size))
      clear hb5 CW
      cases hv : witI (renI (row L j) n a) b with
      | true =>
        have HF := Lib.hid (show fitI n a b = true by unfold fitI; rw [HLL.out]; exact HON.out hv)
        clear hv
        go_wp2_with fail
        go_ret
        exact ⟨by rw [HF.out]; rfl, HB7.out⟩
      | false =>
        have HN := Lib.hid (show (L.take (j + 1)).any (fun names => witI (renI names n a) b) = false by rw [HS.out, HJ.out]; exact hv)
        clear hv
        go_wp2_with fail
        go_roundw
        case rel => exact ⟨j + 1, by go_num, by omega, HN, HB6.out⟩
        case measure => (simp [intOf] <;> omega)
    · obtain rfl : j = m1 := by omega
      have HF := Lib.hid (show fitI n a b = false by unfold fitI; rw [HLL.out]; have h := HJ.out; rw [List.take_of_length_le (by rw [HLN.out]; exact Nat.le_refl _)] at h; exact h)
      go_wp2_with fail
      go_ret
      exact ⟨by rw [HF.out]; rfl, HBL.out⟩
end Go.Proofs.Ytobdkfhmmpigiaa
