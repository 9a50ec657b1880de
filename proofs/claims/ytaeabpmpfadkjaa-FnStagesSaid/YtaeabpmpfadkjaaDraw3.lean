/- Draws of orders. -/
import Derived.Test.YtaeabpmpfadkjaaGrow
import Derived.Test.YtaeabpmpfadkjaaOrd
namespace Go.Proofs.Ytaeabpmpfadkjaa
open Go.RowKit Go.Deep
set_option linter.unusedVariables false

theorem rdh {w : World} {A : Option Addr} {n p : Nat} {zs : List Int} (h : RdI w A n zs) (hp : p ≤ n) : RdI w A p (zs.take p) := by
  have hl := h.lenI
  refine ⟨by simp; omega, fun hm => ?_⟩
  obtain ⟨ad, had, hb, hcell⟩ := h.2 (by omega)
  refine ⟨ad, had, hb, fun j u hu => hcell j u ?_⟩
  rw [List.map_take, List.getElem?_take] at hu
  split at hu
  · exact hu
  · cases hu
theorem rdt {w : World} {a : Addr} {n p : Nat} {zs : List Int} (h : RdI w (some a) n zs) (hp : p ≤ n) : RdI w (some (a.add p)) (n - p) (zs.drop p) := by
  have hl := h.lenI
  refine ⟨by simp; omega, fun hm => ?_⟩
  obtain ⟨ad, had, hb, hcell⟩ := h.2 (by omega)
  injection had with had
  subst had
  refine ⟨_, rfl, by rw [block_of_add]; exact hb, fun j u hu => ?_⟩
  rw [add_of_add]
  apply hcell
  rw [List.map_drop, List.getElem?_drop] at hu
  exact hu
theorem rdt_end {w : World} {A : Option Addr} {n p : Nat} {zs : List Int} (h : RdI w A n zs) (hp : n = p) : RdI w A (n - p) (zs.drop p) := by
  have hl := h.lenI
  exact ⟨by simp; omega, fun hm => by omega⟩

/-- Different numbers below n. -/
def Diff (n : Nat) (zs : List Int) : Prop := zs.Nodup ∧ ∀ z ∈ zs, 0 ≤ z ∧ z < (n : Int)
theorem diff_nil : Diff 0 [] := ⟨List.nodup_nil, fun z h => by cases h⟩
theorem diff_put {zs : List Int} {i k : Nat} (h : Diff i zs) : Diff (i + 1) (zs.take k ++ [(i : Int)] ++ zs.drop k) := by
  have hp : (zs.take k ++ [(i : Int)] ++ zs.drop k).Perm ((i : Int) :: zs) := by
    have h : (zs.take k ++ [(i : Int)] ++ zs.drop k).Perm ((i : Int) :: (zs.take k ++ zs.drop k)) := by
      rw [List.append_assoc]
      exact List.perm_middle
    rw [List.take_append_drop] at h
    exact h
  refine ⟨hp.nodup_iff.2 (List.nodup_cons.2 ⟨fun hm => ?_, h.1⟩), fun z hz => ?_⟩
  · have := (h.2 _ hm).2
    omega
  · rcases List.mem_cons.1 (hp.mem_iff.1 hz) with rfl | hz
    · omega
    · have := h.2 z hz
      omega
theorem diff_ord {zs : List Int} {n : Nat} (hl : zs.length = n) (h : Diff n zs) : isOrd zs = true := by
  have hb : ∀ k, k < n → ∃ z : Nat, nth zs k = z ∧ z < n := fun k hk => by
    have := h.2 _ (nth_mem (zs := zs) (k := k) (by omega))
    exact ⟨(nth zs k).toNat, by omega, by omega⟩
  have : ∀ m, m ≤ n → ordTo zs m = true := by
    intro m
    induction m with
    | zero => intro _; unfold ordTo; rfl
    | succ m ih =>
      intro hm
      obtain ⟨z, hz, hzn⟩ := hb m (by omega)
      refine ord_step (ih (by omega)) hz (by omega) ?_
      unfold inPfx
      rw [decide_eq_false_iff_not]
      intro hmem
      obtain ⟨i, hi, e⟩ := List.getElem_of_mem hmem
      rw [List.length_take] at hi
      rw [List.getElem_take] at e
      have h2 := (List.pairwise_iff_getElem.1 h.1) i m (by omega) (by omega) (by omega)
      rw [nth_eq (show m < zs.length by omega)] at hz
      exact h2 (e.trans hz.symm)
  unfold isOrd
  rw [hl]
  exact this n (Nat.le_refl _)
theorem ins_len {zs : List Int} {i k : Nat} {x : Int} (hl : zs.length = i) (hk : k ≤ i) : (zs.take k ++ [x] ++ zs.drop k).length = i + 1 := by
  simp; omega

set_option maxHeartbeats 4000000 in
theorem specOrder02 (g n : Nat) (w : World) (hc : Cur w g) (hn : n ≤ 100) : Calls Try.prog 77 #[.pointer (some ⟨g, 0, none⟩), .int .i64 n] w fun e w' => ∃ A c zs, e = .returned (.slice A n c) ∧ OwnI w' w.heap.size 3 A n c zs ∧ Diff n zs ∧ Cur w' g ∧ w.grownBy w' (some g) := by
  have hgw := hc.lt
  obtain ⟨B, hB⟩ : ∃ B, w.heap.size = B := ⟨_, rfl⟩
  have HB := Lib.hid hB
  have HC0 := Lib.hid (hc.below (below_alloc w (.cells #[] 3)))
  have HO0 := Lib.hid (show OwnI (w.alloc (.cells #[] 3)) B 3 (some ⟨B, 0, none⟩) 0 0 [] from hB ▸ own_empty w _)
  have HG0 := Lib.hid (grown_alloc w g (.cells #[] 3))
  rw [hB] at hgw ⊢
  clear hB hc
  go_enter Try.func77, Try.ntmps77
  go_wp2_with fail
  rw [HB.out]
  go_loopw [5, 6] (fun lv iv wr => ∃ k : Nat, ∃ ad c zs, lv = .slice (some ad) k c ∧ iv = .int .i64 k ∧ k ≤ n ∧ OwnI wr B 3 (some ad) k c zs ∧ Hid (Diff k zs) ∧ Cur wr g ∧ w.grownBy wr (some g)) (fun _ iv _ => n - (intOf iv).toNat)
  case atStart => exact ⟨0, _, _, _, rfl, rfl, Nat.zero_le _, HO0.out, Lib.hid diff_nil, HC0.out, HG0.out⟩
  case round =>
    obtain ⟨k, ad, c, zs, rfl, rfl, hk, hown, HD, hc, hg⟩ := hrel
    by_cases hlt : k < n
    · go_wp2_with fail
      refine (show Calls Try.prog 69 #[.pointer (some ⟨g, 0, none⟩), .int .i64 ((k : Int) + 1)] wr _ from by rw [show ((k : Int) + 1) = ((k + 1 : Nat) : Int) by omega]; exact specBelow g (k + 1) wr hc (by omega) (by omega)).mono ?_
      rintro e w1 ⟨t, ht0, rfl, hc1, hg1⟩
      have ht : t ≤ k := by omega
      have hown1 := own_cur hown hg1 hgw
      have hgg1 := hg.trans hg1
      have hsz1 : B ≤ w1.heap.size := by have := hgg1.size; rw [HB.out] at this; exact this
      have HC1 := Lib.hid hc1
      have HG1 := Lib.hid hgg1
      clear hc hown hg hg1 hc1 hgg1
      have hc2 := hown1.cap.2
      have hc1 := hown1.cap.1
      have HL := Lib.hid hown1.lenI
      unfold maxLen at hc2
      have r1 := rdh hown1.rd ht
      go_wp2_with (at_builtin; refine wpL_append _ rfl _ _ _ rfl w1.heap.size 3 (.int .i64 0) 8 Try.underlying24 intInfo rfl _ 0 _ [] rfl (own_empty _ _) (some ad) t c ((zs.take t).map (Value.int .i64)) rfl (r1.alloc _) (ints_one _) (by unfold maxLen; omega) (by omega) (by simp) ?_)
      intro A2 c2 w2 ho2 hg2 hat2
      have hb2 : Below w1.heap.size w1 w2 := own_below (own_empty w1 3) (below_alloc w1 _) (by simp) hg2
      have hs2 := hb2.size
      try simp only [Nat.zero_add, List.nil_append] at ho2
      go_wp2_with (at_builtin; refine wpL_append1 _ rfl _ _ _ rfl w1.heap.size 3 (.int .i64 0) 8 Try.underlying24 intInfo rfl _ t _ _ rfl ho2 _ rfl rfl (by unfold maxLen; omega) (by omega) hs2 ?_)
      intro A3 c3 w3 ho3 hg3 hat3
      have hb3 := own_below ho2 hb2 hs2 hg3
      have hs3 := hb3.size
      have ho3' := hown1.below hb3
      by_cases hct : c = t
      · have r3 := rdt_end (p := t) ho3'.rd (by omega)
        go_wp2_with (at_builtin; refine wpL_append _ rfl _ _ _ rfl w1.heap.size 3 (.int .i64 0) 8 Try.underlying24 intInfo rfl _ _ _ _ rfl ho3 (some ad) (k - t) _ ((zs.drop t).map (Value.int .i64)) rfl r3 (ints_one _) (by unfold maxLen; omega) (by omega) hs3 ?_)
        intro A4 c4 w4 ho4 hg4 hat4
        have hb4 := own_below ho3 hb3 hs3 hg4
        rw [show t + 1 + (k - t) = k + 1 by omega] at ho4 ⊢
        have hsome : ∃ ad4, A4 = some ad4 := by
          obtain ⟨g', u, hA, _⟩ := ho4.at_ (show 0 < k + 1 by omega)
          exact ⟨_, hA⟩
        obtain ⟨ad4, rfl⟩ := hsome
        have HC4 := Lib.hid (HC1.out.below hb4)
        have HG4 := Lib.hid (grown_below HG1.out hb4)
        go_wp2_with fail
        go_roundw
        case rel => exact ⟨k + 1, ad4, c4, zs.take t ++ [(k : Int)] ++ zs.drop t, rfl, by go_num, by omega, by rw [OwnI]; simpa using ho4.more hsz1, Lib.hid (diff_put HD.out), HC4.out, HG4.out⟩
        case measure => (simp [intOf] <;> omega)
      · have r3 := rdt ho3'.rd ht
        go_wp2_with (at_builtin; refine wpL_append _ rfl _ _ _ rfl w1.heap.size 3 (.int .i64 0) 8 Try.underlying24 intInfo rfl _ _ _ _ rfl ho3 (some (ad.add t)) (k - t) _ ((zs.drop t).map (Value.int .i64)) rfl r3 (ints_one _) (by unfold maxLen; omega) (by omega) hs3 ?_)
        intro A4 c4 w4 ho4 hg4 hat4
        have hb4 := own_below ho3 hb3 hs3 hg4
        rw [show t + 1 + (k - t) = k + 1 by omega] at ho4 ⊢
        have hsome : ∃ ad4, A4 = some ad4 := by
          obtain ⟨g', u, hA, _⟩ := ho4.at_ (show 0 < k + 1 by omega)
          exact ⟨_, hA⟩
        obtain ⟨ad4, rfl⟩ := hsome
        have HC4 := Lib.hid (HC1.out.below hb4)
        have HG4 := Lib.hid (grown_below HG1.out hb4)
        go_wp2_with fail
        go_roundw
        case rel => exact ⟨k + 1, ad4, c4, zs.take t ++ [(k : Int)] ++ zs.drop t, rfl, by go_num, by omega, by rw [OwnI]; simpa using ho4.more hsz1, Lib.hid (diff_put HD.out), HC4.out, HG4.out⟩
        case measure => (simp [intOf] <;> omega)
    · obtain rfl : k = n := by omega
      go_wp2_with fail
      go_ret
      exact ⟨some ad, c, zs, rfl, hown, HD.out, hc, hg⟩
end Go.Proofs.Ytaeabpmpfadkjaa
