/- Chapter 12: impl.resultSets. -/
import Derived.Test.YtobdkfhmmpigiaaGreatC12t2
namespace Go.Proofs.YtobdkfhmmpigiaaGreat
open Go.RowKit Go.Deep
set_option linter.unusedVariables false

theorem allP_mem : ∀ n : Nat, n < 5 → ((allP n 0).all fun p => decide (p.1 < n ∧ p.2 < n)) = true := by decide +kernel
/-- What holds of the first set and is kept by comparators holds of all that is seen. -/
theorem run_all (Q : List Int → Prop) (n : Nat) (hst : ∀ p q x, p < n → q < n → Q x → Q (stI p q x)) (hn : n ≤ 4) : ∀ K zss set out, Q set → (∀ x ∈ out, Q x) → ∀ x ∈ (runL n seeS K zss set out).1, Q x := by
  intro K
  induction K with
  | zero =>
    intro zss set out h1 h2 x hx
    rw [runL_zero] at hx
    unfold seeS at hx
    simp only at hx
    split at hx
    · exact h2 x hx
    · rcases List.mem_append.1 hx with hx | hx
      · exact h2 x hx
      · simp at hx; subst hx; exact h1
  | succ K ih =>
    intro zss set out h1 h2
    rw [runL_succ]
    have hP : ∀ p ∈ allP n 0, p.1 < n ∧ p.2 < n := fun p hp => of_decide_eq_true (List.all_eq_true.1 (allP_mem n (by omega)) p hp)
    generalize allP n 0 = l at hP
    induction l generalizing out with
    | nil => rw [goP_nil]; exact h2
    | cons p l il =>
      have hp := hP p (by simp)
      have h3 := ih (zss ++ [pr p.1 p.2]) (stI p.1 p.2 set) out (hst _ _ _ hp.1 hp.2 h1) h2
      cases hb : (runL n seeS K (zss ++ [pr p.1 p.2]) (stI p.1 p.2 set) out).2 with
      | true => rw [goP_on (f := fun p s => runL n seeS K (zss ++ [pr p.1 p.2]) (stI p.1 p.2 set) s) hb]; exact h3
      | false => rw [goP_off (f := fun p s => runL n seeS K (zss ++ [pr p.1 p.2]) (stI p.1 p.2 set) s) hb]; exact il _ h3 (fun q hq => hP q (by simp [hq]))
/-- The different results of the lists of K comparators, in the order in which they come. -/
def outI (n K : Nat) : List (List Int) := (runL n seeS K [] (marks 0 (2 ^ n)) []).1
theorem good_marks {n : Nat} (h : n ≤ 4) : Good (2 ^ n) (marks 0 (2 ^ n)) := by
  have h16 := pow16 h
  refine ⟨fun k hk => ⟨k, by rw [marks_nth 0 _ k hk]; omega, by omega⟩, marks_len _ _, h16⟩
theorem out_good {n K : Nat} (h : n ≤ 4) : ∀ x ∈ outI n K, Good x.length x :=
  run_all (fun x => Good x.length x) n (fun p q x hp hq hx => good_st hx (by omega) (by omega)) h K [] _ [] (by rw [marks_len]; exact good_marks h) (by simp)
theorem nil_all2 (R : Value → List Int → Prop) : All2 R [] [] := trivial

set_option maxHeartbeats 4000000 in
theorem implResultSets (n K : Nat) (w : World) (hn : n ≤ 4) (hK : K ≤ 5) : Calls Tryz.prog 37 #[.int .i64 n, .int .i64 K] w fun e w' => ∃ A m c L, e = .returned (.slice A m c) ∧ OwnS w' w.heap.size A m c L ∧ L.Perm (outI n K) ∧ (∀ i j, i < j → j < m → ¬ cmpV (row L j) (row L i) < 0) ∧ m ≤ 65536 ∧ Below w.heap.size w w' := by
  obtain ⟨b, hb⟩ : ∃ b, w.heap.size = b := ⟨_, rfl⟩
  have HB := Lib.hid hb
  obtain ⟨W1, hW1⟩ : ∃ W, w.alloc (.cells #[] 30) = W := ⟨_, rfl⟩
  have z1 : W1.heap.size = b + 1 := by rw [← hW1]; simp [hb]
  obtain ⟨W2, hW2⟩ : ∃ W, W1.alloc (.cells #[.slice (some ⟨b, 0, none⟩) 0 0] 25) = W := ⟨_, rfl⟩
  have z2 : W2.heap.size = b + 2 := by rw [← hW2]; simp [z1]
  obtain ⟨W3, hW3⟩ : ∃ W, W2.alloc (.map #[] 0) = W := ⟨_, rfl⟩
  have z3 : W3.heap.size = b + 3 := by rw [← hW3]; simp [z2]
  obtain ⟨W4, hW4⟩ : ∃ W, W3.alloc (.cells #[.map (some (b + 2))] 63) = W := ⟨_, rfl⟩
  have z4 : W4.heap.size = b + 4 := by rw [← hW4]; simp [z3]
  have b1 : Below b w W1 := hW1 ▸ (hb ▸ below_alloc w _)
  have b2 : Below (b + 1) W1 W2 := by have h := below_alloc W1 (.cells #[.slice (some ⟨b, 0, none⟩) 0 0] 25); rw [z1, hW2] at h; exact h
  have b3 : Below (b + 2) W2 W3 := by have h := below_alloc W2 (.map #[] 0); rw [z2, hW3] at h; exact h
  have b4 : Below (b + 3) W3 W4 := by have h := below_alloc W3 (.cells #[.map (some (b + 2))] 63); rw [z3, hW4] at h; exact h
  have bw : Below b w W4 := ((b1.trans (b2.mono (by omega))).trans (b3.mono (by omega))).trans (b4.mono (by omega))
  have hST : StS b (b + 1) (b + 3) (b + 2) [] (fun g => g = b + 1 ∨ g = b + 2 ∨ blk (some (⟨b, 0, none⟩ : Addr)) = some g) W4 := by
    refine ⟨some ⟨b, 0, none⟩, 0, 0, [], ⟨?_, ?_, ?_, rfl, ⟨b, rfl⟩, ?_, nil_all2 _, by omega, by omega, by omega, fun g hg => ?_, rfl, by simp, by simp⟩⟩
    · rw [b4.block _ (by omega), b3.block _ (by omega)]
      have h := heap_alloc_new W1 (.cells #[.slice (some ⟨b, 0, none⟩) 0 0] 25)
      rw [z1, hW2] at h
      exact h
    · have h := heap_alloc_new W3 (.cells #[.map (some (b + 2))] 63)
      rw [z3, hW4] at h
      exact h
    · have h := MapB.new W2
      rw [z2, hW3] at h
      exact h.keep (b4.block _ (by omega))
    · have h := own_empty w 30
      rw [hb, hW1] at h
      exact h.keepAt fun g hg => by
        simp [blk] at hg
        subst hg
        rw [b4.block _ (by omega), b3.block _ (by omega), b2.block _ (by omega)]
    · simp [blk] at hg; omega
  have HST := Lib.hid hST
  have HBW := Lib.hid bw
  have CM := Lib.hid (implMasks n W4 hn)
  have eg : ∀ args w, (callFunc 53 args).run Tryz.prog w = .ok (.enter 53 args) w := enters_of Tryz.func53 (by kernel_rfl) rfl
  have CL := Lib.hid (implLists (σ := List (List Int)) n b hn (StS b (b + 1) (b + 3) (b + 2)) seeS 53 #[.pointer (some ⟨b + 3, 0, none⟩), .pointer (some ⟨b + 1, 0, none⟩)] (fun s D w h => h.lt) (fun s D w w' h hb => h.below hb) eg
    (fun s D w A l c zss B m d set h1 h2 h3 h4 h5 h6 h7 => by
      have h := implSee b (b + 1) (b + 3) (b + 2) s D w A l c zss B m d set h1 h2 h3 h4 h6
      simpa using h) K (by omega))
  have hmm := @run_makeMap Tryz.prog
  have HW1 := Lib.hid hW1
  have HW2 := Lib.hid hW2
  have HW3 := Lib.hid hW3
  have HW4 := Lib.hid hW4
  have hz4 := z4
  clear hW1 hW2 hW3 hW4 b1 b2 b3 b4 bw hST z1 z2 z3 z4 eg
  go_enter Tryz.func37, Tryz.ntmps37
  go_wp2_with fail
  rw [show b + 1 + 1 + 1 = b + 3 from rfl, show b + 1 + 1 = b + 2 from rfl, HW1.out, HW2.out, HW3.out, HW4.out]
  refine CM.out.mono ?_
  rintro e w5 ⟨A5, m5, c5, rfl, ho5, hb5⟩
  obtain rfl : 2 ^ n = m5 := by rw [← ho5.lenI, marks_len]
  have hs5 := hb5.size
  have HI5 := Lib.hid (HST.out.below hb5)
  have hbs : b ≤ w5.heap.size := by omega
  have HO5 := Lib.hid (ho5.more (show b ≤ W4.heap.size by omega))
  have HD5 := Lib.hid (show ∀ g, blk A5 = some g → ¬ (g = b + 1 ∨ g = b + 2 ∨ blk (some (⟨b, 0, none⟩ : Addr)) = some g) from fun g hg e => by
    have h1 := (ho5.blk_ g hg).1
    simp [blk] at e
    omega)
  have HB5 := Lib.hid (HBW.out.trans (hb5.mono (by omega)))
  obtain ⟨N, hN⟩ : ∃ N, 2 ^ n = N := ⟨_, rfl⟩
  have hGM := good_marks hn
  have hO := out_good (K := K) hn
  have hOI : outI n K = (runL n seeS K [] (marks 0 N) []).1 := by rw [← hN]; rfl
  have HOG := Lib.hid hO
  have HOI := Lib.hid hOI
  rw [hN] at HO5 hGM ⊢
  have HGM := Lib.hid hGM
  have CR := Lib.hid (CL.out [] _ w5 none 0 0 [] A5 N c5 (marks 0 N) HI5.out hbs HO5.out HD5.out (RdX.nil_ _ _ _) HGM.out (by omega))
  clear ho5 hb5 CM CL hN hGM hO hOI hb
  go_wp2_with fail
  refine CR.out.mono ?_
  rintro e w6 ⟨rfl, D6, hI6, hF6⟩
  rw [← HOI.out] at hI6
  obtain ⟨A6, m6, c6, vs, hS⟩ := hI6
  obtain ⟨g6, rfl⟩ := hS.ha
  have c1 : w6.cell? ⟨b + 1, 0, none⟩ = some (.slice (some ⟨g6, 0, none⟩) m6 c6) := cell_of_one hS.ho
  have HD6 := Lib.hid hS.hD
  have HB6 := Lib.hid (HB5.out.trans (hF6.to_below hbs (fun g hg => by simp [blk] at hg; omega)))
  have hm6 := hS.len_le
  have hg6 : g6 ≠ b + 1 := (hS.d4 g6 rfl).1
  have CF := Lib.hid (implSortF g6 m6 c6 b vs (outI n K) w6 hS.hv (hS.hr.mono fun v z k => k.keep fun g _ _ hd => ⟨rfl, fun e => hd (by rw [hS.hD]; exact .inr (.inr (by rw [e]; rfl)))⟩) hS.hl hm6 (fun j => by
    by_cases hj : j < (outI n K).length
    · have h1 := HOG.out (row (outI n K) j) (by
        have h2 := row_drop hj
        have : row (outI n K) j ∈ (outI n K).drop j := by rw [h2]; simp
        exact List.mem_of_mem_drop this)
      have := h1.2.2
      omega
    · unfold row
      rw [List.getD_eq_getElem?_getD, List.getElem?_eq_none (by omega)]
      simp))
  have HH6 := Lib.hid hS.ho
  have HL6 := Lib.hid hS.hl
  have HV6 := Lib.hid hS.hv.blk_
  clear hS hF6 CR
  go_wp2_with fail
  refine CF.out.mono ?_
  rintro e w7 ⟨rfl, vs', L, ho7, hr7, hp7, hs7, hg7⟩
  have c2 : w7.cell? ⟨b + 1, 0, none⟩ = some (.slice (some ⟨g6, 0, none⟩) m6 c6) := by
    rw [World.cell?_of_block (w := w6) (hg7.block (b + 1) (lt_heap HH6.out) (fun e => hg6 (by injection e with e; exact e.symm)))]
    exact c1
  have HB7 := Lib.hid (HB6.out.grown hg7 (by have := HB6.out.size; have := HB.out; omega) (fun g e => by injection e with e; rw [← e]; exact (HV6.out g6 rfl).1))
  clear c1
  go_wp2_with fail
  go_ret
  have HOS : OwnS w7 b (some ⟨g6, 0, none⟩) m6 c6 L := ⟨by rw [hp7.length_eq]; exact HL6.out, vs', ho7, hr7.mono fun v z k => k.keep fun g _ _ hd => ⟨rfl, fun e => by simp only [blk, Option.map_some, Option.some.injEq] at e; exact hd e.symm⟩⟩
  rw [← HB.out] at HOS
  exact ⟨some ⟨g6, 0, none⟩, m6, c6, rfl, L, HOS, hp7, hs7, hm6, by rw [HB.out]; exact HB7.out⟩
end Go.Proofs.YtobdkfhmmpigiaaGreat
