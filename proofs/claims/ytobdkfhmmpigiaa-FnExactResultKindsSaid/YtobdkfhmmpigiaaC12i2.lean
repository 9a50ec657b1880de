/- Chapter 12: spec.l04Next. -/
import Derived.Test.YtobdkfhmmpigiaaC12i1
namespace Go.Proofs.Ytobdkfhmmpigiaa
open Go.RowKit Go.Deep
set_option linter.unusedVariables false

/-- Where the falling end of a list begins. -/
def pivT (zs : List Int) : Nat → Nat
  | 0 => 0
  | i + 1 => if nth zs (i + 1) < nth zs i then pivT zs i else i + 1
def kT (zs : List Int) (b : Int) : Nat → Nat
  | 0 => 0
  | k + 1 => if nth zs (k + 1) < b then kT zs b k else k + 1
def revTo (zs : List Int) (n : Nat) : Nat → List Int
  | 0 => []
  | t + 1 => revTo zs n t ++ [nth zs (n - 1 - t)]
def swpL (zs : List Int) (I k : Nat) : List Int := (zs.set I (nth zs k)).set k (nth zs I)
/-- The next order in lexicographic order. -/
def nxt (zs : List Int) : Option (List Int) :=
  let n := zs.length
  let i := pivT zs (n - 1)
  if i = 0 then none else
    let out := swpL zs (i - 1) (kT zs (nth zs (i - 1)) (n - 1))
    some (out.take i ++ revTo out n (n - i))
theorem pivT_on {zs : List Int} {i : Nat} (h : nth zs (i + 1) < nth zs i) : pivT zs (i + 1) = pivT zs i := by rw [pivT, if_pos h]
theorem pivT_off {zs : List Int} {i : Nat} (h : ¬ nth zs (i + 1) < nth zs i) : pivT zs (i + 1) = i + 1 := by rw [pivT, if_neg h]
theorem kT_on {zs : List Int} {b : Int} {k : Nat} (h : nth zs (k + 1) < b) : kT zs b (k + 1) = kT zs b k := by rw [kT, if_pos h]
theorem kT_off {zs : List Int} {b : Int} {k : Nat} (h : ¬ nth zs k < b) : kT zs b k = k := by
  cases k with
  | zero => rfl
  | succ k => rw [kT, if_neg h]
theorem revTo_zero (zs : List Int) (n : Nat) : revTo zs n 0 = [] := rfl
theorem revTo_succ {zs : List Int} {n t j : Nat} (h : j + t + 1 = n) : revTo zs n (t + 1) = revTo zs n t ++ [nth zs j] := by
  rw [revTo, show n - 1 - t = j by omega]
theorem revTo_len (zs : List Int) (n : Nat) : ∀ t, (revTo zs n t).length = t
  | 0 => rfl
  | t + 1 => by rw [revTo, List.length_append, revTo_len zs n t]; rfl
theorem nxt_none {zs : List Int} {n : Nat} (hl : zs.length = n) (h : pivT zs (n - 1) = 0) : nxt zs = none := by
  unfold nxt
  simp only [hl, h, if_true]
theorem nxt_some {zs out : List Int} {n I k : Nat} (hl : zs.length = n) (h : pivT zs (n - 1) = I + 1) (hk : kT zs (nth zs I) (n - 1) = k) (ho : swpL zs I k = out) : nxt zs = some (out.take (I + 1) ++ revTo out n (n - (I + 1))) := by
  unfold nxt
  simp only [hl, h, Nat.add_sub_cancel, hk, ho]
  rw [if_neg (by omega)]
theorem swp_len (zs : List Int) (I k : Nat) : (swpL zs I k).length = zs.length := by unfold swpL; rw [List.length_set, List.length_set]
theorem down1 {J I : Nat} (h1 : J ≤ I + 1) (h2 : I + 1 ≤ J) (h3 : J ≤ 1048576) : IntKind.i64.wrap ((J : Int) - 1) = (I : Int) := by rw [IntWalk.i64_in _ (by omega)]; omega
attribute [irreducible] pivT kT revTo

set_option maxHeartbeats 4000000 in
theorem specNext (n : Nat) (A : Option Addr) (c : Nat) (zs : List Int) (w : World) (ha : RdI w A n zs) (h1 : 1 ≤ n) (hn : n ≤ 1000) :
    Calls Try.prog 24 #[.slice A n c] w fun e w' => ∃ A' m' c' ys b, e = .returned (.tuple #[.slice A' m' c', .bool b]) ∧ OwnI w' w.heap.size 3 A' m' c' ys ∧ Below w.heap.size w w' ∧ Hid (nxt zs = if b = true then some ys else none) := by
  have HL := Lib.hid ha.lenI
  have HA := Lib.hid ha
  clear ha
  obtain ⟨N, hN1, hN2⟩ : ∃ N, n ≤ N + 1 ∧ N + 1 ≤ n := ⟨n - 1, by omega, by omega⟩
  have HNE := Lib.hid (show n - 1 = N by omega)
  go_enter Try.func24, Try.ntmps24
  go_wp2_with fail
  go_loopw [4] (fun iv wr => ∃ i : Nat, iv = .int .i64 (i : Nat) ∧ i < n ∧ Hid (pivT zs N = pivT zs i) ∧ Below w.heap.size w wr) (fun iv _ => (intOf iv).toNat)
  case atStart => exact ⟨N, int_eq (by omega), by omega, Lib.hid rfl, Below.refl _ _⟩
  case round =>
    obtain ⟨J, rfl, hJ, HP, hbl⟩ := hrel
    by_cases hJ0 : 0 < J
    · obtain ⟨I, hI1, hI2⟩ : ∃ I, J ≤ I + 1 ∧ I + 1 ≤ J := ⟨J - 1, by omega, by omega⟩
      have hJI := down1 hI1 hI2 (by omega)
      have HJE := Lib.hid (show J = I + 1 by omega)
      have HAB := Lib.hid (HA.out.below hbl)
      obtain ⟨a1, rfl, _, l1⟩ := HAB.out.at_ (show I < n by omega)
      obtain ⟨a2, ha2, _, l2⟩ := HAB.out.at_ hJ
      injection ha2 with ha2
      subst ha2
      by_cases hc : nth zs J < nth zs I
      · have HS := Lib.hid (show pivT zs N = pivT zs I by rw [HP.out, HJE.out]; exact pivT_on (by rw [← HJE.out]; exact hc))
        have hdc : decide (nth zs J < nth zs I) = true := decide_eq_true hc
        have hIw : IntKind.i64.wrap (I : Int) = (I : Int) := IntWalk.i64_in _ (by omega)
        have hI0 : (0 : Int) ≤ (I : Int) := by omega
        have hIn : (I : Int) < (n : Int) := by omega
        have hJ0' : (0 : Int) ≤ (J : Int) := by omega
        have hJn : (J : Int) < (n : Int) := by omega
        have hdg : decide ((0 : Int) < (J : Int)) = true := by simp; omega
        have HI := Lib.hid (And.intro hI1 hI2)
        obtain ⟨y, hy⟩ : ∃ y, nth zs J = y := ⟨_, rfl⟩
        obtain ⟨x, hx⟩ : ∃ x, nth zs I = x := ⟨_, rfl⟩
        rw [hx] at l1 hdc
        rw [hy] at l2 hdc
        clear hc hx hy hI1 hI2 hN1 hN2
        go_wp2_with fail
        go_region_held3 (fun w' => w'.cell? (a1.add I) = some (.int .i64 x) ∧ w'.cell? (a1.add J) = some (.int .i64 y)) (go_keep) (fail)
        all_goals
          obtain ⟨hI1, hI2⟩ := HI.out
          clear hJI hIw
          go_wp2_with fail
          go_roundw
          case rel => exact ⟨I, int_eq (by omega), by omega, HS, hbl.drew⟩
          case measure => (simp [intOf] <;> omega)
      · have hdc : decide (nth zs J < nth zs I) = false := decide_eq_false hc
        have hIw : IntKind.i64.wrap (I : Int) = (I : Int) := IntWalk.i64_in _ (by omega)
        have hI0 : (0 : Int) ≤ (I : Int) := by omega
        have hIn : (I : Int) < (n : Int) := by omega
        have hJ0' : (0 : Int) ≤ (J : Int) := by omega
        have hJn : (J : Int) < (n : Int) := by omega
        have hdg : decide ((0 : Int) < (J : Int)) = true := by simp; omega
        have HI := Lib.hid (And.intro hI1 hI2)
        have HN := Lib.hid (And.intro hN1 hN2)
        have HPV := Lib.hid (show pivT zs N = I + 1 by rw [HP.out, HJE.out]; exact pivT_off (by rw [← HJE.out]; exact hc))
        obtain ⟨y, hy⟩ : ∃ y, nth zs J = y := ⟨_, rfl⟩
        obtain ⟨x, hx⟩ : ∃ x, nth zs I = x := ⟨_, rfl⟩
        have HX := Lib.hid hx
        rw [hx] at l1 hdc
        rw [hy] at l2 hdc
        clear hc hx hy hI1 hI2 hN1 hN2 HP
        go_wp2_with fail
        go_region_held3 (fun w' => w'.cell? (a1.add I) = some (.int .i64 x) ∧ w'.cell? (a1.add J) = some (.int .i64 y)) (go_keep) (fail)
        all_goals
          clear hdc l1 l2
          obtain ⟨wa, hwa⟩ : ∃ wa, wr.drew = wa := ⟨_, rfl⟩
          have HBA := Lib.hid (show Below w.heap.size w wa from hwa ▸ hbl.drew)
          rw [hwa]
          clear hwa hbl HAB
          go_wp2_with fail
          go_loopw [5] (fun kv w2 => ∃ k : Nat, kv = .int .i64 (k : Nat) ∧ k < n ∧ I ≤ k ∧ Hid (kT zs x N = kT zs x k) ∧ Below w.heap.size w w2) (fun kv _ => (intOf kv).toNat)
          case atStart => exact ⟨N, int_eq (by have := HN.out; omega), by have := HN.out; omega, by have := HN.out; have := HI.out; omega, Lib.hid rfl, HBA.out⟩
          case round =>
            obtain ⟨k, rfl, hk, hIk, HK, hbl⟩ := hrel
            have HAB := Lib.hid (HA.out.below hbl)
            obtain ⟨a3, ha3, _, l1⟩ := HAB.out.at_ (show I < n by omega)
            injection ha3 with ha3
            subst ha3
            obtain ⟨a4, ha4, _, l3⟩ := HAB.out.at_ hk
            injection ha4 with ha4
            subst ha4
            rw [HX.out] at l1
            have hk0 : (0 : Int) ≤ (k : Int) := by omega
            have hkn : (k : Int) < (n : Int) := by omega
            have hkw : IntKind.i64.wrap (k : Int) = (k : Int) := IntWalk.i64_in _ (by omega)
            by_cases hc2 : nth zs k < x
            · have hIk2 : I < k := by
                rcases Nat.lt_or_ge I k with h | h
                · exact h
                · obtain rfl : I = k := by omega
                  rw [HX.out] at hc2; omega
              obtain ⟨K, hK1, hK2⟩ : ∃ K, k ≤ K + 1 ∧ K + 1 ≤ k := ⟨k - 1, by omega, by omega⟩
              have HKE := Lib.hid (show k = K + 1 by omega)
              have HKN := Lib.hid (show kT zs x N = kT zs x K by rw [HK.out, HKE.out]; exact kT_on (by rw [← HKE.out]; exact hc2))
              have HKK := Lib.hid (And.intro hK1 hK2)
              have HII := Lib.hid hIk2
              obtain ⟨v, hv⟩ : ∃ v, nth zs k = v := ⟨_, rfl⟩
              rw [hv] at l3 hc2
              have hdc : decide (v < x) = true := decide_eq_true hc2
              clear hv hc2 hK1 hK2 hIk2
              go_wp2_with fail
              go_region_held3 (fun w' => w'.cell? (a1.add I) = some (.int .i64 x) ∧ w'.cell? (a1.add k) = some (.int .i64 v)) (go_keep) (fail)
              all_goals
                obtain ⟨hK1, hK2⟩ := HKK.out
                have hIk2 := HII.out
                clear hJI hIw hkw
                go_wp2_with fail
                go_roundw
                case rel => exact ⟨K, int_eq (by omega), by omega, by omega, HKN, hbl.drew⟩
                case measure => (simp [intOf] <;> omega)
            · have HKE := Lib.hid (show kT zs x N = k by rw [HK.out]; exact kT_off hc2)
              obtain ⟨v, hv⟩ : ∃ v, nth zs k = v := ⟨_, rfl⟩
              have HV := Lib.hid hv
              rw [hv] at l3 hc2
              have hdc : decide (v < x) = false := decide_eq_false hc2
              clear hv hc2 HK
              go_wp2_with fail
              go_region_held3 (fun w' => w'.cell? (a1.add I) = some (.int .i64 x) ∧ w'.cell? (a1.add k) = some (.int .i64 v)) (go_keep) (fail)
              all_goals
                clear hdc l1 l3 HAB
                obtain ⟨wb, hwb⟩ : ∃ wb, wr.drew = wb := ⟨_, rfl⟩
                have HB := Lib.hid (show Below w.heap.size w wb from hwb ▸ hbl.drew)
                rw [hwb]
                clear hwb hbl HBA
                have hszb : w.heap.size ≤ wb.heap.size := HB.out.size
                have HAB := Lib.hid (HA.out.below HB.out)
                have HY0 := Lib.hid (own_empty wb 3)
                have HYB := Lib.hid (below_alloc wb (.cells #[] 3))
                have HR1 := Lib.hid (HAB.out.alloc (.cells #[] 3))
                have H1A := Lib.hid (ints_one zs)
                go_wp2_with (at_builtin; refine wpL_append _ rfl _ _ _ rfl wb.heap.size 3 (.int .i64 0) 8 Try.underlying28 intInfo rfl _ 0 _ [] rfl HY0.out _ n _ _ rfl HR1.out H1A.out (by unfold maxLen; omega) (by omega) (by simp) ?_)
                intro A6 c6 w6 ho6 hg6 hat6
                have hb6 := own_below HY0.out HYB.out (by simp) hg6
                have ho6 : OwnI w6 wb.heap.size 3 A6 n c6 zs := ho6
                have hs6 := hb6.size
                have HR6 := Lib.hid (HAB.out.below hb6)
                obtain ⟨g, rfl⟩ := own_some_ ho6 (by omega)
                obtain ⟨g1, u1, hgA, hgb, hgl, _, q1, q2⟩ := ho6.at_ (show I < n by omega)
                injection hgA with hgA
                injection hgA with hgA
                subst hgA
                obtain ⟨g2, u2, hgA, _, _, _, q3, q4⟩ := ho6.at_ hk
                injection hgA with hgA
                injection hgA with hgA
                subst hgA
                obtain ⟨a5, ha5, hlt5, l5⟩ := HAB.out.at_ hk
                injection ha5 with ha5
                subst ha5
                obtain ⟨a7, ha7, _, l7⟩ := HAB.out.at_ (show I < n by omega)
                injection ha7 with ha7
                subst ha7
                rw [HX.out] at l7
                rw [HV.out] at l5
                have hne : a1.block ≠ g := by omega
                have l6 : w6.cell? (a1.add k) = some (.int .i64 v) := by rw [World.cell?_of_block (w := wb) (by rw [block_of_add]; exact hb6.block _ hlt5)]; exact l5
                have l8 : (w6.setCell ⟨g, I, none⟩ (.int .i64 v)).cell? (a1.add I) = some (.int .i64 x) := by
                  rw [World.cell?_of_block (w := w6) (by rw [block_of_add]; exact Below.heap_setCell w6 _ _ _ hne), World.cell?_of_block (w := wb) (by rw [block_of_add]; exact hb6.block _ hlt5)]
                  exact l7
                have q5 : (w6.setCell ⟨g, I, none⟩ (.int .i64 v)).frozen? ⟨g, k, none⟩ = false := by rw [World.frozen?_setCell]; exact q4
                obtain ⟨g3, u3, hgA, _, _, _, q6, _⟩ := (ho6.setI (x := v) (show I < n by omega)).at_ hk
                injection hgA with hgA
                injection hgA with hgA
                subst hgA
                have ho7 := (ho6.setI (x := v) (show I < n by omega)).setI (x := x) hk
                have HSW := Lib.hid (show (zs.set I v).set k x = swpL zs I k by unfold swpL; rw [HX.out, HV.out])
                have hb7 := (hb6.setCell (p := ⟨g, I, none⟩) hgb (.int .i64 v)).setCell (p := ⟨g, k, none⟩) hgb (.int .i64 x)
                have HO7 := Lib.hid ho7
                have HB7 := Lib.hid hb7
                have hsz7 : ((w6.setCell ⟨g, I, none⟩ (.int .i64 v)).setCell ⟨g, k, none⟩ (.int .i64 x)).heap.size = w6.heap.size := by simp [World.setCell]
                clear ho6 hb6 ho7 hb7 hg6 hat6 q3 l5 l7 HR6 HR1 H1A HYB HY0 hkw
                go_wp2_with fail
                obtain ⟨out, hout⟩ : ∃ out, swpL zs I k = out := ⟨_, rfl⟩
                have HOUT := Lib.hid hout
                rw [HSW.out, hout] at HO7
                obtain ⟨w7, hw7⟩ : ∃ w7, (w6.setCell ⟨g, I, none⟩ (.int .i64 v)).setCell ⟨g, k, none⟩ (.int .i64 x) = w7 := ⟨_, rfl⟩
                rw [hw7] at HO7 HB7 hsz7
                rw [hw7]
                have HE7 := Lib.hid (show Own (w7.alloc (.cells #[] 3)) w7.heap.size 3 (some ⟨w6.heap.size, 0, none⟩) 0 0 [] by rw [← hsz7]; exact own_empty w7 _)
                have HEB := Lib.hid (below_alloc w7 (.cells #[] 3))
                have HS7 := Lib.hid hsz7
                clear hw7 hout hsz7 l6 l8 q1 q2 q4 q5 q6 HSW
                go_loopw [7, 8] (fun rv jv w2 => ∃ t j : Nat, ∃ A5 c5, rv = .slice A5 t c5 ∧ jv = .int .i64 (j : Nat) ∧ j + t + 1 ≤ n ∧ n ≤ j + t + 1 ∧ I ≤ j ∧ OwnI w2 w7.heap.size 3 A5 t c5 (revTo out n t) ∧ Below w7.heap.size w7 w2) (fun _ jv _ => (intOf jv).toNat)
                case atStart => exact ⟨0, N, _, _, rfl, int_eq (by have := HN.out; omega), by have := HN.out; omega, by have := HN.out; omega, by have := HN.out; have := HI.out; omega, by rw [OwnI, revTo_zero]; exact HE7.out, HEB.out⟩
                case round =>
                  clear HE7 HEB
                  obtain ⟨t, j, A5, c5, rfl, rfl, hj1, hj2, hIj, ho5, hbl⟩ := hrel
                  have hs5 := hbl.size
                  by_cases hJj : J ≤ j
                  · obtain ⟨a9, ha9, _, l9⟩ := (HO7.out.below hbl).rd.at_ (show j < n by omega)
                    injection ha9 with ha9
                    subst ha9
                    rw [add0_] at l9
                    have HRV := Lib.hid (show revTo out n (t + 1) = revTo out n t ++ [nth out j] from revTo_succ (by omega))
                    have hjn : j < n := by omega
                    have hjc : n ≤ c6 ∧ c6 ≤ maxLen := HO7.out.cap
                    have HO5 := Lib.hid ho5
                    have HB5 := Lib.hid hbl
                    have HJ12 := Lib.hid (And.intro hj1 hj2)
                    have ht : t ≤ 1000 := by omega
                    clear ho5 hbl hj1 hj2
                    go_wp2_with (at_builtin; refine wpL_append1 _ rfl _ _ _ rfl w7.heap.size 3 (.int .i64 0) 8 Try.underlying28 intInfo rfl _ t _ _ rfl HO5.out _ rfl rfl (by unfold maxLen; omega) (by omega) hs5 ?_)
                    intro A8 c8 w8 ho8 hg8 hat8
                    have hb8 := own_below HO5.out HB5.out hs5 hg8
                    obtain ⟨hj1, hj2⟩ := HJ12.out
                    have hiI := HI.out
                    go_wp2_with fail
                    go_roundw
                    case rel => exact ⟨t + 1, j - 1, A8, c8, rfl, int_eq (by omega), by omega, by omega, by omega, by rw [OwnI, HRV.out]; simpa using ho8, hb8⟩
                    case measure => (simp [intOf] <;> omega)
                  · have HTT := Lib.hid (show t = n - (I + 1) by have := HI.out; omega)
                    have HFIN := Lib.hid (nxt_some HL.out (show pivT zs (n - 1) = I + 1 by rw [HNE.out]; exact HPV.out) (show kT zs (nth zs I) (n - 1) = k by rw [HNE.out, HX.out]; exact HKE.out) HOUT.out)
                    have HR3 := Lib.hid (rdV_to ((HO7.out.below hbl).rd.alloc (.cells #[] 3)) (show J ≤ n by omega))
                    have H1B : ∀ u ∈ (out.map (Value.int .i64)).take J, u.oneCell' = true := fun u hu => ints_one out u (List.mem_of_mem_take hu)
                    have HZ0 := Lib.hid (own_empty wr 3)
                    have HZB := Lib.hid (below_alloc wr (.cells #[] 3))
                    have HO5 := Lib.hid ho5
                    have hjc : n ≤ c6 ∧ c6 ≤ maxLen := HO7.out.cap
                    have hJn : J ≤ n := by omega
                    have ht : t ≤ 1000 := by omega
                    have HB5 := Lib.hid hbl
                    clear ho5 hbl hj1 hj2
                    go_wp2_with (at_builtin; refine wpL_append _ rfl _ _ _ rfl wr.heap.size 3 (.int .i64 0) 8 Try.underlying28 intInfo rfl _ 0 _ [] rfl HZ0.out _ J _ _ rfl HR3.out H1B (by unfold maxLen; omega) (by omega) (by simp) ?_)
                    intro A8 c8 w8 ho8 hg8 hat8
                    have hb8 := own_below HZ0.out HZB.out (by simp) hg8
                    have ho8 : Own w8 wr.heap.size 3 A8 J c8 ((out.map (Value.int .i64)).take J) := ho8
                    have hs8 := hb8.size
                    have HR4 := Lib.hid ((HO5.out.below hb8).rd)
                    have H1C := Lib.hid (ints_one (revTo out n t))
                    have HO8 := Lib.hid ho8
                    clear ho8 hg8 hat8
                    go_wp2_with (at_builtin; refine wpL_append _ rfl _ _ _ rfl wr.heap.size 3 (.int .i64 0) 8 Try.underlying28 intInfo rfl _ J _ _ rfl HO8.out _ t _ _ rfl HR4.out H1C.out (by unfold maxLen; omega) (by omega) hs8 ?_)
                    intro A9 c9 w9 ho9 hg9 hat9
                    have hb9 := own_below HO8.out hb8 hs8 hg9
                    have h72 : wb.heap.size ≤ w7.heap.size := HB7.out.size
                    go_wp2_with fail
                    go_ret2
                    refine ⟨A9, J + t, c9, out.take J ++ revTo out n t, true, rfl, ?_, ((HB.out.trans (HB7.out.mono hszb)).trans (HB5.out.mono (by omega))).trans (hb9.mono (by omega)), Lib.hid ?_⟩
                    · rw [OwnI, List.map_append, List.map_take]; exact ho9.more (by omega)
                    · rw [HFIN.out, HJE.out, HTT.out]; rfl
    · obtain rfl : J = 0 := by omega
      have HF := Lib.hid (show nxt zs = if false = true then some [] else none by rw [nxt_none HL.out (by rw [HNE.out, HP.out]; unfold pivT; rfl)]; rfl)
      obtain ⟨z0, hz0⟩ : ∃ z0, nth zs 0 = z0 := ⟨_, rfl⟩
      obtain ⟨a1, rfl, _, l1⟩ := (HA.out.below hbl).at_ (show 0 < n by omega)
      rw [hz0] at l1
      clear hz0
      go_wp2_with fail
      refine wp_region_held_drew (S := (fun w' => w'.cell? (a1.add 0) = some (.int .i64 z0))) (by kernel_rfl) ?_ (fun hHeld => ?_)
      · go_keep
      refine wpAnyH_take (i := 0) (oi := { dst := _, op := _, type := _, pos := _, after := _, guard := none }) (v := ?_) rfl (by kernel_rfl) (by kernel_rfl) (by kernel_rfl) (fun _ _ _ h => h) (Or.inl ⟨by rfl, ?_⟩) (by assumption) ?_
      rotate_left
      · intro w hSw; (try dsimp only at hSw); go_simp; (try with_reducible rfl)
      try simp only [Act.put, List.setIfInBounds_toArray, List.set_cons_zero, List.set_cons_succ]
      refine wpAnyH_take (i := 1) (oi := { dst := _, op := _, type := _, pos := _, after := _, guard := none }) (v := ?_) rfl (by kernel_rfl) (by kernel_rfl) (by kernel_rfl) (fun _ _ _ h => h) (Or.inl ⟨by rfl, ?_⟩) (by assumption) ?_
      rotate_left
      · intro w hSw; (try dsimp only at hSw); go_simp; (try with_reducible rfl)
      try simp only [Act.put, List.setIfInBounds_toArray, List.set_cons_zero, List.set_cons_succ]
      refine wpAnyH_take (i := 2) (oi := { dst := _, op := _, type := _, pos := _, after := _, guard := none }) (v := ?_) rfl (by kernel_rfl) (by kernel_rfl) (by kernel_rfl) (fun _ _ _ h => h) (Or.inl ⟨by rfl, ?_⟩) (by assumption) ?_
      rotate_left
      · intro w hSw; (try dsimp only at hSw); go_simp; (try with_reducible rfl)
      try simp only [Act.put, List.setIfInBounds_toArray, List.set_cons_zero, List.set_cons_succ]
      refine wpAnyH_take (i := 3) (oi := { dst := _, op := _, type := _, pos := _, after := _, guard := some (2, true) }) (v := undef) rfl (by kernel_rfl) (by kernel_rfl) (by kernel_rfl) (fun _ _ _ h => h) (Or.inr ⟨by rfl, rfl⟩) (by assumption) ?_
      try simp only [Act.put, List.setIfInBounds_toArray, List.set_cons_zero, List.set_cons_succ]
      refine wpAnyH_take (i := 4) (oi := { dst := _, op := _, type := _, pos := _, after := _, guard := some (2, true) }) (v := undef) rfl (by kernel_rfl) (by kernel_rfl) (by kernel_rfl) (fun _ _ _ h => h) (Or.inr ⟨by rfl, rfl⟩) (by assumption) ?_
      try simp only [Act.put, List.setIfInBounds_toArray, List.set_cons_zero, List.set_cons_succ]
      refine wpAnyH_take (i := 5) (oi := { dst := _, op := _, type := _, pos := _, after := _, guard := some (2, true) }) (v := undef) rfl (by kernel_rfl) (by kernel_rfl) (by kernel_rfl) (fun _ _ _ h => h) (Or.inr ⟨by rfl, rfl⟩) (by assumption) ?_
      try simp only [Act.put, List.setIfInBounds_toArray, List.set_cons_zero, List.set_cons_succ]
      refine wpAnyH_take (i := 6) (oi := { dst := _, op := _, type := _, pos := _, after := _, guard := some (2, true) }) (v := undef) rfl (by kernel_rfl) (by kernel_rfl) (by kernel_rfl) (fun _ _ _ h => h) (Or.inr ⟨by rfl, rfl⟩) (by assumption) ?_
      try simp only [Act.put, List.setIfInBounds_toArray, List.set_cons_zero, List.set_cons_succ]
      refine wpAnyH_take (i := 7) (oi := { dst := _, op := _, type := _, pos := _, after := _, guard := some (2, true) }) (v := undef) rfl (by kernel_rfl) (by kernel_rfl) (by kernel_rfl) (fun _ _ _ h => h) (Or.inr ⟨by rfl, rfl⟩) (by assumption) ?_
      try simp only [Act.put, List.setIfInBounds_toArray, List.set_cons_zero, List.set_cons_succ]
      refine wpAnyH_take (i := 8) (oi := { dst := _, op := _, type := _, pos := _, after := _, guard := some (2, true) }) (v := undef) rfl (by kernel_rfl) (by kernel_rfl) (by kernel_rfl) (fun _ _ _ h => h) (Or.inr ⟨by rfl, rfl⟩) (by assumption) ?_
      try simp only [Act.put, List.setIfInBounds_toArray, List.set_cons_zero, List.set_cons_succ]
      refine wpAnyH_take (i := 9) (oi := { dst := _, op := _, type := _, pos := _, after := _, guard := some (2, true) }) (v := undef) rfl (by kernel_rfl) (by kernel_rfl) (by kernel_rfl) (fun _ _ _ h => h) (Or.inr ⟨by rfl, rfl⟩) (by assumption) ?_
      try simp only [Act.put, List.setIfInBounds_toArray, List.set_cons_zero, List.set_cons_succ]
      refine wpAnyH_take (i := 10) (oi := { dst := _, op := _, type := _, pos := _, after := _, guard := some (2, true) }) (v := undef) rfl (by kernel_rfl) (by kernel_rfl) (by kernel_rfl) (fun _ _ _ h => h) (Or.inr ⟨by rfl, rfl⟩) (by assumption) ?_
      try simp only [Act.put, List.setIfInBounds_toArray, List.set_cons_zero, List.set_cons_succ]
      refine wpAnyH_take (i := 11) (oi := { dst := _, op := _, type := _, pos := _, after := _, guard := some (2, true) }) (v := undef) rfl (by kernel_rfl) (by kernel_rfl) (by kernel_rfl) (fun _ _ _ h => h) (Or.inr ⟨by rfl, rfl⟩) (by assumption) ?_
      try simp only [Act.put, List.setIfInBounds_toArray, List.set_cons_zero, List.set_cons_succ]
      refine wpAnyH_take (i := 12) (oi := { dst := _, op := _, type := _, pos := _, after := _, guard := some (2, true) }) (v := undef) rfl (by kernel_rfl) (by kernel_rfl) (by kernel_rfl) (fun _ _ _ h => h) (Or.inr ⟨by rfl, rfl⟩) (by assumption) ?_
      try simp only [Act.put, List.setIfInBounds_toArray, List.set_cons_zero, List.set_cons_succ]
      refine wpAnyH_take (i := 13) (oi := { dst := _, op := _, type := _, pos := _, after := _, guard := none }) (v := ?_) rfl (by kernel_rfl) (by kernel_rfl) (by kernel_rfl) (fun _ _ _ h => h) (Or.inl ⟨by rfl, ?_⟩) (by assumption) ?_
      rotate_left
      · intro w hSw; (try dsimp only at hSw); go_simp; (try with_reducible rfl)
      try simp only [Act.put, List.setIfInBounds_toArray, List.set_cons_zero, List.set_cons_succ]
      refine wpAnyH_done (by kernel_rfl) ?_ _
      go_wp2_with fail
      go_ret2
      exact ⟨none, 0, 0, [], false, rfl, Own.nil_ _ _ _, hbl.drew, HF⟩
end Go.Proofs.Ytobdkfhmmpigiaa
