/- Chapter 12: slices.Index, slices.Contains, slices.Clone at []int; impl.orders. -/
import Derived.Test.YtobdkfhmmpigiaaGreatC12n
import Derived.Test.YtobdkfhmmpigiaaGreatRowsF
import Derived.Test.YtobdkfhmmpigiaaGreatApp1
namespace Go.Proofs.YtobdkfhmmpigiaaGreat
open Go.RowKit Go.Deep
set_option linter.unusedVariables false

theorem con_snoc {zs : List Int} {k : Nat} {x : Int} (h : k < zs.length) : (zs.take (k + 1)).contains x = ((zs.take k).contains x || x == nth zs k) := by
  rw [take_nth h]; simp; rfl
theorem con_on {zs : List Int} {k : Nat} {x : Int} (h : k < zs.length) (h2 : x = nth zs k) : zs.contains x = true := by
  rw [List.contains_iff_mem, h2]; exact nth_mem h
set_option maxHeartbeats 1000000 in
theorem implIndexI (A : Option Addr) (n c : Nat) (zs : List Int) (x : Int) (w : World) (ha : RdI w A n zs) (hn : n ≤ 1048576) :
    Calls Tryz.prog 88 #[.slice A n c, .int .i64 x] w fun e w' => ∃ r : Int, e = .returned (.int .i64 r) ∧ Hid (decide (0 ≤ r) = zs.contains x) ∧ w = w' := by
  have HL := Lib.hid ha.lenI
  go_enter Tryz.func88, Tryz.ntmps88
  go_wp2_with fail
  go_loopw [8] (fun iv wr => ∃ k : Nat, iv = .int .i64 (k : Nat) ∧ k ≤ n ∧ Hid ((zs.take k).contains x = false) ∧ w = wr) (fun iv _ => n - (intOf iv).toNat)
  case atStart => exact ⟨0, rfl, Nat.zero_le _, Lib.hid (by simp), rfl⟩
  case round =>
    obtain ⟨k, rfl, hk, HK, hww⟩ := hrel
    obtain rfl := hww
    by_cases hlt : k < n
    · obtain ⟨a1, rfl, _, l1⟩ := ha.at_ hlt
      have HS := Lib.hid (con_snoc (x := x) (show k < zs.length by rw [HL.out]; exact hlt))
      by_cases he : x = nth zs k
      · have HF := Lib.hid (con_on (show k < zs.length by rw [HL.out]; exact hlt) he)
        have e1 : (x == nth zs k) = true := by simp [he]
        clear he
        go_wp2_with fail
        go_ret
        exact ⟨k, rfl, Lib.hid (by rw [HF.out]; simp), rfl⟩
      · have HN := Lib.hid (show (zs.take (k + 1)).contains x = false by rw [HS.out, HK.out]; simp [he])
        have e1 : (x == nth zs k) = false := by simp [he]
        clear he
        go_wp2_with fail
        go_roundw
        case rel => exact ⟨k + 1, by go_num, by omega, HN, by first | trivial | rfl⟩
        case measure => (simp [intOf] <;> omega)
    · obtain rfl : k = n := by omega
      have HF := Lib.hid (show zs.contains x = false by have h := HK.out; rw [List.take_of_length_le (by rw [HL.out]; exact Nat.le_refl _)] at h; exact h)
      go_wp2_with fail
      go_ret
      exact ⟨-1, rfl, Lib.hid (by rw [HF.out]; rfl), rfl⟩
theorem implContainsI (A : Option Addr) (n c : Nat) (zs : List Int) (x : Int) (w : World) (ha : RdI w A n zs) (hn : n ≤ 1048576) :
    Calls Tryz.prog 71 #[.slice A n c, .int .i64 x] w fun e w' => e = .returned (.bool (zs.contains x)) ∧ w = w' := by
  have CI := Lib.hid (implIndexI A n c zs x w ha hn)
  clear ha
  go_enter Tryz.func71, Tryz.ntmps71
  go_wp2_with fail
  refine CI.out.mono ?_
  rintro e w' ⟨r, rfl, HR, hww⟩
  obtain rfl := hww
  by_cases hr : 0 ≤ r
  · have HE := Lib.hid (show zs.contains x = true by rw [← HR.out]; exact decide_eq_true hr)
    go_wp2_with fail
    go_ret
    exact ⟨by rw [HE.out]; rfl, rfl⟩
  · have HE := Lib.hid (show zs.contains x = false by rw [← HR.out]; exact decide_eq_false hr)
    go_wp2_with fail
    go_ret
    exact ⟨by rw [HE.out]; exact ret_bool (decide_eq_false (by omega)), rfl⟩

theorem implClone (ad : Addr) (n c : Nat) (zs : List Int) (w : World) (ha : RdI w (some ad) n zs) (hn : n ≤ 1048576) :
    Calls Tryz.prog 72 #[.slice (some ad) n c] w fun e w' => ∃ A' c', e = .returned (.slice A' n c') ∧ OwnI w' w.heap.size 3 A' n c' zs ∧ Below w.heap.size w w' := by
  have q : ∀ w : World, (binOp .eql 30 (.slice (some ad) n c) (.slice none 0 0)).run Tryz.prog w = .ok (.bool false) w := fun w => Lib.run_eql_slice_nil w _ _ _ _ _ _ _ Tryz.underlying30
  go_enter Tryz.func72, Tryz.ntmps72
  go_wp2_with (at_builtin; refine wpL_append _ rfl _ _ _ rfl w.heap.size 3 (.int .i64 0) 8 Tryz.underlying30 intInfo rfl _ 0 _ [] rfl (own_empty _ _) (some ad) n c (zs.map (Value.int .i64)) rfl (ha.alloc _) (ints_one _) (by unfold maxLen; omega) (by omega) (by simp) ?_)
  intro A2 c2 w2 ho2 hg2 hat2
  have hb2 := own_below (own_empty w 3) (below_alloc w _) (by simp) hg2
  try simp only [Nat.zero_add] at ho2 ⊢
  go_wp2
  go_ret
  exact ⟨_, _, rfl, by simpa using ho2, hb2⟩
theorem implCloneAny (A : Option Addr) (n c : Nat) (zs : List Int) (w : World) (ha : RdI w A n zs) (hn : n ≤ 1048576) :
    Calls Tryz.prog 72 #[.slice A n c] w fun e w' => ∃ A' c', e = .returned (.slice A' n c') ∧ OwnI w' w.heap.size 3 A' n c' zs ∧ Below w.heap.size w w' := by
  cases A with
  | some ad => exact implClone ad n c zs w ha hn
  | none =>
    have hn0 : n = 0 := by
      rcases Nat.eq_zero_or_pos n with h | h
      · exact h
      · obtain ⟨ad, h, _⟩ := ha.2 h
        cases h
    subst hn0
    have hz : zs = [] := List.eq_nil_of_length_eq_zero ha.lenI
    subst hz
    have q : ∀ w : World, (binOp .eql 30 (.slice none 0 c) (.slice none 0 0)).run Tryz.prog w = .ok (.bool true) w := fun w => Lib.run_eql_slice_nil w _ _ _ _ _ _ _ Tryz.underlying30
    clear ha hn
    go_enter Tryz.func72, Tryz.ntmps72
    go_wp2
    go_ret
    exact ⟨_, _, rfl, Own.nil_ _ _ _, Below.refl _ _⟩

/-- A row of the call's own appended to a row of rows. -/
theorem OwnS.push {w w7 : World} {lo n c c7 mx dx : Nat} {A A7 Bx : Option Addr} {zss : List (List Int)} {x : List Int} {vs : List Value} (hl : zss.length = n) (hv : Own w lo 30 A n c vs) (hr : All2 (Rw w lo fun g => blk A ≠ some g) vs zss)
    (hx : OwnI w lo 3 Bx mx dx x) (hne : ∀ g, blk Bx = some g → blk A ≠ some g) (ho : Own w7 lo 30 A7 (n + 1) c7 (vs ++ [.slice Bx mx dx])) (hg : w.grownBy w7 (blk A)) (hat : blk A7 = blk A ∨ blk A7 = some (w.heap.size + 1)) : OwnS w7 lo A7 (n + 1) c7 (zss ++ [x]) := by
  have hD : ∀ g, g < w.heap.size → blk A ≠ some g → blk A7 ≠ some g := fun g h1 h2 h3 => by
    rcases hat with h | h
    · rw [h] at h3; exact h2 h3
    · rw [h] at h3; injection h3 with h3; omega
  refine ⟨by simp [hl], _, ho, (hr.mono fun v z k => k.keep fun g h1 h2 h3 => ⟨hg.block g h2 (fun e => h3 e.symm), hD g h2 h3⟩).append (All2.one ⟨Bx, mx, dx, rfl, ?_, fun g hg1 => hD g (hx.blk_ g hg1).2 (hne g hg1)⟩)⟩
  exact hx.keepAt fun g hg1 => hg.block g (hx.blk_ g hg1).2 (fun e => hne g hg1 e.symm)

/-- The orders that begin with l, one number longer, up to k. -/
def ordK (l : List Int) : Nat → List (List Int)
  | 0 => []
  | k + 1 => ordK l k ++ (if l.contains (k : Int) = true then [] else [l ++ [(k : Int)]])
def ordJ (n : Nat) (zss : List (List Int)) : Nat → List (List Int)
  | 0 => []
  | j + 1 => ordJ n zss j ++ ordK (row zss j) n
def ordR (n : Nat) : Nat → List (List Int)
  | 0 => [[]]
  | r + 1 => ordJ n (ordR n r) (ordR n r).length
theorem ordK_old {l : List Int} {k : Nat} (z : List (List Int)) (h : l.contains (k : Int) = true) : z ++ ordK l (k + 1) = z ++ ordK l k := by rw [ordK, if_pos h, List.append_nil]
theorem ordK_new {l : List Int} {k : Nat} (z : List (List Int)) (h : l.contains (k : Int) = false) : z ++ ordK l (k + 1) = (z ++ ordK l k) ++ [l ++ [(k : Int)]] := by rw [ordK, if_neg (by rw [h]; simp), List.append_assoc]
theorem ordK_zero (l : List Int) (z : List (List Int)) : z ++ ordK l 0 = z := by rw [ordK, List.append_nil]
theorem ordJ_zero (n : Nat) (zss : List (List Int)) : ordJ n zss 0 = [] := rfl
theorem ordJ_succ (n : Nat) (zss : List (List Int)) (j : Nat) : ordJ n zss (j + 1) = ordJ n zss j ++ ordK (row zss j) n := rfl
theorem ordR_zero (n : Nat) : ordR n 0 = [[]] := rfl
theorem ordR_succ (n r : Nat) : ordR n (r + 1) = ordJ n (ordR n r) (ordR n r).length := rfl
def ordRB (n r : Nat) : Bool := decide ((ordR n r).length ≤ 24) && (List.range (ordR n r).length).all fun j => decide ((row (ordR n r) j).length ≤ 4)
theorem ordRB_all : ∀ n : Nat, n < 5 → ∀ r : Nat, r < 5 → r ≤ n → ordRB n r = true := by decide +kernel
theorem ordR_facts {n r : Nat} (hn : n ≤ 4) (hr : r ≤ n) : (ordR n r).length ≤ 24 ∧ ∀ j, j < (ordR n r).length → (row (ordR n r) j).length ≤ 4 := by
  have h := ordRB_all n (by omega) r (by omega) hr
  unfold ordRB at h
  simp only [Bool.and_eq_true] at h
  exact ⟨of_decide_eq_true h.1, fun j hj => of_decide_eq_true (List.all_eq_true.1 h.2 j (List.mem_range.2 hj))⟩
attribute [irreducible] ordK ordJ ordR

set_option maxHeartbeats 4000000 in
theorem implOrders (n : Nat) (w : World) (hn : n ≤ 4) : Calls Tryz.prog 56 #[.int .i64 n] w fun e w' => ∃ A m c, e = .returned (.slice A m c) ∧ OwnS w' w.heap.size A m c (ordR n n) ∧ Below w.heap.size w w' := by
  obtain ⟨B, hB⟩ : ∃ B, w.heap.size = B := ⟨_, rfl⟩
  have HB := Lib.hid hB
  have HS0 := Lib.hid (show OwnS ((w.alloc (.cells #[] 3)).alloc (.cells #[.slice (some ⟨w.heap.size, 0, none⟩) 0 0] 30)) B (some ⟨w.heap.size + 1, 0, none⟩) 1 1 [[]] from by
    refine ⟨rfl, [.slice (some ⟨w.heap.size, 0, none⟩) 0 0], ?_, All2.one ⟨some ⟨w.heap.size, 0, none⟩, 0, 0, rfl, ?_, fun g hg => ?_⟩⟩
    · have h := World.ownsRow_lit (base := B) (e := 30) (size := 1) (w.alloc (.cells #[] 3)) #[.slice (some ⟨w.heap.size, 0, none⟩) 0 0] 1 (by simp; omega) (by unfold maxLen; omega) rfl
      unfold Own
      simpa using h
    · exact (show Own (w.alloc (.cells #[] 3)) B 3 (some ⟨w.heap.size, 0, none⟩) 0 0 [] from hB ▸ own_empty w _).alloc _
    · simp [blk] at hg ⊢; omega)
  have HL0 := Lib.hid (show Below B w ((w.alloc (.cells #[] 3)).alloc (.cells #[.slice (some ⟨w.heap.size, 0, none⟩) 0 0] 30)) from ((hB ▸ below_alloc w _ : Below B w _)).alloc (by simp; omega) _)
  rw [hB]
  clear hB
  go_enter Tryz.func56, Tryz.ntmps56
  go_wp2_with fail
  go_loopw [3, 11] (fun nv iv wr => ∃ r m : Nat, ∃ A c zss, nv = .slice A m c ∧ iv = .int .i64 (r : Nat) ∧ r ≤ n ∧ Hid (ordR n r = zss) ∧ OwnS wr B A m c zss ∧ Below B w wr) (fun _ iv _ => n - (intOf iv).toNat)
  case atStart => exact ⟨0, 1, _, _, _, rfl, rfl, Nat.zero_le _, Lib.hid (ordR_zero n), HS0.out, HL0.out⟩
  case round =>
    clear HS0 HL0
    obtain ⟨r, m, A, c, zss, rfl, rfl, hr, HZ, hown, hbl⟩ := hrel
    obtain ⟨wo, hwo⟩ : ∃ x, x = wr := ⟨_, rfl⟩
    subst hwo
    have hszo := hbl.size
    rw [HB.out] at hszo
    by_cases hlt : r < n
    · have HO := Lib.hid hown
      have HM := Lib.hid hown.1
      have HL := Lib.hid hbl
      have hm24 : m ≤ 24 := by rw [← hown.1, ← HZ.out]; exact (ordR_facts hn hr).1
      have HRL := Lib.hid (fun j (hj : j < m) => show (row zss j).length ≤ 4 by rw [← HZ.out]; exact (ordR_facts hn hr).2 j (by rw [HZ.out, HM.out]; exact hj))
      clear hown hbl
      obtain ⟨C, hC⟩ : ∃ C, wo.heap.size = C := ⟨_, rfl⟩
      have HC := Lib.hid hC
      have HE0 := Lib.hid (show Own (wo.alloc (.cells #[] 30)) C 30 (some ⟨wo.heap.size, 0, none⟩) 0 0 [] from hC ▸ own_empty wo _)
      have HLE := Lib.hid (show Below C wo (wo.alloc (.cells #[] 30)) from hC ▸ below_alloc wo _)
      have hCB : B ≤ C := by omega
      clear hC
      go_wp2_with fail
      go_loopw [4, 16] (fun xv jv wr => ∃ j m2 : Nat, ∃ A2 c2 z, xv = .slice A2 m2 c2 ∧ jv = .int .i64 (j : Nat) ∧ j ≤ m ∧ m2 ≤ 4 * j ∧ Hid (ordJ n zss j = z) ∧ OwnS wr C A2 m2 c2 z ∧ Below C wo wr) (fun _ jv _ => m - (intOf jv).toNat)
      case atStart => exact ⟨0, 0, _, 0, [], rfl, rfl, Nat.zero_le _, by omega, Lib.hid (ordJ_zero _ _), ⟨rfl, [], HE0.out, trivial⟩, HLE.out⟩
      case round =>
        clear HE0 HLE
        obtain ⟨j, m2, A2, c2, z, rfl, rfl, hj, hm2, HZ2, hown2, hbl2⟩ := hrel
        by_cases hlt2 : j < m
        · obtain ⟨ad, BS, ms, ds, rfl, _, hcs, hBS, hms, hds⟩ := (HO.out.below (by rw [HC.out]; exact hbl2)).rd.2 j hlt2
          have hms4 : ms ≤ 4 := by rw [← hBS.lenI]; exact HRL.out j hlt2
          have HBS := Lib.hid (fun wx (h : Below C wo wx) => show RdI wx BS ms (row zss j) from by
            obtain ⟨ad2, B2, q2, d2, had, _, hc2, h2, _⟩ := (HO.out.below (by rw [HC.out]; exact hbl2)).rd.2 j hlt2
            obtain ⟨ad3, B3, q3, d3, had3, _, hc3, h3, _⟩ := (HO.out.below (by rw [HC.out]; exact h)).rd.2 j hlt2
            obtain ⟨ad4, B4, q4, d4, had4, hlt4, hc4, h4, _⟩ := HO.out.rd.2 j hlt2
            injection had4 with had4
            subst had4
            injection had3 with had3
            subst had3
            have e1 : wr.cell? (ad.add j) = wo.cell? (ad.add j) := World.cell?_of_block (by rw [block_of_add]; exact hbl2.block _ (by rw [← HC.out]; exact hlt4))
            have e2 : wx.cell? (ad.add j) = wo.cell? (ad.add j) := World.cell?_of_block (by rw [block_of_add]; exact h.block _ (by rw [← HC.out]; exact hlt4))
            rw [hcs] at e1
            rw [hc3, ← e1] at e2
            injection e2 with e2
            injection e2 with f1 f2 f3
            subst f1 f2 f3
            exact h3)
          clear hBS
          go_wp2_with fail
          go_loopw [4, 21] (fun xv kv wr => ∃ k m2 : Nat, ∃ A2 c2 z2, xv = .slice A2 m2 c2 ∧ kv = .int .i64 (k : Nat) ∧ k ≤ n ∧ m2 ≤ 4 * j + k ∧ Hid (z ++ ordK (row zss j) k = z2) ∧ OwnS wr C A2 m2 c2 z2 ∧ Below C wo wr) (fun _ kv _ => n - (intOf kv).toNat)
          case atStart => exact ⟨0, m2, A2, c2, z, rfl, rfl, Nat.zero_le _, by omega, Lib.hid (ordK_zero _ _), hown2, hbl2⟩
          case round =>
            clear hown2 hbl2 hm2
            obtain ⟨k, m2, A2, c2, z2, rfl, rfl, hk, hm2, HZ3, hown2, hbl2⟩ := hrel
            have hszr := hbl2.size
            rw [HC.out] at hszr
            by_cases hlt3 : k < n
            · have CC := Lib.hid (implContainsI BS ms ds (row zss j) (k : Int) wr (HBS.out wr hbl2) (by omega))
              have CL := Lib.hid (implCloneAny BS ms ds (row zss j) wr (HBS.out wr hbl2) (by omega))
              have HO2 := Lib.hid hown2
              have HB2 := Lib.hid hbl2
              clear hown2 hbl2
              go_wp2_with fail
              refine CC.out.mono ?_
              rintro e w5 ⟨rfl, hww⟩
              obtain rfl := hww
              cases hc : (row zss j).contains (k : Int) with
              | true =>
                have HN := Lib.hid (show z ++ ordK (row zss j) (k + 1) = z2 by rw [ordK_old z hc, HZ3.out])
                clear hc
                go_wp2_with fail
                go_roundw
                case rel => exact ⟨k + 1, m2, A2, c2, z2, rfl, by go_num, by omega, by omega, HN, HO2.out, HB2.out⟩
                case measure => (simp [intOf] <;> omega)
              | false =>
                have HN := Lib.hid (show z ++ ordK (row zss j) (k + 1) = z2 ++ [row zss j ++ [(k : Int)]] by rw [ordK_new z hc, HZ3.out])
                obtain ⟨hl2, vs, hov, har⟩ := HO2.out
                have HOV := Lib.hid hov
                have HAR := Lib.hid har
                have HL2 := Lib.hid hl2
                have HA2 := Lib.hid hov.blk_
                clear hc hov har hl2 CC
                go_wp2_with fail
                refine CL.out.mono ?_
                rintro e w5 ⟨A5, c5, rfl, ho5, hb5⟩
                have HO5 := Lib.hid ho5
                have HB5 := Lib.hid hb5
                have hs5 := hb5.size
                clear ho5 hb5 CL
                go_wp2_with (at_builtin; refine wpL_append1 _ rfl _ _ _ rfl wr.heap.size 3 (.int .i64 0) 8 Tryz.underlying30 intInfo rfl _ ms _ _ rfl HO5.out (.int .i64 (k : Int)) rfl rfl (by unfold maxLen; omega) (by omega) hs5 ?_)
                intro A6 c6 w6 ho6 hg6 hat6
                have HB6 := Lib.hid (own_below HO5.out HB5.out hs5 hg6)
                have hs6 := HB6.out.size
                have HO6 := Lib.hid (show OwnI w6 wr.heap.size 3 A6 (ms + 1) c6 (row zss j ++ [(k : Int)]) by rw [OwnI, List.map_append]; exact ho6)
                have HV6 := Lib.hid (HOV.out.below HB6.out)
                have hC6 : C ≤ w6.heap.size := by omega
                clear ho6 hg6 hat6 HO5 HB5
                go_wp2_with (at_builtin; refine wpL_append1 _ rfl _ _ _ rfl C 30 (.slice none 0 0) 24 Tryz.underlying25 sliceInfo rfl _ m2 _ _ rfl HV6.out (.slice A6 (ms + 1) c6) rfl rfl (by unfold maxLen; omega) (by omega) hC6 ?_)
                intro A7 c7 w7 ho7 hg7 hat7
                have HP := Lib.hid (OwnS.push HL2.out HV6.out (HAR.out.mono fun v z k => k.keep fun g h1 h2 h3 => ⟨HB6.out.block g h2, h3⟩) (HO6.out.more hszr) (fun g e1 e2 => by have h1 := (HO6.out.blk_ g e1).1; have h2 := (HA2.out g e2).2; omega) ho7 hg7 hat7)
                have HB7 := Lib.hid (own_below HV6.out (HB2.out.trans (HB6.out.mono hszr)) hC6 hg7)
                clear ho7 hg7 hat7
                go_wp2_with fail
                go_roundw
                case rel => exact ⟨k + 1, m2 + 1, A7, c7, _, rfl, by go_num, by omega, by omega, HN, HP.out, HB7.out⟩
                case measure => (simp [intOf] <;> omega)
            · obtain rfl : k = n := by omega
              have HN := Lib.hid (show ordJ k zss (j + 1) = z2 by rw [ordJ_succ, HZ2.out, HZ3.out])
              go_wp2_with fail
              go_roundw
              case rel => exact ⟨j + 1, m2, A2, c2, z2, rfl, by go_num, by omega, by omega, HN, hown2, hbl2⟩
              case measure => (simp [intOf] <;> omega)
        · obtain rfl : j = m := by omega
          have HN := Lib.hid (show ordR n (r + 1) = z by rw [ordR_succ, HZ.out, HM.out, HZ2.out])
          go_wp2_with fail
          go_roundw
          case rel => exact ⟨r + 1, m2, A2, c2, z, rfl, by go_num, by omega, HN, hown2.more hCB, HL.out.trans (hbl2.mono hCB)⟩
          case measure => (simp [intOf] <;> omega)
    · obtain rfl : r = n := by omega
      go_wp2_with fail
      go_ret
      exact ⟨A, m, c, rfl, by rw [HZ.out]; exact hown, hbl⟩
end Go.Proofs.YtobdkfhmmpigiaaGreat
