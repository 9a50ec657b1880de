/- Chapter 12: the closures of impl.standardLists and impl.renamedMasks. -/
import Derived.Test.YtobdkfhmmpigiaaGreatC12o
import Derived.Test.YtobdkfhmmpigiaaGreatMD
import Derived.Test.YtobdkfhmmpigiaaGreatC12l
namespace Go.Proofs.YtobdkfhmmpigiaaGreat
open Go.RowKit Go.Deep
set_option linter.unusedVariables false
attribute [local go_sem] bits_and_one

set_option maxHeartbeats 1000000 in
theorem implStepC (s p q : Nat) (a b : Addr) (w : World) (hs : s < 16) (hp : p < 4) (hq : q < 4) (h1 : w.cell? a = some (.int .i64 (p : Nat))) (h2 : w.cell? b = some (.int .i64 (q : Nat))) :
    Calls Tryz.prog 44 #[.int .i64 s, .pointer (some a), .pointer (some b)] w fun e w' => e = .returned (.int .i64 (bst s p q : Nat)) ∧ Below w.heap.size w w' := by
  have CS := Lib.hid (implMStep s p q w hs hp hq)
  go_enter Tryz.func44, Tryz.ntmps44
  go_wp2_with fail
  refine CS.out.mono ?_
  rintro e w' ⟨rfl, hb⟩
  go_wp2_with fail
  go_ret
  exact ⟨rfl, hb⟩

/-- A mask with other wires, as the program computes it. -/
def renO (names : List Int) (s : Nat) : Nat → Nat
  | 0 => 0
  | k + 1 => renO names s k ||| (if bitAt s k = true then 2 ^ (nth names k).toNat else 0)
theorem renO_zero (names : List Int) (s : Nat) : renO names s 0 = 0 := rfl
theorem renO_on {names : List Int} {s k q x y : Nat} (h : bitAt s k = true) (hq : nth names k = q) (hx : renO names s k = x) (hy : x ||| 2 ^ q = y) : renO names s (k + 1) = y := by
  rw [renO, if_pos h, hq, hx, ← hy]; rfl
theorem renO_off {names : List Int} {s k x : Nat} (h : bitAt s k = false) (hx : renO names s k = x) : renO names s (k + 1) = x := by
  rw [renO, if_neg (by rw [h]; simp), hx]; simp
theorem or_pow {x q y : Nat} (hx : x < 16) (hq : q < 4) (hy : x ||| 2 ^ q = y) : y < 16 ∧ bits .or .i64 (x : Int) ((2 ^ q : Nat) : Int) = (y : Int) := by
  have h2 : 2 ^ q < 2 ^ 4 := Nat.pow_lt_pow_right (by omega) hq
  have h1 : x ||| 2 ^ q < 2 ^ 4 := Nat.or_lt_two_pow (by omega) h2
  refine ⟨by omega, ?_⟩
  generalize 2 ^ q = z at *
  rw [bits_or_small (by omega) (by omega) (by omega) (by omega), Int.toNat_natCast, Int.toNat_natCast, hy]
theorem or_none {x : Nat} (hx : x < 16) : bits .or .i64 (x : Int) 0 = (x : Int) := by
  rw [bits_or_small (by omega) (by omega) (by omega) (by omega)]
  simp
theorem bit_val {s k : Nat} : (bitAt s k = true → (s : Int) / 2 ^ k % 2 = 1) ∧ (bitAt s k = false → (s : Int) / 2 ^ k % 2 = 0) := by
  rw [bit_cast]
  unfold bitAt
  have h : s / 2 ^ k % 2 = 0 ∨ s / 2 ^ k % 2 = 1 := by omega
  rcases h with h | h <;> rw [h] <;> simp
attribute [irreducible] renO

set_option maxHeartbeats 2000000 in
theorem implRenC (s n : Nat) (a : Addr) (A : Option Addr) (c : Nat) (names : List Int) (w : World) (hs : s < 16) (hn : n ≤ 4) (h1 : w.cell? a = some (.slice A n c)) (ha : RdI w A n names) (hP : MaskR 4 n names) :
    Calls Tryz.prog 73 #[.int .i64 s, .pointer (some a)] w fun e w' => e = .returned (.int .i64 (renO names s n : Nat)) ∧ Below w.heap.size w w' := by
  have HA := Lib.hid ha
  have HP := Lib.hid hP
  have HR0 := Lib.hid (renO_zero names s)
  clear ha hP
  go_enter Tryz.func73, Tryz.ntmps73
  go_wp2_with fail
  go_loopw [4, 9] (fun xv jv wr => ∃ j x : Nat, j ≤ n ∧ jv = .int .i64 (j : Nat) ∧ xv = .int .i64 (x : Nat) ∧ x < 16 ∧ Hid (renO names s j = x) ∧ w = wr) (fun _ jv _ => n - (intOf jv).toNat)
  case atStart => exact ⟨0, 0, Nat.zero_le _, rfl, rfl, by omega, HR0, rfl⟩
  case round =>
    obtain ⟨j, x, hj, rfl, rfl, hx, HX, hww⟩ := hrel
    obtain rfl := hww
    by_cases hlt : j < n
    · obtain ⟨a1, rfl, _, l1⟩ := HA.out.at_ hlt
      obtain ⟨q, hq, hq4⟩ := HP.out j hlt
      rw [hq] at l1
      have hj1 : j + 1 ≤ n := hlt
      have hl1 := less1 hlt
      cases hb : bitAt s j with
      | true =>
        have hv := bit_val.1 hb
        have hwq := wrap_pow q (by omega)
        obtain ⟨p, hp⟩ : ∃ p, 2 ^ q = p := ⟨_, rfl⟩
        obtain ⟨y, hy⟩ : ∃ y, x ||| 2 ^ q = y := ⟨_, rfl⟩
        obtain ⟨hy16, hor⟩ := or_pow hx hq4 hy
        have HNX := Lib.hid (renO_on hb hq HX.out hy)
        have HY16 := Lib.hid hy16
        rw [hp] at hwq hor
        clear hb hq hp hy hx hy16
        go_wp2_with fail
        go_roundw
        case rel => exact ⟨j + 1, y, hj1, rfl, rfl, HY16.out, HNX, by first | trivial | rfl⟩
        case measure => simpa [intOf] using hl1
      | false =>
        have hv := bit_val.2 hb
        have hor := or_none hx
        have HNX := Lib.hid (renO_off hb HX.out)
        have HX16 := Lib.hid hx
        clear hb hq hx
        go_wp2_with fail
        go_roundw
        case rel => exact ⟨j + 1, x, hj1, rfl, rfl, HX16.out, HNX, by first | trivial | rfl⟩
        case measure => simpa [intOf] using hl1
    · obtain rfl : j = n := by omega
      go_wp2_with fail
      go_ret
      exact ⟨by rw [HX.out]; rfl, Below.refl _ _⟩
end Go.Proofs.YtobdkfhmmpigiaaGreat

/- Chapter 12: impl.images with a closure. -/
namespace Go.Proofs.YtobdkfhmmpigiaaGreat
open Go.RowKit Go.Deep
set_option linter.unusedVariables false

theorem take_map_succ {zs : List Int} {F : Int → Int} {k : Nat} (h : k < zs.length) : ((zs.take (k + 1)).map F) = (zs.take k).map F ++ [F (nth zs k)] := by
  rw [take_nth h, List.map_append]; rfl
theorem imL_of {F : Int → Int} {zs : List Int} : Lib.compact (srtM (zs.map F)) = imL F zs := by unfold imL; rfl

set_option maxHeartbeats 4000000 in
theorem implImages (A : Option Addr) (n c : Nat) (set : List Int) (g0 : Nat) (cb : Array Value) (F : Int → Int) (w : World) (ha : RdI w A n set) (hn : n ≤ 1000) (eg : ∀ args w, (callFunc g0 args).run Tryz.prog w = .ok (.enter g0 args) w)
    (hF : ∀ wx, Below w.heap.size w wx → ∀ k, k < n → Calls Tryz.prog g0 (#[.int .i64 (nth set k)] ++ cb) wx fun e w' => e = .returned (.int .i64 (F (nth set k))) ∧ Below wx.heap.size wx w') :
    Calls Tryz.prog 43 #[.slice A n c, .func (.func g0) #[] cb] w fun e w' => ∃ g' m' c', e = .returned (.slice (some ⟨g', 0, none⟩) m' c') ∧ OwnI w' w.heap.size 3 (some ⟨g', 0, none⟩) m' c' (imL F set) ∧ Below w.heap.size w w' := by
  have HL := Lib.hid ha.lenI
  have HA := Lib.hid ha
  have HF := Lib.hid hF
  clear ha hF
  go_enter Tryz.func43, Tryz.ntmps43
  go_wp2_with fail
  go_loopw [5, 11] (fun lv iv wr => ∃ k g5 c5 : Nat, lv = .slice (some ⟨g5, 0, none⟩) k c5 ∧ iv = .int .i64 (k : Nat) ∧ k ≤ n ∧ OwnI wr w.heap.size 3 (some ⟨g5, 0, none⟩) k c5 ((set.take k).map F) ∧ Below w.heap.size w wr) (fun _ iv _ => n - (intOf iv).toNat)
  case atStart => exact ⟨0, _, 0, rfl, rfl, Nat.zero_le _, own_empty w _, below_alloc w _⟩
  case round =>
    obtain ⟨k, g5, c5, rfl, rfl, hk, hown, hbl⟩ := hrel
    have hsz := hbl.size
    by_cases hlt : k < n
    · obtain ⟨a1, rfl, _, l1⟩ := (HA.out.below hbl).at_ hlt
      have HC := Lib.hid (HF.out wr hbl k hlt)
      have HT := Lib.hid (take_map_succ (F := F) (show k < set.length by rw [HL.out]; exact hlt))
      have HO := Lib.hid hown
      have HB := Lib.hid hbl
      clear hown hbl
      go_wp2_with (first
        | (go_at_fn g0; refine HC.out.mono ?_; rintro e w2 ⟨rfl, hb2⟩; have HO2 := Lib.hid (HO.out.below hb2); have hs2 : w.heap.size ≤ w2.heap.size := Nat.le_trans hsz hb2.size; have HB2 := Lib.hid (HB.out.trans (hb2.mono hsz)); clear hb2)
        | (at_builtin; refine wpL_append1 _ rfl _ _ _ rfl w.heap.size 3 (.int .i64 0) 8 Tryz.underlying30 intInfo rfl _ k _ _ rfl HO2.out _ rfl rfl (by unfold maxLen; omega) (by omega) hs2 ?_))
      intro A6 c6 w6 ho6 hg6 hat6
      have hb6 := own_below HO2.out HB2.out hs2 hg6
      obtain ⟨g6, rfl⟩ := own_some_ ho6 (by omega)
      go_wp2_with fail
      go_roundw
      case rel => exact ⟨k + 1, g6, c6, rfl, by go_num, by omega, by rw [OwnI, HT.out, List.map_append]; simpa using ho6, hb6⟩
      case measure => (simp [intOf] <;> omega)
    · obtain rfl : k = n := by omega
      have hown2 : OwnI wr w.heap.size 3 (some ⟨g5, 0, none⟩) k c5 (set.map F) := by
        have h := hown
        rw [List.take_of_length_le (by rw [HL.out]; exact Nat.le_refl _)] at h
        exact h
      have CS := Lib.hid (implSortM g5 k c5 w.heap.size (set.map F) wr hown2 (by omega))
      have HO := Lib.hid hown2
      have HB := Lib.hid hbl
      clear hown hown2 hbl
      go_wp2_with fail
      refine CS.out.mono ?_
      rintro e w2 ⟨rfl, ho2, hg2⟩
      have HB2 := Lib.hid (own_below HO.out HB.out hsz hg2)
      have CC := Lib.hid (implCompact g5 k c5 w.heap.size _ w2 ho2 (by omega))
      have HO2 := Lib.hid ho2
      have hs2 : w.heap.size ≤ w2.heap.size := HB2.out.size
      rw [imL_of] at CC
      clear ho2 hg2 CS
      go_wp2_with fail
      refine CC.out.mono ?_
      rintro e w3 ⟨rfl, ho3, hg3⟩
      have HB3 := Lib.hid (own_below HO2.out HB2.out hs2 hg3)
      go_wp2_with fail
      go_ret
      exact ⟨g5, _, c5, rfl, ho3, HB3.out⟩
end Go.Proofs.YtobdkfhmmpigiaaGreat

/- Chapter 12: impl.renamedMasks, impl.fitsInto. -/
namespace Go.Proofs.YtobdkfhmmpigiaaGreat
open Go.RowKit Go.Deep
set_option linter.unusedVariables false

theorem box_cell (w : World) (v : Value) (t : TypeId) : (w.alloc (.cells #[v] t)).cell? ⟨w.heap.size, 0, none⟩ = some v := by
  have h := (rd_one (w := w) v t).2 (by omega)
  obtain ⟨ad, e, _, hc⟩ := h
  injection e with e
  subst e
  have := hc 0 v rfl
  rw [add0_] at this
  exact this
def renI (names : List Int) (n : Nat) (set : List Int) : List Int := imL (fun z => (renO names z.toNat n : Nat)) set

set_option maxHeartbeats 2000000 in
theorem implRenamed (m n : Nat) (A B : Option Addr) (c d : Nat) (names set : List Int) (w : World) (hb : RdI w B m set) (ha : RdI w A n names) (hS : MaskR 16 m set) (hP : MaskR 4 n names) (hn : n ≤ 4) (hm : m ≤ 1000) :
    Calls Tryz.prog 58 #[.slice B m d, .slice A n c] w fun e w' => ∃ g' m' c', e = .returned (.slice (some ⟨g', 0, none⟩) m' c') ∧ OwnI w' w.heap.size 3 (some ⟨g', 0, none⟩) m' c' (renI names n set) ∧ Below w.heap.size w w' := by
  have eg : ∀ args w, (callFunc 73 args).run Tryz.prog w = .ok (.enter 73 args) w := enters_of Tryz.func73 (by kernel_rfl) rfl
  have HC := Lib.hid (box_cell w (.slice A n c) 30)
  have CI := Lib.hid (implImages B m d set 73 #[.pointer (some ⟨w.heap.size, 0, none⟩)] (fun z => (renO names z.toNat n : Nat)) (w.alloc (.cells #[.slice A n c] 30)) (hb.alloc _) hm eg
    (fun wx hbx k hk => by
      obtain ⟨s, hs, hs16⟩ := hS k hk
      have h := implRenC s n ⟨w.heap.size, 0, none⟩ A c names wx hs16 hn ((hbx.cell (p := ⟨w.heap.size, 0, none⟩) (by simp)).trans HC.out) ((ha.alloc _).below hbx) hP
      rw [hs]
      simpa using h))
  have HB0 := Lib.hid (below_alloc w (.cells #[.slice A n c] 30))
  clear ha hb hS hP eg HC
  go_enter Tryz.func58, Tryz.ntmps58
  go_wp2_with fail
  refine CI.out.mono ?_
  rintro e w2 ⟨g', m', c', rfl, ho, hb2⟩
  go_wp2_with fail
  go_ret
  exact ⟨g', m', c', rfl, ho.more (by simp), HB0.out.trans (hb2.mono (by simp))⟩

def ordFB (n : Nat) : Bool := (List.range (ordR n n).length).all fun j => decide ((row (ordR n n) j).length = n) && (List.range n).all fun i => decide (0 ≤ nth (row (ordR n n) j) i ∧ nth (row (ordR n n) j) i < 4)
theorem ordFB_all : ∀ n : Nat, n < 5 → ordFB n = true := by decide +kernel
theorem ordF_facts {n : Nat} (hn : n ≤ 4) {j : Nat} (hj : j < (ordR n n).length) : (row (ordR n n) j).length = n ∧ MaskR 4 n (row (ordR n n) j) := by
  have h := List.all_eq_true.1 (ordFB_all n (by omega)) j (List.mem_range.2 hj)
  simp only [Bool.and_eq_true] at h
  refine ⟨of_decide_eq_true h.1, fun i hi => ?_⟩
  have := of_decide_eq_true (List.all_eq_true.1 h.2 i (List.mem_range.2 hi))
  exact ⟨(nth (row (ordR n n) j) i).toNat, by omega, by omega⟩
theorem renI_bd {names : List Int} {n : Nat} {set : List Int} (hP : MaskR 4 n names) : ∀ x ∈ renI names n set, 0 ≤ x ∧ x ≤ 1048576 := by
  intro x hx
  obtain ⟨z, _, rfl⟩ := imL_mem.1 hx
  have key : ∀ k, k ≤ n → renO names z.toNat k < 16 := by
    intro k
    induction k with
    | zero => intro _; rw [renO_zero]; omega
    | succ k ih =>
      intro hk
      obtain ⟨q, hq, hq4⟩ := hP k (by omega)
      cases hb : bitAt z.toNat k with
      | true => exact (by rw [renO_on hb hq rfl rfl]; exact (or_pow (ih (by omega)) hq4 rfl).1)
      | false => rw [renO_off hb rfl]; exact ih (by omega)
  have := key n (Nat.le_refl _)
  omega
/-- Does one of the orders bring a set into another one (the program's words)? -/
def fitI (n : Nat) (a b : List Int) : Bool := (ordR n n).any fun names => witI (renI names n a) b
theorem any_snoc {α : Type} {z : List α} {f : α → Bool} {k : Nat} {d : α} (h : k < z.length) : (z.take (k + 1)).any f = ((z.take k).any f || f (z.getD k d)) := by
  rw [List.take_succ_eq_append_getElem h, List.any_append]
  simp [List.getD, List.getElem?_eq_getElem h]
theorem any_on {α : Type} {z : List α} {f : α → Bool} {k : Nat} {d : α} (h : k < z.length) (h2 : f (z.getD k d) = true) : z.any f = true := by
  rw [List.any_eq_true]
  exact ⟨_, List.getElem_mem h, by rw [List.getD_eq_getElem?_getD, List.getElem?_eq_getElem h] at h2; exact h2⟩
theorem row_getD (z : List (List Int)) (k : Nat) : z.getD k [] = row z k := by unfold row; rfl
attribute [irreducible] renI

set_option maxHeartbeats 4000000 in
theorem implFits (n ma mb : Nat) (A B : Option Addr) (c d : Nat) (a b : List Int) (w : World) (ha : RdI w A ma a) (hb : RdI w B mb b) (hSa : MaskR 16 ma a) (hzb : ∀ x ∈ b, 0 ≤ x ∧ x ≤ 1048576) (h4 : n ≤ 4) (hma : ma ≤ 16) (hmb : mb ≤ 16) :
    Calls Tryz.prog 39 #[.int .i64 n, .slice A ma c, .slice B mb d] w fun e w' => e = .returned (.bool (fitI n a b)) ∧ Below w.heap.size w w' := by
  have HLA := Lib.hid ha.lenI
  have HA := Lib.hid ha
  have HB := Lib.hid hb
  have HSA := Lib.hid hSa
  have HZB := Lib.hid hzb
  have CO := Lib.hid (implOrders n w h4)
  clear ha hb hSa hzb
  go_enter Tryz.func39, Tryz.ntmps39
  go_wp2_with fail
  refine CO.out.mono ?_
  rintro e w1 ⟨A1, m1, c1, rfl, ho1, hb1⟩
  obtain ⟨L, hL⟩ : ∃ L, ordR n n = L := ⟨_, rfl⟩
  have HLL := Lib.hid hL
  rw [hL] at ho1
  have HR := Lib.hid ho1.rd
  have HLN := Lib.hid ho1.1
  have hm24 : m1 ≤ 24 := by rw [← ho1.1, ← hL]; exact (ordR_facts h4 (Nat.le_refl _)).1
  have HB1 := Lib.hid hb1
  have hs1 := hb1.size
  clear ho1 hb1 CO hL
  go_wp2_with fail
  go_loopw [12] (fun jv wr => ∃ j : Nat, jv = .int .i64 (j : Nat) ∧ j ≤ m1 ∧ Hid ((L.take j).any (fun names => witI (renI names n a) b) = false) ∧ Below w1.heap.size w1 wr) (fun jv _ => m1 - (intOf jv).toNat)
  case atStart => exact ⟨0, rfl, Nat.zero_le _, Lib.hid (by simp), Below.refl _ _⟩
  case round =>
    obtain ⟨j, rfl, hj, HJ, hbl⟩ := hrel
    have hsz := hbl.size
    have HBL := Lib.hid (HB1.out.trans (hbl.mono hs1))
    by_cases hlt : j < m1
    · obtain ⟨ad, BN, mN, dN, rfl, _, hcN, hBN, hmN, hdN⟩ := (HR.out.below hbl).2 j hlt
      have hjl : j < (ordR n n).length := by rw [HLL.out, HLN.out]; exact hlt
      obtain ⟨q1, q2⟩ := ordF_facts h4 hjl
      rw [HLL.out] at q1 q2
      obtain rfl : n = mN := by rw [← q1, hBN.lenI]
      have CR := Lib.hid (implRenamed ma n BN A dN c (row L j) a wr (HA.out.below HBL.out) hBN HSA.out q2 h4 (by omega))
      have HZN := Lib.hid (renI_bd (set := a) q2)
      have HS := Lib.hid (any_snoc (f := fun names => witI (renI names n a) b) (d := []) (show j < L.length by rw [HLN.out]; exact hlt))
      have HON := Lib.hid (fun h => any_on (f := fun names => witI (renI names n a) b) (d := []) (show j < L.length by rw [HLN.out]; exact hlt) h)
      rw [row_getD] at HS HON
      have HB2 := Lib.hid hbl
      clear hBN q1 q2 hbl hjl
      go_wp2_with fail
      refine CR.out.mono ?_
      rintro e w4 ⟨g4, m4, c4, rfl, o4, hb4⟩
      have HB4 := Lib.hid (HB2.out.trans (hb4.mono hsz))
      have HB5 := Lib.hid (HBL.out.trans (hb4.mono HBL.out.size))
      have CW := Lib.hid (implWithin (some ⟨g4, 0, none⟩) B m4 mb c4 d _ b w4 o4.rd (HB.out.below HB5.out) (by
        have h1 := o4.lenI
        have h2 := imL_len (fun z => (renO (row L j) z.toNat n : Nat)) a
        unfold renI at h1
        rw [HLA.out] at h2
        omega) (by omega) HZN.out HZB.out)
      clear o4 hb4 CR
      go_wp2_with fail
      refine CW.out.mono ?_
      rintro e w5 ⟨rfl, hb5⟩
      have HB6 := Lib.hid (HB4.out.trans (hb5.mono HB4.out.size))
      have HB7 := Lib.hid (HB5.out.trans (hb5.mono HB5.out.size))
      clear hb5 CW
      cases hv : witI (renI (row L j) n a) b with
      | true =>
        have HF := Lib.hid (show fitI n a b = true by unfold fitI; rw [HLL.out]; exact HON.out hv)
        clear hv
        go_wp2_with fail
        go_ret
        exact ⟨by rw [HF.out]; rfl, HB7.out⟩
      | false =>
        have HN := Lib.hid (show (L.take (j + 1)).any (fun names => witI (renI names n a) b) = false by rw [HS.out, HJ.out]; exact hv)
        clear hv
        go_wp2_with fail
        go_roundw
        case rel => exact ⟨j + 1, by go_num, by omega, HN, HB6.out⟩
        case measure => (simp [intOf] <;> omega)
    · obtain rfl : j = m1 := by omega
      have HF := Lib.hid (show fitI n a b = false by unfold fitI; rw [HLL.out]; have h := HJ.out; rw [List.take_of_length_le (by rw [HLN.out]; exact Nat.le_refl _)] at h; exact h)
      go_wp2_with fail
      go_ret
      exact ⟨by rw [HF.out]; rfl, HBL.out⟩
end Go.Proofs.YtobdkfhmmpigiaaGreat
