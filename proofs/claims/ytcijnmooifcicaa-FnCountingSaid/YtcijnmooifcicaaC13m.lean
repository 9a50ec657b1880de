/- Chapter 13: networks, tokens and entries that are drawn; the law's own helpers. -/
import Derived.Test.YtcijnmooifcicaaC13l
import Derived.Test.YtcijnmooifcicaaGrow
import Derived.Test.YtcijnmooifcicaaApp1
import Derived.Test.YtcijnmooifcicaaArgB
namespace Go.Proofs.Ytcijnmooifcicaa
open Go.RowKit Go.Deep
set_option linter.unusedVariables false

theorem row_snoc_lt {zss : List (List Int)} {r : List Int} {j : Nat} (h : j < zss.length) : row zss j = row (zss ++ [r]) j := by
  simp only [row, List.getD, List.getElem?_append_left h]
theorem row_snoc_eq {zss : List (List Int)} {r : List Int} {j : Nat} (h : zss.length = j) : row (zss ++ [r]) j = r := by
  simp [row, List.getD, ← h]
theorem RowsIn.congr {w : World} {lo hi n : Nat} {A : Option Addr} {f f' : Nat → List Int} {vs : List Value} (h : RowsIn w lo hi A n f vs) (hf : ∀ j, j < n → f j = f' j) : RowsIn w lo hi A n f' vs := by
  intro j hj
  obtain ⟨B, m, d, hv, hB, hd⟩ := h j hj
  exact ⟨B, m, d, hv, by rw [← hf j hj]; exact hB, hd⟩
theorem own_pair (w : World) (x y : Int) : OwnI (w.alloc (.cells #[.int .i64 x, .int .i64 y] 3)) w.heap.size 3 (some ⟨w.heap.size, 0, none⟩) 2 2 [x, y] :=
  World.ownsRow_lit (base := w.heap.size) (e := 3) (size := 1) w #[.int .i64 x, .int .i64 y] 2 (Nat.le_refl _) (by unfold maxLen; omega) rfl
theorem own_netbox (w : World) (x : Int) (A : Option Addr) (n c : Nat) : Own (w.alloc (.cells #[.int .i64 x, .slice A n c] 35)) w.heap.size 35 (some ⟨w.heap.size, 0, none⟩) 2 2 [.int .i64 x, .slice A n c] :=
  World.ownsRow_lit (base := w.heap.size) (e := 35) (size := 1) w #[.int .i64 x, .slice A n c] 2 (Nat.le_refl _) (by unfold maxLen; omega) rfl
/-- The cells of a box that the call has made. -/
theorem own_box {w : World} {b base : Nat} {e : TypeId} {u v : Value} {c : Nat} (h : Own w base e (some ⟨b, 0, none⟩) 2 c [u, v]) :
    w.cell? ⟨b, 0, none⟩ = some u ∧ w.cell? ⟨b, 1, none⟩ = some v ∧ w.frozen? ⟨b, 0, none⟩ = false ∧ w.frozen? ⟨b, 1, none⟩ = false ∧ b < w.heap.size := by
  obtain ⟨g0, u0, e0, _, _, h0, c0, f0⟩ := h.at_ (show 0 < 2 by omega)
  obtain ⟨g1, u1, e1, _, _, h1, c1, f1⟩ := h.at_ (show 1 < 2 by omega)
  injection e0 with e0
  injection e0 with e0
  subst e0
  injection e1 with e1
  injection e1 with e1
  subst e1
  simp at h0 h1
  subst h0 h1
  exact ⟨c0, c1, f0, f1, (h.blk_ b rfl).2⟩

/-- Rows of two different wires. -/
def NetR (n m : Nat) (zss : List (List Int)) : Prop := zss.length = m ∧ ∀ k, k < m → ∃ p q : Nat, row zss k = pr p q ∧ p < n ∧ q < n ∧ p ≠ q
theorem netR_nil (n : Nat) : NetR n 0 [] := ⟨rfl, fun k h => by omega⟩
theorem netR_snoc {n m p q : Nat} {zss : List (List Int)} (h : NetR n m zss) (hp : p < n) (hq : q < n) (hpq : p ≠ q) : NetR n (m + 1) (zss ++ [pr p q]) := by
  refine ⟨by rw [List.length_append, h.1]; rfl, fun k hk => ?_⟩
  by_cases e : k = m
  · subst e; exact ⟨p, q, row_snoc_eq h.1, hp, hq, hpq⟩
  · obtain ⟨p', q', e1, e2⟩ := h.2 k (by omega)
    exact ⟨p', q', by rw [← row_snoc_lt (by rw [h.1]; omega)]; exact e1, e2⟩
theorem netR_pq {n m : Nat} {zss : List (List Int)} (h : NetR n m zss) : PqW n m zss := fun k hk => by
  obtain ⟨p, q, e, h1, h2, h3⟩ := h.2 k hk
  exact ⟨p, q, by rw [e]; simp [nth], by rw [e]; simp [nth], h1, h2, h3⟩
theorem netR_ok {n m : Nat} {zss : List (List Int)} (h : NetR n m zss) (h1 : 1 ≤ n) (h8 : n ≤ 8) (hm : m ≤ 60) : netV (n : Int) zss = true := by
  refine net_yes h.1 (by omega) hm ?_
  have : ∀ k, k ≤ m → netTo (n : Int) zss k = true := by
    intro k
    induction k with
    | zero => intro _; exact netTo_zero _ _
    | succ k ih =>
      intro hk
      obtain ⟨p, q, e, e1, e2, e3⟩ := h.2 k (by omega)
      refine netTo_on (ih (by omega)) ?_
      have a0 : nth (pr p q) 0 = (p : Int) := by simp [nth]
      have a1 : nth (pr p q) 1 = (q : Int) := by simp [nth]
      have a2 : ((p : Int) == (q : Int)) = false := by rw [beq_eq_false_iff_ne]; omega
      rw [e, pairB, a0, a1, a2, inW, inW, decide_eq_true (show 0 ≤ (p : Int) ∧ (p : Int) < (n : Int) by omega), decide_eq_true (show 0 ≤ (q : Int) ∧ (q : Int) < (n : Int) by omega)]
      rfl
  exact this m (Nat.le_refl _)
theorem pick_ne {n a x : Nat} (ha : a < n) (hx : x + 1 < n) : (a + 1 + x) % n < n ∧ (a + 1 + x) % n ≠ a := by
  refine ⟨Nat.mod_lt _ (by omega), ?_⟩
  rcases Nat.lt_or_ge (a + 1 + x) n with h | h
  · rw [Nat.mod_eq_of_lt h]; omega
  · rw [Nat.mod_eq_sub_mod h, Nat.mod_eq_of_lt (by omega)]; omega

set_option maxHeartbeats 8000000 in
theorem specPairs (g n : Nat) (up : Bool) (w : World) (hc : Cur w g) (hn1 : 1 ≤ n) (hn : n ≤ 6) : Calls Try.prog 70 #[.pointer (some ⟨g, 0, none⟩), .int .i64 n, .int .i64 12, .bool up] w fun e w' => ∃ A m c zss, e = .returned (.slice A m c) ∧ m ≤ 12 ∧ NetR n m zss ∧ OwnR w' w.heap.size w'.heap.size A m c zss ∧ Cur w' g ∧ w.grownBy w' (some g) := by
  have hgw := hc.lt
  obtain ⟨B, hB⟩ : ∃ B, w.heap.size = B := ⟨_, rfl⟩
  have HB := Lib.hid hB
  have HC0 := Lib.hid (hc.below (below_alloc w (.cells #[] 22)))
  have HO0 := Lib.hid (show Own (w.alloc (.cells #[] 22)) B 22 (some ⟨w.heap.size, 0, none⟩) 0 0 [] from hB ▸ own_empty w _)
  have HG0 := Lib.hid (grown_alloc w g (.cells #[] 22))
  rw [hB] at hgw ⊢
  clear hB hc
  go_enter Try.func70, Try.ntmps70
  go_wp2_with fail
  refine (specBelow g 13 _ HC0.out (by omega) (by omega)).mono ?_
  rintro e w1 ⟨x0, hx0, rfl, hc1, hg1⟩
  have HO1 := Lib.hid (own_cur HO0.out hg1 hgw)
  have HG1 := Lib.hid (HG0.out.trans hg1)
  have HC1 := Lib.hid hc1
  obtain ⟨n1, hn1e⟩ : ∃ n1, n - 1 = n1 := ⟨_, rfl⟩
  have en1 : (n : Int) - 1 = (n1 : Int) := by omega
  have hn1a : n1 + 1 ≤ n := by omega
  have hn1b : n ≤ n1 + 1 := by omega
  clear hn1e hg1 hc1
  go_wp2_with fail
  go_loopw [9, 10] (fun mv rv wr => ∃ k r : Nat, ∃ A c vs zss, mv = .slice A k c ∧ rv = .int .i64 (r : Nat) ∧ k + r ≤ 12 ∧ Hid (NetR n k zss) ∧ Own wr B 22 A k c vs ∧ RowsIn wr B wr.heap.size A k (row zss) vs ∧ Cur wr g ∧ w.grownBy wr (some g)) (fun _ rv _ => (intOf rv).toNat)
  case atStart => exact ⟨0, x0, _, _, [], [], rfl, rfl, by omega, Lib.hid (netR_nil n), HO1.out, fun j hj => by omega, HC1.out, HG1.out⟩
  case round =>
    obtain ⟨k, r, A, c, vs, zss, rfl, rfl, hkr, HR, hown, hrs, hc, hg⟩ := hrel
    by_cases hr0 : 0 < r
    · by_cases hn2 : 1 < n
      · go_wp2_with fail
        refine (specBelow g n _ hc (by omega) (by omega)).mono ?_
        rintro e w2 ⟨a, ha, rfl, hc2, hg2⟩
        go_wp2_with fail
        refine (specBelow g n1 _ hc2 (by omega) (by omega)).mono ?_
        rintro e w3 ⟨x, hx, rfl, hc3, hg3⟩
        have hg23 := hg2.trans hg3
        have hgg := hg.trans hg23
        have hown3 := own_cur hown hg23 hgw
        have hAA := hown.blk_
        have hrs3 := RowsIn.keep hrs (fun q h1 h2 h3 => hg23.block q h3 (fun he => by injection he with he; omega))
        obtain ⟨hb1, hb2⟩ := pick_ne ha (show x + 1 < n by omega)
        obtain ⟨b, hb⟩ : ∃ b, (a + 1 + x) % n = b := ⟨_, rfl⟩
        rw [hb] at hb1 hb2
        have eb : ((a : Int) + 1 + (x : Int)) % (n : Int) = (b : Int) := by rw [← hb]; simp
        have hszr : B ≤ wr.heap.size := by have := hg.size; rw [HB.out] at this; exact this
        have hs23 := hg23.size
        clear hb hc hc2 hg2 hg3 hg hown hrs
        have step : ∀ p q : Nat, p < n → q < n → p ≠ q → True := fun _ _ _ _ _ => trivial
        clear step
        have hsz3 : B ≤ w3.heap.size := Nat.le_trans hszr hs23
        cases up with
        | true =>
          by_cases hab : b < a
          · have hab2 : (b : Int) < (a : Int) := by omega
            have HRW := Lib.hid ((own_pair w3 (b : Int) (a : Int)).more hsz3)
            have HOW := Lib.hid (hown3.alloc (.cells #[.int .i64 (b : Int), .int .i64 (a : Int)] 3))
            have HRS := Lib.hid (RowsIn.keep (w' := w3.alloc (.cells #[.int .i64 (b : Int), .int .i64 (a : Int)] 3)) hrs3 (fun q h1 h2 h3 => Below.heap_alloc w3 _ q h3))
            have HGG := Lib.hid (hgg.trans (grown_alloc w3 g (.cells #[.int .i64 (b : Int), .int .i64 (a : Int)] 3)))
            have HCC := Lib.hid (hc3.below (below_alloc w3 (.cells #[.int .i64 (b : Int), .int .i64 (a : Int)] 3)))
            clear hown3 hrs3 hgg hc3
            go_wp2_with (at_builtin; refine wpL_append1_at _ rfl _ _ _ rfl B 22 (.slice none 0 0) 24 Try.underlying30 sliceInfo rfl _ k _ _ rfl HOW.out (.slice (some ⟨w3.heap.size, 0, none⟩) 2 2) (w3.heap.size + 1) (by simp) rfl rfl (by unfold maxLen; omega) (by omega) (by simp; omega) ?_)
            intro A6 c6 w6 ho6 hg6 hat6
            have hc6 : Cur w6 g := HCC.out.grown hg6 (fun q hq => by have := (HOW.out.blk_ q hq).1; omega)
            have hg7 := grown_own HGG.out HB.out hg6 (fun q hq => (HOW.out.blk_ q hq).1)
            have hrs6 := rowsIn_push (f := row (zss ++ [pr b a])) (cR := 2) HOW.out (HRS.out.congr fun j hj => row_snoc_lt (by rw [HR.out.1]; exact hj)) (fun q hq => (hAA q hq).2) (by simp; omega) (by rw [row_snoc_eq HR.out.1]; exact HRW.out) (fun q hq => by have h3 : w3.heap.size = q := (by simpa [blk] using hq); omega) hg6 (by simpa using hat6)
            go_wp2_with fail
            go_roundw
            case rel => exact ⟨k + 1, r - 1, A6, c6, _, zss ++ [pr b a], rfl, by go_num, by omega, Lib.hid (netR_snoc HR.out hb1 ha hb2), ho6, hrs6, hc6, hg7⟩
            case measure => (simp [intOf] <;> omega)
          · have hab2 : decide ((b : Int) < (a : Int)) = false := decide_eq_false (by omega)
            have HRW := Lib.hid ((own_pair w3 (a : Int) (b : Int)).more hsz3)
            have HOW := Lib.hid (hown3.alloc (.cells #[.int .i64 (a : Int), .int .i64 (b : Int)] 3))
            have HRS := Lib.hid (RowsIn.keep (w' := w3.alloc (.cells #[.int .i64 (a : Int), .int .i64 (b : Int)] 3)) hrs3 (fun q h1 h2 h3 => Below.heap_alloc w3 _ q h3))
            have HGG := Lib.hid (hgg.trans (grown_alloc w3 g (.cells #[.int .i64 (a : Int), .int .i64 (b : Int)] 3)))
            have HCC := Lib.hid (hc3.below (below_alloc w3 (.cells #[.int .i64 (a : Int), .int .i64 (b : Int)] 3)))
            clear hown3 hrs3 hgg hc3
            go_wp2_with (at_builtin; refine wpL_append1_at _ rfl _ _ _ rfl B 22 (.slice none 0 0) 24 Try.underlying30 sliceInfo rfl _ k _ _ rfl HOW.out (.slice (some ⟨w3.heap.size, 0, none⟩) 2 2) (w3.heap.size + 1) (by simp) rfl rfl (by unfold maxLen; omega) (by omega) (by simp; omega) ?_)
            intro A6 c6 w6 ho6 hg6 hat6
            have hc6 : Cur w6 g := HCC.out.grown hg6 (fun q hq => by have := (HOW.out.blk_ q hq).1; omega)
            have hg7 := grown_own HGG.out HB.out hg6 (fun q hq => (HOW.out.blk_ q hq).1)
            have hrs6 := rowsIn_push (f := row (zss ++ [pr a b])) (cR := 2) HOW.out (HRS.out.congr fun j hj => row_snoc_lt (by rw [HR.out.1]; exact hj)) (fun q hq => (hAA q hq).2) (by simp; omega) (by rw [row_snoc_eq HR.out.1]; exact HRW.out) (fun q hq => by have h3 : w3.heap.size = q := (by simpa [blk] using hq); omega) hg6 (by simpa using hat6)
            go_wp2_with fail
            go_roundw
            case rel => exact ⟨k + 1, r - 1, A6, c6, _, zss ++ [pr a b], rfl, by go_num, by omega, Lib.hid (netR_snoc HR.out ha hb1 (fun e => hb2 e.symm)), ho6, hrs6, hc6, hg7⟩
            case measure => (simp [intOf] <;> omega)
        | false =>
          have HRW := Lib.hid ((own_pair w3 (a : Int) (b : Int)).more hsz3)
          have HOW := Lib.hid (hown3.alloc (.cells #[.int .i64 (a : Int), .int .i64 (b : Int)] 3))
          have HRS := Lib.hid (RowsIn.keep (w' := w3.alloc (.cells #[.int .i64 (a : Int), .int .i64 (b : Int)] 3)) hrs3 (fun q h1 h2 h3 => Below.heap_alloc w3 _ q h3))
          have HGG := Lib.hid (hgg.trans (grown_alloc w3 g (.cells #[.int .i64 (a : Int), .int .i64 (b : Int)] 3)))
          have HCC := Lib.hid (hc3.below (below_alloc w3 (.cells #[.int .i64 (a : Int), .int .i64 (b : Int)] 3)))
          clear hown3 hrs3 hgg hc3
          go_wp2_with (at_builtin; refine wpL_append1_at _ rfl _ _ _ rfl B 22 (.slice none 0 0) 24 Try.underlying30 sliceInfo rfl _ k _ _ rfl HOW.out (.slice (some ⟨w3.heap.size, 0, none⟩) 2 2) (w3.heap.size + 1) (by simp) rfl rfl (by unfold maxLen; omega) (by omega) (by simp; omega) ?_)
          intro A6 c6 w6 ho6 hg6 hat6
          have hc6 : Cur w6 g := HCC.out.grown hg6 (fun q hq => by have := (HOW.out.blk_ q hq).1; omega)
          have hg7 := grown_own HGG.out HB.out hg6 (fun q hq => (HOW.out.blk_ q hq).1)
          have hrs6 := rowsIn_push (f := row (zss ++ [pr a b])) (cR := 2) HOW.out (HRS.out.congr fun j hj => row_snoc_lt (by rw [HR.out.1]; exact hj)) (fun q hq => (hAA q hq).2) (by simp; omega) (by rw [row_snoc_eq HR.out.1]; exact HRW.out) (fun q hq => by have h3 : w3.heap.size = q := (by simpa [blk] using hq); omega) hg6 (by simpa using hat6)
          go_wp2_with fail
          go_roundw
          case rel => exact ⟨k + 1, r - 1, A6, c6, _, zss ++ [pr a b], rfl, by go_num, by omega, Lib.hid (netR_snoc HR.out ha hb1 (fun e => hb2 e.symm)), ho6, hrs6, hc6, hg7⟩
          case measure => (simp [intOf] <;> omega)
      · go_wp2_with fail
        go_ret
        exact ⟨A, k, c, zss, rfl, by omega, HR.out, ⟨HR.out.1, vs, hown, fun q hq => (hown.blk_ q hq).2, hrs⟩, hc, hg⟩
    · go_wp2_with fail
      go_ret
      exact ⟨A, k, c, zss, rfl, by omega, HR.out, ⟨HR.out.1, vs, hown, fun q hq => (hown.blk_ q hq).2, hrs⟩, hc, hg⟩
end Go.Proofs.Ytcijnmooifcicaa
