/- Draws: the bytes of a code, and the cursor that goes over them. -/
import Derived.Test.YtobdkfhmmpigiaaGreatMA
namespace Go.Proofs.YtobdkfhmmpigiaaGreat
open Go.RowKit Go.Deep
set_option linter.unusedVariables false

abbrev RdU (w : World) (A : Option Addr) (n : Nat) (zs : List Int) : Prop := Rd w A n (zs.map (Value.int .u8))
theorem rdU_at {w : World} {A : Option Addr} {n k : Nat} {zs : List Int} (h : RdU w A n zs) (hk : k < n) : ∃ ad, A = some ad ∧ ad.block < w.heap.size ∧ w.cell? (ad.add k) = some (.int .u8 (nth zs k)) := by
  obtain ⟨ad, e, hb, hc⟩ := h.2 (by omega)
  have hl : zs.length = n := by simpa using h.1
  refine ⟨ad, e, hb, hc k _ ?_⟩
  rw [List.getElem?_map, List.getElem?_eq_getElem (l := zs) (by omega), nth_eq (by omega)]; rfl
theorem rdU_off {w : World} {A : Option Addr} {n : Nat} {zs : List Int} (h : RdU w A n zs) : 0 < n → ∀ q, blk A = some q → q < w.heap.size := by
  intro h0 q hq
  obtain ⟨a1, rfl, hb, _⟩ := rdU_at h h0
  have : a1.block = q := by simpa [blk] using hq
  omega
theorem bits_and_255 (x : Int) : bits .and .i64 x 255 = x % 256 := by
  show IntKind.i64.wrap ((BitVec.ofInt 64 x &&& BitVec.ofInt 64 255).toNat : Int) = _
  have h : (BitVec.ofInt 64 x &&& BitVec.ofInt 64 255).toNat = (BitVec.ofInt 64 x).toNat % 256 := by
    rw [BitVec.toNat_and]
    exact Nat.and_two_pow_sub_one_eq_mod _ 8
  rw [h, IntKind.wrap_i64, BitVec.toNat_ofInt]
  omega
/-- The cursor's box: the code, how far it has gone, and what it mixes. -/
def CurBox (w : World) (g : Nat) (A : Option Addr) (n c : Nat) (i : Nat) (h : Int) : Prop := Own w g 71 (some ⟨g, 0, none⟩) 3 3 [.slice A n c, .int .i64 i, .int .i64 h]
def Cur (w : World) (g : Nat) : Prop := ∃ A n c zs i h, i ≤ n ∧ n ≤ 1048576 ∧ CurBox w g A n c i h ∧ RdU w A n zs ∧ (∀ z ∈ zs, 0 ≤ z ∧ z < 256) ∧ (0 < n → ∀ q, blk A = some q → q < g)
theorem CurBox.cells {w : World} {g : Nat} {A : Option Addr} {n c i : Nat} {h : Int} (H : CurBox w g A n c i h) :
    w.cell? ⟨g, 0, none⟩ = some (.slice A n c) ∧ w.cell? ⟨g, 1, none⟩ = some (.int .i64 i) ∧ w.cell? ⟨g, 2, none⟩ = some (.int .i64 h) ∧ w.frozen? ⟨g, 0, none⟩ = false ∧ w.frozen? ⟨g, 1, none⟩ = false ∧ w.frozen? ⟨g, 2, none⟩ = false ∧ g < w.heap.size := by
  obtain ⟨g0, u0, e0, _, hlt, h0, c0, f0⟩ := Own.at_ H (show 0 < 3 by omega)
  obtain ⟨g1, u1, e1, _, _, h1, c1, f1⟩ := Own.at_ H (show 1 < 3 by omega)
  obtain ⟨g2, u2, e2, _, _, h2, c2, f2⟩ := Own.at_ H (show 2 < 3 by omega)
  injection e0 with e0
  injection e0 with e0
  injection e1 with e1
  injection e1 with e1
  injection e2 with e2
  injection e2 with e2
  subst e0 e1 e2
  injection h0 with h0
  injection h1 with h1
  injection h2 with h2
  subst h0 h1 h2
  exact ⟨c0, c1, c2, f0, f1, f2, hlt⟩
theorem Cur.lt {w : World} {g : Nat} (h : Cur w g) : g < w.heap.size := by
  obtain ⟨A, n, c, zs, i, x, _, _, hb, _⟩ := h
  exact hb.cells.2.2.2.2.2.2
theorem Cur.grown {w w' : World} {g : Nat} {row : Option Nat} (h : Cur w g) (hg : w.grownBy w' row) (hne : ∀ q, row = some q → g < q) : Cur w' g := by
  obtain ⟨A, n, c, zs, i, x, h1, h2, hb, hr, hz, ho⟩ := h
  refine ⟨A, n, c, zs, i, x, h1, h2, Own.kept hb hg (fun q hq he => ?_), ?_, hz, ho⟩
  · have : g = q := by simpa [blk] using hq
    have := hne q he.symm
    omega
  · rcases Nat.eq_zero_or_pos n with h0 | h0
    · exact ⟨hr.1, fun hn => by omega⟩
    · exact Rd.grown hr hg fun q hq he => by
        have h3 := ho h0 q hq
        have := hne q he.symm
        omega
theorem Cur.below {w w' : World} {g : Nat} (h : Cur w g) (hb : Below w.heap.size w w') : Cur w' g :=
  h.grown (row := none) ⟨hb.os, hb.tape, hb.output, hb.size, fun k hk _ => hb.block k hk⟩ (by simp)
/-- What a draw leaves: nothing but the cursor's box is changed. -/
theorem below_cur {w w' : World} {g B : Nat} (h : w.grownBy w' (some g)) (hB : B ≤ g) (hw : B ≤ w.heap.size) : Below B w w' :=
  (Below.refl B w).grown h hw fun q hq => by injection hq with hq; omega
theorem own_cur {w w' : World} {g base : Nat} {e : TypeId} {A : Option Addr} {n c : Nat} {xs : List Value} (h : Own w base e A n c xs) (hg : w.grownBy w' (some g)) (hb : g < base) : Own w' base e A n c xs :=
  h.kept hg fun q hq he => by injection he with he; have := (h.blk_ q hq).1; omega
theorem rd_cur {w w' : World} {g : Nat} {A : Option Addr} {n : Nat} {xs : List Value} (h : Rd w A n xs) (hg : w.grownBy w' (some g)) (hb : 0 < n → ∀ q, blk A = some q → q ≠ g) : Rd w' A n xs := by
  rcases Nat.eq_zero_or_pos n with h0 | h0
  · exact ⟨h.1, fun hn => by omega⟩
  · exact h.grown hg fun q hq he => by injection he with he; exact hb h0 q hq he
theorem Cur.drew {w : World} {g : Nat} (h : Cur w g) : Cur w.drew g := h

theorem own_box3 (w : World) (A : Option Addr) (n c : Nat) (h : Int) : CurBox (w.alloc (.cells #[.slice A n c, .int .i64 0, .int .i64 h] 71)) w.heap.size A n c 0 h :=
  World.ownsRow_lit (base := w.heap.size) (e := 71) (size := 1) w #[.slice A n c, .int .i64 0, .int .i64 h] 3 (Nat.le_refl _) (by unfold maxLen; omega) rfl
attribute [local go_sem] bits_and_255
theorem ret_mod (E : Int) {Q : Prop} (h : Q) : ∃ x : Nat, x < 256 ∧ Ending.returned (.int .i64 (E % 256)) = .returned (.int .i64 x) ∧ Q :=
  ⟨(E % 256).toNat, by omega, by rw [show ((E % 256).toNat : Int) = E % 256 by omega], h⟩
theorem grownBy_trans {w w' w'' : World} {r : Option Nat} (h : w.grownBy w' r) (h' : w'.grownBy w'' r) : w.grownBy w'' r := h.trans h'
set_option maxHeartbeats 2000000 in
theorem specByte (g : Nat) (w : World) (hc : Cur w g) : Calls Tryz.prog 41 #[.pointer (some ⟨g, 0, none⟩)] w fun e w' => ∃ x : Nat, x < 256 ∧ e = .returned (.int .i64 x) ∧ Cur w' g ∧ w.grownBy w' (some g) := by
  obtain ⟨A, n, c, zs, i, h, hi, hn, hb, hr, hz, ho⟩ := hc
  obtain ⟨b0, b1, b2, b3, b4, b5, b6⟩ := hb.cells
  obtain ⟨u, hu⟩ : ∃ u, wrap64 (wrap64 (h * 6364136223846793005) + 1442695040888963407) = u := ⟨_, rfl⟩
  obtain ⟨w1, hw1⟩ : ∃ w1, w.setCell ⟨g, 2, none⟩ (.int .i64 u) = w1 := ⟨_, rfl⟩
  have H1 : CurBox w1 g A n c i u := hw1 ▸ Own.set_ hb (.int .i64 u) (show 2 < 3 by omega)
  have G1 : w.grownBy w1 (some g) := hw1 ▸ grownBy_set (World.grownBy.refl w _) rfl _
  have R1 : RdU w1 A n zs := rd_cur hr G1 (fun h0 q hq => Nat.ne_of_lt (ho h0 q hq))
  obtain ⟨c0, c1, c2, c3, c4, c5, c6⟩ := H1.cells
  have HU := Lib.hid hu
  have HW := Lib.hid hw1
  clear hu hw1
  by_cases hlt : i < n
  · obtain ⟨a1, rfl, _, t4⟩ := rdU_at R1 hlt
    have hzi := hz (nth zs i) (nth_mem (by have := R1.1; simp at this; omega))
    have hn63 : n ≤ 1048576 := hn
    obtain ⟨w2, hw2⟩ : ∃ w2, w1.setCell ⟨g, 1, none⟩ (.int .i64 ((i : Int) + 1)) = w2 := ⟨_, rfl⟩
    have H2 : CurBox w2 g (some a1) n c (i + 1) u := by rw [← hw2]; exact Own.set_ H1 (.int .i64 ((i : Int) + 1)) (show 1 < 3 by omega)
    have G2 : w1.grownBy w2 (some g) := hw2 ▸ grownBy_set (World.grownBy.refl w1 _) rfl _
    have HE := Lib.hid (show Cur w2 g ∧ w.grownBy w2 (some g) from ⟨⟨some a1, n, c, zs, i + 1, u, by omega, hn, H2, rd_cur R1 G2 (fun h0 q hq => Nat.ne_of_lt (ho h0 q hq)), hz, ho⟩, G1.trans G2⟩)
    have HW2 := Lib.hid hw2
    clear hr hb ho hz H1 G1 R1 H2 G2 hw2
    go_enter Tryz.func41, Tryz.ntmps41
    go_wp2_with fail
    rw [HU.out, HW.out]
    go_region
    all_goals
      go_wp2_with fail
      go_region
      all_goals
        go_wp2_with fail
        go_region
        all_goals
          go_wp2_with fail
          rw [HW2.out]
          go_ret
          exact ret_mod _ ⟨HE.out.1.drew.drew.drew, grownBy_drew (grownBy_drew (grownBy_drew HE.out.2))⟩
  · have HE := Lib.hid (show Cur w1 g ∧ w.grownBy w1 (some g) from ⟨⟨A, n, c, zs, i, u, hi, hn, H1, R1, hz, ho⟩, G1⟩)
    clear hr hb ho hz H1 G1 R1
    go_enter Tryz.func41, Tryz.ntmps41
    go_wp2_with fail
    rw [HU.out, HW.out]
    go_region
    all_goals
      go_wp2_with fail
      go_region
      all_goals
        go_wp2_with fail
        go_ret
        exact ret_mod _ ⟨HE.out.1.drew.drew, grownBy_drew (grownBy_drew HE.out.2)⟩

set_option maxHeartbeats 1000000 in
theorem specBelow (g n : Nat) (w : World) (hc : Cur w g) (h1 : 1 ≤ n) (h2 : n ≤ 256) : Calls Tryz.prog 18 #[.pointer (some ⟨g, 0, none⟩), .int .i64 n] w fun e w' => ∃ x : Nat, x < n ∧ e = .returned (.int .i64 x) ∧ Cur w' g ∧ w.grownBy w' (some g) := by
  go_enter Tryz.func18, Tryz.ntmps18
  go_wp2_with fail
  refine (specByte g w hc).mono ?_
  rintro e w1 ⟨x, hx, rfl, hc1, hg1⟩
  have hx2 : x % n < n := Nat.mod_lt _ h1
  go_wp2_with fail
  go_ret
  exact ⟨x % n, hx2, by simp, hc1, hg1⟩


set_option maxRecDepth 100000 in
set_option maxHeartbeats 2000000 in
theorem specNew (A : Option Addr) (n c : Nat) (zs : List Int) (w : World) (ha : RdU w A n zs) (hz : ∀ z ∈ zs, 0 ≤ z ∧ z < 256) (hn : n ≤ 1048576) : Calls Tryz.prog 42 #[.slice A n c] w fun e w' => ∃ g, e = .returned (.pointer (some ⟨g, 0, none⟩)) ∧ w.heap.size ≤ g ∧ Cur w' g ∧ Below w.heap.size w w' := by
  have HZ := Lib.hid hz
  go_enter Tryz.func42, Tryz.ntmps42
  go_wp2_with fail
  go_loopw [3, 4] (fun hv iv wr => ∃ k : Nat, ∃ h : Int, hv = .int .i64 h ∧ iv = .int .i64 k ∧ k ≤ n ∧ w = wr) (fun _ iv _ => n - (intOf iv).toNat)
  case atStart => exact ⟨0, _, rfl, rfl, Nat.zero_le _, rfl⟩
  case round =>
    obtain ⟨k, h, rfl, rfl, hk, rfl⟩ := hrel
    by_cases hlt : k < n
    · by_cases h4 : k < 4000
      · obtain ⟨a1, rfl, _, l1⟩ := rdU_at ha hlt
        have hzk := HZ.out (nth zs k) (nth_mem (by have := ha.1; simp at this; omega))
        go_wp2_with fail
        go_roundw
        case rel => exact ⟨k + 1, _, rfl, by go_num, by omega, by first | rfl | trivial⟩
        case measure => simp [intOf]; omega
      · go_wp2_with fail
        go_ret
        exact ⟨w.heap.size, rfl, Nat.le_refl _, ⟨A, n, c, zs, 0, h, Nat.zero_le _, hn, own_box3 w _ _ _ _, Rd.alloc ha _, HZ.out, rdU_off ha⟩, below_alloc w _⟩
    · obtain rfl : k = n := by omega
      go_wp2_with fail
      go_ret
      exact ⟨w.heap.size, rfl, Nat.le_refl _, ⟨A, k, c, zs, 0, h, Nat.zero_le _, hn, own_box3 w _ _ _ _, Rd.alloc ha _, HZ.out, rdU_off ha⟩, below_alloc w _⟩

set_option maxHeartbeats 2000000 in
theorem specAtByte (A : Option Addr) (n c N : Nat) (zs : List Int) (w : World) (ha : RdU w A n zs) (hz : ∀ z ∈ zs, 0 ≤ z ∧ z < 256) (hn : n ≤ 1048576) (hN : N ≤ 1000) : Calls Tryz.prog 19 #[.slice A n c, .int .i64 N] w fun e w' => ∃ g, e = .returned (.pointer (some ⟨g, 0, none⟩)) ∧ w.heap.size ≤ g ∧ Cur w' g ∧ Below w.heap.size w w' := by
  have CN := Lib.hid (specNew A n c zs w ha hz hn)
  clear hz ha
  go_enter Tryz.func19, Tryz.ntmps19
  go_wp2_with fail
  refine CN.out.mono ?_
  rintro e w1 ⟨g, rfl, hg, hc, hb⟩
  go_wp2_with fail
  go_loopw [6] (fun iv wr => ∃ k : Nat, iv = .int .i64 k ∧ k ≤ N ∧ Cur wr g ∧ Below w.heap.size w wr) (fun iv _ => N - (intOf iv).toNat)
  case atStart => exact ⟨0, rfl, Nat.zero_le _, hc, hb⟩
  case round =>
    clear hc hb
    obtain ⟨k, rfl, hk, hc, hb⟩ := hrel
    by_cases hlt : k < N
    · go_wp2_with fail
      refine (specByte g wr hc).mono ?_
      rintro e w2 ⟨x, hx, rfl, hc2, hg2⟩
      have hb2 := hb.trans (below_cur hg2 hg hb.size)
      clear hc hb hg2
      go_wp2_with fail
      go_roundw
      case rel => exact ⟨k + 1, by go_num, by omega, hc2, hb2⟩
      case measure => simp [intOf]; omega
    · obtain rfl : k = N := by omega
      go_wp2_with fail
      go_ret
      exact ⟨g, rfl, hg, hc, hb⟩


set_option maxHeartbeats 2000000 in
theorem specSize (A : Option Addr) (n c N D : Nat) (low high : Int) (zs : List Int) (w : World) (ha : RdU w A n zs) (hz : ∀ z ∈ zs, 0 ≤ z ∧ z < 256) (hn : n ≤ 1048576) (hN : N ≤ 1000) (hD : high = low + D) (hD2 : D ≤ 50) (hl1 : -1000 ≤ low) (hl2 : low ≤ 1000) :
    Calls Tryz.prog 4 #[.slice A n c, .int .i64 N, .int .i64 low, .int .i64 high] w fun e w' => ∃ x : Nat, x ≤ D ∧ e = .returned (.int .i64 (low + x)) ∧ Below w.heap.size w w' := by
  subst hD
  have CN := Lib.hid (fun w' (hb : Below w.heap.size w w') => specAtByte A n c N zs w' (ha.below hb) hz hn hN)
  clear hz ha
  go_enter Tryz.func4, Tryz.ntmps4
  go_wp2_with fail
  go_loopw [9, 10] (fun sv kv wr => ∃ j : Nat, sv = .int .i64 (1 + (j : Int)) ∧ kv = .int .i64 (low + j) ∧ j ≤ D ∧ w = wr) (fun sv _ _ => D + 1 - (intOf sv).toNat)
  case atStart => exact ⟨0, by simp, by simp, Nat.zero_le _, rfl⟩
  case round =>
    obtain ⟨j, rfl, rfl, hj, rfl⟩ := hrel
    by_cases hlt : j < D
    · go_wp2_with fail
      go_roundw
      case rel => exact ⟨j + 1, by go_num, by go_num, by omega, by first | rfl | trivial⟩
      case measure => simp [intOf]; omega
    · obtain rfl : j = D := by omega
      go_wp2_with fail
      refine (CN.out w (Below.refl _ _)).mono ?_
      rintro e w1 ⟨g, rfl, hg, hc, hb⟩
      go_wp2_with fail
      refine (show Calls Tryz.prog 18 #[.pointer (some ⟨g, 0, none⟩), .int .i64 (1 + (j : Int))] w1 _ from by rw [show (1 + (j : Int)) = ((1 + j : Nat) : Int) by omega]; exact specBelow g (1 + j) w1 hc (by omega) (by omega)).mono ?_
      rintro e w2 ⟨x, hx, rfl, hc2, hg2⟩
      have hb2 := hb.trans (below_cur hg2 hg hb.size)
      clear hc hb hg2 hc2
      go_wp2_with fail
      go_loopw [11, 12] (fun ov kv wr => ∃ a b : Nat, ov = .int .i64 (low + a) ∧ kv = .int .i64 b ∧ a + b = x ∧ w2 = wr) (fun _ kv _ => (intOf kv).toNat)
      case atStart => exact ⟨0, x, by simp, rfl, by omega, rfl⟩
      case round =>
        obtain ⟨a, b, rfl, rfl, hab, rfl⟩ := hrel
        by_cases hb0 : 0 < b
        · go_wp2_with fail
          go_roundw
          case rel => exact ⟨a + 1, b - 1, by go_num, by go_num, by omega, by first | rfl | trivial⟩
          case measure => (simp [intOf] <;> omega)
        · obtain rfl : b = 0 := by omega
          go_wp2_with fail
          go_ret
          exact ⟨a, by omega, rfl, hb2⟩
end Go.Proofs.YtobdkfhmmpigiaaGreat

/- Worlds that grow but for the cursor's box. -/
namespace Go.Proofs.YtobdkfhmmpigiaaGreat
open Go.RowKit Go.Deep
set_option linter.unusedVariables false

theorem grown_own {w a b : World} {g B : Nat} {r : Option Nat} (h : w.grownBy a (some g)) (hB : w.heap.size = B) (h2 : a.grownBy b r) (hr : ∀ q, r = some q → B ≤ q) : w.grownBy b (some g) :=
  ⟨h2.os.trans h.os, h2.tape.trans h.tape, h2.output.trans h.output, Nat.le_trans h.size h2.size, fun k hk hne =>
    (h2.block k (Nat.lt_of_lt_of_le hk h.size) (fun he => by have := hr k he.symm; omega)).trans (h.block k hk hne)⟩
theorem grown_alloc (w : World) (g : Nat) (o : Obj) : w.grownBy (w.alloc o) (some g) :=
  ⟨rfl, rfl, rfl, by simp, fun k hk _ => Below.heap_alloc w o k hk⟩
theorem grown_below {w a b : World} {g : Nat} (h : w.grownBy a (some g)) (h2 : Below a.heap.size a b) : w.grownBy b (some g) :=
  ⟨h2.os.trans h.os, h2.tape.trans h.tape, h2.output.trans h.output, Nat.le_trans h.size h2.size, fun k hk hne =>
    (h2.block k (Nat.lt_of_lt_of_le hk h.size)).trans (h.block k hk hne)⟩
end Go.Proofs.YtobdkfhmmpigiaaGreat

/- What is known of an argument that is a slice of bytes. -/
namespace Go.Proofs.YtobdkfhmmpigiaaGreat
open Go.RowKit Go.Deep
set_option linter.unusedVariables false

theorem byte_of_wf {x : Int} (h : (Lit.int .u8 x).wf = true) : 0 ≤ x ∧ x < 256 := by
  have h1 : IntKind.u8.min = 0 := rfl
  have h2 : IntKind.u8.max = 255 := rfl
  simp only [Lit.wf, Bool.and_eq_true, decide_eq_true_eq] at h
  omega
def RdArgB (w : World) (A : Option Addr) (n c : Nat) (zs : List Int) : Prop := RdU w A n zs ∧ ∀ z ∈ zs, 0 ≤ z ∧ z < 256
theorem RdArgB.nil_ (w : World) : RdArgB w none 0 0 [] := ⟨Rd.nil_, by simp⟩
theorem RdArgB.of_open {w : World} {x : Addr} {n c : Nat} {zs : List Int} (hl : n ≤ c) (hm : c ≤ maxLen) (hz : zs.length = c)
    (hcell : ∀ i, i < zs.length → w.cell? (x.add i) = some (.int .u8 (zs.getD i 0))) (hwz : ∀ n ∈ zs, (Lit.int .u8 n).wf = true) : RdArgB w (some x) n c (zs.take n) := by
  refine ⟨⟨by simp; omega, fun hn => ⟨x, rfl, ?_, ?_⟩⟩, fun z h => byte_of_wf (hwz z (List.mem_of_mem_take h))⟩
  · have := World.block_lt_of_cell? w _ (hcell 0 (by omega))
    rwa [block_of_add] at this
  · intro j u hu
    have hj : j < n := by
      have := (List.getElem?_eq_some_iff.1 hu).1
      simp at this; omega
    rw [hcell j (by omega)]
    rw [List.getElem?_map, List.getElem?_take, if_pos hj, List.getElem?_eq_getElem (l := zs) (by omega)] at hu
    rw [List.getD, List.getElem?_eq_getElem (l := zs) (by omega)]
    exact hu
end Go.Proofs.YtobdkfhmmpigiaaGreat
