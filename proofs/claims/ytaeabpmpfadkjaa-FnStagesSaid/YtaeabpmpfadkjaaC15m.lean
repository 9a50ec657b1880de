/- Chapter 15: RoundsNeeded, the program's side. -/
import Derived.Test.YtaeabpmpfadkjaaC15l
namespace Go.Proofs.Ytaeabpmpfadkjaa
open Go.RowKit Go.Deep
set_option linter.unusedVariables false
attribute [local go_sem] bits_and_one

theorem own_lit (w : World) (e : TypeId) (cs : Array Value) (n : Nat) (h : cs.size = n) (hn : n ≤ maxLen) : Own (w.alloc (.cells cs e)) w.heap.size e (some ⟨w.heap.size, 0, none⟩) n n cs.toList :=
  World.ownsRow_lit (base := w.heap.size) (e := e) (size := 1) w cs n (Nat.le_refl _) hn (by simpa using h)
/-- The rows, and r behind them. -/
def addX (rs : List (List Int)) (r : List Int) (L j : Nat) : List Int := if j = L then r else row rs j
theorem addX_old {rs : List (List Int)} {r : List Int} {L j : Nat} (h : j < L) : row rs j = addX rs r L j := by unfold addX; rw [if_neg (by omega)]
theorem addX_new (rs : List (List Int)) (r : List Int) (L : Nat) : addX rs r L L = r := by unfold addX; rw [if_pos rfl]
theorem addX_all {rs : List (List Int)} {r : List Int} {L j : Nat} (hl : rs.length = L) (h : j < L + 1) : addX rs r L j = row (rs ++ [r]) j := by
  by_cases e : j = L
  · subst e; rw [addX_new, ← hl, row_app_new]
  · rw [← addX_old (by omega), row_app_old (by omega)]
theorem below_one {w wr wA : World} (h : Below w.heap.size w wr) {m : Nat} (hA : Below wr.heap.size (wr.drewN m) wA) : Below w.heap.size w wA :=
  h.trans ((below_drewN (Below.refl _ _) m : Below w.heap.size wr (wr.drewN m)).trans (hA.mono h.size))
/-- What the closures hold: the order, the number and its index. -/
def RnEnv (w : World) (p1 p2 p3 : Addr) (a1 : Addr) (n c : Nat) (zs : List Int) (x i : Nat) : Prop :=
  w.cell? p1 = some (.slice (some a1) n c) ∧ w.cell? p2 = some (.int .i64 x) ∧ w.cell? p3 = some (.int .i64 i) ∧ RdI w (some a1) n zs
theorem RnEnv.below {w w' : World} {p1 p2 p3 a1 : Addr} {n c x i : Nat} {zs : List Int} (h : RnEnv w p1 p2 p3 a1 n c zs x i) (hb : Below w.heap.size w w') : RnEnv w' p1 p2 p3 a1 n c zs x i := by
  obtain ⟨h1, h2, h3, h4⟩ := h
  exact ⟨(hb.cell (World.block_lt_of_cell? w _ h1)).trans h1, (hb.cell (World.block_lt_of_cell? w _ h2)).trans h2, (hb.cell (World.block_lt_of_cell? w _ h3)).trans h3, h4.below hb⟩
theorem RnEnv.drewN {w : World} {p1 p2 p3 a1 : Addr} {n c x i : Nat} {zs : List Int} (h : RnEnv w p1 p2 p3 a1 n c zs x i) (k : Nat) : RnEnv (w.drewN k) p1 p2 p3 a1 n c zs x i := h

set_option maxHeartbeats 2000000 in
theorem implMeetK (p1 p2 p3 a1 : Addr) (n c : Nat) (zs : List Int) (x i q : Nat) (w : World) (hn : n = 2 ∨ n = 4 ∨ n = 8) (ho : isOrd zs = true) (he : RnEnv w p1 p2 p3 a1 n c zs x i) (hx : nth zs i = x) (hxn : x < n) (hi : i < n) (hq : q < i) :
    Calls Try.prog 59 #[.int .i64 q, .pointer (some p1), .pointer (some p2), .pointer (some p3)] w fun e w' => e = .returned (.bool (pairMeet zs i q)) ∧ Below w.heap.size w w' := by
  obtain ⟨h1, h2, h3, h4⟩ := he
  have hl := h4.lenI
  obtain ⟨y, hy, hyn⟩ := ord_get ho (k := q) (by omega)
  obtain ⟨a1', ha1, hlt, h5⟩ := h4.at_ (show q < n by omega)
  injection ha1 with ha1
  subst ha1
  rw [hy] at h5
  have HP := Lib.hid (show pairMeet zs i q = pathsMeet n x i y q by rw [pairMeet, hl, hx, hy]; rfl)
  have l1 := World.block_lt_of_cell? w _ h1
  have l2 := World.block_lt_of_cell? w _ h2
  have l3 := World.block_lt_of_cell? w _ h3
  have CM := Lib.hid (fun w' => implMeet n x i y q w' hn hxn hi (by omega) (by omega))
  have b1 : (q : Int) < (n : Int) := by omega
  have b2 : (0 : Int) ≤ (q : Int) := by omega
  rw [HP.out]
  clear h4 hl hy hx
  go_enter Try.func59, Try.ntmps59
  go_wp2_with fail
  go_region_held3 (fun w' => w'.cell? p1 = some (.slice (some a1) n c) ∧ w'.cell? p2 = some (.int .i64 (x : Int)) ∧ w'.cell? p3 = some (.int .i64 (i : Int)) ∧ w'.cell? (a1.add q) = some (.int .i64 (y : Int))) (go_keep) ((go_at_call 50; refine (CM.out _).mono ?_; rintro e wA ⟨rfl, hbA⟩; have s1 := (hbA.cell (p := p1) l1).trans h1; have s2 := (hbA.cell (p := p2) l2).trans h2; have s3 := (hbA.cell (p := p3) l3).trans h3; have s4 := (hbA.cell (p := a1.add q) (by rw [block_of_add]; exact hlt)).trans h5))
  all_goals
    go_wp2_with fail
    go_ret
    exact ⟨rfl, by first | exact hbA | exact below_one (Below.refl _ _) hbA⟩

/-- What is asked of a round's numbers. -/
def RnR (i : Nat) (r : List Int) : Prop := ∀ k, k < r.length → ∃ q : Nat, nth r k = q ∧ q < i
set_option maxHeartbeats 2000000 in
theorem implIndexK (R : Option Addr) (m d : Nat) (r : List Int) (p1 p2 p3 a1 : Addr) (n c : Nat) (zs : List Int) (x i : Nat) (w : World) (hn : n = 2 ∨ n = 4 ∨ n = 8) (ho : isOrd zs = true) (he : RnEnv w p1 p2 p3 a1 n c zs x i) (hx : nth zs i = x) (hxn : x < n) (hi : i < n)
    (hr : RdI w R m r) (hm : m ≤ 1048576) (hq : RnR i r) :
    Calls Try.prog 73 #[.slice R m d, .func (.func 59) #[] #[.pointer (some p1), .pointer (some p2), .pointer (some p3)]] w fun e w' => ∃ v : Int, e = .returned (.int .i64 v) ∧ (0 ≤ v → rnFree zs i r m = false) ∧ (v < 0 → rnFree zs i r m = true) ∧ Below w.heap.size w w' := by
  have HE := Lib.hid he
  have HR := Lib.hid hr
  have HQ := Lib.hid hq
  have HX := Lib.hid hx
  have HL := Lib.hid hr.lenI
  clear he hr hq hx
  go_enter Try.func73, Try.ntmps73
  go_wp2
  go_loopw [8] (fun j wr => ∃ k : Nat, k ≤ m ∧ j = .int .i64 k ∧ Hid (rnFree zs i r k = true) ∧ Below w.heap.size w wr) (fun j _ => m - (intOf j).toNat)
  case atStart => exact ⟨0, Nat.zero_le _, rfl, Lib.hid (rnFree_zero _ _ _), Below.refl _ _⟩
  case round =>
    obtain ⟨k, hk, rfl, HK, hbl⟩ := hrel
    by_cases hlt : k < m
    · obtain ⟨ad, rfl, _, h1⟩ := (HR.out.below hbl).at_ hlt
      obtain ⟨q, hq, hqi⟩ := HQ.out k (by rw [HL.out]; exact hlt)
      rw [hq] at h1
      have HF := Lib.hid (rnFree_succ (zs := zs) (i := i) hq)
      have C := implMeetK p1 p2 p3 a1 n c zs x i q wr hn ho (HE.out.below hbl) HX.out hxn hi hqi
      clear hq
      cases hb : pairMeet zs i q with
      | false =>
        have H := Lib.hid (show rnFree zs i r (k + 1) = true by rw [HF.out, HK.out, hb]; rfl)
        rw [hb] at C
        have CC := Lib.hid C
        clear hb C
        go_wp2_with fail
        refine CC.out.mono ?_
        rintro e w' ⟨rfl, hb2⟩
        have hb3 := hbl.trans (hb2.mono hbl.size)
        clear hbl hb2
        go_wp2
        go_roundw
        case rel => exact ⟨k + 1, by omega, by go_num, H, hb3⟩
        case measure => (simp [intOf] <;> omega)
      | true =>
        have H := Lib.hid (rnFree_down (show rnFree zs i r (k + 1) = false by rw [HF.out, HK.out, hb]; rfl) m (by omega))
        rw [hb] at C
        have CC := Lib.hid C
        clear hb C
        go_wp2_with fail
        refine CC.out.mono ?_
        rintro e w' ⟨rfl, hb2⟩
        have hb3 := hbl.trans (hb2.mono hbl.size)
        clear hbl hb2
        go_wp2
        go_ret
        exact ⟨_, rfl, fun _ => H.out, fun h => by omega, hb3⟩
    · obtain rfl : k = m := by omega
      go_wp2
      go_ret
      exact ⟨_, rfl, fun h => by omega, fun _ => HK.out, hbl⟩
set_option maxHeartbeats 1000000 in
theorem implRound (R : Option Addr) (m d : Nat) (r : List Int) (p1 p2 p3 a1 : Addr) (n c : Nat) (zs : List Int) (x i : Nat) (w : World) (hn : n = 2 ∨ n = 4 ∨ n = 8) (ho : isOrd zs = true) (he : RnEnv w p1 p2 p3 a1 n c zs x i) (hx : nth zs i = x) (hxn : x < n) (hi : i < n)
    (hr : RdI w R m r) (hm : m ≤ 1048576) (hq : RnR i r) :
    Calls Try.prog 57 #[.slice R m d, .pointer (some p1), .pointer (some p2), .pointer (some p3)] w fun e w' => e = .returned (.bool (rnFree zs i r m)) ∧ Below w.heap.size w w' := by
  have CI := Lib.hid (implIndexK R m d r p1 p2 p3 a1 n c zs x i w hn ho he hx hxn hi hr hm hq)
  have CC : Hid (Calls Try.prog 58 #[.slice R m d, .func (.func 59) #[] #[.pointer (some p1), .pointer (some p2), .pointer (some p3)]] w fun e w' => e = .returned (.bool (!rnFree zs i r m)) ∧ Below w.heap.size w w') := by
    refine Lib.hid ?_
    clear he hr hq hx
    go_enter Try.func58, Try.ntmps58
    go_wp2_with fail
    refine CI.out.mono ?_
    rintro e w' ⟨v, rfl, h1, h2, hb⟩
    by_cases hv : 0 ≤ v
    · have H := Lib.hid (h1 hv)
      clear h1 h2
      go_wp2
      go_ret
      exact ⟨ret_bool (by rw [H.out]; (simp <;> omega)), hb⟩
    · have H := Lib.hid (h2 (by omega))
      clear h1 h2
      go_wp2
      go_ret
      exact ⟨ret_bool (by rw [H.out]; (simp <;> omega)), hb⟩
  clear he hr hq hx CI
  go_enter Try.func57, Try.ntmps57
  go_wp2_with fail
  refine CC.out.mono ?_
  rintro e w' ⟨rfl, hb⟩
  go_wp2_with fail
  go_ret
  exact ⟨ret_bool (by simp), hb⟩

set_option maxHeartbeats 2000000 in
theorem implIndexRounds (A2 : Option Addr) (L c2 : Nat) (rs : List (List Int)) (p1 p2 p3 a1 : Addr) (n c : Nat) (zs : List Int) (x i : Nat) (w : World) (hn : n = 2 ∨ n = 4 ∨ n = 8) (ho : isOrd zs = true) (he : RnEnv w p1 p2 p3 a1 n c zs x i) (hx : nth zs i = x) (hxn : x < n) (hi : i < n)
    (hr : RdM w A2 L rs) (hL : L ≤ 1048576) (hq : RnOk i rs) :
    Calls Try.prog 56 #[.slice A2 L c2, .func (.func 57) #[] #[.pointer (some p1), .pointer (some p2), .pointer (some p3)]] w fun e w' => ∃ v : Int, e = .returned (.int .i64 v) ∧ (0 ≤ v → v = (rnGo zs i rs 0 L : Int) ∧ rnGo zs i rs 0 L < L) ∧ (v < 0 → rnGo zs i rs 0 L = L) ∧ Below w.heap.size w w' := by
  have HE := Lib.hid he
  have HR := Lib.hid hr
  have HQ := Lib.hid hq
  have HX := Lib.hid hx
  have HL := Lib.hid hr.1
  clear he hr hq hx
  obtain ⟨X, hX⟩ : ∃ X, rnGo zs i rs 0 L = X := ⟨_, rfl⟩
  rw [hX]
  have HXX := Lib.hid hX
  clear hX
  go_enter Try.func56, Try.ntmps56
  go_wp2
  go_loopw [8] (fun j wr => ∃ a : Nat, a ≤ L ∧ j = .int .i64 a ∧ Hid (rnGo zs i rs a (L - a) = X) ∧ Below w.heap.size w wr) (fun j _ => L - (intOf j).toNat)
  case atStart => exact ⟨0, Nat.zero_le _, rfl, Lib.hid HXX.out, Below.refl _ _⟩
  case round =>
    obtain ⟨a, hk, rfl, HGO, hbl⟩ := hrel
    by_cases hlt : a < L
    · obtain ⟨ad, R, m, d, rfl, _, h1, hB, hmd, hd⟩ := (HR.out.below hbl).2 a hlt
      have hrow := HQ.out.2 a (by rw [HL.out]; exact hlt)
      have hm := hB.lenI
      have hm8 : m ≤ 1048576 := by have := hrow.1; have := HL.out; have := HQ.out.1; omega
      have C := implRound R m d (row rs a) p1 p2 p3 a1 n c zs x i wr hn ho (HE.out.below hbl) HX.out hxn hi hB hm8 hrow.2
      have HM := Lib.hid hm
      clear hrow hm
      cases hb : rnFree zs i (row rs a) m with
      | false =>
        have H := Lib.hid (show rnGo zs i rs (a + 1) (L - (a + 1)) = X by rw [← rnGo_miss hlt (by rw [HM.out]; exact hb)]; exact HGO.out)
        rw [hb] at C
        have CC := Lib.hid C
        clear hb C
        go_wp2_with fail
        refine CC.out.mono ?_
        rintro e w' ⟨rfl, hb2⟩
        have hb3 := hbl.trans (hb2.mono hbl.size)
        clear hbl hb2
        go_wp2
        go_roundw
        case rel => exact ⟨a + 1, by omega, by go_num, H, hb3⟩
        case measure => (simp [intOf] <;> omega)
      | true =>
        have H := Lib.hid (show X = a by rw [← HGO.out]; exact rnGo_hit hlt (by rw [HM.out]; exact hb))
        rw [hb] at C
        have CC := Lib.hid C
        clear hb C
        go_wp2_with fail
        refine CC.out.mono ?_
        rintro e w' ⟨rfl, hb2⟩
        have hb3 := hbl.trans (hb2.mono hbl.size)
        clear hbl hb2
        go_wp2
        go_ret
        exact ⟨_, rfl, fun _ => by rw [H.out]; exact ⟨rfl, hlt⟩, fun h => by omega, hb3⟩
    · obtain rfl : a = L := by omega
      have H := Lib.hid (show X = a by rw [← HGO.out, Nat.sub_self]; exact rnGo_end _ _ _ _)
      go_wp2
      go_ret
      exact ⟨_, rfl, fun h => by omega, fun _ => H.out, hbl⟩

set_option maxHeartbeats 8000000 in
theorem implRounds (A : Option Addr) (n c : Nat) (zs : List Int) (w : World) (ha : RdI w A n zs) (hn : n ≤ 1048576) :
    Calls Try.prog 30 #[.slice A n c] w fun e w' => e = .returned (.int .i64 (rnV zs)) ∧ Below w.heap.size w w' := by
  have C := fun w' h => implStaged A n c zs w' h hn
  have hal := below_alloc w (.cells #[.slice A n c] 24)
  cases hv : ordV zs with
  | false =>
    have H := Lib.hid (rnV_no hv)
    rw [hv] at C
    have CC := Lib.hid C
    clear C hv
    go_enter Try.func30, Try.ntmps30
    go_wp2_with fail
    refine (CC.out _ (ha.below hal)).mono ?_
    rintro e w1 ⟨rfl, hb1⟩
    go_wp2_with fail
    go_ret
    exact ⟨ret_int H.out.symm, hal.trans (hb1.mono (by simp))⟩
  | true =>
    have H0 := Lib.hid (rnV_yes ha.lenI hv)
    rw [hv] at C
    have CC := Lib.hid C
    have hl := Lib.hid ha.lenI
    have HV := Lib.hid (ordV_out hv ha.lenI)
    have hn8 : n ≤ 8 := by have := HV.out.1; omega
    have hn2 : 2 ≤ n := by have := HV.out.1; omega
    obtain ⟨a1, rfl, _, _⟩ := ha.at_ (show 0 < n by omega)
    clear C hv
    go_enter Try.func30, Try.ntmps30
    go_wp2_with fail
    refine (CC.out _ (ha.below hal)).mono ?_
    rintro e w1 ⟨rfl, hb1⟩
    have hc0 : w1.cell? ⟨w.heap.size, 0, none⟩ = some (.slice (some a1) n c) := by rw [hb1.cell (p := ⟨w.heap.size, 0, none⟩) (by simp)]; simp
    have HB1 := Lib.hid (hal.trans (hb1.mono (by simp)))
    have hsz1 : w.heap.size + 1 ≤ w1.heap.size := by have := hb1.size; simpa using this
    have HC := Lib.hid (show ∀ wz : World, Below w1.heap.size w1 wz → wz.cell? ⟨w.heap.size, 0, none⟩ = some (.slice (some a1) n c) from fun wz hz => (hz.cell (p := ⟨w.heap.size, 0, none⟩) (by show w.heap.size < _; omega)).trans hc0)
    have HA1 := Lib.hid ((ha.below hal).below hb1)
    have lt1 : w.heap.size < w1.heap.size := by omega
    clear hb1 CC ha hal
    go_wp2_with fail
    go_loopw [13, 3] (fun i v wr => ∃ k L : Nat, ∃ A2 c2 vs, k ≤ n ∧ i = .int .i64 k ∧ v = .slice A2 L c2 ∧ Hid ((rnTo zs k).length = L) ∧ L ≤ k ∧ Own wr w1.heap.size 24 A2 L c2 vs ∧ RowsIn wr w1.heap.size wr.heap.size A2 L (row (rnTo zs k)) vs ∧ Below w1.heap.size w1 wr) (fun i _ _ => n - (intOf i).toNat)
    case atStart => exact ⟨0, 0, _, _, [], Nat.zero_le _, rfl, rfl, Lib.hid (by rw [rnTo_zero]; rfl), Nat.le_refl _, by simpa using own_empty w1 24, fun j hj => by omega, below_alloc w1 _⟩
    case round =>
      clear hc0
      obtain ⟨i, L, A2, c2, vs, hi, rfl, rfl, HL, hLi, hown, hrs, hbl⟩ := hrel
      by_cases hlt : i < n
      · obtain ⟨a1', ha1, hlt1, h1⟩ := (HA1.out.below hbl).at_ hlt
        injection ha1 with ha1
        subst ha1
        obtain ⟨x, hx, hxn⟩ := ord_get HV.out.2 (k := i) (by rw [hl.out]; exact hlt)
        have HX := Lib.hid hx
        have hxn' : x < n := by have := hl.out; omega
        rw [hx] at h1
        have HOK := Lib.hid (rnOk_to zs i)
        obtain ⟨rs, hrsd⟩ : ∃ rs, rnTo zs i = rs := ⟨_, rfl⟩
        rw [hrsd] at HL HOK hrs
        have HRS := Lib.hid hrsd
        obtain ⟨X, hX⟩ : ∃ X, rnGo zs i rs 0 rs.length = X := ⟨_, rfl⟩
        have HXX := Lib.hid hX
        have hXL : X ≤ L := by have := rnGo_le zs i rs rs.length 0; have := HL.out; omega
        clear hx hxn hrsd hX
        have hc0 := HC.out _ hbl
        go_wp2_with fail
        have HE := Lib.hid (show RnEnv ((wr.alloc (.cells #[.int .i64 (i : Int)] 3)).alloc (.cells #[.int .i64 (x : Int)] 3)) ⟨w.heap.size, 0, none⟩ ⟨wr.heap.size + 1, 0, none⟩ ⟨wr.heap.size, 0, none⟩ a1 n c zs x i from
          ⟨(((below_alloc (wr.alloc (.cells #[.int .i64 (i : Int)] 3)) (.cells #[.int .i64 (x : Int)] 3)).cell (p := ⟨w.heap.size, 0, none⟩) (by have := hbl.size; simp; omega)).trans (((below_alloc wr (.cells #[.int .i64 (i : Int)] 3)).cell (p := ⟨w.heap.size, 0, none⟩) (by show w.heap.size < _; have := hbl.size; omega)).trans hc0)), by simp, by simp, ((HA1.out.below hbl).alloc _).alloc _⟩)
        have hszB : w1.heap.size ≤ wr.heap.size := hbl.size
        have hal2 := (below_alloc wr (.cells #[.int .i64 (i : Int)] 3)).alloc (by simp) (.cells #[.int .i64 (x : Int)] 3)
        have ho1 := (hown.below hal2)
        have hrs1 := rowsIn_hi (RowsIn.keep hrs (fun g h1 h2 h3 => hal2.block g h3)) hal2.size
        refine (implIndexRounds A2 L c2 rs _ _ _ a1 n c zs x i _ HV.out.1 HV.out.2 HE.out HX.out hxn' hlt (OwnR.rd (lo := w1.heap.size) (zss := rs) ⟨HL.out, vs, ho1, fun g hg => (ho1.blk_ g hg).2, hrs1⟩) (by omega) HOK.out).mono ?_
        rintro e w2 ⟨v, rfl, hv1, hv2, hb2⟩
        have hs2 := hb2.size
        simp at hs2
        have hz2 : w2.cell? ⟨wr.heap.size, 0, none⟩ = some (.int .i64 (i : Int)) := by rw [hb2.cell (p := ⟨wr.heap.size, 0, none⟩) (by simp; omega)]; simp
        have ho2 := ho1.below hb2
        have hrs2 := rowsIn_hi (RowsIn.keep hrs1 (fun g h1 h2 h3 => hb2.block g h3)) hb2.size
        have hbl2 := hbl.trans ((hal2.trans (hb2.mono (by simp; omega))).mono hszB)
        have hX2 : rnGo zs i rs 0 L = X := by rw [← HXX.out, HL.out]
        rw [hX2] at hv1 hv2
        have HV1 := Lib.hid hv1
        have HV2 := Lib.hid hv2
        have HAg := Lib.hid (fun g hg => (hown.blk_ g hg).2)
        have HRg := Lib.hid (show ∀ j, j < L → ∀ B m d, vs[j]? = some (.slice B m d) → ∀ g, blk B = some g → g < wr.heap.size from fun j hj B m d hv g hg => by
          obtain ⟨B3, m3, d3, hv3, hB3, hd3⟩ := hrs j hj
          rw [hv] at hv3
          injection hv3 with hv3
          injection hv3 with e1
          subst e1
          exact (hd3 g hg).1)
        clear hown hrs hbl hal2 ho1 hrs1 hb2 hX2 hv1 hv2 hc0 h1
        have hszC : w1.heap.size ≤ w2.heap.size := by omega
        by_cases hv : 0 ≤ v
        · obtain ⟨hvX, hXlt⟩ := HV1.out hv
          have HvX := Lib.hid hvX
          subst hvX
          obtain ⟨gA, uA, hgA, hgB, hgs, hu, hcA, hfA⟩ := ho2.at_ hXlt
          subst hgA
          obtain ⟨R, m, d, hvv, hR, hRd⟩ := hrs2 X hXlt
          rw [hvv] at hu
          injection hu with hu
          subst hu
          have hneR : Hid (some gA ≠ blk R) := Lib.hid (fun e => (hRd gA e.symm).2.1 rfl)
          have hrow := (HOK.out.2 X (by rw [HL.out]; exact hXlt)).1
          have hm8 : m ≤ 8 := by rw [← hR.lenI]; omega
          have b1 : (0 : Int) ≤ (X : Int) := by omega
          have b2 : (X : Int) < (L : Int) := by omega
          have b3 : decide ((X : Int) < 0) = false := by simp; try omega
          obtain ⟨i0, hi0, hz0, hz1, hz3⟩ := info_parts intInfo
          have own := hR
          have HR2 := Lib.hid (show RowsIn (w2.alloc (.cells #[.int .i64 (i : Int)] 3)).drew w1.heap.size (w2.alloc (.cells #[.int .i64 (i : Int)] 3)).drew.heap.size (some ⟨gA, 0, none⟩) L (row rs) vs from rowsIn_hi (RowsIn.keep hrs2 (fun g h1 h2 h3 => Below.heap_alloc w2 (.cells #[.int .i64 (i : Int)] 3) g h3)) (by show w2.heap.size ≤ (w2.alloc (.cells #[.int .i64 (i : Int)] 3)).heap.size; simp))
          have HO2 := Lib.hid (show Own (w2.alloc (.cells #[.int .i64 (i : Int)] 3)).drew w1.heap.size 24 (some ⟨gA, 0, none⟩) L c2 vs from (ho2.alloc _).drew)
          have HBL := Lib.hid (show Below w1.heap.size w1 (w2.alloc (.cells #[.int .i64 (i : Int)] 3)).drew from (hbl2.alloc hszC _).drew)
          have HVV := Lib.hid hvv
          have HN := Lib.hid (show rnTo zs (i + 1) = rnPut rs i X from rnTo_succ HRS.out HXX.out)
          have HL2 := Lib.hid (show (rnTo zs (i + 1)).length = L by rw [HN.out, put_len (by rw [HL.out]; exact hXlt)]; exact HL.out)
          have HPR := Lib.hid (show ∀ j, j < L → (if j = X then row rs X ++ [(i : Int)] else row rs j) = row (rnTo zs (i + 1)) j from fun j hj => by rw [HN.out]; exact put_row (by rw [HL.out]; exact hXlt) j (by rw [HL.out]; exact hj))
          have hRB := Lib.hid (fun g hg => (hR.blk_ g hg).1)
          clear hvv hrs2 ho2 hbl2 hRd hrow hR
          go_wp2_with fail
          refine wp_region_held_drew (S := (fun w' => w'.cell? ⟨wr.heap.size, 0, none⟩ = some (.int .i64 (i : Int)))) (by kernel_rfl) ?_ (fun hHeld => ?_)
          · go_keep
          refine wpAnyH_take (i := 0) (oi := { dst := _, op := _, type := _, pos := _, after := _, guard := none }) (v := ?_) rfl (by kernel_rfl) (by kernel_rfl) (by kernel_rfl) (fun _ _ _ h => h) (Or.inl ⟨by rfl, ?_⟩) (by assumption) ?_
          rotate_left
          · intro w hSw; (try dsimp only at hSw); go_simp; (try with_reducible rfl)
          try simp only [Act.put, List.setIfInBounds_toArray, List.set_cons_zero, List.set_cons_succ]
          refine wpAnyH_take (i := 1) (oi := { dst := _, op := _, type := _, pos := _, after := _, guard := none }) (v := ?_) rfl (by kernel_rfl) (by kernel_rfl) (by kernel_rfl) (fun _ _ _ h => h) (Or.inl ⟨by rfl, ?_⟩) (by assumption) ?_
          rotate_left
          · intro w hSw; (try dsimp only at hSw); go_simp; (try with_reducible rfl)
          try simp only [Act.put, List.setIfInBounds_toArray, List.set_cons_zero, List.set_cons_succ]
          refine wpAnyH_take (i := 2) (oi := { dst := _, op := _, type := _, pos := _, after := _, guard := none }) (v := ?_) rfl (by kernel_rfl) (by kernel_rfl) (by kernel_rfl) (fun _ _ _ h => h) (Or.inl ⟨by rfl, ?_⟩) (by assumption) ?_
          rotate_left
          · intro w hSw; (try dsimp only at hSw); go_simp; (try with_reducible rfl)
          try simp only [Act.put, List.setIfInBounds_toArray, List.set_cons_zero, List.set_cons_succ]
          refine wpAnyH_take (i := 3) (oi := { dst := _, op := _, type := _, pos := _, after := _, guard := none }) (v := ?_) rfl (by kernel_rfl) (by kernel_rfl) (by kernel_rfl) (fun _ _ _ h => h) (Or.inl ⟨by rfl, ?_⟩) (by assumption) ?_
          rotate_left
          · intro w hSw; (try dsimp only at hSw); go_simp; (try with_reducible rfl)
          try simp only [Act.put, List.setIfInBounds_toArray, List.set_cons_zero, List.set_cons_succ]
          refine wpAnyH_take (i := 4) (oi := { dst := _, op := _, type := _, pos := _, after := _, guard := none }) (v := ?_) rfl (by kernel_rfl) (by kernel_rfl) (by kernel_rfl) (fun _ _ _ h => h) (Or.inl ⟨by rfl, ?_⟩) (by assumption) ?_
          rotate_left
          · intro w hSw; (try dsimp only at hSw); go_simp; (try with_reducible rfl)
          try simp only [Act.put, List.setIfInBounds_toArray, List.set_cons_zero, List.set_cons_succ]
          refine wpAnyH_take (i := 6) (oi := { dst := _, op := _, type := _, pos := _, after := _, guard := none }) (v := ?_) rfl (by kernel_rfl) (by kernel_rfl) (by kernel_rfl) (fun _ _ _ h => h) (Or.inl ⟨by rfl, ?_⟩) (by assumption) ?_
          rotate_left
          · intro w hSw; (try dsimp only at hSw); go_simp; (try with_reducible rfl)
          try simp only [Act.put, List.setIfInBounds_toArray, List.set_cons_zero, List.set_cons_succ]
          refine wpAnyH_ready (rs := [5, 7]) (by kernel_rfl) (by simp) ?_
          refine AllReadyH.cons rfl (fun K hK => ?_) (AllReadyH.cons rfl (fun K hK => ?_) AllReadyH.nil)
          · go_simp
            try go_simp
            refine hK.out _ _ hz2 (fun hHeld1 => ?_)
            clear hK K
            try simp only [Act.put, List.setIfInBounds_toArray, List.set_cons_zero, List.set_cons_succ]
            refine wpAnyH_ready (rs := [7]) (by kernel_rfl) (by simp) ?_
            refine AllReadyH.cons rfl (fun K hK => ?_) AllReadyH.nil
            go_simp
            try go_simp
            refine hK.out _ _ (((below_alloc w2 _).cell (p := ⟨wr.heap.size, 0, none⟩) (by show wr.heap.size < _; omega)).trans hz2) (fun hHeld2 => ?_)
            clear hK K
            try simp only [Act.put, List.setIfInBounds_toArray, List.set_cons_zero, List.set_cons_succ]
            refine wpAnyH_ready (rs := [8]) (by kernel_rfl) (by simp) ?_
            refine AllReadyH.cons rfl (fun K hK => ?_) AllReadyH.nil
            refine step_append_lies _ (by rfl) _ _ _ (by rfl) w1.heap.size 3 i0 _ 1 8 Try.underlying24 hi0 hz0 hz1 hz3 rfl (by omega) _ m _ (by rfl) ((own.alloc _).drew)
                ⟨_, 0, none⟩ 1 1 [.int .i64 (i : Int)] (by rfl) (by rfl) (World.news_of_block (cs := #[.int .i64 (i : Int)]) (t := 3) (fr := (0, 0)) (heap_alloc_new w2 _)) (by simp [Value.oneCell'])
                (by omega) (by unfold maxLen; omega) (by omega) (by simp; omega) (w2.heap.size + 1) (by simp) ?_
            intro gg cap w7 hown7 hgrow hat hlt7
            have hz7 : w7.cell? ⟨wr.heap.size, 0, none⟩ = some (.int .i64 (i : Int)) := by
              rw [hgrow.cell_far _ (by simp; omega) (by rw [ownBlock_slice]; exact fun e => by have := HRg.out X hXlt R m d HVV.out _ e.symm; simp at this)]
              exact ((below_alloc w2 _).cell (p := ⟨wr.heap.size, 0, none⟩) (by show wr.heap.size < _; omega)).trans hz2
            try go_simp
            refine hK.out _ _ hz7 (fun hHeld3 => ?_)
            clear hK K
            try simp only [Act.put, List.setIfInBounds_toArray, List.set_cons_zero, List.set_cons_succ]
            refine wpAnyH_take (i := 9) (oi := { dst := _, op := _, type := _, pos := _, after := _, guard := none }) (v := ?_) rfl (by kernel_rfl) (by kernel_rfl) (by kernel_rfl) (fun _ _ _ h => h) (Or.inl ⟨by rfl, ?_⟩) (by assumption) ?_
            rotate_left
            · intro w hSw; (try dsimp only at hSw); go_simp; (try with_reducible rfl)
            try simp only [Act.put, List.setIfInBounds_toArray, List.set_cons_zero, List.set_cons_succ]
            refine wpAnyH_ready (rs := [10]) (by kernel_rfl) (by simp) ?_
            refine AllReadyH.cons rfl (fun K hK => ?_) AllReadyH.nil
            go_simp
            have hgrow2 : (w2.alloc (.cells #[.int .i64 (i : Int)] 3)).drew.grownBy w7 (blk R) := by have h := hgrow; rw [ownBlock_slice] at h; exact h
            have hPP := rowsIn_put (R' := some ⟨gg, 0, none⟩) (m' := m + 1) (c' := cap) (zs' := row rs X ++ [(i : Int)]) HO2.out HR2.out hXlt HVV.out (by rw [OwnI, List.map_append]; exact hown7) hgrow2 (by
              rcases hat with h | h
              · left; rw [ownBlock_slice] at h; exact h.symm
              · right; exact ⟨gg, rfl, by rw [h]; simp⟩)
            obtain ⟨ho5, ho6, hr6⟩ := hPP
            obtain ⟨gA', uA', hgA', _, _, hu', hcA', hfA'⟩ := ho5.at_ hXlt
            injection hgA' with hgA'
            injection hgA' with hgA'
            subst hgA'
            have hb7 := below_of_grown HBL.out hgrow2 (by simp; omega) (fun g e => hRB.out g e)
            have hb8 := hb7.setCell (p := ⟨gA, X, none⟩) hgB (.slice (some ⟨gg, 0, none⟩) (m + 1) cap)
            have hz8 : (w7.setCell ⟨gA, X, none⟩ (.slice (some ⟨gg, 0, none⟩) (m + 1) cap)).cell? ⟨wr.heap.size, 0, none⟩ = some (.int .i64 (i : Int)) := (World.cell?_of_block (w := w7) (Below.heap_setCell w7 ⟨gA, X, none⟩ _ wr.heap.size (by show wr.heap.size ≠ gA; have := HAg.out gA rfl; omega))).trans hz7
            go_simp
            try go_simp
            refine hK.out _ _ hz8 (fun hHeld4 => ?_)
            clear hK K
            try simp only [Act.put, List.setIfInBounds_toArray, List.set_cons_zero, List.set_cons_succ]
            refine wpAnyH_done (by kernel_rfl) ?_ _
            go_wp2_with fail
            go_roundw
            case rel => exact ⟨i + 1, L, _, _, _, by omega, by go_num, rfl, HL2, by omega, ho6, by simpa [World.setCell] using rowsIn_eq hr6 HPR.out, hb8⟩
            case measure => (simp [intOf] <;> omega)
          · go_simp
            try go_simp
            refine hK.out _ _ (((below_alloc w2 _).cell (p := ⟨wr.heap.size, 0, none⟩) (by show wr.heap.size < _; omega)).trans hz2) (fun hHeld5 => ?_)
            clear hK K
            try simp only [Act.put, List.setIfInBounds_toArray, List.set_cons_zero, List.set_cons_succ]
            refine wpAnyH_ready (rs := [5]) (by kernel_rfl) (by simp) ?_
            refine AllReadyH.cons rfl (fun K hK => ?_) AllReadyH.nil
            go_simp
            try go_simp
            refine hK.out _ _ (((below_alloc w2 _).cell (p := ⟨wr.heap.size, 0, none⟩) (by show wr.heap.size < _; omega)).trans hz2) (fun hHeld6 => ?_)
            clear hK K
            try simp only [Act.put, List.setIfInBounds_toArray, List.set_cons_zero, List.set_cons_succ]
            refine wpAnyH_ready (rs := [8]) (by kernel_rfl) (by simp) ?_
            refine AllReadyH.cons rfl (fun K hK => ?_) AllReadyH.nil
            refine step_append_lies _ (by rfl) _ _ _ (by rfl) w1.heap.size 3 i0 _ 1 8 Try.underlying24 hi0 hz0 hz1 hz3 rfl (by omega) _ m _ (by rfl) ((own.alloc _).drew)
                ⟨_, 0, none⟩ 1 1 [.int .i64 (i : Int)] (by rfl) (by rfl) (World.news_of_block (cs := #[.int .i64 (i : Int)]) (t := 3) (fr := (0, 0)) (heap_alloc_new w2 _)) (by simp [Value.oneCell'])
                (by omega) (by unfold maxLen; omega) (by omega) (by simp; omega) (w2.heap.size + 1) (by simp) ?_
            intro gg cap w7 hown7 hgrow hat hlt7
            have hz7 : w7.cell? ⟨wr.heap.size, 0, none⟩ = some (.int .i64 (i : Int)) := by
              rw [hgrow.cell_far _ (by simp; omega) (by rw [ownBlock_slice]; exact fun e => by have := HRg.out X hXlt R m d HVV.out _ e.symm; simp at this)]
              exact ((below_alloc w2 _).cell (p := ⟨wr.heap.size, 0, none⟩) (by show wr.heap.size < _; omega)).trans hz2
            try go_simp
            refine hK.out _ _ hz7 (fun hHeld7 => ?_)
            clear hK K
            try simp only [Act.put, List.setIfInBounds_toArray, List.set_cons_zero, List.set_cons_succ]
            refine wpAnyH_take (i := 9) (oi := { dst := _, op := _, type := _, pos := _, after := _, guard := none }) (v := ?_) rfl (by kernel_rfl) (by kernel_rfl) (by kernel_rfl) (fun _ _ _ h => h) (Or.inl ⟨by rfl, ?_⟩) (by assumption) ?_
            rotate_left
            · intro w hSw; (try dsimp only at hSw); go_simp; (try with_reducible rfl)
            try simp only [Act.put, List.setIfInBounds_toArray, List.set_cons_zero, List.set_cons_succ]
            refine wpAnyH_ready (rs := [10]) (by kernel_rfl) (by simp) ?_
            refine AllReadyH.cons rfl (fun K hK => ?_) AllReadyH.nil
            go_simp
            have hgrow2 : (w2.alloc (.cells #[.int .i64 (i : Int)] 3)).drew.grownBy w7 (blk R) := by have h := hgrow; rw [ownBlock_slice] at h; exact h
            have hPP := rowsIn_put (R' := some ⟨gg, 0, none⟩) (m' := m + 1) (c' := cap) (zs' := row rs X ++ [(i : Int)]) HO2.out HR2.out hXlt HVV.out (by rw [OwnI, List.map_append]; exact hown7) hgrow2 (by
              rcases hat with h | h
              · left; rw [ownBlock_slice] at h; exact h.symm
              · right; exact ⟨gg, rfl, by rw [h]; simp⟩)
            obtain ⟨ho5, ho6, hr6⟩ := hPP
            obtain ⟨gA', uA', hgA', _, _, hu', hcA', hfA'⟩ := ho5.at_ hXlt
            injection hgA' with hgA'
            injection hgA' with hgA'
            subst hgA'
            have hb7 := below_of_grown HBL.out hgrow2 (by simp; omega) (fun g e => hRB.out g e)
            have hb8 := hb7.setCell (p := ⟨gA, X, none⟩) hgB (.slice (some ⟨gg, 0, none⟩) (m + 1) cap)
            have hz8 : (w7.setCell ⟨gA, X, none⟩ (.slice (some ⟨gg, 0, none⟩) (m + 1) cap)).cell? ⟨wr.heap.size, 0, none⟩ = some (.int .i64 (i : Int)) := (World.cell?_of_block (w := w7) (Below.heap_setCell w7 ⟨gA, X, none⟩ _ wr.heap.size (by show wr.heap.size ≠ gA; have := HAg.out gA rfl; omega))).trans hz7
            go_simp
            try go_simp
            refine hK.out _ _ hz8 (fun hHeld8 => ?_)
            clear hK K
            try simp only [Act.put, List.setIfInBounds_toArray, List.set_cons_zero, List.set_cons_succ]
            refine wpAnyH_done (by kernel_rfl) ?_ _
            go_wp2_with fail
            go_roundw
            case rel => exact ⟨i + 1, L, _, _, _, by omega, by go_num, rfl, HL2, by omega, ho6, by simpa [World.setCell] using rowsIn_eq hr6 HPR.out, hb8⟩
            case measure => (simp [intOf] <;> omega)
        · have HXL := Lib.hid (HV2.out (by omega))
          have b3 : decide (v < 0) = true := by simp; omega
          have b4 : v < 0 := by omega
          have hrs3 := Lib.hid (rowsIn_eq (g := addX rs [(i : Int)] L) hrs2 (fun j hj => addX_old hj))
          have hR0 := Lib.hid (show OwnI (w2.alloc (.cells #[.int .i64 (i : Int)] 3)) w1.heap.size 3 (some ⟨w2.heap.size, 0, none⟩) 1 1 (addX rs [(i : Int)] L L) by
            rw [addX_new]
            exact (own_lit w2 3 #[.int .i64 (i : Int)] 1 rfl (by unfold maxLen; omega)).more hszC)
          have ho3 := ho2.alloc (.cells #[.int .i64 (i : Int)] 3)
          have hrs4 := Lib.hid (RowsIn.keep hrs3.out (fun g h1 h2 h3 => Below.heap_alloc w2 (.cells #[.int .i64 (i : Int)] 3) g h3))
          have hbl3 := Lib.hid (hbl2.alloc hszC (.cells #[.int .i64 (i : Int)] 3))
          have hAA := Lib.hid ho2.blk_
          clear hv ho2 hrs2 hbl2
          go_wp2_with (at_builtin; refine wpL_append1_at _ rfl _ _ _ rfl w1.heap.size 24 (.slice none 0 0) 24 Try.underlying35 sliceInfo rfl _ L _ _ rfl ho3 (.slice (some ⟨w2.heap.size, 0, none⟩) 1 1) (w2.heap.size + 1) (by simp) rfl rfl (by unfold maxLen; omega) (by omega) (by simp; omega) ?_)
          intro A4 c4 w4 ho4 hg4 hat4
          have hs4 := hg4.size
          simp at hs4
          have hrs5 := rowsIn_push (cR := 1) ho3 hrs4.out (fun g hg => (hAA.out g hg).2) (by simp) hR0.out (fun g hg => by have h3 : w2.heap.size = g := (by simpa [blk] using hg); omega) hg4 (by simpa using hat4)
          have hb4 := below_of_grown hbl3.out hg4 (by simp; omega) (fun g e => (hAA.out g e).1)
          have HN := Lib.hid (show rnTo zs (i + 1) = rs ++ [[(i : Int)]] by rw [rnTo_succ HRS.out HXX.out, HXL.out, ← HL.out]; exact put_new rs i)
          have hr8 : RowsIn _ _ _ _ _ (row (rs ++ [[(i : Int)]])) _ := rowsIn_eq hrs5 (fun j hj => addX_all HL.out hj)
          rw [← HN.out] at hr8
          have HL2 := Lib.hid (show (rnTo zs (i + 1)).length = L + 1 by rw [HN.out]; simp [HL.out])
          clear ho3 hg4 hat4 hrs5
          go_wp2
          go_roundw
          case rel => exact ⟨i + 1, L + 1, _, _, _, by omega, by go_num, rfl, HL2, by omega, ho4, hr8, hb4⟩
          case measure => (simp [intOf] <;> omega)
      · obtain rfl : i = n := by omega
        have H := Lib.hid (show rnV zs = (L : Int) by rw [H0.out, HL.out])
        go_wp2_with fail
        go_ret
        exact ⟨ret_int H.out.symm, HB1.out.trans (hbl.mono HB1.out.size)⟩

end Go.Proofs.Ytaeabpmpfadkjaa
