/- FnShortest: impl.NetworkOk's networks, impl.IsSorting at few wires. -/
import Derived.Test.YtobdkfhmmpigiaaGreatZ3
import Derived.Test.YtobdkfhmmpigiaaGreatNetOkI
namespace Go.Proofs.YtobdkfhmmpigiaaGreat
open Go.RowKit Go.Deep
set_option linter.unusedVariables false
attribute [local go_sem] bits_and_one

theorem own_netbox (w : World) (x : Int) (A : Option Addr) (n c : Nat) : Own (w.alloc (.cells #[.int .i64 x, .slice A n c] 27)) w.heap.size 27 (some ⟨w.heap.size, 0, none⟩) 2 2 [.int .i64 x, .slice A n c] :=
  World.ownsRow_lit (base := w.heap.size) (e := 27) (size := 1) w #[.int .i64 x, .slice A n c] 2 (Nat.le_refl _) (by unfold maxLen; omega) rfl
/-- Rows of two different wires. -/
def NetR (n m : Nat) (zss : List (List Int)) : Prop := zss.length = m ∧ ∀ k, k < m → ∃ p q : Nat, row zss k = pr p q ∧ p < n ∧ q < n ∧ p ≠ q
theorem netR_nil (n : Nat) : NetR n 0 [] := ⟨rfl, fun k h => by omega⟩
theorem netR_snoc {n m p q : Nat} {zss : List (List Int)} (h : NetR n m zss) (hp : p < n) (hq : q < n) (hpq : p ≠ q) : NetR n (m + 1) (zss ++ [pr p q]) := by
  refine ⟨by rw [List.length_append, h.1]; rfl, fun k hk => ?_⟩
  by_cases e : k = m
  · subst e; exact ⟨p, q, row_snoc_eq h.1, hp, hq, hpq⟩
  · obtain ⟨p', q', e1, e2⟩ := h.2 k (by omega)
    exact ⟨p', q', by rw [← row_snoc_lt (by rw [h.1]; omega)]; exact e1, e2⟩
theorem netR_ok {n m : Nat} {zss : List (List Int)} (h : NetR n m zss) (h1 : 1 ≤ n) (h8 : n ≤ 8) (hm : m ≤ 60) : netV (n : Int) zss = true := by
  refine net_yes h.1 (by omega) hm ?_
  have : ∀ k, k ≤ m → netTo (n : Int) zss k = true := by
    intro k
    induction k with
    | zero => intro _; exact netTo_zero _ _
    | succ k ih =>
      intro hk
      obtain ⟨p, q, e, e1, e2, e3⟩ := h.2 k (by omega)
      refine netTo_on (ih (by omega)) ?_
      have a0 : nth (pr p q) 0 = (p : Int) := by simp [nth]
      have a1 : nth (pr p q) 1 = (q : Int) := by simp [nth]
      have a2 : ((p : Int) == (q : Int)) = false := by rw [beq_eq_false_iff_ne]; omega
      rw [e, pairB, a0, a1, a2, inW, inW, decide_eq_true (show 0 ≤ (p : Int) ∧ (p : Int) < (n : Int) by omega), decide_eq_true (show 0 ≤ (q : Int) ∧ (q : Int) < (n : Int) by omega)]
      rfl
  exact this m (Nat.le_refl _)
theorem pick_ne {n a x : Nat} (ha : a < n) (hx : x + 1 < n) : (a + 1 + x) % n < n ∧ (a + 1 + x) % n ≠ a := by
  refine ⟨Nat.mod_lt _ (by omega), ?_⟩
  rcases Nat.lt_or_ge (a + 1 + x) n with h | h
  · rw [Nat.mod_eq_of_lt h]; omega
  · rw [Nat.mod_eq_sub_mod h, Nat.mod_eq_of_lt (by omega)]; omega

theorem netR_pair {n m : Nat} {zss : List (List Int)} (h : NetR n m zss) : PairR n m zss := fun k hk => by
  obtain ⟨p, q, e, h1, h2, _⟩ := h.2 k hk
  exact ⟨p, q, e, h1, h2⟩
def pop4 (s : Nat) : Nat := s % 2 + s / 2 % 2 + s / 4 % 2 + s / 8 % 2
def srtW (W s : Nat) : Nat := (2 ^ pop4 s - 1) * 2 ^ (W - pop4 s)
/-- Does a network sort all masks? -/
def sortB (zss : List (List Int)) (n W : Nat) : Bool := (List.range (2 ^ W)).all fun s => decide (bsTo zss s n = srtW W s)
theorem own_emptyA (w : World) (e : TypeId) (s : Nat) (h : w.heap.size = s) : Own (w.alloc (.cells #[] e)) s e (some ⟨s, 0, none⟩) 0 0 [] := by subst h; exact own_empty w e
theorem pop_four : ∀ s, s < 16 → pop s = pop4 s := by decide +kernel
theorem pop_w1 : ∀ s, s < 2 → pop s ≤ 1 := by decide +kernel
theorem pop_w2 : ∀ s, s < 4 → pop s ≤ 2 := by decide +kernel
theorem pop_w3 : ∀ s, s < 8 → pop s ≤ 3 := by decide +kernel
theorem pop_w4 : ∀ s, s < 16 → pop s ≤ 4 := by decide +kernel
theorem pop_w {W s : Nat} (h1 : 1 ≤ W) (h4 : W ≤ 4) (hs : s < 2 ^ W) : pop s ≤ W := by
  have hc : W = 1 ∨ W = 2 ∨ W = 3 ∨ W = 4 := by omega
  rcases hc with rfl | rfl | rfl | rfl
  · exact pop_w1 s hs
  · exact pop_w2 s hs
  · exact pop_w3 s hs
  · exact pop_w4 s hs
theorem srt_fact {W s : Nat} (h1 : 1 ≤ W) (h4 : W ≤ 4) (hs : s < 2 ^ W) : ∃ k d K2 K1 : Nat, pop s = k ∧ RowKit.wrap64 (2 ^ k) = (K2 : Int) ∧ (K2 : Int) - 1 = (K1 : Int) ∧ (W : Int) - (k : Int) = (d : Int) ∧ RowKit.wrap64 ((K1 : Int) * 2 ^ d) = (srtW W s : Int) ∧ k ≤ 4 ∧ d ≤ 4 ∧ K2 ≤ 16 := by
  have hk := pop_w h1 h4 hs
  have h16 := w16 h4 hs
  obtain ⟨k, hke⟩ : ∃ k, pop s = k := ⟨_, rfl⟩
  rw [hke] at hk
  have hp4 : pop4 s = k := by rw [← pop_four s h16, hke]
  have hpos : 0 < 2 ^ k := Nat.two_pow_pos k
  have hle : 2 ^ k ≤ 2 ^ 4 := Nat.pow_le_pow_right (by omega) (by omega)
  refine ⟨k, W - k, 2 ^ k, 2 ^ k - 1, hke, wrap_pow k (by omega), by omega, by omega, ?_, by omega, by omega, by omega⟩
  have e : (((2 ^ k - 1 : Nat) : Int) * 2 ^ (W - k)) = (srtW W s : Int) := by
    rw [srtW, hp4, Int.natCast_mul, Int.natCast_pow]; rfl
  have hb : srtW W s < 1000 := by
    rw [srtW, hp4]
    have h2 : 2 ^ (W - k) ≤ 2 ^ 4 := Nat.pow_le_pow_right (by omega) (by omega)
    have h3 : (2 ^ k - 1) * 2 ^ (W - k) ≤ 16 * 16 := Nat.mul_le_mul (by omega) (by omega)
    omega
  rw [e]
  exact IntWalk.wrap64_in _ (by omega)
set_option maxHeartbeats 1000000 in
theorem implSrtM (W s : Nat) (w : World) (h1 : 1 ≤ W) (h4 : W ≤ 4) (hs : s < 2 ^ W) : Calls Tryz.prog 63 #[.int .i64 W, .int .i64 s] w fun e w' => e = .returned (.int .i64 (srtW W s : Nat)) ∧ w = w' := by
  obtain ⟨k, d, K2, K1, e1, e2, e3, e4, e5, b1, b2, b3⟩ := srt_fact h1 h4 hs
  have HP := Lib.hid e1
  have H16 := Lib.hid (w16 h4 hs)
  obtain ⟨r, hr⟩ : ∃ r, srtW W s = r := ⟨_, rfl⟩
  rw [hr] at e5 ⊢
  clear e1 hs hr
  go_enter Tryz.func63, Tryz.ntmps63
  go_wp2_with fail
  refine (implOnes w s (by have := H16.out; omega)).mono ?_
  rintro e w' ⟨rfl, rfl⟩
  rw [HP.out]
  have HE5 := Lib.hid e5
  go_wp2_with fail
  go_ret
  exact ⟨ret_int HE5.out, rfl⟩

set_option maxHeartbeats 4000000 in
theorem implBits (W n : Nat) (A : Option Addr) (c s : Nat) (zss : List (List Int)) (w : World) (hR : NetR W n zss) (ha : RdM w A n zss) (h1 : 1 ≤ W) (h4 : W ≤ 4) (hs : s < 2 ^ W) (hn : n ≤ 60) :
    Calls Tryz.prog 62 #[.agg #[.int .i64 W, .slice A n c], .int .i64 s] w fun e w' => e = .returned (.int .i64 (bsTo zss s n : Nat)) ∧ Below w.heap.size w w' := by
  have HA := Lib.hid ha
  have HR := Lib.hid hR
  have HM := Lib.hid (fun k hk => bsTo_lt (netR_pair hR) h4 hs k hk)
  have HAL := Lib.hid (below_alloc w (.cells #[.int .i64 (W : Int), .slice A n c] 27))
  clear ha hR hs
  go_enter Tryz.func62, Tryz.ntmps62
  go_wp2_with fail
  go_loopw [1, 10] (fun mv iv wr => ∃ k t : Nat, k ≤ n ∧ iv = .int .i64 k ∧ mv = .int .i64 (t : Nat) ∧ Hid (bsTo zss s k = t) ∧ Below w.heap.size w wr) (fun _ iv _ => n - (intOf iv).toNat)
  case atStart => exact ⟨0, s, Nat.zero_le _, rfl, rfl, Lib.hid rfl, HAL.out⟩
  case round =>
    obtain ⟨k, t, hk, rfl, rfl, HT, hbl⟩ := hrel
    by_cases hlt : k < n
    · obtain ⟨p, q, hrow, hpW, hqW, hpq⟩ := HR.out.2 k hlt
      obtain ⟨a1, B, md, dd, rfl, la, h1', hB, hmd, hd⟩ := (HA.out.below hbl).2 k hlt
      unfold maxLen at hd
      rw [hrow] at hB
      obtain rfl : 2 = md := by rw [← hB.lenI]; rfl
      obtain ⟨b, rfl, lb, p0⟩ := hB.at_ (show 0 < 2 by omega)
      obtain ⟨b', hb', _, p1⟩ := hB.at_ (show 1 < 2 by omega)
      injection hb' with hb'
      subst hb'
      have p0 : wr.cell? b = some (.int .i64 (p : Int)) := p0
      have p1 : wr.cell? ⟨b.block, b.off + 1, none⟩ = some (.int .i64 (q : Int)) := by rw [← add_one_]; exact p1
      have ht16 : t < 16 := by
        have := HM.out k hk
        rw [HT.out] at this
        exact w16 h4 this
      have HN := Lib.hid (show bsTo zss s (k + 1) = bst t p q by rw [bsTo, HT.out, hrow]; simp [nth])
      have CS := Lib.hid (fun w' => implMStep t p q w' ht16 (by omega) (by omega))
      clear hrow hB
      go_wp2_with fail
      go_region_held3 (fun w' => w'.cell? b = some (.int .i64 (p : Int)) ∧ w'.cell? ⟨b.block, b.off + 1, none⟩ = some (.int .i64 (q : Int))) (go_keep) (first | (go_at_call 45; refine (CS.out _).mono ?_; rintro e wA ⟨rfl, hbA⟩; have s1 := (hbA.cell (p := b) lb).trans p0; have s2 := (hbA.cell (p := ⟨b.block, b.off + 1, none⟩) lb).trans p1))
      all_goals
        go_wp2_with fail
        go_roundw
        case rel => exact ⟨k + 1, bst t p q, by omega, by go_num, rfl, HN, (by first | exact hbl.trans (hbA.mono hbl.size) | exact below_a hbl hbA | exact below_drewN (below_a hbl hbA) _)⟩
        case measure => (simp [intOf] <;> omega)
    · obtain rfl : k = n := by omega
      go_wp2_with fail
      go_ret
      exact ⟨by rw [HT.out]; rfl, hbl⟩

/-- Are the first i masks sorted behind the network? -/
def MaskTo (zss : List (List Int)) (n W i : Nat) : Prop := ∀ t, t < i → bsTo zss t n = srtW W t
theorem sortB_iff (zss : List (List Int)) (n W : Nat) : sortB zss n W = true ↔ MaskTo zss n W (2 ^ W) := by
  rw [sortB, List.all_eq_true]
  constructor
  · intro h t ht
    have := h t (List.mem_range.2 ht)
    simpa using this
  · intro h t ht
    have := h t (List.mem_range.1 ht)
    simpa using this

set_option maxHeartbeats 4000000 in
theorem implUnsorted (W n : Nat) (A : Option Addr) (c : Nat) (zss : List (List Int)) (w : World) (hR : NetR W n zss) (ha : RdM w A n zss) (h1 : 1 ≤ W) (h4 : W ≤ 4) (hn : n ≤ 60) :
    Calls Tryz.prog 47 #[.agg #[.int .i64 W, .slice A n c]] w fun e w' => ∃ A' m c', e = .returned (.slice A' m c') ∧ (m = 0 ↔ sortB zss n W = true) ∧ Below w.heap.size w w' := by
  have HA := Lib.hid ha
  have HR := Lib.hid hR
  obtain ⟨N, hN⟩ : ∃ N, 2 ^ W = N := ⟨_, rfl⟩
  have hw := wrap_pow W (by omega)
  have hN16 : N ≤ 16 := by rw [← hN]; exact Nat.pow_le_pow_right (by omega) h4
  rw [hN] at hw
  have HN := Lib.hid hN
  have CB := Lib.hid (fun s w' (h : RdM w' A n zss) (hs : s < 2 ^ W) => implBits W n A c s zss w' hR h h1 h4 hs hn)
  have CS := Lib.hid (fun s w' (hs : s < 2 ^ W) => implSrtM W s w' h1 h4 hs)
  have hal := below_alloc w (.cells #[.int .i64 (W : Int), .slice A n c] 27)
  have HAL := Lib.hid (hal.alloc (by simp) (.cells #[] 3))
  have HOE := Lib.hid (own_emptyA (w.alloc (.cells #[.int .i64 (W : Int), .slice A n c] 27)) 3 (w.heap.size + 1) (by simp))
  have HOX := Lib.hid ((own_netbox w (W : Int) A n c).alloc (.cells #[] 3))
  clear ha hR hN hal
  go_enter Tryz.func47, Tryz.ntmps47
  go_wp2_with fail
  rw [hw]
  clear hw
  go_loopw [3, 9] (fun mv iv wr => ∃ s m : Nat, ∃ A' c' xs, s ≤ N ∧ m ≤ s ∧ iv = .int .i64 (s : Nat) ∧ mv = .slice A' m c' ∧ OwnI wr (w.heap.size + 1) 3 A' m c' xs ∧ Own wr w.heap.size 27 (some ⟨w.heap.size, 0, none⟩) 2 2 [.int .i64 (W : Int), .slice A n c] ∧ Hid (m = 0 ↔ MaskTo zss n W s) ∧ Below w.heap.size w wr) (fun _ iv _ => N - (intOf iv).toNat)
  case atStart => exact ⟨0, 0, _, _, [], Nat.zero_le _, Nat.le_refl _, rfl, rfl, HOE.out, HOX.out, Lib.hid ⟨fun _ t ht => by omega, fun _ => rfl⟩, HAL.out⟩
  case round =>
    obtain ⟨s, m, A', c', xs, hs, hms, rfl, rfl, hown, hbox, HM, hbl⟩ := hrel
    obtain ⟨b0, b1, b2, b3, b4⟩ := own_box2 hbox
    by_cases hlt : s < N
    · have hs2 : s < 2 ^ W := by rw [HN.out]; exact hlt
      have CB1 := Lib.hid (fun w' (h : RdM w' A n zss) => CB.out s w' h hs2)
      have CS1 := Lib.hid (fun w' => CS.out s w' hs2)
      have ra := HA.out.below hbl
      obtain ⟨x, hx⟩ : ∃ x, bsTo zss s n = x := ⟨_, rfl⟩
      obtain ⟨y, hy⟩ : ∃ y, srtW W s = y := ⟨_, rfl⟩
      rw [hx] at CB1
      rw [hy] at CS1
      have HX := Lib.hid hx
      have HY := Lib.hid hy
      have HBX := Lib.hid hbox
      have HOW := Lib.hid hown
      have HBL := Lib.hid hbl
      clear hx hy hs2 hbox hown hbl
      by_cases hxy : x = y
      · have exy : ((x : Int) == (y : Int)) = true := by rw [hxy]; simp
        have HXY := Lib.hid hxy
        clear hxy
        go_wp2_with fail
        go_region_held3 (fun w' => w'.cell? ⟨w.heap.size, 0, none⟩ = some (.int .i64 (W : Int)) ∧ w'.cell? ⟨w.heap.size, 1, none⟩ = some (.slice A n c)) (go_keep) (first | (go_at_call 62; refine (CB1.out _ (by exact ra)).mono ?_; rintro e wA ⟨rfl, hbA⟩; have s1 := (hbA.cell (p := ⟨w.heap.size, 0, none⟩) b4).trans b0; have s2 := (hbA.cell (p := ⟨w.heap.size, 1, none⟩) b4).trans b1) | (go_at_call 63; refine (CS1.out _).mono ?_; rintro e w' ⟨rfl, rfl⟩))
        all_goals
          have hbB : Below wr.heap.size wr wA := (by first | exact hbA | exact (below_drewN (Below.refl wr.heap.size wr) _).trans hbA)
          have ho2 := HOW.out.below hbB
          have hx2 := HBX.out.below hbB
          have hb2 := HBL.out.trans (hbB.mono HBL.out.size)
          have HM2 := Lib.hid (show m = 0 ↔ MaskTo zss n W (s + 1) from ⟨fun h t ht => by
            by_cases e : t = s
            · subst e; rw [HX.out, HY.out]; exact HXY.out
            · exact HM.out.1 h t (by omega), fun h => HM.out.2 (fun t ht => h t (by omega))⟩)
          clear hbA hbB
          go_wp2_with fail
          go_roundw
          case rel => exact ⟨s + 1, m, A', c', xs, by omega, by omega, by go_num, rfl, by exact ho2, by exact hx2, HM2, (by first | exact hb2 | exact below_drewN hb2 _)⟩
          case measure => (simp [intOf] <;> omega)
      · have exy : ((x : Int) == (y : Int)) = false := by rw [beq_eq_false_iff_ne]; omega
        have HXY := Lib.hid hxy
        clear hxy
        go_wp2_with fail
        go_region_held3 (fun w' => w'.cell? ⟨w.heap.size, 0, none⟩ = some (.int .i64 (W : Int)) ∧ w'.cell? ⟨w.heap.size, 1, none⟩ = some (.slice A n c)) (go_keep) (first | (go_at_call 62; refine (CB1.out _ (by exact ra)).mono ?_; rintro e wA ⟨rfl, hbA⟩; have s1 := (hbA.cell (p := ⟨w.heap.size, 0, none⟩) b4).trans b0; have s2 := (hbA.cell (p := ⟨w.heap.size, 1, none⟩) b4).trans b1) | (go_at_call 63; refine (CS1.out _).mono ?_; rintro e w' ⟨rfl, rfl⟩))
        all_goals
          have hbB : Below wr.heap.size wr wA := (by first | exact hbA | exact (below_drewN (Below.refl wr.heap.size wr) _).trans hbA)
          have ho2 := HOW.out.below hbB
          have hx2 := HBX.out.below hbB
          have hb2 := HBL.out.trans (hbB.mono HBL.out.size)
          have hsz : w.heap.size + 1 ≤ wA.heap.size := (HBX.out.below hbB).blk_ _ rfl |>.2
          have HM2 := Lib.hid (show m + 1 = 0 ↔ MaskTo zss n W (s + 1) from ⟨fun h => by omega, fun h => absurd (by rw [← HX.out, ← HY.out]; exact h s (by omega)) HXY.out⟩)
          clear hbA hbB
          go_wp2_with (at_builtin; refine wpL_append1 _ rfl _ _ _ rfl (w.heap.size + 1) 3 (.int .i64 0) 8 Tryz.underlying30 intInfo rfl _ m _ _ rfl (by exact ho2) _ rfl rfl (by unfold maxLen; omega) (by omega) (by exact hsz) ?_)
          intro A6 c6 w6 ho6 hg6 hat6
          have hx6 := Own.kept (w' := w6) (row := blk A') (by exact hx2) hg6 (fun q h1 h2 => by have h3 : w.heap.size = q := (by simpa [blk] using h1); have := (ho2.blk_ q h2.symm).1; omega)
          have hb6 := below_of_grown (by first | exact hb2 | exact below_drewN hb2 _) hg6 (by first | exact hb2.size | exact (below_drewN hb2 _).size) (fun q h => by have := (ho2.blk_ q h).1; omega)
          go_wp2_with fail
          go_roundw
          case rel => exact ⟨s + 1, m + 1, A6, c6, xs ++ [(s : Int)], by omega, by omega, by go_num, rfl, by simpa [OwnI] using ho6, hx6, HM2, hb6⟩
          case measure => (simp [intOf] <;> omega)
    · obtain rfl : s = N := by omega
      have HF := Lib.hid (show m = 0 ↔ sortB zss n W = true by rw [sortB_iff, HN.out]; exact HM.out)
      go_wp2_with fail
      go_ret
      exact ⟨A', m, c', rfl, HF.out, hbl⟩

set_option maxHeartbeats 2000000 in
theorem implIsSorting (W n : Nat) (A : Option Addr) (c : Nat) (zss : List (List Int)) (w : World) (hR : NetR W n zss) (ha : RdM w A n zss) (h1 : 1 ≤ W) (h4 : W ≤ 4) (hn : n ≤ 60) :
    Calls Tryz.prog 8 #[.agg #[.int .i64 W, .slice A n c]] w fun e w' => e = .returned (.bool (sortB zss n W)) ∧ Below w.heap.size w w' := by
  have hok := netR_ok hR h1 (by omega) hn
  have CN := Lib.hid (fun w' (h : RdM w' A n zss) => hok ▸ implNetOk (W : Int) A n c zss w' h (by omega))
  have CU := Lib.hid (fun w' (h : RdM w' A n zss) => implUnsorted W n A c zss w' hR h h1 h4 hn)
  have HC : ∀ w, RdM w A n zss → Calls Tryz.prog 24 #[.agg #[.int .i64 W, .slice A n c]] w fun e w' => ∃ m : Nat, e = .returned (.int .i64 m) ∧ (m = 0 ↔ sortB zss n W = true) ∧ Below w.heap.size w w' := by
    clear ha
    intro w ha
    have hal := below_alloc w (.cells #[.int .i64 (W : Int), .slice A n c] 27)
    have HBX := Lib.hid (own_netbox w (W : Int) A n c)
    have ha1 := ha.below hal
    have HAL := Lib.hid hal
    clear hal hok hR ha
    go_enter Tryz.func24, Tryz.ntmps24
    go_wp2_with fail
    refine (CN.out _ ha1).mono ?_
    rintro e w1 ⟨rfl, hb1⟩
    obtain ⟨b0, b1, b2, b3, b4⟩ := own_box2 (HBX.out.below hb1)
    have ha2 := ha1.below hb1
    have hB1 := HAL.out.trans (hb1.mono HAL.out.size)
    clear hb1 ha1
    go_wp2_with fail
    refine (CU.out _ ha2).mono ?_
    rintro e w2 ⟨A', m, c', rfl, hm, hb2⟩
    have HM := Lib.hid hm
    clear hm
    go_wp2_with fail
    go_ret
    exact ⟨m, rfl, HM.out, hB1.trans (hb2.mono hB1.size)⟩
  have HC2 := Lib.hid HC
  have hal := below_alloc w (.cells #[.int .i64 (W : Int), .slice A n c] 27)
  have ha1 := ha.below hal
  have HAL := Lib.hid hal
  clear HC hal hok hR ha CN CU
  go_enter Tryz.func8, Tryz.ntmps8
  go_wp2_with fail
  refine (HC2.out _ ha1).mono ?_
  rintro e w1 ⟨m, rfl, hm, hb1⟩
  have hB1 := HAL.out.trans (hb1.mono HAL.out.size)
  have HM := Lib.hid (show ((m : Int) == 0) = sortB zss n W by rw [Bool.eq_iff_iff, ← hm, beq_iff_eq]; omega)
  clear hm hb1
  go_wp2_with fail
  go_ret
  exact ⟨by rw [← HM.out]; simp, hB1⟩
end Go.Proofs.YtobdkfhmmpigiaaGreat
