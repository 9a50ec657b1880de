/- FnShortest: impl.levels, impl.DepthOf. -/
import Derived.Test.YtobdkfhmmpigiaaGreatZ6b
import Derived.Lib.MinMax
namespace Go.Proofs.YtobdkfhmmpigiaaGreat
open Go.RowKit Go.Deep
set_option linter.unusedVariables false

/-- The level of a comparator of the wires p, q, the wires' last levels being l. -/
def lvStep (l : List Int) (p q : Nat) : Int := 1 + max (nth l p) (nth l q)
def lvNext (l : List Int) (r : List Int) : List Int := (l.set (nth r 0).toNat (lvStep l (nth r 0).toNat (nth r 1).toNat)).set (nth r 1).toNat (lvStep l (nth r 0).toNat (nth r 1).toNat)
def lvA (zss : List (List Int)) : Nat → List Int
  | 0 => [0, 0, 0, 0, 0, 0, 0, 0]
  | k + 1 => lvNext (lvA zss k) (row zss k)
def lvO (zss : List (List Int)) : Nat → List Int
  | 0 => []
  | k + 1 => lvO zss k ++ [lvStep (lvA zss k) (nth (row zss k) 0).toNat (nth (row zss k) 1).toNat]
theorem lvA_len (zss : List (List Int)) : ∀ k, (lvA zss k).length = 8
  | 0 => rfl
  | k + 1 => by rw [lvA, lvNext, List.length_set, List.length_set, lvA_len zss k]
theorem lvO_len (zss : List (List Int)) : ∀ k, (lvO zss k).length = k
  | 0 => rfl
  | k + 1 => by rw [lvO, List.length_append, lvO_len zss k]; rfl
theorem nth_set {l : List Int} {i j : Nat} {x : Int} (hi : i < l.length) : nth (l.set i x) j = if i = j then x else nth l j := by
  unfold nth
  rw [List.getD_eq_getElem?_getD, List.getD_eq_getElem?_getD, List.getElem?_set]
  by_cases h : i = j
  · subst h; simp [hi]
  · simp [h]
theorem pr_fst (p q : Nat) : (nth (pr p q) 0).toNat = p := rfl
theorem pr_snd (p q : Nat) : (nth (pr p q) 1).toNat = q := rfl
theorem lvA_bd {W n : Nat} {zss : List (List Int)} (h : NetR W n zss) (h8 : W ≤ 8) : ∀ k, k ≤ n → ∀ p, p < 8 → ∃ a : Nat, nth (lvA zss k) p = a ∧ a ≤ k := by
  intro k
  induction k with
  | zero =>
    intro _ p hp
    refine ⟨0, ?_, Nat.le_refl _⟩
    have : ∀ p : Nat, p < 8 → nth [0, 0, 0, 0, 0, 0, 0, 0] p = ((0 : Nat) : Int) := by decide
    exact this p hp
  | succ k ih =>
    intro hk p hp
    obtain ⟨a, b, hr, ha, hb, hab⟩ := h.2 k (by omega)
    obtain ⟨x, hx, hx2⟩ := ih (by omega) a (by omega)
    obtain ⟨y, hy, hy2⟩ := ih (by omega) b (by omega)
    obtain ⟨z, hz, hz2⟩ := ih (by omega) p hp
    have hl := lvA_len zss k
    rw [lvA, lvNext, hr, pr_fst, pr_snd, nth_set (by rw [List.length_set]; omega), nth_set (by omega), lvStep, hx, hy, hz]
    by_cases h1 : b = p
    · rw [if_pos h1]; exact ⟨1 + max x y, by omega, by omega⟩
    · rw [if_neg h1]
      by_cases h2 : a = p
      · rw [if_pos h2]; exact ⟨1 + max x y, by omega, by omega⟩
      · rw [if_neg h2]; exact ⟨z, rfl, by omega⟩
theorem own_cell {w : World} {g base n c k : Nat} {e : TypeId} {zs : List Int} (h : OwnI w base e (some ⟨g, 0, none⟩) n c zs) (hk : k < n) : w.cell? ⟨g, k, none⟩ = some (.int .i64 (nth zs k)) ∧ w.frozen? ⟨g, k, none⟩ = false := by
  have hl := h.lenI
  obtain ⟨g', u, e1, _, _, hu, hc, hf⟩ := h.at_ hk
  injection e1 with e1
  injection e1 with e1
  subst e1
  refine ⟨?_, hf⟩
  rw [hc]
  rw [List.getElem?_map, List.getElem?_eq_getElem (by omega)] at hu
  rw [nth_eq (by omega)]
  simpa using hu.symm

set_option maxHeartbeats 4000000 in
theorem implLevels (W n : Nat) (A : Option Addr) (c : Nat) (zss : List (List Int)) (w : World) (hR : NetR W n zss) (ha : RdM w A n zss) (h8 : W ≤ 8) (hn : n ≤ 60) :
    Calls Tryz.prog 29 #[.agg #[.int .i64 W, .slice A n c]] w fun e w' => ∃ A' c', e = .returned (.slice A' n c') ∧ OwnI w' w.heap.size 3 A' n c' (lvO zss n) ∧ Below w.heap.size w w' := by
  obtain ⟨b, hb⟩ : ∃ b, w.heap.size = b := ⟨_, rfl⟩
  obtain ⟨W1, hW1⟩ : ∃ X, w.alloc (.cells #[.int .i64 (W : Int), .slice A n c] 27) = X := ⟨_, rfl⟩
  have z1 : W1.heap.size = b + 1 := by rw [← hW1]; simp [hb]
  have b1 : Below b w W1 := hW1 ▸ (hb ▸ below_alloc w _)
  have k1 : Own W1 b 27 (some ⟨b, 0, none⟩) 2 2 [.int .i64 (W : Int), .slice A n c] := by have h := own_netbox w (W : Int) A n c; rw [hb, hW1] at h; exact h
  obtain ⟨W2, hW2⟩ : ∃ X, W1.alloc (.cells #[.int .i64 0, .int .i64 0, .int .i64 0, .int .i64 0, .int .i64 0, .int .i64 0, .int .i64 0, .int .i64 0] 61) = X := ⟨_, rfl⟩
  have z2 : W2.heap.size = b + 2 := by rw [← hW2]; simp [z1]
  have b2 : Below (b + 1) W1 W2 := by have h := below_alloc W1 (.cells #[.int .i64 0, .int .i64 0, .int .i64 0, .int .i64 0, .int .i64 0, .int .i64 0, .int .i64 0, .int .i64 0] 61); rw [z1, hW2] at h; exact h
  have o2 : OwnI W2 (b + 1) 61 (some ⟨b + 1, 0, none⟩) 8 8 (lvA zss 0) := by
    have h := World.ownsRow_lit (base := b + 1) (e := 61) (size := 1) W1 #[.int .i64 0, .int .i64 0, .int .i64 0, .int .i64 0, .int .i64 0, .int .i64 0, .int .i64 0, .int .i64 0] 8 (by omega) (by unfold maxLen; omega) rfl
    rw [z1, hW2] at h
    exact h
  obtain ⟨W3, hW3⟩ : ∃ X, W2.alloc (.cells #[] 3) = X := ⟨_, rfl⟩
  have z3 : W3.heap.size = b + 3 := by rw [← hW3]; simp [z2]
  have b3 : Below (b + 2) W2 W3 := by have h := below_alloc W2 (.cells #[] 3); rw [z2, hW3] at h; exact h
  have o3 : OwnI W3 (b + 2) 3 (some ⟨b + 2, 0, none⟩) 0 0 (lvO zss 0) := by have h := own_emptyA W2 3 (b + 2) z2; rw [hW3] at h; exact h
  obtain ⟨q0, q1, q2, q3, q4⟩ := own_box2 ((k1.below (by rw [z1]; exact b2)).below (by rw [z2]; exact b3))
  have HBW := Lib.hid (b1.trans (b2.mono (by omega)))
  have HBV := Lib.hid (show Below (b + 1) W1 W3 from b2.trans (b3.mono (by omega)))
  have ha1 := Lib.hid (ha.below (by rw [hb]; exact b1))
  have HO2 := Lib.hid (o2.below (by rw [z2]; exact b3))
  have HO3 := Lib.hid o3
  have HB1 := Lib.hid b1
  have HW1 := Lib.hid hW1
  have HW2 := Lib.hid hW2
  have HW3 := Lib.hid hW3
  have HR := Lib.hid hR
  clear hW1 hW2 hW3 b1 b2 b3 k1 o2 o3 ha hR
  go_enter Tryz.func29, Tryz.ntmps29
  go_wp2_with fail
  rw [HW1.out, HW2.out, HW3.out]
  go_wp2_with fail
  go_loopw [13, 4] (fun iv ov wr => ∃ j : Nat, ∃ A2 c2, iv = .int .i64 (j : Nat) ∧ ov = .slice A2 j c2 ∧ j ≤ n ∧ OwnI wr (b + 1) 61 (some ⟨b + 1, 0, none⟩) 8 8 (lvA zss j) ∧ OwnI wr (b + 2) 3 A2 j c2 (lvO zss j) ∧ Below (b + 1) W1 wr) (fun iv _ _ => n - (intOf iv).toNat)
  case atStart => exact ⟨0, _, _, rfl, rfl, Nat.zero_le _, HO2.out, HO3.out, HBV.out⟩
  case round =>
    obtain ⟨j, A2, c2, rfl, rfl, hj, hF, hO, hbl⟩ := hrel
    have hszr : b + 2 ≤ wr.heap.size := by have h := (hF.blk_ _ rfl).2; simp at h; omega
    by_cases hlt : j < n
    · obtain ⟨ad, BN, mN, dN, rfl, hadlt, hcN, hBN, hmN, hdN⟩ := ha1.out.2 j hlt
      have hcN := (hbl.cell (p := ad.add j) (by rw [block_of_add]; omega)).trans hcN
      obtain ⟨p, q, hrow, hp, hq, hpq⟩ := HR.out.2 j hlt
      obtain ⟨x, hx, hx2⟩ := lvA_bd HR.out h8 j hj p (by omega)
      obtain ⟨y, hy, hy2⟩ := lvA_bd HR.out h8 j hj q (by omega)
      obtain ⟨cF1, fF1⟩ := own_cell hF (show p < 8 by omega)
      obtain ⟨cF2, fF2⟩ := own_cell hF (show q < 8 by omega)
      rw [hx] at cF1
      rw [hy] at cF2
      rw [hrow] at hBN
      obtain rfl : 2 = mN := by rw [← hBN.lenI]; rfl
      obtain ⟨bp, rfl, lb, p0⟩ := hBN.at_ (show 0 < 2 by omega)
      obtain ⟨bp', hb', _, p1⟩ := hBN.at_ (show 1 < 2 by omega)
      injection hb' with hb'
      subst hb'
      have hbp : bp.block < b + 1 := by omega
      have p0 : wr.cell? bp = some (.int .i64 (p : Int)) := (hbl.cell (p := bp) hbp).trans p0
      have p1 : wr.cell? ⟨bp.block, bp.off + 1, none⟩ = some (.int .i64 (q : Int)) := (hbl.cell (p := ⟨bp.block, bp.off + 1, none⟩) hbp).trans (by rw [← add_one_]; exact p1)
      obtain ⟨M, hM⟩ : ∃ M : Nat, max x y = M := ⟨_, rfl⟩
      have hmx : max (x : Int) (y : Int) = (M : Int) := by omega
      obtain ⟨v, hv⟩ : ∃ v : Nat, 1 + M = v := ⟨_, rfl⟩
      have hm1 : IntKind.i64.wrap (1 + (M : Int)) = (v : Int) := by rw [show (1 : Int) + (M : Int) = (v : Int) by omega]; exact IntWalk.i64_in _ (by omega)
      have HV := Lib.hid (show lvStep (lvA zss j) p q = (v : Int) by rw [lvStep, hx, hy, hmx]; omega)
      have HA := Lib.hid (show lvA zss (j + 1) = ((lvA zss j).set p ((v : Int))).set q ((v : Int)) by rw [lvA, lvNext, hrow, pr_fst, pr_snd, HV.out])
      have HOO := Lib.hid (show lvO zss (j + 1) = lvO zss j ++ [(v : Int)] by rw [lvO, hrow, pr_fst, pr_snd, HV.out])
      have hp8 : (p : Int) < 8 := by omega
      have hq8 : (q : Int) < 8 := by omega
      have hp0 : (0 : Int) ≤ (p : Int) := by omega
      have hq0 : (0 : Int) ≤ (q : Int) := by omega
      have hF0 : OwnI wr.drew (b + 1) 61 (some ⟨b + 1, 0, none⟩) 8 8 (lvA zss j) := hF.drew
      have hF9 := hF0.setI (k := p) (x := (v : Int)) (by omega)
      have hF11 := Lib.hid (hF9.setI (k := q) (x := (v : Int)) (by omega))
      obtain ⟨g1, g2⟩ := own_cell hF9 (show q < 8 by omega)
      have hO0 : OwnI wr.drew (b + 2) 3 A2 j c2 (lvO zss j) := hO.drew
      have hO11 := Lib.hid (((hO0.setOther (p := ⟨b + 1, p, none⟩) (fun g h => by have := (hO0.blk_ g h).1; show g ≠ b + 1; omega) (.int .i64 (v : Int))).setOther (p := ⟨b + 1, q, none⟩) (fun g h => by have := (hO0.blk_ g h).1; show g ≠ b + 1; omega) (.int .i64 (v : Int))))
      have hb11 := Lib.hid (((show Below (b + 1) W1 wr.drew from hbl.drew).setCell (p := ⟨b + 1, p, none⟩) (Nat.le_refl _) (.int .i64 (v : Int))).setCell (p := ⟨b + 1, q, none⟩) (Nat.le_refl _) (.int .i64 (v : Int)))
      have hne1 : bp.block ≠ b + 1 := by omega
      have p2 : (wr.drew.setCell ⟨b + 1, p, none⟩ (.int .i64 (v : Int))).cell? bp = some (.int .i64 (p : Int)) := (World.cell?_of_block (a := bp) (Below.heap_setCell wr.drew ⟨b + 1, p, none⟩ _ bp.block hne1)).trans p0
      have p3 : (wr.drew.setCell ⟨b + 1, p, none⟩ (.int .i64 (v : Int))).cell? ⟨bp.block, bp.off + 1, none⟩ = some (.int .i64 (q : Int)) := (World.cell?_of_block (a := ⟨bp.block, bp.off + 1, none⟩) (Below.heap_setCell wr.drew ⟨b + 1, p, none⟩ _ bp.block hne1)).trans p1
      have p4 : ((wr.drew.setCell ⟨b + 1, p, none⟩ (.int .i64 (v : Int))).setCell ⟨b + 1, q, none⟩ (.int .i64 (v : Int))).cell? bp = some (.int .i64 (p : Int)) := (World.cell?_of_block (a := bp) (Below.heap_setCell _ ⟨b + 1, q, none⟩ _ bp.block hne1)).trans p2
      have p5 : ((wr.drew.setCell ⟨b + 1, p, none⟩ (.int .i64 (v : Int))).setCell ⟨b + 1, q, none⟩ (.int .i64 (v : Int))).cell? ⟨bp.block, bp.off + 1, none⟩ = some (.int .i64 (q : Int)) := (World.cell?_of_block (a := ⟨bp.block, bp.off + 1, none⟩) (Below.heap_setCell _ ⟨b + 1, q, none⟩ _ bp.block hne1)).trans p3
      have HP := Lib.hid (And.intro p2 p3)
      have HQ := Lib.hid (And.intro p4 p5)
      clear hBN hrow hx hy hM hv hF hO hF0 hF9 hO0 hbl p2 p3 p4 p5
      go_wp2_with fail
      refine wp_region_held_drew (S := (fun w' => w'.cell? bp = some (.int .i64 (p : Int)) ∧ w'.cell? ⟨bp.block, bp.off + 1, none⟩ = some (.int .i64 (q : Int)) ∧ w'.cell? ⟨b + 1, p, none⟩ = some (.int .i64 (x : Int)) ∧ w'.cell? ⟨b + 1, q, none⟩ = some (.int .i64 (y : Int)))) (by kernel_rfl) ?_ (fun hHeld => ?_)
      · exact ⟨p0, p1, cF1, cF2⟩
      refine wpAnyH_take (i := 0) (oi := { dst := _, op := _, type := _, pos := _, after := _, guard := none }) (v := ?_) rfl (by kernel_rfl) (by kernel_rfl) (by kernel_rfl) (fun _ _ _ h => h) (Or.inl ⟨by rfl, ?_⟩) (by assumption) ?_
      rotate_left
      · intro w hSw; (try dsimp only at hSw); go_simp; (try with_reducible rfl)
      try simp only [Act.put, List.setIfInBounds_toArray, List.set_cons_zero, List.set_cons_succ]
      refine wpAnyH_take (i := 1) (oi := { dst := _, op := _, type := _, pos := _, after := _, guard := none }) (v := ?_) rfl (by kernel_rfl) (by kernel_rfl) (by kernel_rfl) (fun _ _ _ h => h) (Or.inl ⟨by rfl, ?_⟩) (by assumption) ?_
      rotate_left
      · intro w hSw; (try dsimp only at hSw); go_simp; (try with_reducible rfl)
      try simp only [Act.put, List.setIfInBounds_toArray, List.set_cons_zero, List.set_cons_succ]
      refine wpAnyH_take (i := 2) (oi := { dst := _, op := _, type := _, pos := _, after := _, guard := none }) (v := ?_) rfl (by kernel_rfl) (by kernel_rfl) (by kernel_rfl) (fun _ _ _ h => h) (Or.inl ⟨by rfl, ?_⟩) (by assumption) ?_
      rotate_left
      · intro w hSw; (try dsimp only at hSw); go_simp; (try with_reducible rfl)
      try simp only [Act.put, List.setIfInBounds_toArray, List.set_cons_zero, List.set_cons_succ]
      refine wpAnyH_take (i := 3) (oi := { dst := _, op := _, type := _, pos := _, after := _, guard := none }) (v := ?_) rfl (by kernel_rfl) (by kernel_rfl) (by kernel_rfl) (fun _ _ _ h => h) (Or.inl ⟨by rfl, ?_⟩) (by assumption) ?_
      rotate_left
      · intro w hSw; (try dsimp only at hSw); go_simp; (try with_reducible rfl)
      try simp only [Act.put, List.setIfInBounds_toArray, List.set_cons_zero, List.set_cons_succ]
      refine wpAnyH_take (i := 4) (oi := { dst := _, op := _, type := _, pos := _, after := _, guard := none }) (v := ?_) rfl (by kernel_rfl) (by kernel_rfl) (by kernel_rfl) (fun _ _ _ h => h) (Or.inl ⟨by rfl, ?_⟩) (by assumption) ?_
      rotate_left
      · intro w hSw; (try dsimp only at hSw); go_simp; (try with_reducible rfl)
      try simp only [Act.put, List.setIfInBounds_toArray, List.set_cons_zero, List.set_cons_succ]
      refine wpAnyH_take (i := 5) (oi := { dst := _, op := _, type := _, pos := _, after := _, guard := none }) (v := ?_) rfl (by kernel_rfl) (by kernel_rfl) (by kernel_rfl) (fun _ _ _ h => h) (Or.inl ⟨by rfl, ?_⟩) (by assumption) ?_
      rotate_left
      · intro w hSw; (try dsimp only at hSw); go_simp; (try with_reducible rfl)
      try simp only [Act.put, List.setIfInBounds_toArray, List.set_cons_zero, List.set_cons_succ]
      refine wpAnyH_take (i := 6) (oi := { dst := _, op := _, type := _, pos := _, after := _, guard := none }) (v := ?_) rfl (by kernel_rfl) (by kernel_rfl) (by kernel_rfl) (fun _ _ _ h => h) (Or.inl ⟨by rfl, ?_⟩) (by assumption) ?_
      rotate_left
      · intro w hSw; (try dsimp only at hSw); go_simp; (try with_reducible rfl)
      try simp only [Act.put, List.setIfInBounds_toArray, List.set_cons_zero, List.set_cons_succ]
      refine wpAnyH_take (i := 7) (oi := { dst := _, op := _, type := _, pos := _, after := _, guard := none }) (v := ?_) rfl (by kernel_rfl) (by kernel_rfl) (by kernel_rfl) (fun _ _ _ h => h) (Or.inl ⟨by rfl, ?_⟩) (by assumption) ?_
      rotate_left
      · intro w hSw; (try dsimp only at hSw); go_simp; (try with_reducible rfl)
      try simp only [Act.put, List.setIfInBounds_toArray, List.set_cons_zero, List.set_cons_succ]
      refine wpAnyH_take (i := 8) (oi := { dst := _, op := _, type := _, pos := _, after := _, guard := none }) (v := ?_) rfl (by kernel_rfl) (by kernel_rfl) (by kernel_rfl) (fun _ _ _ h => h) (Or.inl ⟨by rfl, ?_⟩) (by assumption) ?_
      rotate_left
      · intro w hSw; (try dsimp only at hSw); go_simp; (try with_reducible rfl)
      try simp only [Act.put, List.setIfInBounds_toArray, List.set_cons_zero, List.set_cons_succ]
      refine wpAnyH_take (i := 9) (oi := { dst := _, op := _, type := _, pos := _, after := _, guard := none }) (v := ?_) rfl (by kernel_rfl) (by kernel_rfl) (by kernel_rfl) (fun _ _ _ h => h) (Or.inl ⟨by rfl, ?_⟩) (by assumption) ?_
      rotate_left
      · intro w hSw; (try dsimp only at hSw); go_simp; (try with_reducible rfl)
      try simp only [Act.put, List.setIfInBounds_toArray, List.set_cons_zero, List.set_cons_succ]
      refine wpAnyH_take (i := 10) (oi := { dst := _, op := _, type := _, pos := _, after := _, guard := none }) (v := ?_) rfl (by kernel_rfl) (by kernel_rfl) (by kernel_rfl) (fun _ _ _ h => h) (Or.inl ⟨by rfl, ?_⟩) (by assumption) ?_
      rotate_left
      · intro w hSw; (try dsimp only at hSw); go_simp; (try with_reducible rfl)
      try simp only [Act.put, List.setIfInBounds_toArray, List.set_cons_zero, List.set_cons_succ]
      refine wpAnyH_take (i := 11) (oi := { dst := _, op := _, type := _, pos := _, after := _, guard := none }) (v := ?_) rfl (by kernel_rfl) (by kernel_rfl) (by kernel_rfl) (fun _ _ _ h => h) (Or.inl ⟨by rfl, ?_⟩) (by assumption) ?_
      rotate_left
      · intro w hSw; (try dsimp only at hSw); go_simp; (try with_reducible rfl)
      try simp only [Act.put, List.setIfInBounds_toArray, List.set_cons_zero, List.set_cons_succ]
      refine wpAnyH_take (i := 12) (oi := { dst := _, op := _, type := _, pos := _, after := _, guard := none }) (v := ?_) rfl (by kernel_rfl) (by kernel_rfl) (by kernel_rfl) (fun _ _ _ h => h) (Or.inl ⟨by rfl, ?_⟩) (by assumption) ?_
      rotate_left
      · intro w hSw; (try dsimp only at hSw); go_simp; (try with_reducible rfl)
      try simp only [Act.put, List.setIfInBounds_toArray, List.set_cons_zero, List.set_cons_succ]
      refine wpAnyH_done (by kernel_rfl) ?_ _
      go_wp2_with fail
      refine wp_region_held_drew (S := (fun w' => w'.cell? bp = some (.int .i64 (p : Int)) ∧ w'.cell? ⟨bp.block, bp.off + 1, none⟩ = some (.int .i64 (q : Int)))) (by kernel_rfl) ?_ (fun hHeld => ?_)
      · exact ⟨p0, p1⟩
      refine wpAnyH_take (i := 0) (oi := { dst := _, op := _, type := _, pos := _, after := _, guard := none }) (v := ?_) rfl (by kernel_rfl) (by kernel_rfl) (by kernel_rfl) (fun _ _ _ h => h) (Or.inl ⟨by rfl, ?_⟩) (by assumption) ?_
      rotate_left
      · intro w hSw; (try dsimp only at hSw); go_simp; (try with_reducible rfl)
      try simp only [Act.put, List.setIfInBounds_toArray, List.set_cons_zero, List.set_cons_succ]
      refine wpAnyH_take (i := 1) (oi := { dst := _, op := _, type := _, pos := _, after := _, guard := none }) (v := ?_) rfl (by kernel_rfl) (by kernel_rfl) (by kernel_rfl) (fun _ _ _ h => h) (Or.inl ⟨by rfl, ?_⟩) (by assumption) ?_
      rotate_left
      · intro w hSw; (try dsimp only at hSw); go_simp; (try with_reducible rfl)
      try simp only [Act.put, List.setIfInBounds_toArray, List.set_cons_zero, List.set_cons_succ]
      refine wpAnyH_take (i := 2) (oi := { dst := _, op := _, type := _, pos := _, after := _, guard := none }) (v := ?_) rfl (by kernel_rfl) (by kernel_rfl) (by kernel_rfl) (fun _ _ _ h => h) (Or.inl ⟨by rfl, ?_⟩) (by assumption) ?_
      rotate_left
      · intro w hSw; (try dsimp only at hSw); go_simp; (try with_reducible rfl)
      try simp only [Act.put, List.setIfInBounds_toArray, List.set_cons_zero, List.set_cons_succ]
      refine wpAnyH_take (i := 3) (oi := { dst := _, op := _, type := _, pos := _, after := _, guard := none }) (v := ?_) rfl (by kernel_rfl) (by kernel_rfl) (by kernel_rfl) (fun _ _ _ h => h) (Or.inl ⟨by rfl, ?_⟩) (by assumption) ?_
      rotate_left
      · intro w hSw; (try dsimp only at hSw); go_simp; (try with_reducible rfl)
      try simp only [Act.put, List.setIfInBounds_toArray, List.set_cons_zero, List.set_cons_succ]
      refine wpAnyH_take (i := 4) (oi := { dst := _, op := _, type := _, pos := _, after := _, guard := none }) (v := ?_) rfl (by kernel_rfl) (by kernel_rfl) (by kernel_rfl) (fun _ _ _ h => h) (Or.inl ⟨by rfl, ?_⟩) (by assumption) ?_
      rotate_left
      · intro w hSw; (try dsimp only at hSw); go_simp; (try with_reducible rfl)
      try simp only [Act.put, List.setIfInBounds_toArray, List.set_cons_zero, List.set_cons_succ]
      refine wpAnyH_take (i := 5) (oi := { dst := _, op := _, type := _, pos := _, after := _, guard := none }) (v := ?_) rfl (by kernel_rfl) (by kernel_rfl) (by kernel_rfl) (fun _ _ _ h => h) (Or.inl ⟨by rfl, ?_⟩) (by assumption) ?_
      rotate_left
      · intro w hSw; (try dsimp only at hSw); go_simp; (try with_reducible rfl)
      try simp only [Act.put, List.setIfInBounds_toArray, List.set_cons_zero, List.set_cons_succ]
      refine wpAnyH_take (i := 6) (oi := { dst := _, op := _, type := _, pos := _, after := _, guard := none }) (v := ?_) rfl (by kernel_rfl) (by kernel_rfl) (by kernel_rfl) (fun _ _ _ h => h) (Or.inl ⟨by rfl, ?_⟩) (by assumption) ?_
      rotate_left
      · intro w hSw; (try dsimp only at hSw); go_simp; (try with_reducible rfl)
      try simp only [Act.put, List.setIfInBounds_toArray, List.set_cons_zero, List.set_cons_succ]
      refine wpAnyH_take (i := 7) (oi := { dst := _, op := _, type := _, pos := _, after := _, guard := none }) (v := ?_) rfl (by kernel_rfl) (by kernel_rfl) (by kernel_rfl) (fun _ _ _ h => h) (Or.inl ⟨by rfl, ?_⟩) (by assumption) ?_
      rotate_left
      · intro w hSw; (try dsimp only at hSw); go_simp; (try with_reducible rfl)
      try simp only [Act.put, List.setIfInBounds_toArray, List.set_cons_zero, List.set_cons_succ]
      refine wpAnyH_take (i := 8) (oi := { dst := _, op := _, type := _, pos := _, after := _, guard := none }) (v := ?_) rfl (by kernel_rfl) (by kernel_rfl) (by kernel_rfl) (fun _ _ _ h => h) (Or.inl ⟨by rfl, ?_⟩) (by assumption) ?_
      rotate_left
      · intro w hSw; (try dsimp only at hSw); go_simp; (try with_reducible rfl)
      try simp only [Act.put, List.setIfInBounds_toArray, List.set_cons_zero, List.set_cons_succ]
      refine wpAnyH_ready (rs := [9]) (by kernel_rfl) (by simp) ?_
      refine AllReadyH.cons rfl (fun K hK => ?_) AllReadyH.nil
      go_simp
      try go_simp
      refine hK.out _ _ HP.out (fun hHeld1 => ?_)
      clear hK K
      try simp only [Act.put, List.setIfInBounds_toArray, List.set_cons_zero, List.set_cons_succ]
      refine wpAnyH_take (i := 10) (oi := { dst := _, op := _, type := _, pos := _, after := _, guard := none }) (v := ?_) rfl (by kernel_rfl) (by kernel_rfl) (by kernel_rfl) (fun _ _ _ h => h) (Or.inl ⟨by rfl, ?_⟩) (by assumption) ?_
      rotate_left
      · intro w hSw; (try dsimp only at hSw); go_simp; (try with_reducible rfl)
      try simp only [Act.put, List.setIfInBounds_toArray, List.set_cons_zero, List.set_cons_succ]
      refine wpAnyH_ready (rs := [11]) (by kernel_rfl) (by simp) ?_
      refine AllReadyH.cons rfl (fun K hK => ?_) AllReadyH.nil
      go_simp
      try go_simp
      refine hK.out _ _ HQ.out (fun hHeld2 => ?_)
      clear hK K
      try simp only [Act.put, List.setIfInBounds_toArray, List.set_cons_zero, List.set_cons_succ]
      refine wpAnyH_done (by kernel_rfl) ?_ _
      have hF11 := Lib.hid (show OwnI (((wr.setCell ⟨b + 1, p, none⟩ (.int .i64 (v : Int))).setCell ⟨b + 1, q, none⟩ (.int .i64 (v : Int))).drew.drew) (b + 1) 61 (some ⟨b + 1, 0, none⟩) 8 8 (((lvA zss j).set p (v : Int)).set q (v : Int)) from hF11.out.drew)
      have hO11 := Lib.hid (show OwnI (((wr.setCell ⟨b + 1, p, none⟩ (.int .i64 (v : Int))).setCell ⟨b + 1, q, none⟩ (.int .i64 (v : Int))).drew.drew) (b + 2) 3 A2 j c2 (lvO zss j) from hO11.out.drew)
      have hb11 := Lib.hid (show Below (b + 1) W1 (((wr.setCell ⟨b + 1, p, none⟩ (.int .i64 (v : Int))).setCell ⟨b + 1, q, none⟩ (.int .i64 (v : Int))).drew.drew) from hb11.out.drew)
      have hs11 := (hF11.out.blk_ (b + 1) rfl).2
      go_wp2_with (at_builtin; refine wpL_append1_at (((wr.setCell ⟨b + 1, p, none⟩ (.int .i64 (v : Int))).setCell ⟨b + 1, q, none⟩ (.int .i64 (v : Int))).drew.drew) rfl _ _ _ rfl (b + 2) 3 (.int .i64 0) 8 Tryz.underlying30 intInfo rfl _ j _ _ rfl hO11.out (.int .i64 (v : Int)) wr.heap.size (by simp [World.setCell]) rfl rfl (by unfold maxLen; omega) (by omega) hs11 ?_)
      intro A4 c4 w4 ho4 hg4 hat4
      have hF12 := hF11.out.kept hg4 (fun g h1 h2 => by have h3 : b + 1 = g := (by simpa [blk] using h1); have := (hO11.out.blk_ g h2.symm).1; omega)
      have hb12 := below_of_grown hb11.out hg4 (Nat.le_trans (Nat.le_succ _) hs11) (fun g e => by have := (hO11.out.blk_ g e).1; omega)
      have HO12 := Lib.hid (show OwnI w4 (b + 2) 3 A4 (j + 1) c4 (lvO zss (j + 1)) by rw [HOO.out, OwnI, List.map_append]; exact ho4)
      clear ho4 hg4 hat4
      go_wp2_with fail
      go_roundw
      case rel => exact ⟨j + 1, A4, c4, by go_num, rfl, by omega, by rw [HA.out]; exact hF12, HO12.out, hb12⟩
      case measure => (simp [intOf] <;> omega)
    · obtain rfl : j = n := by omega
      go_wp2_with fail
      go_ret
      exact ⟨_, _, rfl, by rw [hb]; exact hO.more (by omega), by rw [hb]; exact HB1.out.trans (hbl.mono (by omega))⟩
def dpL (l : List Int) : Int := l.foldl max 0
theorem dpL_snoc (l : List Int) (x : Int) : dpL (l ++ [x]) = max (dpL l) x := by unfold dpL; rw [List.foldl_append]; rfl
theorem take_nth2 {zs : List Int} {n j : Nat} (hl : zs.length = n) (h : j < n) : zs.take (j + 1) = zs.take j ++ [nth zs j] := take_nth (by omega)
set_option maxHeartbeats 2000000 in
theorem implDepth (W n : Nat) (A : Option Addr) (c : Nat) (zss : List (List Int)) (w : World) (hR : NetR W n zss) (ha : RdM w A n zss) (h1 : 1 ≤ W) (h8 : W ≤ 8) (hn : n ≤ 60) :
    Calls Tryz.prog 13 #[.agg #[.int .i64 W, .slice A n c]] w fun e w' => e = .returned (.int .i64 (dpL (lvO zss n))) ∧ Below w.heap.size w w' := by
  have hok := netR_ok hR h1 h8 hn
  have CN := Lib.hid (fun w' (h : RdM w' A n zss) => hok ▸ implNetOk (W : Int) A n c zss w' h (by omega))
  have CL := Lib.hid (fun w' (h : RdM w' A n zss) => implLevels W n A c zss w' hR h h8 hn)
  obtain ⟨b, hb⟩ : ∃ b, w.heap.size = b := ⟨_, rfl⟩
  obtain ⟨W1, hW1⟩ : ∃ X, w.alloc (.cells #[.int .i64 (W : Int), .slice A n c] 27) = X := ⟨_, rfl⟩
  have z1 : W1.heap.size = b + 1 := by rw [← hW1]; simp [hb]
  have b1 : Below b w W1 := hW1 ▸ (hb ▸ below_alloc w _)
  have k1 : Own W1 b 27 (some ⟨b, 0, none⟩) 2 2 [.int .i64 (W : Int), .slice A n c] := by have h := own_netbox w (W : Int) A n c; rw [hb, hW1] at h; exact h
  obtain ⟨q0, q1, q2, q3, q4⟩ := own_box2 k1
  have ha1 := ha.below (by rw [hb]; exact b1)
  have HK1 := Lib.hid k1
  have HB1 := Lib.hid b1
  have HW1 := Lib.hid hW1
  clear hW1 b1 k1 ha hR hok
  go_enter Tryz.func13, Tryz.ntmps13
  go_wp2_with fail
  rw [HW1.out]
  refine (CN.out _ ha1).mono ?_
  rintro e w2 ⟨rfl, hb2⟩
  obtain ⟨r0, r1, r2, r3, r4⟩ := own_box2 (HK1.out.below hb2)
  have ha2 := ha1.below hb2
  have HB2 := Lib.hid (HB1.out.trans (hb2.mono (by omega)))
  clear hb2 ha1
  go_wp2_with fail
  refine (CL.out _ ha2).mono ?_
  rintro e w3 ⟨A3, c3, rfl, ho3, hb3⟩
  have HB3 := Lib.hid (HB2.out.trans (hb3.mono (by have h := HB2.out.size; omega)))
  have HO3 := Lib.hid ho3
  have HLL := Lib.hid (lvO_len zss n)
  clear hb3 ho3 ha2
  go_wp2_with fail
  go_loopw [12, 3] (fun iv ov wr => ∃ j : Nat, ∃ x : Int, iv = .int .i64 (j : Nat) ∧ ov = .int .i64 x ∧ j ≤ n ∧ Hid (dpL ((lvO zss n).take j) = x) ∧ wr = w3) (fun iv _ _ => n - (intOf iv).toNat)
  case atStart => exact ⟨0, 0, rfl, rfl, Nat.zero_le _, Lib.hid rfl, rfl⟩
  case round =>
    obtain ⟨j, x, rfl, rfl, hj, HX, rfl⟩ := hrel
    by_cases hlt : j < n
    · obtain ⟨ad, rfl, _, hc⟩ := HO3.out.rd.at_ hlt
      have HS := Lib.hid (show dpL ((lvO zss n).take (j + 1)) = max x (nth (lvO zss n) j) by rw [take_nth2 HLL.out hlt, dpL_snoc, HX.out])
      go_wp2_with fail
      go_roundw
      case rel => exact ⟨j + 1, _, by go_num, rfl, by omega, HS, by first | trivial | rfl⟩
      case measure => (simp [intOf] <;> omega)
    · obtain rfl : j = n := by omega
      have HE := Lib.hid (show dpL (lvO zss j) = x by rw [← HX.out, List.take_of_length_le (by rw [HLL.out]; exact Nat.le_refl _)])
      go_wp2_with fail
      go_ret
      exact ⟨by rw [HE.out]; rfl, by rw [hb]; exact HB3.out⟩
end Go.Proofs.YtobdkfhmmpigiaaGreat
