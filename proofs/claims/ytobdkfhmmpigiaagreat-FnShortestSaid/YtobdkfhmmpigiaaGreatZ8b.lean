/- FnShortest: spec.l09Merge, l09Batcher. -/
import Derived.Test.YtobdkfhmmpigiaaGreatZ8a
namespace Go.Proofs.YtobdkfhmmpigiaaGreat
open Go.RowKit Go.Deep
set_option linter.unusedVariables false

theorem merge11 : MrgC [0] [1] [pr 0 1] := merge_one 0 1
theorem merge12 : MrgC [0, 1] [2] [pr 0 2, pr 1 2] := merge_two [2] [] 1 [pr 0 2] [] (.inl rfl) rfl rfl rfl rfl (by decide) (by decide) (merge_one 0 2) (merge_nil 1)
theorem merge22 : MrgC [0, 1] [2, 3] [pr 0 2, pr 1 3, pr 1 2] := merge_two [2, 3] [3] 2 [pr 0 2] [pr 1 3] (.inr rfl) rfl rfl rfl rfl (by decide) (by decide) (merge_one 0 2) (merge_one 1 3)
theorem grown_far {a b c : World} {go : Nat} {r : Option Nat} (h : a.grownBy b (some go)) (h2 : b.grownBy c r) (hr : ∀ g, r = some g → g = go ∨ a.heap.size ≤ g) : a.grownBy c (some go) :=
  ⟨h2.os.trans h.os, h2.tape.trans h.tape, h2.output.trans h.output, Nat.le_trans h.size h2.size, fun i hi hne => (h2.block i (Nat.lt_of_lt_of_le hi h.size) (fun e => by
    rcases hr i e.symm with h3 | h3
    · exact hne (by rw [h3])
    · omega)).trans (h.block i hi hne)⟩
theorem grown_more {a b : World} {go : Nat} (h : a.grownBy b none) : a.grownBy b (some go) := ⟨h.os, h.tape, h.output, h.size, fun i hi _ => h.block i hi (by simp)⟩
theorem grown_of_below {a b : World} {go : Nat} (h : Below a.heap.size a b) : a.grownBy b (some go) := ⟨h.os, h.tape, h.output, h.size, fun i hi _ => h.block i hi⟩
theorem own_pairI (w : World) (x y : Int) : OwnI (w.alloc (.cells #[.int .i64 x, .int .i64 y] 3)) w.heap.size 3 (some ⟨w.heap.size, 0, none⟩) 2 2 [x, y] :=
  World.ownsRow_lit (base := w.heap.size) (e := 3) (size := 1) w #[.int .i64 x, .int .i64 y] 2 (Nat.le_refl _) (by unfold maxLen; omega) rfl
/-- Comparators of the places of a list as comparators of what stands there. -/
def mapL (all : List Int) (z : List (List Int)) : List (List Int) := z.map fun r => [nth all (nth r 0).toNat, nth all (nth r 1).toNat]
theorem mapL_snoc (all : List Int) (z : List (List Int)) (r : List Int) : mapL all (z ++ [r]) = mapL all z ++ [[nth all (nth r 0).toNat, nth all (nth r 1).toNat]] := by simp [mapL]
def Mrg9C (a b : List Int) (z : List (List Int)) : Prop := ∀ (A : Option Addr) (m c : Nat) (B : Option Addr) (n d : Nat) (w : World), RdI w A m a → RdI w B n b → Calls Tryz.prog 51 #[.slice A m c, .slice B n d] w fun e w' => ∃ A' k c', e = .returned (.slice A' k c') ∧ OwnS w' w.heap.size A' k c' z ∧ Below w.heap.size w w'
set_option maxHeartbeats 4000000 in
theorem specMrg9 (a b : List Int) (la lb : Nat) (z : List (List Int)) (hla : a.length = la) (hlb : b.length = lb) (h1 : 1 ≤ la) (h8 : la + lb ≤ 8) (hM : MrgC (wirL 0 la) (wirL la lb) z) (hz10 : z.length ≤ 10)
    (hz : ∀ j, j < z.length → ∃ p q, row z j = pr p q ∧ p < la + lb ∧ q < la + lb) : Mrg9C a b (mapL (a ++ b) z) := by
  intro A m c B n d w ha hb
  obtain rfl : la = m := hla ▸ ha.lenI
  obtain rfl : lb = n := hlb ▸ hb.lenI
  obtain ⟨lo, hlo⟩ : ∃ lo, w.heap.size = lo := ⟨_, rfl⟩
  have HE := own_empty w 3
  have HLO := Lib.hid hlo
  have CW0 := Lib.hid (fun wx => show Calls Tryz.prog 34 #[.int .i64 0, .int .i64 la] wx fun e w' => ∃ A c, e = .returned (.slice A la c) ∧ OwnI w' wx.heap.size 3 A la c (wirL 0 la) ∧ Below wx.heap.size wx w' from specWires 0 la wx (by omega))
  have CW1 := Lib.hid (fun wx => specWires la lb wx (by omega))
  have HM := Lib.hid hM
  have HZ := Lib.hid hz
  have HBR := Lib.hid hb
  rw [hlo]
  clear hM hz hlo
  go_enter Tryz.func51, Tryz.ntmps51
  go_wp2_with (at_builtin; refine wpL_append _ rfl _ _ _ rfl w.heap.size 3 (.int .i64 0) 8 Tryz.underlying30 intInfo rfl _ 0 _ [] rfl HE A la c (a.map (Value.int .i64)) rfl (ha.alloc _) (ints_one _) (by unfold maxLen; omega) (by omega) (by simp) ?_)
  intro A1 c1 w1 o1 hg1 hat1
  have hb1 := own_below (own_empty w 3) (below_alloc w _) (by simp) hg1
  have o1 : OwnI w1 w.heap.size 3 A1 la c1 a := by simpa using o1
  have s1 := hb1.size
  clear HE hg1 hat1
  go_wp2_with (at_builtin; refine wpL_append _ rfl _ _ _ rfl w.heap.size 3 (.int .i64 0) 8 Tryz.underlying30 intInfo rfl _ la _ _ rfl o1 B lb d (b.map (Value.int .i64)) rfl (HBR.out.below hb1) (ints_one _) (by unfold maxLen; omega) (by omega) s1 ?_)
  intro A2 c2 w2 o2 hg2 hat2
  have hb2 := below_of_grown hb1 hg2 s1 (fun g e => (o1.blk_ g e).1)
  have o2 : OwnI w2 lo 3 A2 (la + lb) c2 (a ++ b) := by rw [OwnI, List.map_append, ← HLO.out]; exact o2
  rw [HLO.out] at hb2
  have s2 : lo ≤ w2.heap.size := by have := hb2.size; rw [HLO.out] at this; exact this
  obtain ⟨ga, _, eA2, _, _, _, _, _⟩ := o2.at_ (show 0 < la + lb by omega)
  subst eA2
  have hga := (o2.blk_ ga rfl).2
  obtain ⟨go, hgo⟩ : ∃ go, w2.heap.size = go := ⟨_, rfl⟩
  have HO3 := Lib.hid (show Own (w2.alloc (.cells #[] 30)) go 30 (some ⟨go, 0, none⟩) 0 0 [] from own_emptyA w2 _ go hgo)
  have HB2 := Lib.hid (hb2.alloc s2 (.cells #[] 30))
  have HA3 := Lib.hid (o2.alloc (.cells #[] 30))
  have s3 : (w2.alloc (.cells #[] 30)).heap.size = go + 1 := by simp [hgo]
  clear o1 o2 hb1 hb2 hg2 hat2
  go_wp2_with fail
  refine (CW0.out _).mono ?_
  rintro e w4 ⟨A4, c4, rfl, o4, b4⟩
  rw [s3] at b4
  have s4 := b4.size
  rw [s3] at s4
  go_wp2_with fail
  refine (CW1.out w4).mono ?_
  rintro e w5 ⟨A5, c5, rfl, o5, b5⟩
  have s5 := b5.size
  go_wp2_with fail
  refine (HM.out A4 la c4 A5 lb c5 w5 (o4.below b5).rd o5.rd).mono ?_
  rintro e w6 ⟨A6, n6, c6, rfl, hs6, b6⟩
  have s6 := b6.size
  have b36 : Below (go + 1) (w2.alloc (.cells #[] 30)) w6 := (b4.trans (b5.mono s4)).trans (b6.mono (by omega))
  have HO6 := Lib.hid (HO3.out.below (by rw [s3]; exact b36))
  have HA6 := HA3.out.below (by rw [s3]; exact b36)
  have HB6 := Lib.hid (HB2.out.trans (b36.mono (by omega)))
  have hn6 : n6 ≤ 10 := by rw [← hs6.1]; exact hz10
  have HS6 := Lib.hid hs6
  have HL6 := Lib.hid hs6.1
  have HAA := Lib.hid HA6
  have hga6 := (HA6.blk_ ga rfl).2
  obtain ⟨sz, hsz⟩ : ∃ sz, w6.heap.size = sz := ⟨_, rfl⟩
  obtain ⟨sm, hsm⟩ : ∃ sm, w5.heap.size = sm := ⟨_, rfl⟩
  rw [hsm] at HS6
  have HSZ := Lib.hid hsz
  have HGO := Lib.hid hgo
  have g1 : go < sm := by omega
  have g2 : sm ≤ sz := by omega
  have g3 : ga < go := by omega
  have g4 : lo ≤ go := by omega
  clear o4 o5 hs6 b4 b5 b6 b36 HA6 s1 s2 s3 s4 s5 s6 hsz hsm hga6 hga hgo
  go_wp2_with fail
  go_loopw [6, 25] (fun ov iv wr => ∃ j : Nat, ∃ A c, ov = .slice A j c ∧ iv = .int .i64 (j : Nat) ∧ j ≤ n6 ∧ OwnS wr lo A j c (mapL (a ++ b) (z.take j)) ∧ Hid (∀ g, blk A = some g → g = go ∨ sz ≤ g) ∧ w6.grownBy wr (some go)) (fun _ iv _ => n6 - (intOf iv).toNat)
  case atStart => exact ⟨0, _, _, rfl, rfl, Nat.zero_le _, ⟨rfl, [], HO6.out.more g4, trivial⟩, Lib.hid (fun g e => by simp [blk] at e; exact .inl e.symm), grown_of_below (Below.refl _ _)⟩
  case round =>
    obtain ⟨j, Ao, co, rfl, rfl, hj, hS, HAO, hg⟩ := hrel
    have hszr : sz ≤ wr.heap.size := by have := hg.size; rw [HSZ.out] at this; exact this
    by_cases hlt : j < n6
    · have hr6 := HL6.out
      obtain ⟨p, q, hrow, hp, hq⟩ := HZ.out j (by rw [hr6]; exact hlt)
      obtain ⟨ad, BN, mN, dN, eA6, hcN, hBN⟩ := HS6.out.at_ hlt
      subst eA6
      have had := (show sm ≤ ad.block ∧ ad.block < w6.heap.size from by obtain ⟨_, vs, hv, _⟩ := HS6.out; exact hv.blk_ ad.block rfl)
      rw [HSZ.out] at had
      rw [hrow] at hBN
      obtain rfl : 2 = mN := by rw [← hBN.lenI]; rfl
      obtain ⟨bp, rfl, _, p0⟩ := hBN.rd.at_ (show 0 < 2 by omega)
      obtain ⟨bp', hb', _, p1⟩ := hBN.rd.at_ (show 1 < 2 by omega)
      injection hb' with hb'
      subst hb'
      have hbp : sm ≤ bp.block ∧ bp.block < w6.heap.size := hBN.blk_ bp.block rfl
      rw [HSZ.out] at hbp
      have hz6 := HSZ.out
      obtain ⟨x, hx⟩ : ∃ x, nth (a ++ b) p = x := ⟨_, rfl⟩
      obtain ⟨y, hy⟩ : ∃ y, nth (a ++ b) q = y := ⟨_, rfl⟩
      have x0 := (own_cell HAA.out hp).1
      have y0 := (own_cell HAA.out hq).1
      rw [hx] at x0
      rw [hy] at y0
      have p0 : w6.cell? bp = some (.int .i64 (p : Int)) := p0
      have p1 : w6.cell? ⟨bp.block, bp.off + 1, none⟩ = some (.int .i64 (q : Int)) := by rw [← add_one_]; exact p1
      have HP6 := Lib.hid (And.intro p0 (And.intro p1 (And.intro x0 y0)))
      have hcN := (hg.cell_far (ad.add j) (by rw [block_of_add]; omega) (by rw [block_of_add]; simp; omega)).trans hcN
      have p0 := (hg.cell_far bp (by omega) (by simp; omega)).trans p0
      have p1 := (hg.cell_far ⟨bp.block, bp.off + 1, none⟩ (by show bp.block < _; omega) (by simp; omega)).trans p1
      have x0 := (hg.cell_far ⟨ga, p, none⟩ (by show ga < _; omega) (by simp; omega)).trans x0
      have y0 := (hg.cell_far ⟨ga, q, none⟩ (by show ga < _; omega) (by simp; omega)).trans y0
      have HY0 : Below wr.heap.size wr (wr.drew.alloc (.cells #[.int .i64 x, .int .i64 y] 3)) := below_drew2 (below_alloc wr.drew (.cells #[.int .i64 x, .int .i64 y] 3))
      have HZ0 : Below wr.heap.size wr ((wr.drew.alloc (.cells #[.int .i64 x, .int .i64 y] 3)).alloc (.cells #[.slice (some ⟨wr.heap.size, 0, none⟩) 2 2] 30)) := below_drew2 ((below_alloc wr.drew (.cells #[.int .i64 x, .int .i64 y] 3)).alloc (by simp) (.cells #[.slice (some ⟨wr.heap.size, 0, none⟩) 2 2] 30))
      have HC1 := Lib.hid (And.intro ((HY0.cell (p := bp) (by omega)).trans p0) (And.intro ((HY0.cell (p := ⟨bp.block, bp.off + 1, none⟩) (by show bp.block < _; omega)).trans p1) (And.intro ((HY0.cell (p := ⟨ga, p, none⟩) (by show ga < _; omega)).trans x0) ((HY0.cell (p := ⟨ga, q, none⟩) (by show ga < _; omega)).trans y0))))
      have HC2 := Lib.hid (And.intro ((HZ0.cell (p := bp) (by omega)).trans p0) (And.intro ((HZ0.cell (p := ⟨bp.block, bp.off + 1, none⟩) (by show bp.block < _; omega)).trans p1) (And.intro ((HZ0.cell (p := ⟨ga, p, none⟩) (by show ga < _; omega)).trans x0) ((HZ0.cell (p := ⟨ga, q, none⟩) (by show ga < _; omega)).trans y0))))
      obtain ⟨hl5, vs5, v5, r5⟩ := hS
      have HOZ := Lib.hid (show Own ((wr.drew.alloc (.cells #[.int .i64 x, .int .i64 y] 3)).alloc (.cells #[.slice (some ⟨wr.heap.size, 0, none⟩) 2 2] 30)) lo 30 Ao j co vs5 from (v5.drew.alloc _).alloc _)
      have HRD := Lib.hid (show Rd ((wr.drew.alloc (.cells #[.int .i64 x, .int .i64 y] 3)).alloc (.cells #[.slice (some ⟨wr.heap.size, 0, none⟩) 2 2] 30)) (some ⟨wr.heap.size + 1, 0, none⟩) 1 [.slice (some ⟨wr.heap.size, 0, none⟩) 2 2] from by have h := rd_one (wr.drew.alloc (.cells #[.int .i64 x, .int .i64 y] 3)) (.slice (some ⟨wr.heap.size, 0, none⟩) 2 2) 30; simpa using h)
      have HRZ := Lib.hid (r5.mono fun v z k => k.keep fun g h1 h2 h3 => ⟨HZ0.block g h2, h3⟩)
      have HPZ := Lib.hid (show OwnI ((wr.drew.alloc (.cells #[.int .i64 x, .int .i64 y] 3)).alloc (.cells #[.slice (some ⟨wr.heap.size, 0, none⟩) 2 2] 30)) lo 3 (some ⟨wr.heap.size, 0, none⟩) 2 2 [x, y] from ((own_pairI wr.drew x y).alloc _).more (show lo ≤ wr.heap.size by omega))
      have HPN := Lib.hid (show ∀ g, blk (some (⟨wr.heap.size, 0, none⟩ : Addr)) = some g → blk Ao ≠ some g from fun g e e2 => by simp [blk] at e; have := (v5.blk_ g e2).2; omega)
      have HGZ := Lib.hid (grown_below hg HZ0)
      have HAO6 := Lib.hid (show ∀ g, blk Ao = some g → g = go ∨ w6.heap.size ≤ g from fun g e => by rw [hz6]; exact HAO.out g e)
      have HNX := Lib.hid (show mapL (a ++ b) (z.take (j + 1)) = mapL (a ++ b) (z.take j) ++ [[x, y]] by rw [take_row hr6 hlt, mapL_snoc, hrow, pr_fst, pr_snd, hx, hy])
      have hp8 : (p : Int) < (la : Int) + (lb : Int) := by omega
      have hq8 : (q : Int) < (la : Int) + (lb : Int) := by omega
      clear hBN hrow hx hy HY0 HZ0 r5 v5 hg
      go_wp2_with fail
      refine wp_region_held_drew (S := (fun w' => w'.cell? bp = some (.int .i64 (p : Int)) ∧ w'.cell? ⟨bp.block, bp.off + 1, none⟩ = some (.int .i64 (q : Int)) ∧ w'.cell? ⟨ga, p, none⟩ = some (.int .i64 x) ∧ w'.cell? ⟨ga, q, none⟩ = some (.int .i64 y))) (by kernel_rfl) ?_ (fun hHeld => ?_)
      · exact ⟨p0, p1, x0, y0⟩
      refine wpAnyH_take (i := 0) (oi := { dst := _, op := _, type := _, pos := _, after := _, guard := none }) (v := ?_) rfl (by kernel_rfl) (by kernel_rfl) (by kernel_rfl) (fun _ _ _ h => h) (Or.inl ⟨by rfl, ?_⟩) (by assumption) ?_
      rotate_left
      · intro w hSw; (try dsimp only at hSw); go_simp; (try with_reducible rfl)
      try simp only [Act.put, List.setIfInBounds_toArray, List.set_cons_zero, List.set_cons_succ]
      refine wpAnyH_take (i := 1) (oi := { dst := _, op := _, type := _, pos := _, after := _, guard := none }) (v := ?_) rfl (by kernel_rfl) (by kernel_rfl) (by kernel_rfl) (fun _ _ _ h => h) (Or.inl ⟨by rfl, ?_⟩) (by assumption) ?_
      rotate_left
      · intro w hSw; (try dsimp only at hSw); go_simp; (try with_reducible rfl)
      try simp only [Act.put, List.setIfInBounds_toArray, List.set_cons_zero, List.set_cons_succ]
      refine wpAnyH_take (i := 2) (oi := { dst := _, op := _, type := _, pos := _, after := _, guard := none }) (v := ?_) rfl (by kernel_rfl) (by kernel_rfl) (by kernel_rfl) (fun _ _ _ h => h) (Or.inl ⟨by rfl, ?_⟩) (by assumption) ?_
      rotate_left
      · intro w hSw; (try dsimp only at hSw); go_simp; (try with_reducible rfl)
      try simp only [Act.put, List.setIfInBounds_toArray, List.set_cons_zero, List.set_cons_succ]
      refine wpAnyH_take (i := 3) (oi := { dst := _, op := _, type := _, pos := _, after := _, guard := none }) (v := ?_) rfl (by kernel_rfl) (by kernel_rfl) (by kernel_rfl) (fun _ _ _ h => h) (Or.inl ⟨by rfl, ?_⟩) (by assumption) ?_
      rotate_left
      · intro w hSw; (try dsimp only at hSw); go_simp; (try with_reducible rfl)
      try simp only [Act.put, List.setIfInBounds_toArray, List.set_cons_zero, List.set_cons_succ]
      refine wpAnyH_take (i := 4) (oi := { dst := _, op := _, type := _, pos := _, after := _, guard := none }) (v := ?_) rfl (by kernel_rfl) (by kernel_rfl) (by kernel_rfl) (fun _ _ _ h => h) (Or.inl ⟨by rfl, ?_⟩) (by assumption) ?_
      rotate_left
      · intro w hSw; (try dsimp only at hSw); go_simp; (try with_reducible rfl)
      try simp only [Act.put, List.setIfInBounds_toArray, List.set_cons_zero, List.set_cons_succ]
      refine wpAnyH_take (i := 5) (oi := { dst := _, op := _, type := _, pos := _, after := _, guard := none }) (v := ?_) rfl (by kernel_rfl) (by kernel_rfl) (by kernel_rfl) (fun _ _ _ h => h) (Or.inl ⟨by rfl, ?_⟩) (by assumption) ?_
      rotate_left
      · intro w hSw; (try dsimp only at hSw); go_simp; (try with_reducible rfl)
      try simp only [Act.put, List.setIfInBounds_toArray, List.set_cons_zero, List.set_cons_succ]
      refine wpAnyH_take (i := 6) (oi := { dst := _, op := _, type := _, pos := _, after := _, guard := none }) (v := ?_) rfl (by kernel_rfl) (by kernel_rfl) (by kernel_rfl) (fun _ _ _ h => h) (Or.inl ⟨by rfl, ?_⟩) (by assumption) ?_
      rotate_left
      · intro w hSw; (try dsimp only at hSw); go_simp; (try with_reducible rfl)
      try simp only [Act.put, List.setIfInBounds_toArray, List.set_cons_zero, List.set_cons_succ]
      refine wpAnyH_take (i := 7) (oi := { dst := _, op := _, type := _, pos := _, after := _, guard := none }) (v := ?_) rfl (by kernel_rfl) (by kernel_rfl) (by kernel_rfl) (fun _ _ _ h => h) (Or.inl ⟨by rfl, ?_⟩) (by assumption) ?_
      rotate_left
      · intro w hSw; (try dsimp only at hSw); go_simp; (try with_reducible rfl)
      try simp only [Act.put, List.setIfInBounds_toArray, List.set_cons_zero, List.set_cons_succ]
      refine wpAnyH_take (i := 8) (oi := { dst := _, op := _, type := _, pos := _, after := _, guard := none }) (v := ?_) rfl (by kernel_rfl) (by kernel_rfl) (by kernel_rfl) (fun _ _ _ h => h) (Or.inl ⟨by rfl, ?_⟩) (by assumption) ?_
      rotate_left
      · intro w hSw; (try dsimp only at hSw); go_simp; (try with_reducible rfl)
      try simp only [Act.put, List.setIfInBounds_toArray, List.set_cons_zero, List.set_cons_succ]
      refine wpAnyH_take (i := 9) (oi := { dst := _, op := _, type := _, pos := _, after := _, guard := none }) (v := ?_) rfl (by kernel_rfl) (by kernel_rfl) (by kernel_rfl) (fun _ _ _ h => h) (Or.inl ⟨by rfl, ?_⟩) (by assumption) ?_
      rotate_left
      · intro w hSw; (try dsimp only at hSw); go_simp; (try with_reducible rfl)
      try simp only [Act.put, List.setIfInBounds_toArray, List.set_cons_zero, List.set_cons_succ]
      refine wpAnyH_take (i := 10) (oi := { dst := _, op := _, type := _, pos := _, after := _, guard := none }) (v := ?_) rfl (by kernel_rfl) (by kernel_rfl) (by kernel_rfl) (fun _ _ _ h => h) (Or.inl ⟨by rfl, ?_⟩) (by assumption) ?_
      rotate_left
      · intro w hSw; (try dsimp only at hSw); go_simp; (try with_reducible rfl)
      try simp only [Act.put, List.setIfInBounds_toArray, List.set_cons_zero, List.set_cons_succ]
      refine wpAnyH_take (i := 11) (oi := { dst := _, op := _, type := _, pos := _, after := _, guard := none }) (v := ?_) rfl (by kernel_rfl) (by kernel_rfl) (by kernel_rfl) (fun _ _ _ h => h) (Or.inl ⟨by rfl, ?_⟩) (by assumption) ?_
      rotate_left
      · intro w hSw; (try dsimp only at hSw); go_simp; (try with_reducible rfl)
      try simp only [Act.put, List.setIfInBounds_toArray, List.set_cons_zero, List.set_cons_succ]
      refine wpAnyH_take (i := 12) (oi := { dst := _, op := _, type := _, pos := _, after := _, guard := none }) (v := ?_) rfl (by kernel_rfl) (by kernel_rfl) (by kernel_rfl) (fun _ _ _ h => h) (Or.inl ⟨by rfl, ?_⟩) (by assumption) ?_
      rotate_left
      · intro w hSw; (try dsimp only at hSw); go_simp; (try with_reducible rfl)
      try simp only [Act.put, List.setIfInBounds_toArray, List.set_cons_zero, List.set_cons_succ]
      refine wpAnyH_ready (rs := [13]) (by kernel_rfl) (by simp) ?_
      refine AllReadyH.cons rfl (fun K hK => ?_) AllReadyH.nil
      go_simp
      try go_simp
      refine hK.out _ _ (HC1.out) (fun hHeld1 => ?_)
      clear hK K
      try simp only [Act.put, List.setIfInBounds_toArray, List.set_cons_zero, List.set_cons_succ]
      refine wpAnyH_ready (rs := [14]) (by kernel_rfl) (by simp) ?_
      refine AllReadyH.cons rfl (fun K hK => ?_) AllReadyH.nil
      go_simp
      try go_simp
      refine hK.out _ _ (HC2.out) (fun hHeld2 => ?_)
      clear hK K
      try simp only [Act.put, List.setIfInBounds_toArray, List.set_cons_zero, List.set_cons_succ]
      refine wpAnyH_ready (rs := [15]) (by kernel_rfl) (by simp) ?_
      refine AllReadyH.cons rfl (fun K hK => ?_) AllReadyH.nil
      refine step_append_any (w := ((wr.drew.alloc (.cells #[.int .i64 x, .int .i64 y] 3)).alloc (.cells #[.slice (some ⟨wr.heap.size, 0, none⟩) 2 2] 30))) (by rfl) _ _ _ (by rfl) lo 30 (.slice none 0 0) 24 Tryz.underlying25 sliceInfo rfl _ j _ _ (by rfl) HOZ.out (some ⟨wr.heap.size + 1, 0, none⟩) 1 1 [.slice (some ⟨wr.heap.size, 0, none⟩) 2 2] (by rfl) HRD.out (by simp [Value.oneCell']) (by unfold maxLen; omega) (by omega) (by simp; omega) ?_
      intro A7 c7 w7 ho7 hg7 hat7
      have hS7 := OwnS.push2 (x := [x, y]) hl5 HOZ.out HRZ.out HPZ.out HPN.out ho7 hg7 (fun g e => by rcases hat7 with h | h; exact .inl (by rw [← h]; exact e); exact .inr (by rw [h] at e; injection e with e; omega))
      have hgg7 := grown_far HGZ.out hg7 HAO6.out
      have f1 := (hgg7.cell_far bp (by omega) (by simp; omega)).trans HP6.out.1
      have f2 := (hgg7.cell_far ⟨bp.block, bp.off + 1, none⟩ (by show bp.block < _; omega) (by simp; omega)).trans HP6.out.2.1
      have f3 := (hgg7.cell_far ⟨ga, p, none⟩ (by show ga < _; omega) (by simp; omega)).trans HP6.out.2.2.1
      have f4 := (hgg7.cell_far ⟨ga, q, none⟩ (by show ga < _; omega) (by simp; omega)).trans HP6.out.2.2.2
      try go_simp
      refine hK.out _ _ ⟨f1, f2, f3, f4⟩ (fun hHeld3 => ?_)
      clear hK K
      try simp only [Act.put, List.setIfInBounds_toArray, List.set_cons_zero, List.set_cons_succ]
      refine wpAnyH_take (i := 16) (oi := { dst := _, op := _, type := _, pos := _, after := _, guard := none }) (v := ?_) rfl (by kernel_rfl) (by kernel_rfl) (by kernel_rfl) (fun _ _ _ h => h) (Or.inl ⟨by rfl, ?_⟩) (by assumption) ?_
      rotate_left
      · intro w hSw; (try dsimp only at hSw); go_simp; (try with_reducible rfl)
      try simp only [Act.put, List.setIfInBounds_toArray, List.set_cons_zero, List.set_cons_succ]
      refine wpAnyH_done (by kernel_rfl) ?_ _
      have HAO7 := Lib.hid (show ∀ g, blk A7 = some g → g = go ∨ sz ≤ g from fun g e => by
        rcases hat7 with h | h
        · exact HAO.out g (by rw [← h]; exact e)
        · rw [h] at e
          injection e with e
          simp at e
          omega)
      have HS7 := Lib.hid (show OwnS w7 lo A7 (j + 1) c7 (mapL (a ++ b) (z.take (j + 1))) by rw [HNX.out]; exact hS7)
      clear hat7 ho7 hg7 hS7
      go_wp2_with fail
      go_roundw
      case rel => exact ⟨j + 1, A7, c7, rfl, by go_num, by omega, HS7.out, HAO7, hgg7⟩
      case measure => (simp [intOf] <;> omega)
    · obtain rfl : j = n6 := by omega
      go_wp2_with fail
      go_ret
      refine ⟨Ao, j, co, rfl, ?_, ?_⟩
      · rw [List.take_of_length_le (by rw [HL6.out]; exact Nat.le_refl _)] at hS
        exact hS
      · exact HB6.out.trans (below_cur hg g4 (by rw [HSZ.out]; omega))
theorem rdI_take {w : World} {A : Option Addr} {n h : Nat} {zs : List Int} (ha : RdI w A n zs) (hh : h ≤ n) : RdI w A h (zs.take h) := by
  have hl := ha.lenI
  refine ⟨by simp; omega, fun h0 => ?_⟩
  obtain ⟨ad, e, hlt, hc⟩ := ha.2 (by omega)
  refine ⟨ad, e, hlt, fun j u hu => hc j u ?_⟩
  rw [List.map_take] at hu
  by_cases hj : j < h
  · rw [List.getElem?_take_of_lt hj] at hu; exact hu
  · rw [List.getElem?_take_eq_none (by omega)] at hu; cases hu
theorem rdI_drop {w : World} {ad : Addr} {n h : Nat} {zs : List Int} (ha : RdI w (some ad) n zs) (hh : h < n) : RdI w (some (ad.add h)) (n - h) (zs.drop h) := by
  have hl := ha.lenI
  refine ⟨by simp; omega, fun h0 => ?_⟩
  obtain ⟨ad', e, hlt, hc⟩ := ha.2 (by omega)
  injection e with e
  subst e
  refine ⟨ad.add h, rfl, by rw [block_of_add]; exact hlt, fun j u hu => ?_⟩
  rw [List.map_drop, List.getElem?_drop] at hu
  rw [Addr.add_add]
  exact hc (h + j) u hu
/-- The program sorts the list of wires l by the comparators z. -/
def BatC (l : List Int) (z : List (List Int)) : Prop := ∀ (A : Option Addr) (n c : Nat) (w : World), RdI w A n l → n ≤ c → c ≤ maxLen → Calls Tryz.prog 33 #[.slice A n c] w fun e w' => ∃ A' k c', e = .returned (.slice A' k c') ∧ OwnS w' w.heap.size A' k c' z ∧ Below w.heap.size w w'
theorem bat_one (x : Int) : BatC [x] [] := by
  intro A n c w ha hc hm
  obtain rfl : 1 = n := ha.lenI
  go_enter Tryz.func33, Tryz.ntmps33
  go_wp2_with fail
  go_ret
  exact ⟨_, _, _, rfl, ⟨rfl, [], own_empty w _, trivial⟩, below_alloc w _⟩
set_option maxHeartbeats 4000000 in
theorem bat_two (l : List Int) (n h : Nat) (z1 z2 z3 : List (List Int)) (hl : l.length = n) (h2 : 2 ≤ n) (hn : n ≤ 8) (hh : h = (n + 1) / 2) (hz1 : z1.length ≤ 10) (hz2 : z2.length ≤ 10) (hz3 : z3.length ≤ 10)
    (B1 : BatC (l.take h) z1) (B2 : BatC (l.drop h) z2) (M : Mrg9C (l.take h) (l.drop h) z3) : BatC l (z1 ++ z2 ++ z3) := by
  intro A n' c w ha hc hm
  obtain rfl : n = n' := hl ▸ ha.lenI
  obtain ⟨ad, rfl, _, _⟩ := ha.at_ (show 0 < n by omega)
  have hhn : h < n := by omega
  have HR1 := Lib.hid (rdI_take ha (Nat.le_of_lt hhn))
  have HR2 := Lib.hid (rdI_drop ha hhn)
  have eh : ((n : Int) + 1) / 2 = (h : Int) := by omega
  have hb1 : (h : Int) ≤ (c : Int) := by omega
  have hb2 : (h : Int) ≤ (n : Int) := by omega
  have hb3 : (n : Int) ≤ (c : Int) := by omega
  have hb4 : ¬ ((c : Int) = (h : Int)) := by omega
  have hb5 : ¬ (c = h) := by omega
  have hch : n ≤ c := hc
  have HB1 := Lib.hid (fun A' n' c' wx (hx : RdI wx A' n' (l.take h)) (hy : n' ≤ c') (hz : c' ≤ maxLen) => B1 A' n' c' wx hx hy hz)
  have HB2 := Lib.hid (fun A' n' c' wx (hx : RdI wx A' n' (l.drop h)) (hy : n' ≤ c') (hz : c' ≤ maxLen) => B2 A' n' c' wx hx hy hz)
  have HM := Lib.hid M
  clear B1 B2 M ha hh
  go_enter Tryz.func33, Tryz.ntmps33
  go_wp2_with fail
  refine wp_region_held_drew (S := (fun _ => True)) (by kernel_rfl) ?_ (fun hHeld => ?_)
  · trivial
  refine wpAnyH_take (i := 0) (oi := { dst := _, op := _, type := _, pos := _, after := _, guard := none }) (v := ?_) rfl (by kernel_rfl) (by kernel_rfl) (by kernel_rfl) (fun _ _ _ h => h) (Or.inl ⟨by rfl, ?_⟩) (by assumption) ?_
  rotate_left
  · intro w hSw; (try dsimp only at hSw); go_simp; (try with_reducible rfl)
  try simp only [Act.put, List.setIfInBounds_toArray, List.set_cons_zero, List.set_cons_succ]
  refine wpAnyH_take (i := 1) (oi := { dst := _, op := _, type := _, pos := _, after := _, guard := none }) (v := ?_) rfl (by kernel_rfl) (by kernel_rfl) (by kernel_rfl) (fun _ _ _ h => h) (Or.inl ⟨by rfl, ?_⟩) (by assumption) ?_
  rotate_left
  · intro w hSw; (try dsimp only at hSw); go_simp; (try with_reducible rfl)
  try simp only [Act.put, List.setIfInBounds_toArray, List.set_cons_zero, List.set_cons_succ]
  refine wpAnyH_take (i := 2) (oi := { dst := _, op := _, type := _, pos := _, after := _, guard := none }) (v := ?_) rfl (by kernel_rfl) (by kernel_rfl) (by kernel_rfl) (fun _ _ _ h => h) (Or.inl ⟨by rfl, ?_⟩) (by assumption) ?_
  rotate_left
  · intro w hSw; (try dsimp only at hSw); go_simp; (try with_reducible rfl)
  try simp only [Act.put, List.setIfInBounds_toArray, List.set_cons_zero, List.set_cons_succ]
  refine wpAnyH_take (i := 4) (oi := { dst := _, op := _, type := _, pos := _, after := _, guard := none }) (v := ?_) rfl (by kernel_rfl) (by kernel_rfl) (by kernel_rfl) (fun _ _ _ h => h) (Or.inl ⟨by rfl, ?_⟩) (by assumption) ?_
  rotate_left
  · intro w hSw; (try dsimp only at hSw); go_simp; (try with_reducible rfl)
  try simp only [Act.put, List.setIfInBounds_toArray, List.set_cons_zero, List.set_cons_succ]
  refine wpAnyH_take (i := 5) (oi := { dst := _, op := _, type := _, pos := _, after := _, guard := none }) (v := ?_) rfl (by kernel_rfl) (by kernel_rfl) (by kernel_rfl) (fun _ _ _ h => h) (Or.inl ⟨by rfl, ?_⟩) (by assumption) ?_
  rotate_left
  · intro w hSw; (try dsimp only at hSw); go_simp; (try with_reducible rfl)
  try simp only [Act.put, List.setIfInBounds_toArray, List.set_cons_zero, List.set_cons_succ]
  refine wpAnyH_take (i := 6) (oi := { dst := _, op := _, type := _, pos := _, after := _, guard := none }) (v := ?_) rfl (by kernel_rfl) (by kernel_rfl) (by kernel_rfl) (fun _ _ _ h => h) (Or.inl ⟨by rfl, ?_⟩) (by assumption) ?_
  rotate_left
  · intro w hSw; (try dsimp only at hSw); go_simp; (try with_reducible rfl)
  try simp only [Act.put, List.setIfInBounds_toArray, List.set_cons_zero, List.set_cons_succ]
  refine wpAnyH_ready (rs := [3]) (by kernel_rfl) (by simp) ?_
  refine AllReadyH.cons rfl (fun K hK => ?_) AllReadyH.nil
  go_simp
  refine (HB1.out (some ad) h c w.drew HR1.out.drew (by omega) hm).mono ?_
  rintro e w1 ⟨A1, n1, c1, rfl, hs1, hb1⟩
  try go_simp
  refine hK.out _ _ trivial (fun hHeld4 => ?_)
  clear hK K
  try simp only [Act.put, List.setIfInBounds_toArray, List.set_cons_zero, List.set_cons_succ]
  refine wpAnyH_ready (rs := [7]) (by kernel_rfl) (by simp) ?_
  refine AllReadyH.cons rfl (fun K hK => ?_) AllReadyH.nil
  go_simp
  refine (HB2.out (some (ad.add h)) (n - h) (c - h) w1 (HR2.out.below (below_drew2 hb1)) (by omega) (by omega)).mono ?_
  rintro e w2 ⟨A2, n2, c2, rfl, hs2, hb2⟩
  try go_simp
  refine hK.out _ _ trivial (fun hHeld5 => ?_)
  clear hK K
  try simp only [Act.put, List.setIfInBounds_toArray, List.set_cons_zero, List.set_cons_succ]
  refine wpAnyH_ready (rs := [8]) (by kernel_rfl) (by simp) ?_
  refine AllReadyH.cons rfl (fun K hK => ?_) AllReadyH.nil
  obtain ⟨hl1, vs1, v1, r1⟩ := hs1.below hb2
  obtain ⟨hl2, vs2, v2, r2⟩ := hs2
  have one2 := all2_one r2 (fun v z h => h.one)
  have k1 : w.heap.size ≤ w1.heap.size := hb1.size
  have k2 := hb2.size
  have HA1 := Lib.hid (show ∀ g, blk A1 = some g → w.heap.size ≤ g ∧ g < w1.heap.size from fun g e => by obtain ⟨_, _, hv, _⟩ := hs1; exact hv.blk_ g e)
  have hn1 : n1 ≤ 10 := by rw [← hl1]; exact hz1
  have hn2 : n2 ≤ 10 := by rw [← hl2]; exact hz2
  refine step_append_any (w := w2) (by rfl) _ _ _ (by rfl) w.heap.size 30 (.slice none 0 0) 24 Tryz.underlying25 sliceInfo rfl A1 n1 c1 vs1 (by rfl) v1 A2 n2 c2 vs2 (by rfl) v2.rd one2 (by unfold maxLen; omega) (by omega) (by omega) ?_
  intro A3 c3 w3 ho3 hg3 hat3
  have HS3 := Lib.hid (OwnS.cat hl1 r1 hl2 r2 k1 (fun g e => (HA1.out g e).2) ho3 hg3 (hat_of hat3))
  have HB3 := Lib.hid (below_of_grown ((show Below w.heap.size w w1 from below_drew2 hb1).trans (hb2.mono k1)) hg3 (by omega) (fun g e => (HA1.out g e).1))
  have k3 := hg3.size
  clear v1 v2 r1 r2 hg3 hat3 ho3 hb1 hb2 hs1
  try go_simp
  refine hK.out _ _ trivial (fun hHeld6 => ?_)
  clear hK K
  try simp only [Act.put, List.setIfInBounds_toArray, List.set_cons_zero, List.set_cons_succ]
  refine wpAnyH_take (i := 9) (oi := { dst := _, op := _, type := _, pos := _, after := _, guard := none }) (v := ?_) rfl (by kernel_rfl) (by kernel_rfl) (by kernel_rfl) (fun _ _ _ h => h) (Or.inl ⟨by rfl, ?_⟩) (by assumption) ?_
  rotate_left
  · intro w hSw; (try dsimp only at hSw); go_simp; (try with_reducible rfl)
  try simp only [Act.put, List.setIfInBounds_toArray, List.set_cons_zero, List.set_cons_succ]
  refine wpAnyH_done (by kernel_rfl) ?_ _
  go_wp2_with fail
  refine wp_region_held_drew (S := (fun _ => True)) (by kernel_rfl) ?_ (fun hHeld => ?_)
  · trivial
  refine wpAnyH_take (i := 0) (oi := { dst := _, op := _, type := _, pos := _, after := _, guard := none }) (v := ?_) rfl (by kernel_rfl) (by kernel_rfl) (by kernel_rfl) (fun _ _ _ h => h) (Or.inl ⟨by rfl, ?_⟩) (by assumption) ?_
  rotate_left
  · intro w hSw; (try dsimp only at hSw); go_simp; (try with_reducible rfl)
  try simp only [Act.put, List.setIfInBounds_toArray, List.set_cons_zero, List.set_cons_succ]
  refine wpAnyH_take (i := 1) (oi := { dst := _, op := _, type := _, pos := _, after := _, guard := none }) (v := ?_) rfl (by kernel_rfl) (by kernel_rfl) (by kernel_rfl) (fun _ _ _ h => h) (Or.inl ⟨by rfl, ?_⟩) (by assumption) ?_
  rotate_left
  · intro w hSw; (try dsimp only at hSw); go_simp; (try with_reducible rfl)
  try simp only [Act.put, List.setIfInBounds_toArray, List.set_cons_zero, List.set_cons_succ]
  refine wpAnyH_take (i := 2) (oi := { dst := _, op := _, type := _, pos := _, after := _, guard := none }) (v := ?_) rfl (by kernel_rfl) (by kernel_rfl) (by kernel_rfl) (fun _ _ _ h => h) (Or.inl ⟨by rfl, ?_⟩) (by assumption) ?_
  rotate_left
  · intro w hSw; (try dsimp only at hSw); go_simp; (try with_reducible rfl)
  try simp only [Act.put, List.setIfInBounds_toArray, List.set_cons_zero, List.set_cons_succ]
  refine wpAnyH_take (i := 3) (oi := { dst := _, op := _, type := _, pos := _, after := _, guard := none }) (v := ?_) rfl (by kernel_rfl) (by kernel_rfl) (by kernel_rfl) (fun _ _ _ h => h) (Or.inl ⟨by rfl, ?_⟩) (by assumption) ?_
  rotate_left
  · intro w hSw; (try dsimp only at hSw); go_simp; (try with_reducible rfl)
  try simp only [Act.put, List.setIfInBounds_toArray, List.set_cons_zero, List.set_cons_succ]
  refine wpAnyH_take (i := 4) (oi := { dst := _, op := _, type := _, pos := _, after := _, guard := none }) (v := ?_) rfl (by kernel_rfl) (by kernel_rfl) (by kernel_rfl) (fun _ _ _ h => h) (Or.inl ⟨by rfl, ?_⟩) (by assumption) ?_
  rotate_left
  · intro w hSw; (try dsimp only at hSw); go_simp; (try with_reducible rfl)
  try simp only [Act.put, List.setIfInBounds_toArray, List.set_cons_zero, List.set_cons_succ]
  refine wpAnyH_take (i := 5) (oi := { dst := _, op := _, type := _, pos := _, after := _, guard := none }) (v := ?_) rfl (by kernel_rfl) (by kernel_rfl) (by kernel_rfl) (fun _ _ _ h => h) (Or.inl ⟨by rfl, ?_⟩) (by assumption) ?_
  rotate_left
  · intro w hSw; (try dsimp only at hSw); go_simp; (try with_reducible rfl)
  try simp only [Act.put, List.setIfInBounds_toArray, List.set_cons_zero, List.set_cons_succ]
  refine wpAnyH_take (i := 6) (oi := { dst := _, op := _, type := _, pos := _, after := _, guard := none }) (v := ?_) rfl (by kernel_rfl) (by kernel_rfl) (by kernel_rfl) (fun _ _ _ h => h) (Or.inl ⟨by rfl, ?_⟩) (by assumption) ?_
  rotate_left
  · intro w hSw; (try dsimp only at hSw); go_simp; (try with_reducible rfl)
  try simp only [Act.put, List.setIfInBounds_toArray, List.set_cons_zero, List.set_cons_succ]
  refine wpAnyH_ready (rs := [7]) (by kernel_rfl) (by simp) ?_
  refine AllReadyH.cons rfl (fun K hK => ?_) AllReadyH.nil
  go_simp
  refine (HM.out (some ad) h c (some (ad.add h)) (n - h) (c - h) w3.drew (HR1.out.below HB3.out).drew (HR2.out.below HB3.out).drew).mono ?_
  rintro e w4 ⟨A4, n4, c4, rfl, hs4, hb4⟩
  try go_simp
  refine hK.out _ _ trivial (fun hHeld7 => ?_)
  clear hK K
  try simp only [Act.put, List.setIfInBounds_toArray, List.set_cons_zero, List.set_cons_succ]
  refine wpAnyH_ready (rs := [8]) (by kernel_rfl) (by simp) ?_
  refine AllReadyH.cons rfl (fun K hK => ?_) AllReadyH.nil
  obtain ⟨hl5, vs5, v5, r5⟩ := HS3.out.below (show Below w3.heap.size w3 w4 from below_drew2 hb4)
  obtain ⟨hl4, vs4, v4, r4⟩ := hs4
  have one4 := all2_one r4 (fun v z h => h.one)
  have k4 : w3.heap.size ≤ w4.heap.size := hb4.size
  have HA3 := Lib.hid (show ∀ g, blk A3 = some g → w.heap.size ≤ g ∧ g < w3.heap.size from fun g e => by obtain ⟨_, _, hv, _⟩ := HS3.out; exact hv.blk_ g e)
  have hn4 : n4 ≤ 10 := by rw [← hl4]; exact hz3
  refine step_append_any (w := w4) (by rfl) _ _ _ (by rfl) w.heap.size 30 (.slice none 0 0) 24 Tryz.underlying25 sliceInfo rfl A3 (n1 + n2) c3 vs5 (by rfl) v5 A4 n4 c4 vs4 (by rfl) v4.rd one4 (by unfold maxLen; omega) (by omega) (by omega) ?_
  intro A6 c6 w6 ho6 hg6 hat6
  have HS6 := Lib.hid (OwnS.cat hl5 r5 hl4 r4 (show w.heap.size ≤ w3.drew.heap.size from Nat.le_trans (Nat.le_trans k1 k2) k3) (fun g e => (HA3.out g e).2) ho6 hg6 (hat_of hat6))
  have HB6 := Lib.hid (below_of_grown (HB3.out.trans ((show Below w3.heap.size w3 w4 from below_drew2 hb4).mono (by omega))) hg6 (by omega) (fun g e => (HA3.out g e).1))
  clear v5 v4 r4 r5 hg6 hat6 ho6 hb4
  try go_simp
  refine hK.out _ _ trivial (fun hHeld8 => ?_)
  clear hK K
  try simp only [Act.put, List.setIfInBounds_toArray, List.set_cons_zero, List.set_cons_succ]
  refine wpAnyH_take (i := 9) (oi := { dst := _, op := _, type := _, pos := _, after := _, guard := none }) (v := ?_) rfl (by kernel_rfl) (by kernel_rfl) (by kernel_rfl) (fun _ _ _ h => h) (Or.inl ⟨by rfl, ?_⟩) (by assumption) ?_
  rotate_left
  · intro w hSw; (try dsimp only at hSw); go_simp; (try with_reducible rfl)
  try simp only [Act.put, List.setIfInBounds_toArray, List.set_cons_zero, List.set_cons_succ]
  refine wpAnyH_done (by kernel_rfl) ?_ _
  go_wp2_with fail
  go_ret
  exact ⟨A6, _, c6, rfl, HS6.out, HB6.out⟩
end Go.Proofs.YtobdkfhmmpigiaaGreat
