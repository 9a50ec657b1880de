/- Chapter 12: going through lists of comparators: frames, lists of pairs, slices.Clone at [][]int. -/
import Derived.Test.YtobdkfhmmpigiaaGreatME
namespace Go.Proofs.YtobdkfhmmpigiaaGreat
open Go.RowKit Go.Deep
set_option linter.unusedVariables false

/-- From w to w' only blocks of D have changed; of the old blocks only those of D are in D'. -/
structure Fr (D D' : Nat → Prop) (w w' : World) : Prop where
  os : w'.os = w.os
  tape : w'.tape = w.tape
  output : w'.output = w.output
  size : w.heap.size ≤ w'.heap.size
  block : ∀ g, g < w.heap.size → ¬ D g → w'.heap[g]? = w.heap[g]?
  back : ∀ g, g < w.heap.size → D' g → D g
theorem Fr.refl (D : Nat → Prop) (w : World) : Fr D D w w := ⟨rfl, rfl, rfl, Nat.le_refl _, fun _ _ _ => rfl, fun _ _ h => h⟩
theorem Fr.trans {D D1 D2 : Nat → Prop} {a b c : World} (h : Fr D D1 a b) (k : Fr D1 D2 b c) : Fr D D2 a c :=
  ⟨k.os.trans h.os, k.tape.trans h.tape, k.output.trans h.output, Nat.le_trans h.size k.size,
    fun g hg hd => (k.block g (Nat.lt_of_lt_of_le hg h.size) (fun e => hd (h.back g hg e))).trans (h.block g hg hd),
    fun g hg hd => h.back g hg (k.back g (Nat.lt_of_lt_of_le hg h.size) hd)⟩
theorem Fr.below {D D1 : Nat → Prop} {a b c : World} (h : Fr D D1 a b) (k : Below b.heap.size b c) : Fr D D1 a c :=
  h.trans ⟨k.os, k.tape, k.output, k.size, fun g hg _ => k.block g hg, fun _ _ h => h⟩
theorem Fr.to_below {D D1 : Nat → Prop} {a b : World} {B : Nat} (h : Fr D D1 a b) (hB : B ≤ a.heap.size) (hD : ∀ g, D g → B ≤ g) : Below B a b :=
  ⟨h.os, h.tape, h.output, h.size, fun g hg => h.block g (by omega) (fun e => by have := hD g e; omega)⟩
theorem Fr.cell {D D1 : Nat → Prop} {a b : World} (h : Fr D D1 a b) {p : Addr} (hp : p.block < a.heap.size) (hd : ¬ D p.block) : b.cell? p = a.cell? p := World.cell?_of_block (w := a) (h.block _ hp hd)

/-- A list of pairs that is read, its blocks outside D. -/
def RdX (D : Nat → Prop) (w : World) (A : Option Addr) (l : Nat) (zss : List (List Int)) : Prop :=
  zss.length = l ∧ ∀ j, j < l → ∃ ad B : Addr, A = some ad ∧ ad.block < w.heap.size ∧ ¬ D ad.block ∧ w.cell? (ad.add j) = some (.slice (some B) 2 2) ∧ B.block < w.heap.size ∧ ¬ D B.block ∧ RdI w (some B) 2 (row zss j)
theorem RdX.nil_ (D : Nat → Prop) (w : World) (A : Option Addr) : RdX D w A 0 [] := ⟨rfl, fun j hj => by omega⟩
theorem RdX.below {D : Nat → Prop} {w w' : World} {A : Option Addr} {l : Nat} {zss : List (List Int)} (h : RdX D w A l zss) (hb : Below w.heap.size w w') : RdX D w' A l zss := by
  refine ⟨h.1, fun j hj => ?_⟩
  obtain ⟨ad, B, h1, h2, h3, h4, h5, h6, h7⟩ := h.2 j hj
  exact ⟨ad, B, h1, Nat.lt_of_lt_of_le h2 hb.size, h3, (hb.cell (p := ad.add j) (by rw [block_of_add]; exact h2)).trans h4, Nat.lt_of_lt_of_le h5 hb.size, h6, h7.below hb⟩
theorem RdX.fr {D D' : Nat → Prop} {w w' : World} {A : Option Addr} {l : Nat} {zss : List (List Int)} (h : RdX D w A l zss) (hb : Fr D D' w w') : RdX D' w' A l zss := by
  refine ⟨h.1, fun j hj => ?_⟩
  obtain ⟨ad, B, h1, h2, h3, h4, h5, h6, h7⟩ := h.2 j hj
  exact ⟨ad, B, h1, Nat.lt_of_lt_of_le h2 hb.size, fun e => h3 (hb.back _ h2 e), (hb.cell (p := ad.add j) (by rw [block_of_add]; exact h2) (by rw [block_of_add]; exact h3)).trans h4, Nat.lt_of_lt_of_le h5 hb.size, fun e => h6 (hb.back _ h5 e), h7.keep hb.size fun g e hg => hb.block g hg (by simp [blk] at e; rw [← e]; exact h6)⟩
/-- A header whose row is read, its block where P says. -/
def Rr (w : World) (P : Nat → Prop) (v : Value) (z : List Int) : Prop := ∃ B : Addr, v = .slice (some B) 2 2 ∧ P B.block ∧ B.block < w.heap.size ∧ RdI w (some B) 2 z
theorem Rr.keep {w w' : World} {P P' : Nat → Prop} {v : Value} {z : List Int} (h : Rr w P v z) (hs : w.heap.size ≤ w'.heap.size) (hk : ∀ g, g < w.heap.size → P g → w'.heap[g]? = w.heap[g]? ∧ P' g) : Rr w' P' v z := by
  obtain ⟨B, rfl, h1, h2, h3⟩ := h
  exact ⟨B, rfl, (hk _ h2 h1).2, Nat.lt_of_lt_of_le h2 hs, h3.keep hs fun g e hg => (hk g hg (by simp [blk] at e; rw [← e]; exact h1)).1⟩
theorem RdX.rows {D : Nat → Prop} {w : World} {ad : Addr} {l : Nat} {zss : List (List Int)} (h : RdX D w (some ad) l zss) : ∃ vs, Rd w (some ad) l vs ∧ All2 (Rr w fun g => ¬ D g) vs zss := by
  obtain ⟨hl, h2⟩ := h
  refine ⟨(List.range l).map fun j => (w.cell? (ad.add j)).getD undef, ⟨by simp, fun h0 => ?_⟩, All2.of_at (by simp [hl]) fun j hj => ?_⟩
  · obtain ⟨ad', B, e, hlt, _⟩ := h2 0 h0
    refine ⟨ad, rfl, by injection e with e; rw [e]; exact hlt, fun j u hu => ?_⟩
    have hj : j < l := by have := (List.getElem?_eq_some_iff.1 hu).1; simpa using this
    obtain ⟨ad2, B2, e2, _, _, hc, _⟩ := h2 j hj
    injection e2 with e2
    subst e2
    simp [hj, hc] at hu
    rw [hc, hu]
  · obtain ⟨ad2, B2, e2, _, _, hc, h5, h6, h7⟩ := h2 j (by omega)
    injection e2 with e2
    subst e2
    exact ⟨.slice (some B2) 2 2, by simp [show j < l by omega, hc], B2, rfl, h6, h5, h7⟩

theorem implCloneR (D : Nat → Prop) (A : Option Addr) (l c : Nat) (zss : List (List Int)) (w : World) (ha : RdX D w A l zss) (hl : l ≤ 1000) :
    Calls Tryz.prog 46 #[.slice A l c] w fun e w' => ∃ A' c' vs, e = .returned (.slice A' l c') ∧ Own w' w.heap.size 30 A' l c' vs ∧ All2 (Rr w' fun g => ¬ D g ∧ g < w.heap.size) vs zss ∧ Below w.heap.size w w' := by
  cases A with
  | none =>
    have hn0 : l = 0 := by
      rcases Nat.eq_zero_or_pos l with h | h
      · exact h
      · obtain ⟨ad, B, h, _⟩ := ha.2 0 h
        cases h
    subst hn0
    have hz : zss = [] := List.eq_nil_of_length_eq_zero ha.1
    subst hz
    have q : ∀ w : World, (binOp .eql 25 (.slice none 0 c) (.slice none 0 0)).run Tryz.prog w = .ok (.bool true) w := fun w => Lib.run_eql_slice_nil w _ _ _ _ _ _ _ Tryz.underlying25
    clear ha hl
    go_enter Tryz.func46, Tryz.ntmps46
    go_wp2
    go_ret
    exact ⟨_, _, [], rfl, Own.nil_ _ _ _, trivial, Below.refl _ _⟩
  | some ad =>
    obtain ⟨vs, hr, hv⟩ := ha.rows
    have q : ∀ w : World, (binOp .eql 25 (.slice (some ad) l c) (.slice none 0 0)).run Tryz.prog w = .ok (.bool false) w := fun w => Lib.run_eql_slice_nil w _ _ _ _ _ _ _ Tryz.underlying25
    have h1 : ∀ u ∈ vs, u.oneCell' = true := all2_one hv (fun v z h => by obtain ⟨B, rfl, _⟩ := h; rfl)
    clear ha
    go_enter Tryz.func46, Tryz.ntmps46
    go_wp2_with (at_builtin; refine wpL_append _ rfl _ _ _ rfl w.heap.size 30 (.slice none 0 0) 24 Tryz.underlying25 sliceInfo rfl _ 0 _ [] rfl (own_empty _ _) (some ad) l c vs rfl (hr.alloc _) h1 (by unfold maxLen; omega) (by omega) (by simp) ?_)
    intro A2 c2 w2 ho2 hg2 hat2
    have hb2 := own_below (own_empty w 30) (below_alloc w _) (by simp) hg2
    have ho2 : Own w2 w.heap.size 30 A2 l c2 vs := by simpa using ho2
    go_wp2_with fail
    go_ret
    exact ⟨A2, c2, vs, rfl, ho2, hv.mono fun v z k => k.keep hb2.size fun g hg hd => ⟨hb2.block g hg, hd, hg⟩, hb2⟩

/-- A pair appended to a clone. -/
theorem listX_push {D : Nat → Prop} {wz w7 : World} {C l lc c7 : Nat} {Ac A7 : Option Addr} {vs : List Value} {zss : List (List Int)} {bp i k : Nat} (hl : zss.length = l) (hv : Own wz C 30 Ac l lc vs) (hDC : ∀ g, D g → g < C) (hC : C ≤ wz.heap.size)
    (hr : All2 (Rr wz fun g => ¬ D g ∧ g < C) vs zss) (hp : OwnI wz C 3 (some ⟨bp, 0, none⟩) 2 2 (pr i k)) (hpA : blk Ac ≠ some bp) (ho : Own w7 C 30 A7 (l + 1) c7 (vs ++ [.slice (some ⟨bp, 0, none⟩) 2 2])) (hg : wz.grownBy w7 (blk Ac)) :
    RdX D w7 A7 (l + 1) (zss ++ [pr i k]) := by
  have hs := hg.size
  have hbp := hp.blk_ bp rfl
  have hrows : All2 (Rr w7 fun g => ¬ D g) (vs ++ [.slice (some ⟨bp, 0, none⟩) 2 2]) (zss ++ [pr i k]) :=
    (hr.mono fun v z q => q.keep hs fun g hg1 hd => ⟨hg.block g hg1 (fun e => by have := (hv.blk_ g e.symm).1; omega), hd.1⟩).append
      (All2.one ⟨⟨bp, 0, none⟩, rfl, fun e => by have := hDC _ e; have h := hbp.1; simp at this; omega, Nat.lt_of_lt_of_le hbp.2 hs, hp.rd.keep hs fun g e hg1 => hg.block g hg1 (fun e2 => by simp [blk] at e; subst e; exact hpA e2.symm)⟩)
  refine ⟨by simp [hl], fun j hj => ?_⟩
  obtain ⟨v, h1, B, rfl, h2, h3, h4⟩ := hrows.at_ j (by simp [hl]; omega)
  obtain ⟨ad, hA, hlt, hc⟩ := ho.rd.atV h1
  refine ⟨ad, B, hA, hlt, fun e => ?_, hc, h3, h2, h4⟩
  have := (ho.blk_ ad.block (by rw [hA]; rfl)).1
  have := hDC _ e
  omega

/-- The pairs from (i, k) on within wire i, and from wire i on. -/
def inP (n i k : Nat) : List (Nat × Nat) := (List.range (n - k)).map fun t => (i, k + t)
def allP (n i : Nat) : List (Nat × Nat) := (List.range (n - i)).flatMap fun t => inP n (i + t) (i + t + 1)
theorem inP_cons {n i k : Nat} (h : k < n) : inP n i k = (i, k) :: inP n i (k + 1) := by
  unfold inP
  rw [show n - k = (n - (k + 1)) + 1 by omega, List.range_succ_eq_map, List.map_cons, List.map_map]
  congr 1
  apply List.map_congr_left
  intro t _
  simp
  omega
theorem inP_nil {n i k : Nat} (h : n ≤ k) : inP n i k = [] := by unfold inP; rw [show n - k = 0 by omega]; rfl
theorem allP_cons : ∀ n : Nat, n < 5 → ∀ i : Nat, i < 5 → i < n → allP n i = inP n i (i + 1) ++ allP n (i + 1) := by decide +kernel
theorem allP_nil {n i : Nat} (h : n ≤ i) : allP n i = [] := by unfold allP; rw [show n - i = 0 by omega]; rfl
/-- One after the other, until it is told to end. -/
def goP {σ : Type} (f : Nat × Nat → σ → σ × Bool) : List (Nat × Nat) → σ → σ × Bool
  | [], s => (s, false)
  | p :: r, s => if (f p s).2 = true then ((f p s).1, true) else goP f r (f p s).1
theorem goP_nil {σ : Type} (f : Nat × Nat → σ → σ × Bool) (s : σ) : goP f [] s = (s, false) := rfl
theorem goP_on {σ : Type} {f : Nat × Nat → σ → σ × Bool} {p : Nat × Nat} {r : List (Nat × Nat)} {s : σ} (h : (f p s).2 = true) : goP f (p :: r) s = ((f p s).1, true) := by rw [goP, if_pos h]
theorem goP_off {σ : Type} {f : Nat × Nat → σ → σ × Bool} {p : Nat × Nat} {r : List (Nat × Nat)} {s : σ} (h : (f p s).2 = false) : goP f (p :: r) s = goP f r (f p s).1 := by rw [goP, if_neg (by rw [h]; simp)]
/-- The set behind a comparator, as the program computes it. -/
def stI (p q : Nat) (set : List Int) : List Int := imL (fun z => (bst z.toNat p q : Nat)) set
/-- All lists of K comparators, in order, each handed to 'see'. -/
def runL {σ : Type} (n : Nat) (see : List (List Int) → List Int → σ → σ × Bool) : Nat → List (List Int) → List Int → σ → σ × Bool
  | 0, zss, set, s => see zss set s
  | K + 1, zss, set, s => goP (fun p s => runL n see K (zss ++ [pr p.1 p.2]) (stI p.1 p.2 set) s) (allP n 0) s
theorem runL_zero {σ : Type} (n : Nat) (see : List (List Int) → List Int → σ → σ × Bool) (zss : List (List Int)) (set : List Int) (s : σ) : runL n see 0 zss set s = see zss set s := rfl
theorem runL_succ {σ : Type} (n : Nat) (see : List (List Int) → List Int → σ → σ × Bool) (K : Nat) (zss : List (List Int)) (set : List Int) (s : σ) : runL n see (K + 1) zss set s = goP (fun p s => runL n see K (zss ++ [pr p.1 p.2]) (stI p.1 p.2 set) s) (allP n 0) s := rfl
/-- A set of masks of four bits. -/
def Good (m : Nat) (set : List Int) : Prop := MaskR 16 m set ∧ set.length = m ∧ m ≤ 16
theorem good_st {m p q : Nat} {set : List Int} (h : Good m set) (hp : p < 4) (hq : q < 4) : Good (stI p q set).length (stI p q set) := by
  obtain ⟨h1, h2, h3⟩ := h
  refine ⟨fun k hk => ?_, rfl, ?_⟩
  · have hm : nth (stI p q set) k ∈ stI p q set := nth_mem hk
    obtain ⟨z, hz, e⟩ := imL_mem.1 hm
    obtain ⟨i, hi, rfl⟩ := List.getElem_of_mem hz
    obtain ⟨s, hs, hs16⟩ := h1 i (by omega)
    rw [nth_eq hi] at hs
    rw [hs, Int.toNat_natCast] at e
    exact ⟨bst s p q, e.symm, bst_lt s hs16 p hp q hq⟩
  · have := imL_len (fun z => (bst z.toNat p q : Nat)) set
    unfold stI
    omega
attribute [irreducible] inP allP goP stI
end Go.Proofs.YtobdkfhmmpigiaaGreat
