/- Slices of slices of ints that a call has made, with all blocks in an interval and no block twice (OwnR): made by toIntSS, marked by markIntSS. -/
import Derived.Test.YtcijnmooifcicaaMat
namespace Go.Proofs.Ytcijnmooifcicaa
open Go.RowKit Go.Deep
set_option linter.unusedVariables false

theorem Own.keepAt {w w' : World} {base : Nat} {e : TypeId} {A : Option Addr} {n c : Nat} {xs : List Value} (h : Own w base e A n c xs) (hk : ∀ g, blk A = some g → w'.heap[g]? = w.heap[g]?) : Own w' base e A n c xs := by
  refine ⟨h.1, ?_⟩
  rcases h.2 with hn | ⟨g, cap, cur, hv, hb, hgg, rest⟩
  · exact .inl hn
  · refine .inr ⟨g, cap, cur, hv, hb, ?_, rest⟩
    rw [hk g (by injection hv with hA; rw [hA]; rfl)]
    exact hgg

/-- From w to w' only blocks in [lo, hi) have changed. -/
structure Chg (lo hi : Nat) (w w' : World) : Prop where
  os : w'.os = w.os
  tape : w'.tape = w.tape
  output : w'.output = w.output
  size : w.heap.size ≤ w'.heap.size
  block : ∀ g, g < w.heap.size → (g < lo ∨ hi ≤ g) → w'.heap[g]? = w.heap[g]?
theorem Chg.refl (lo hi : Nat) (w : World) : Chg lo hi w w := ⟨rfl, rfl, rfl, Nat.le_refl _, fun _ _ _ => rfl⟩
theorem Chg.trans {lo hi : Nat} {a b c : World} (h : Chg lo hi a b) (k : Chg lo hi b c) : Chg lo hi a c :=
  ⟨k.os.trans h.os, k.tape.trans h.tape, k.output.trans h.output, Nat.le_trans h.size k.size, fun g hg hd => (k.block g (Nat.lt_of_lt_of_le hg h.size) hd).trans (h.block g hg hd)⟩
theorem Chg.of_grown {lo hi : Nat} {w w' : World} {r : Option Nat} (h : w.grownBy w' r) (hr : ∀ g, r = some g → lo ≤ g ∧ g < hi) : Chg lo hi w w' :=
  ⟨h.os, h.tape, h.output, h.size, fun g hg hd => h.block g hg (fun he => by have := hr g he.symm; omega)⟩
theorem Chg.below {lo hi : Nat} {w w' : World} (h : Chg lo hi w w') {B : Nat} (h1 : B ≤ lo) (h2 : B ≤ w.heap.size) : Below B w w' :=
  ⟨h.os, h.tape, h.output, h.size, fun k hk => h.block k (by omega) (.inl (by omega))⟩
theorem Own.chg {lo hi : Nat} {w w' : World} {base : Nat} {e : TypeId} {A : Option Addr} {n c : Nat} {xs : List Value} (h : Own w base e A n c xs) (hc : Chg lo hi w w') (hd : ∀ g, blk A = some g → g < lo ∨ hi ≤ g) : Own w' base e A n c xs :=
  h.keepAt fun g hg => hc.block g (h.blk_ g hg).2 (hd g hg)

def RowsIn (w : World) (lo hi : Nat) (A : Option Addr) (n : Nat) (f : Nat → List Int) (vs : List Value) : Prop :=
  ∀ j, j < n → ∃ B m d, vs[j]? = some (.slice B m d) ∧ OwnI w lo 3 B m d (f j) ∧ ∀ g, blk B = some g → g < hi ∧ blk A ≠ some g ∧ ∀ i B' m' d', i < j → vs[i]? = some (.slice B' m' d') → blk B' ≠ some g
def OwnR (w : World) (lo hi : Nat) (A : Option Addr) (n c : Nat) (zss : List (List Int)) : Prop :=
  zss.length = n ∧ ∃ vs, Own w lo 22 A n c vs ∧ (∀ g, blk A = some g → g < hi) ∧ RowsIn w lo hi A n (row zss) vs
section
variable {w w' : World} {A : Option Addr} {n c lo hi lo2 hi2 : Nat} {zss : List (List Int)} {f : Nat → List Int} {vs : List Value}
theorem OwnR.own (h : OwnR w lo hi A n c zss) : OwnM w lo A n c zss := by
  obtain ⟨hl, vs, ho, _, hr⟩ := h
  refine ⟨hl, vs, ho, fun j hj => ?_⟩
  obtain ⟨B, m, d, hv, hB, hd⟩ := hr j hj
  exact ⟨B, m, d, hv, hB, fun g hg => (hd g hg).2.1⟩
theorem OwnR.rd (h : OwnR w lo hi A n c zss) : RdM w A n zss := h.own.rd
theorem OwnR.cap (h : OwnR w lo hi A n c zss) : n ≤ c ∧ c ≤ maxLen := h.own.cap
theorem RowsIn.keep (h : RowsIn w lo hi A n f vs) (hk : ∀ g, lo ≤ g → g < hi → g < w.heap.size → w'.heap[g]? = w.heap[g]?) : RowsIn w' lo hi A n f vs := by
  intro j hj
  obtain ⟨B, m, d, hv, hB, hd⟩ := h j hj
  exact ⟨B, m, d, hv, hB.keepAt fun g hg => hk g (hB.blk_ g hg).1 (hd g hg).1 (hB.blk_ g hg).2, hd⟩
theorem OwnR.keep (h : OwnR w lo hi A n c zss) (hk : ∀ g, lo ≤ g → g < hi → g < w.heap.size → w'.heap[g]? = w.heap[g]?) : OwnR w' lo hi A n c zss := by
  obtain ⟨hl, vs, ho, hA, hr⟩ := h
  exact ⟨hl, vs, ho.keepAt fun g hg => hk g (ho.blk_ g hg).1 (hA g hg) (ho.blk_ g hg).2, hA, hr.keep hk⟩
theorem OwnR.below (h : OwnR w lo hi A n c zss) (hb : Below w.heap.size w w') : OwnR w' lo hi A n c zss := h.keep fun g _ _ hg => hb.block g hg
theorem OwnR.chg (h : OwnR w lo hi A n c zss) (hc : Chg lo2 hi2 w w') (hd : hi ≤ lo2 ∨ hi2 ≤ lo) : OwnR w' lo hi A n c zss := h.keep fun g h1 h2 hg => hc.block g hg (by omega)
theorem OwnR.grown {r : Option Nat} (h : OwnR w lo hi A n c zss) (hc : w.grownBy w' r) (hd : ∀ g, r = some g → g < lo ∨ hi ≤ g) : OwnR w' lo hi A n c zss :=
  h.keep fun g h1 h2 hg => hc.block g hg (fun he => by have := hd g he.symm; omega)
end

set_option maxHeartbeats 2000000 in
theorem toIntSS_r (A : Option Addr) (n c : Nat) (zss : List (List Int)) (w : World) (ha : RdM w A n zss) (hn : n + tot zss n ≤ 1048576) :
    Calls Try.prog 53 #[.slice A n c] w fun e w' => ∃ A' c', e = .returned (.slice A' n c') ∧ OwnR w' w.heap.size w'.heap.size A' n c' zss ∧ Below w.heap.size w w' := by
  have HN := Lib.hid hn
  replace hn : n ≤ 1048576 := by omega
  go_enter Try.func53, Try.ntmps53
  go_wp2_with (at_make; refine wpL_make _ rfl _ _ 30 rfl 22 (.slice none 0 0) 24 Try.underlying30 sliceInfo rfl _ _ _ _ n rfl rfl rfl rfl (by omega) (by unfold maxLen; omega) ?_)
  intro w1 hown hbl hsz
  go_wp2
  go_loopw [4] (fun i wr => ∃ k : Nat, ∃ vs : List Value, k ≤ n ∧ i = .int .i64 k ∧ Own wr w.heap.size 22 (some ⟨w.heap.size, 0, none⟩) n n vs ∧
    (∀ j, j < k → ∃ B m d, vs[j]? = some (.slice B m d) ∧ OwnI wr (w.heap.size + 1) 3 B m d (row zss j) ∧ ∀ g, blk B = some g → ∀ i B' m' d', i < j → vs[i]? = some (.slice B' m' d') → blk B' ≠ some g) ∧ w.heap.size + 1 ≤ wr.heap.size ∧ Below w.heap.size w wr) (fun i _ => n - (intOf i).toNat)
  case atStart => exact ⟨0, _, Nat.zero_le _, rfl, hown, fun j hj => by omega, by omega, hbl⟩
  case round =>
    clear hown hbl hsz
    obtain ⟨k, vs, hk, rfl, hown, hrows, hsz, hbl⟩ := hrel
    by_cases hlt : k < n
    · obtain ⟨a1, B, m, d, rfl, _, h1, hB, hmd, hd⟩ := (ha.below hbl).2 k hlt
      have hm : m ≤ 1048576 := by
        have := tot_row (zss := zss) n hlt
        have := hB.lenI
        have := HN.out
        omega
      go_wp2_with fail
      refine (toIntS_any B m d (row zss k) wr hB hm).mono ?_
      rintro e w2 ⟨A2, c2, rfl, o2, hb2⟩
      have hown2 := hown.below hb2
      obtain ⟨g, u, hgA, _, _, _, h2, h3⟩ := hown2.at_ hlt
      injection hgA with hgA
      injection hgA with hgA
      subst hgA
      have hlen := hown2.len
      have hown3 := hown2.set_ (.slice A2 m c2) hlt
      have hs2 := hb2.size
      have hb3 := (hbl.trans (hb2.mono hbl.size)).setCell (p := ⟨w.heap.size, k, none⟩) (Nat.le_refl _) (.slice A2 m c2)
      have HR := Lib.hid (show ∀ j, j < k + 1 → ∃ B m' d, (vs.set k (.slice A2 m c2))[j]? = some (.slice B m' d) ∧ OwnI (w2.setCell ⟨w.heap.size, k, none⟩ (.slice A2 m c2)) (w.heap.size + 1) 3 B m' d (row zss j) ∧
          ∀ g, blk B = some g → ∀ i B' m' d', i < j → (vs.set k (.slice A2 m c2))[i]? = some (.slice B' m' d') → blk B' ≠ some g by
        intro j hj
        by_cases e : k = j
        · subst e
          refine ⟨A2, m, c2, by simp [List.getElem?_set]; omega, (o2.more hsz).setOther (fun g hg => ?_) _, fun g hg i B' m' d' hi hv' hg' => ?_⟩
          · have := o2.blk_ g hg
            show g ≠ w.heap.size
            omega
          · rw [List.getElem?_set, if_neg (by omega)] at hv'
            obtain ⟨B3, m3, d3, hv3, hB3, _⟩ := hrows i hi
            rw [hv3] at hv'
            injection hv' with hv'
            injection hv' with e1
            subst e1
            have h5 := hB3.blk_ g hg'
            have h6 := o2.blk_ g hg
            omega
        · obtain ⟨B', m', d', hv, hB', hdis⟩ := hrows j (by omega)
          refine ⟨B', m', d', by rw [List.getElem?_set, if_neg e]; exact hv, (hB'.below hb2).setOther (fun g hg => ?_) _, fun g hg i B3 m3 d3 hi hv' => ?_⟩
          · have := hB'.blk_ g hg
            show g ≠ w.heap.size
            omega
          · rw [List.getElem?_set, if_neg (by omega)] at hv'
            exact hdis g hg i B3 m3 d3 hi hv')
      clear hrows hown hown2 hbl o2
      go_wp2
      go_roundw
      case rel => exact ⟨k + 1, _, by omega, by go_num, hown3, HR.out, by simp; omega, hb3⟩
      case measure => simp [intOf]; omega
    · obtain rfl : k = n := by omega
      go_wp2
      go_ret
      refine ⟨_, _, rfl, ⟨ha.1, vs, hown, fun g hg => ?_, fun j hj => ?_⟩, hbl⟩
      · exact (hown.blk_ g hg).2
      obtain ⟨B, m, d, hv, hB, hdis⟩ := hrows j hj
      refine ⟨B, m, d, hv, hB.more (by omega), fun g hg => ⟨(hB.blk_ g hg).2, ?_, hdis g hg⟩⟩
      have := hB.blk_ g hg
      simp [blk]
      omega

def marksM (m : Int) (zss : List (List Int)) : List (List Int) := (List.range zss.length).map fun j => marks (m + tot zss j) (row zss j).length
theorem marksM_row {m : Int} {zss : List (List Int)} {n j : Nat} (hl : zss.length = n) (h : j < n) : row (marksM m zss) j = marks (m + tot zss j) (row zss j).length := by
  unfold row marksM
  simp [List.getD, hl, h, row]

/-- The rows of which the first k have been marked. -/
def mixed (m : Int) (zss : List (List Int)) (k j : Nat) : List Int := if j < k then marks (m + tot zss j) (row zss j).length else row zss j

set_option maxHeartbeats 2000000 in
theorem markIntSS_r (A : Option Addr) (n c lo hi : Nat) (zss : List (List Int)) (m0 : Int) (w : World) (ha : OwnR w lo hi A n c zss) (hn : n + tot zss n ≤ 1048576) (hm0 : 0 ≤ m0) (hm1 : m0 ≤ 2305843009213693952) :
    Calls Try.prog 57 #[.slice A n c, .int .i64 m0] w fun e w' => e = .returned (.int .i64 (m0 + tot zss n)) ∧ OwnR w' lo hi A n c (marksM m0 zss) ∧ Chg lo hi w w' := by
  have HN := Lib.hid hn
  replace hn : n ≤ 1048576 := by omega
  obtain ⟨hl, vs, ho, hA, hr⟩ := ha
  have HL := Lib.hid hl
  clear hl
  go_enter Try.func57, Try.ntmps57
  go_wp2
  go_loopw [1, 5] (fun q i wr => ∃ k : Nat, k ≤ n ∧ i = .int .i64 k ∧ q = .int .i64 (m0 + tot zss k) ∧ Own wr lo 22 A n c vs ∧ RowsIn wr lo hi A n (mixed m0 zss k) vs ∧ Chg lo hi w wr) (fun _ i _ => n - (intOf i).toNat)
  case atStart => exact ⟨0, Nat.zero_le _, rfl, by rw [tot_zero]; simp, ho, fun j hj => by simpa [mixed] using hr j hj, Chg.refl _ _ _⟩
  case round =>
    clear ho hr
    obtain ⟨k, hk, rfl, rfl, ho, hr, hc⟩ := hrel
    by_cases hlt : k < n
    · obtain ⟨B, m, d, hv, hB, hd⟩ := hr k hlt
      obtain ⟨ad, hAd, _, h1⟩ := ho.rd.atV hv
      have hB' : OwnI wr lo 3 B m d (row zss k) := by simpa [mixed] using hB
      have hmm := hB'.lenI
      have htot := tot_row (zss := zss) n hlt
      have hm : m ≤ 1048576 := by have := HN.out; omega
      have HT := Lib.hid (show tot zss (k + 1) = tot zss k + m by rw [tot_succ, hmm])
      have htk : tot zss k ≤ 1048576 := by
        have h1 := HN.out
        have h2 : ∀ a, k + a ≤ n → tot zss k ≤ tot zss (k + a) := by
          intro a
          induction a with
          | zero => intro _; exact Nat.le_refl _
          | succ a ih => intro h; have := ih (by omega); rw [← Nat.add_assoc, tot_succ]; omega
        have := h2 (n - k) (by omega)
        rw [show k + (n - k) = n by omega] at this
        omega
      have HM := Lib.hid hmm
      clear hmm
      subst hAd
      go_wp2_with fail
      refine (markIntS_any B m d lo (row zss k) (m0 + tot zss k) wr hB' hm (by omega) (by omega)).mono ?_
      rintro e w2 ⟨rfl, oN, hg⟩
      have ho2 := ho.kept hg (fun g hg1 hg2 => (hd g hg2.symm).2.1 hg1)
      have hc2 := hc.trans (Chg.of_grown hg (fun g hg1 => ⟨(hB.blk_ g hg1).1, (hd g hg1).1⟩))
      have HR := Lib.hid (show RowsIn w2 lo hi (some ad) n (mixed m0 zss (k + 1)) vs by
        intro j hj
        by_cases e : k = j
        · subst e
          refine ⟨B, m, d, hv, ?_, hd⟩
          simp only [mixed, Nat.lt_succ_self, if_true]
          rw [HM.out]
          exact oN
        · obtain ⟨B3, m3, d3, hv3, hB3, hd3⟩ := hr j hj
          refine ⟨B3, m3, d3, hv3, ?_, hd3⟩
          have e1 : mixed m0 zss (k + 1) j = mixed m0 zss k j := by
            unfold mixed
            by_cases h : j < k
            · rw [if_pos h, if_pos (by omega)]
            · rw [if_neg h, if_neg (by omega)]
          rw [e1]
          refine hB3.kept hg (fun g hg1 hg2 => ?_)
          rcases Nat.lt_or_gt_of_ne e with h | h
          · exact (hd3 g hg1).2.2 k B m d h hv hg2.symm
          · exact (hd g hg2.symm).2.2 j B3 m3 d3 h hv3 hg1)
      clear ho hr hc hB hB' oN
      go_wp2
      go_roundw
      case rel => exact ⟨k + 1, by omega, by go_num, int_eq (by rw [HT.out]; omega), ho2, HR.out, hc2⟩
      case measure => simp [intOf]; omega
    · obtain rfl : k = n := by omega
      have HR := Lib.hid (show RowsIn wr lo hi A k (row (marksM m0 zss)) vs by
        intro j hj
        have := hr j hj
        rw [mixed, if_pos hj] at this
        rw [marksM_row HL.out hj]
        exact this)
      have HL2 := Lib.hid (show (marksM m0 zss).length = k by simp [marksM, HL.out])
      go_wp2
      go_ret
      exact ⟨rfl, ⟨HL2.out, vs, ho, hA, HR.out⟩, hc⟩

end Go.Proofs.Ytcijnmooifcicaa
