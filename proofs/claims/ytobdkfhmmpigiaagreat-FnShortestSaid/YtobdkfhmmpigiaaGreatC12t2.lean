/- Chapter 12: slices.SortFunc with slices.Compare on a row of rows of the call's own. -/
import Derived.Test.YtobdkfhmmpigiaaGreatC12t1
import Derived.Test.YtobdkfhmmpigiaaGreatLayS
namespace Go.Proofs.YtobdkfhmmpigiaaGreat
open Go.RowKit Go.Deep Go.Sort Go.Shelf
set_option linter.unusedVariables false

theorem take_putN (enc : Nat → Value) (cur : Array Value) (d : Array Nat) (h : d.size ≤ cur.size) : (putCells enc 0 d cur).toList.take d.size = d.toList.map enc := by
  apply List.ext_getElem?
  intro j
  by_cases hj : j < d.size
  · rw [List.getElem?_take_of_lt hj, Array.getElem?_toList]
    simp [putCells, hj, show j < cur.size by omega]
  · rw [List.getElem?_take_eq_none (by omega), List.getElem?_eq_none (by simp; omega)]
theorem sortW_other (enc : Nat → Value) (w : World) (g m : Nat) (d : Array Nat) (os : Array Obj) (q : Nat) (hq : q < w.heap.size) (hne : q ≠ g) : (sortWorld enc w g 0 m d os).heap[q]? = w.heap[q]? := by
  unfold sortWorld
  rw [heap_grow_old _ _ (by simpa using hq)]
  have : g ≠ q := fun e => hne e.symm
  simp [putRow, mapBlock, Sort.ahead, Array.getElem?_modify, this]
theorem sortW_same {enc : Nat → Value} {w : World} {g m : Nat} {d : Array Nat} {os : Array Obj} {cur : Array Value} {e : TypeId} {fr : Nat × Nat} (hb : w.heap[g]? = some (.cells cur e fr)) : (sortWorld enc w g 0 m d os).heap[g]? = some (.cells (putCells enc 0 d cur) e fr) := by
  have hg : g < w.heap.size := (Array.getElem?_eq_some_iff.1 hb).1
  unfold sortWorld
  rw [heap_grow_old _ _ (by simpa using hg)]
  simp [putRow, mapBlock, Sort.ahead, Array.getElem?_modify, hb, onCells]
theorem sortW_size (enc : Nat → Value) (w : World) (g m : Nat) (d : Array Nat) (os : Array Obj) : w.heap.size ≤ (sortWorld enc w g 0 m d os).heap.size := by
  unfold sortWorld
  simp
theorem sortW_grown (enc : Nat → Value) (w : World) (g m : Nat) (d : Array Nat) (os : Array Obj) : w.grownBy (sortWorld enc w g 0 m d os) (some g) :=
  ⟨rfl, rfl, rfl, sortW_size _ _ _ _ _ _, fun q hq hne => sortW_other _ _ _ _ _ _ q hq (fun e => hne (by rw [e]))⟩
theorem range_row (zss : List (List Int)) {n : Nat} (h : zss.length = n) : (List.range n).map (row zss) = zss := by
  subst h
  apply List.ext_getElem?
  intro j
  by_cases hj : j < zss.length
  · unfold row
    simp [hj, List.getD]
  · simp [hj]
theorem cmp_swo (zss : List (List Int)) : SWO (ltOf fun i j : Nat => cmpV (row zss i) (row zss j)) where
  irrefl := fun x => by unfold ltOf; show decide (cmpV (row zss x) (row zss x) < 0) = false; rw [cmpV_refl]; rfl
  trans := fun x y z h1 h2 => by unfold ltOf at *; exact decide_eq_true (cmpV_trans _ _ _ (of_decide_eq_true h1) (of_decide_eq_true h2))
  ntrans := fun x y z h1 h2 => by unfold ltOf at *; exact decide_eq_false (cmpV_ntrans _ _ _ (of_decide_eq_false h1) (of_decide_eq_false h2))

theorem implSortF (g n c lo : Nat) (vs : List Value) (zss : List (List Int)) (w : World) (ho : Own w lo 30 (some ⟨g, 0, none⟩) n c vs) (hr : All2 (Rw w lo fun q => q ≠ g) vs zss) (hl : zss.length = n) (hn : n ≤ 65536) (hz : ∀ j, (row zss j).length ≤ 1048576) :
    Calls Tryz.prog 54 #[.slice (some ⟨g, 0, none⟩) n c, .func (.func 55) #[] #[]] w fun e w' => e = .returned (.tuple #[]) ∧ ∃ vs' L, Own w' lo 30 (some ⟨g, 0, none⟩) n c vs' ∧ All2 (Rw w' lo fun q => q ≠ g) vs' L ∧ L.Perm zss ∧
      (∀ i j, i < j → j < n → ¬ cmpV (row L j) (row L i) < 0) ∧ w.grownBy w' (some g) := by
  have hlen := ho.len
  have eg : ∀ args w, (callFunc 55 args).run Tryz.prog w = .ok (.enter 55 args) w := enters_of Tryz.func55 (by kernel_rfl) rfl
  obtain ⟨enc, henc⟩ : ∃ enc : Nat → Value, enc = fun j => vs.getD j (.slice none 0 0) := ⟨_, rfl⟩
  have hview : ∀ x, Rw w lo (fun q => q ≠ g) (enc x) (row zss x) := by
    intro x
    by_cases hx : x < n
    · obtain ⟨v, h1, h2⟩ := hr.at_ x (by omega)
      have : enc x = v := by rw [henc]; show vs.getD x _ = v; rw [List.getD_eq_getElem?_getD, h1]; rfl
      rw [this]
      exact h2
    · have h1 : enc x = .slice none 0 0 := by rw [henc]; show vs.getD x _ = _; rw [List.getD_eq_getElem?_getD, List.getElem?_eq_none (by omega)]; rfl
      have h2 : row zss x = [] := by unfold row; rw [List.getD_eq_getElem?_getD, List.getElem?_eq_none (by omega)]; rfl
      rw [h1, h2]
      exact ⟨none, 0, 0, rfl, Own.nil_ _ _ _, fun q e => by simp [blk] at e⟩
  obtain ⟨d, hd⟩ : ∃ d : Array Nat, d = (List.range n).toArray := ⟨_, rfl⟩
  have hds : d.size = n := by rw [hd]; simp
  have hdj : ∀ j, j < n → d[j]! = j := by
    intro j hj
    rw [getElem!_pos d j (by omega)]
    subst hd
    simp
  have hH : Holds enc w g 0 d := by
    intro j hj
    rw [hds] at hj
    obtain ⟨g', u, hA, _, _, hu, hc, hf⟩ := ho.at_ hj
    injection hA with hA
    injection hA with hA
    subst hA
    rw [hdj j hj, Nat.zero_add]
    refine ⟨?_, hf⟩
    rw [hc, henc]
    show some u = some (vs.getD j _)
    rw [List.getD_eq_getElem?_getD, hu]
    rfl
  have h1 : OneCell enc := fun x => by
    obtain ⟨B, m, dd, e, _⟩ := hview x
    rw [e]; rfl
  have hcmp : CmpReads Tryz.prog 55 #[] enc (fun i j => cmpV (row zss i) (row zss j)) g 0 d.size w := by
    intro m os dk hs x y
    obtain ⟨B, mB, dB, eB, hB, hB2⟩ := hview x
    obtain ⟨C, mC, dC, eC, hC, hC2⟩ := hview y
    rw [eB, eC]
    have kB : RdI (sortWorld enc w g 0 m dk os) B mB (row zss x) := hB.rd.keep (sortW_size _ _ _ _ _ _) fun q e hq => sortW_other _ _ _ _ _ _ q hq (hB2 q e)
    have kC : RdI (sortWorld enc w g 0 m dk os) C mC (row zss y) := hC.rd.keep (sortW_size _ _ _ _ _ _) fun q e hq => sortW_other _ _ _ _ _ _ q hq (hC2 q e)
    refine (implCompare B C mB mC dB dC _ _ _ kB kC (by rw [← hB.lenI]; exact hz x) (by rw [← hC.lenI]; exact hz y)).mono ?_
    rintro e w' ⟨rfl, hww⟩
    exact ⟨rfl, 0, by rw [← hww]; rfl⟩
  have hblk : g < w.heap.size := (ho.blk_ g rfl).2
  have hcall := Any.slices_SortFunc laysSortF enc h1 (fun i j => cmpV (row zss i) (row zss j)) (cmp_swo zss) 55 #[] g 0 c d w eg hcmp.lays hH hblk (by omega)
  rw [hds] at hcall
  refine hcall.mono ?_
  rintro e w' ⟨rfl, d', m, os, hperm, hsort, rfl⟩
  obtain ⟨p1, _, p3⟩ := hperm
  have hd's : d'.size = n := by omega
  have hpl : d'.toList.Perm (List.range n) := by
    have e1 : d'.extract 0 n = d' := by rw [← hd's]; simp
    have e2 : d.extract 0 n = d := by rw [← hds]; simp
    rw [e1, e2, hd] at p3
    simpa using p3
  refine ⟨rfl, d'.toList.map enc, d'.toList.map (row zss), ?_, ?_, ?_, ?_, sortW_grown _ _ _ _ _ _⟩
  · rcases ho.form with ⟨h0, _⟩ | ⟨g', cur, hA, hbase, hlt, hh, hnc, hcm, hcs, htk⟩
    · cases h0
    injection hA with hA
    injection hA with hA
    subst hA
    refine ⟨by simp [hd's], .inr ⟨g, c, _, rfl, hbase, sortW_same hh, hnc, hcm, by simp [putCells, hcs], ?_⟩⟩
    rw [Nat.mul_one, ← hd's]
    exact take_putN enc cur d' (by omega)
  · refine All2.of_at (by simp) fun k hk => ?_
    have hk' : k < d'.size := by simpa using hk
    refine ⟨enc d'[k], by simp [hk'], ?_⟩
    have e1 : row (d'.toList.map (row zss)) k = row zss d'[k] := by
      unfold row
      simp [List.getD, hk']
    rw [e1]
    exact (hview d'[k]).keep fun q h1 h2 h3 => ⟨sortW_other _ _ _ _ _ _ q h2 h3, h3⟩
  · have := hpl.map (row zss)
    rw [range_row zss hl] at this
    exact this
  · intro i j hij hj
    have h2 := hsort i j (Nat.zero_le _) hij (by omega)
    have e1 : ∀ k, k < n → row (d'.toList.map (row zss)) k = row zss d'[k]! := by
      intro k hk
      rw [getElem!_pos d' k (by omega)]
      unfold row
      simp [List.getD, show k < d'.size by omega]
    rw [e1 i (by omega), e1 j hj]
    unfold ltOf at h2
    exact of_decide_eq_false h2
end Go.Proofs.YtobdkfhmmpigiaaGreat
