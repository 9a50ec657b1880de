/- Chapter 14: settings with an order, the plain part: loops through the outer switches lead back to where they began. -/
import Derived.Test.YtchmmaokommnaaaC14k
import Derived.Test.YtchmmaokommnaaaC14b
namespace Go.Proofs.Ytchmmaokommnaaa
open Go.RowKit Go.Deep
set_option linter.unusedVariables false

def bAt (d : List Bool) (k : Nat) : Bool := d.getD k false
/-- The other place of a switch. -/
def fl (x : Nat) : Nat := if x % 2 = 0 then x + 1 else x - 1
theorem fl_fl (x : Nat) : fl (fl x) = x := by unfold fl; split <;> split <;> omega
theorem fl_ne (x : Nat) : fl x ≠ x := by unfold fl; split <;> omega
theorem fl_half (x : Nat) : fl x / 2 = x / 2 := by unfold fl; split <;> omega
theorem fl_lt {x h : Nat} (hx : x < 2 * h) : fl x < 2 * h := by unfold fl; split <;> omega
theorem half_eq {x y : Nat} (h : x / 2 = y / 2) : x = y ∨ x = fl y := by unfold fl; split <;> omega
theorem fl_xor : ∀ x : Nat, x < 8 → bits .xor .i64 (x : Int) 1 = (fl x : Int) := by decide +kernel
def pN (zs : List Int) (o : Nat) : Nat := (nth zs o).toNat
def qN (zs : List Int) (v : Nat) : Nat := (nth (invTo zs zs.length) v).toNat
/-- An order of 2 h numbers and where each of them stands. -/
structure PQ (zs : List Int) (h : Nat) : Prop where
  len : zs.length = 2 * h
  at_ : ∀ o, o < 2 * h → nth zs o = (pN zs o : Int) ∧ pN zs o < 2 * h
  inv : ∀ v, v < 2 * h → nth (invTo zs zs.length) v = (qN zs v : Int) ∧ qN zs v < 2 * h ∧ pN zs (qN zs v) = v
  back : ∀ o, o < 2 * h → qN zs (pN zs o) = o
theorem nth_set_same {l : List Int} {k : Nat} {x : Int} (h : k < l.length) : nth (l.set k x) k = x := by simp [nth, List.getD, h]
theorem nth_set_ne {l : List Int} {j k : Nat} {x : Int} (h : j ≠ k) : nth (l.set j x) k = nth l k := by simp [nth, List.getD, List.getElem?_set_ne h]
theorem inv_at {zs : List Int} (ho : isOrd zs = true) : ∀ m, m ≤ zs.length → ∀ k, k < m → nth (invTo zs m) (pN zs k) = (k : Int) := by
  intro m
  induction m with
  | zero => intro _ k h; omega
  | succ m ih =>
    intro hm k hk
    obtain ⟨z, hz, hzn⟩ := ord_get ho (show m < zs.length by omega)
    rw [inv_succ hz]
    by_cases e : k = m
    · subst e
      rw [pN, hz, Int.toNat_natCast, nth_set_same (by rw [inv_len]; exact hzn)]
    · have hne := ord_inj ho (show k < m by omega) (by omega)
      obtain ⟨y, hy, hyn⟩ := ord_get ho (show k < zs.length by omega)
      rw [nth_set_ne (by rw [pN, hy, Int.toNat_natCast]; rw [hz, hy] at hne; omega)]
      exact ih (by omega) k (by omega)
/-- Each number up to n stands somewhere. -/
theorem ord_onto {zs : List Int} {n : Nat} (hl : zs.length = n) (ho : isOrd zs = true) : ∀ v, v < n → ∃ o, o < n ∧ pN zs o = v := by
  intro v hv
  refine Classical.byContradiction fun hc => ?_
  have h1 : ∀ o, o < n → pN zs o ≠ v := fun o ho2 e => hc ⟨o, ho2, e⟩
  have key : ((List.range n).map (pN zs)).Nodup := by
    refine List.pairwise_iff_getElem.2 fun i j hi hj hij => ?_
    simp only [List.length_map, List.length_range] at hi hj
    simp only [List.getElem_map, List.getElem_range]
    intro hab
    obtain ⟨y, hy, _⟩ := ord_get ho (show i < zs.length by omega)
    obtain ⟨z, hz, _⟩ := ord_get ho (show j < zs.length by omega)
    rw [pN, pN, hy, hz, Int.toNat_natCast, Int.toNat_natCast] at hab
    exact ord_inj ho hij (by omega) (by rw [hy, hz, hab])
  have hsub : (v :: (List.range n).map (pN zs)).Nodup := List.nodup_cons.2 ⟨fun hm => by
    obtain ⟨o, ho2, e⟩ := List.mem_map.1 hm
    exact h1 o (List.mem_range.1 ho2) e, key⟩
  have hss : (v :: (List.range n).map (pN zs)) ⊆ List.range n := by
    intro x hx
    rcases List.mem_cons.1 hx with rfl | hx
    · exact List.mem_range.2 hv
    · obtain ⟨o, ho2, rfl⟩ := List.mem_map.1 hx
      obtain ⟨y, hy, hyn⟩ := ord_get ho (show o < zs.length by rw [hl]; exact List.mem_range.1 ho2)
      rw [pN, hy, Int.toNat_natCast]
      exact List.mem_range.2 (by omega)
  have := hsub.length_le_of_subset hss
  simp at this
  omega
theorem pq_of {zs : List Int} {h : Nat} (hl : zs.length = 2 * h) (ho : isOrd zs = true) : PQ zs h := by
  have hat : ∀ o, o < 2 * h → nth zs o = (pN zs o : Int) ∧ pN zs o < 2 * h := fun o h1 => by
    obtain ⟨y, hy, hyn⟩ := ord_get ho (show o < zs.length by omega)
    rw [pN, hy, Int.toNat_natCast]
    exact ⟨rfl, by omega⟩
  have hback : ∀ o, o < 2 * h → nth (invTo zs zs.length) (pN zs o) = (o : Int) := fun o h1 => inv_at ho zs.length (Nat.le_refl _) o (by omega)
  have hb2 : ∀ o, o < 2 * h → qN zs (pN zs o) = o := fun o h1 => by rw [qN, hback o h1, Int.toNat_natCast]
  refine ⟨hl, hat, fun v hv => ?_, hb2⟩
  obtain ⟨o, ho2, rfl⟩ := ord_onto hl ho v hv
  rw [hb2 o ho2]
  exact ⟨hback o ho2, ho2, rfl⟩
def tau (zs : List Int) (o : Nat) : Nat := qN zs (fl (pN zs o))
def sg (zs : List Int) (o : Nat) : Nat := fl (tau zs o)
section
variable {zs : List Int} {h : Nat}
theorem tau_lt (H : PQ zs h) {o : Nat} (ho : o < 2 * h) : tau zs o < 2 * h := (H.inv _ (fl_lt (H.at_ o ho).2)).2.1
theorem sg_lt (H : PQ zs h) {o : Nat} (ho : o < 2 * h) : sg zs o < 2 * h := fl_lt (tau_lt H ho)
theorem p_tau (H : PQ zs h) {o : Nat} (ho : o < 2 * h) : pN zs (tau zs o) = fl (pN zs o) := (H.inv _ (fl_lt (H.at_ o ho).2)).2.2
theorem tau_tau (H : PQ zs h) {o : Nat} (ho : o < 2 * h) : tau zs (tau zs o) = o := by
  rw [tau, p_tau H ho, fl_fl]; exact H.back o ho
theorem tau_ne (H : PQ zs h) {o : Nat} (ho : o < 2 * h) : tau zs o ≠ o := fun e => by
  have := p_tau H ho
  rw [e] at this
  exact fl_ne _ this.symm
theorem sg_inj (H : PQ zs h) {a b : Nat} (ha : a < 2 * h) (hb : b < 2 * h) (e : sg zs a = sg zs b) : a = b := by
  have e2 : tau zs a = tau zs b := by
    have := congrArg fl e
    rwa [sg, sg, fl_fl, fl_fl] at this
  rw [← tau_tau H ha, e2, tau_tau H hb]
theorem p_inj (H : PQ zs h) {a b : Nat} (ha : a < 2 * h) (hb : b < 2 * h) (e : pN zs a = pN zs b) : a = b := by
  rw [← H.back a ha, e, H.back b hb]
end
/-- What the loops hold: the settings of the first and the last switches, which switches are done, and the orders of the two inner fabrics. -/
structure SfS where
  f : List Int
  l : List Int
  u : List Int
  w : List Int
  d : List Bool
def sfStep (zs : List Int) (s : SfS) (o : Nat) : SfS :=
  ⟨s.f.set (pN zs o / 2) ((pN zs o % 2 : Nat) : Int), s.l.set (o / 2) ((o % 2 : Nat) : Int), s.u.set (o / 2) ((pN zs o / 2 : Nat) : Int), s.w.set (sg zs o / 2) ((pN zs o / 2 : Nat) : Int), s.d.set (o / 2) true⟩
def sfLoop (zs : List Int) : Nat → SfS → Nat → SfS
  | 0, s, _ => s
  | g + 1, s, o => if bAt s.d (o / 2) = true then s else sfLoop zs g (sfStep zs s o) (sg zs o)
def sfInit (h : Nat) : SfS := ⟨List.replicate h 0, List.replicate h 0, List.replicate h 0, List.replicate h 0, List.replicate h false⟩
def sfRun (zs : List Int) (h : Nat) : Nat → SfS
  | 0 => sfInit h
  | k + 1 => sfLoop zs h (sfRun zs h k) (2 * k)
/-- How many switches are not done. -/
def und (d : List Bool) : Nat := d.count false
theorem und_set {d : List Bool} {k : Nat} (hk : k < d.length) (h : bAt d k = false) : und (d.set k true) + 1 = und d := by
  unfold und
  have he : d[k] = false := by rw [← h, bAt, List.getD, List.getElem?_eq_getElem hk]; rfl
  have h1 := List.count_set (l := d) (i := k) (b := false) (a := true) hk
  have h2 : 0 < d.count false := List.count_pos_iff.2 (by rw [← he]; exact List.getElem_mem hk)
  rw [he] at h1
  simp at h1
  omega
theorem und_zero {d : List Bool} (h : und d = 0) {k : Nat} (hk : k < d.length) : bAt d k = true := by
  cases hb : bAt d k with
  | true => rfl
  | false =>
    have he : d[k] = false := by rw [← hb, bAt, List.getD, List.getElem?_eq_getElem hk]; rfl
    have h2 : 0 < d.count false := List.count_pos_iff.2 (by rw [← he]; exact List.getElem_mem hk)
    unfold und at h
    omega
theorem und_le (d : List Bool) : und d ≤ d.length := List.count_le_length
theorem sfLoop_done {zs : List Int} {s : SfS} {o : Nat} (h : bAt s.d (o / 2) = true) (g : Nat) : sfLoop zs g s o = s := by
  cases g with
  | zero => rfl
  | succ g => rw [sfLoop, if_pos h]
theorem sfLoop_on {zs : List Int} {s : SfS} {o g : Nat} (h : bAt s.d (o / 2) = false) : sfLoop zs (g + 1) s o = sfLoop zs g (sfStep zs s o) (sg zs o) := by
  rw [sfLoop, if_neg (by rw [h]; simp)]
/-- Lists of the right lengths. -/
def SfL (h : Nat) (s : SfS) : Prop := s.f.length = h ∧ s.l.length = h ∧ s.u.length = h ∧ s.w.length = h ∧ s.d.length = h
theorem sfL_step {zs : List Int} {h o : Nat} {s : SfS} (H : SfL h s) : SfL h (sfStep zs s o) := by
  unfold SfL sfStep at *
  simpa using H
theorem sfL_init (h : Nat) : SfL h (sfInit h) := by unfold SfL sfInit; simp
/-- The place that is led through the upper fabric. -/
def Cho (s : SfS) (x : Nat) : Prop := bAt s.d (x / 2) = true ∧ nth s.l (x / 2) = ((x % 2 : Nat) : Int)
theorem cho_lt {s : SfS} {h x : Nat} (H : SfL h s) (hx : Cho s x) : x < 2 * h := by
  have h1 := hx.1
  rcases Nat.lt_or_ge (x / 2) h with hl | hl
  · omega
  · rw [bAt, List.getD, List.getElem?_eq_none (by rw [H.2.2.2.2]; exact hl)] at h1
    cases h1
theorem cho_one {s : SfS} {x y : Nat} (hx : Cho s x) (hy : Cho s y) (e : x / 2 = y / 2) : x = y := by
  have h1 := hx.2
  have h2 := hy.2
  rw [e, h2] at h1
  omega
theorem cho_step {zs : List Int} {s : SfS} {h o : Nat} (H : SfL h s) (ho : o < 2 * h) (hb : bAt s.d (o / 2) = false) (x : Nat) : Cho (sfStep zs s o) x ↔ x = o ∨ Cho s x := by
  unfold Cho sfStep
  by_cases e : o / 2 = x / 2
  · have h1 : bAt (s.d.set (o / 2) true) (x / 2) = true := by
      rw [bAt, List.getD, ← e, List.getElem?_set_self (by rw [H.2.2.2.2]; omega)]; rfl
    have h2 : nth (s.l.set (o / 2) ((o % 2 : Nat) : Int)) (x / 2) = ((o % 2 : Nat) : Int) := by rw [← e]; exact nth_set_same (by rw [H.2.1]; omega)
    simp only [h1, h2]
    rw [← e, hb]
    constructor
    · rintro ⟨_, h3⟩; exact .inl (by omega)
    · rintro (rfl | ⟨h3, _⟩)
      · exact ⟨trivial, rfl⟩
      · cases h3
  · have h1 : bAt (s.d.set (o / 2) true) (x / 2) = bAt s.d (x / 2) := by
      rw [bAt, bAt, List.getD, List.getD, List.getElem?_set_ne e]
    have h2 : nth (s.l.set (o / 2) ((o % 2 : Nat) : Int)) (x / 2) = nth s.l (x / 2) := nth_set_ne e
    simp only [h1, h2]
    constructor
    · intro h3; exact .inr h3
    · rintro (rfl | h3)
      · exact absurd rfl e
      · exact h3
/-- The last switches are 0 or 1. -/
def SBit (s : SfS) : Prop := ∀ k, bAt s.d k = true → nth s.l k = 0 ∨ nth s.l k = 1
def SClosed (zs : List Int) (s : SfS) : Prop := ∀ x, Cho s x → Cho s (sg zs x) ∧ ∃ y, Cho s y ∧ sg zs y = x
def SCyc (zs : List Int) (s : SfS) (b y o : Nat) : Prop :=
  Cho s b ∧ Cho s y ∧ sg zs y = o ∧ (∀ x, Cho s x → x ≠ b → ∃ z, Cho s z ∧ z ≠ y ∧ sg zs z = x) ∧ ∀ x, Cho s x → x ≠ y → Cho s (sg zs x)
def SUp (zs : List Int) (s : SfS) : Prop := ∀ x, Cho s x → nth s.u (x / 2) = ((pN zs x / 2 : Nat) : Int)
/-- What holds at the head of the inner loop: a new loop begins, or one is under way. -/
def Ph (zs : List Int) (s : SfS) (b o : Nat) : Prop :=
  (o = b ∧ bAt s.d (b / 2) = false ∧ SClosed zs s ∧ SUp zs s ∧ ∀ x, Cho s x → nth s.w (x / 2) = ((pN zs (fl x) / 2 : Nat) : Int)) ∨
    ∃ y, SCyc zs s b y o ∧ SUp zs s ∧ ∀ x, (Cho s x ∧ x ≠ b) ∨ x = o → nth s.w (x / 2) = ((pN zs (fl x) / 2 : Nat) : Int)
def Rest (zs : List Int) (s : SfS) : Prop := SClosed zs s ∧ SUp zs s ∧ ∀ x, Cho s x → nth s.w (x / 2) = ((pN zs (fl x) / 2 : Nat) : Int)
section
variable {zs : List Int} {h : Nat} {s : SfS} {b o y : Nat}
/-- The loop leaves only at its beginning. -/
theorem cyc_end (H : PQ zs h) (L : SfL h s) (hB : SBit s) (hc : SCyc zs s b y o) (hd : bAt s.d (o / 2) = true) : o = b := by
  obtain ⟨hb, hy, hyo, h1, h2⟩ := hc
  have hy2 := cho_lt L hy
  have ho2 : o < 2 * h := by rw [← hyo]; exact sg_lt H hy2
  -- the chosen place of o's switch is o or the other one
  have hcase : Cho s o ∨ Cho s (fl o) := by
    by_cases e : nth s.l (o / 2) = ((o % 2 : Nat) : Int)
    · exact .inl ⟨hd, e⟩
    · right
      refine ⟨by rw [fl_half]; exact hd, ?_⟩
      rw [fl_half]
      have h3 := hB _ hd
      unfold fl
      split <;> omega
  rcases hcase with h3 | h3
  · refine Classical.byContradiction fun hne => ?_
    obtain ⟨z, hz, hzy, hzo⟩ := h1 o h3 hne
    exact hzy (sg_inj H (cho_lt L hz) hy2 (by rw [hzo, hyo]))
  · exfalso
    have ht : tau zs y = fl o := by rw [← hyo, sg, fl_fl]
    have hyt : y = tau zs (fl o) := by rw [← ht]; exact (tau_tau H hy2).symm
    by_cases e : fl o = y
    · rw [e] at ht
      exact tau_ne H hy2 ht
    · have h4 := h2 _ h3 e
      have h5 : y = fl (sg zs (fl o)) := by rw [sg, fl_fl]; exact hyt
      have h6 := cho_one hy h4 (by rw [h5]; exact fl_half _)
      rw [← h6] at h5
      exact fl_ne _ h5.symm
theorem sbit_step (H : PQ zs h) (L : SfL h s) (hB : SBit s) (ho : o < 2 * h) : SBit (sfStep zs s o) := by
  intro k hk
  unfold sfStep at hk ⊢
  by_cases e : o / 2 = k
  · subst e
    have h2 : nth (s.l.set (o / 2) ((o % 2 : Nat) : Int)) (o / 2) = ((o % 2 : Nat) : Int) := nth_set_same (by rw [L.2.1]; omega)
    show nth (s.l.set (o / 2) ((o % 2 : Nat) : Int)) (o / 2) = 0 ∨ nth (s.l.set (o / 2) ((o % 2 : Nat) : Int)) (o / 2) = 1
    rw [h2]; omega
  · have h1 : bAt (s.d.set (o / 2) true) k = bAt s.d k := by rw [bAt, bAt, List.getD, List.getD, List.getElem?_set_ne e]
    have h2 : nth (s.l.set (o / 2) ((o % 2 : Nat) : Int)) k = nth s.l k := nth_set_ne e
    show nth (s.l.set (o / 2) ((o % 2 : Nat) : Int)) k = 0 ∨ nth (s.l.set (o / 2) ((o % 2 : Nat) : Int)) k = 1
    rw [h2]
    exact hB k (by rw [← h1]; exact hk)
theorem ph_lt (H : PQ zs h) (L : SfL h s) (hb : b < 2 * h) (hp : Ph zs s b o) : o < 2 * h := by
  rcases hp with ⟨rfl, _⟩ | ⟨y, hc, _⟩
  · exact hb
  · rw [← hc.2.2.1]; exact sg_lt H (cho_lt L hc.2.1)
/-- The loop has come to its end: all is as it should be. -/
theorem ph_end (H : PQ zs h) (L : SfL h s) (hB : SBit s) (hp : Ph zs s b o) (hd : bAt s.d (o / 2) = true) : Rest zs s := by
  rcases hp with ⟨rfl, h1, _⟩ | ⟨y, hc, hu, hw⟩
  · rw [hd] at h1; cases h1
  · have he := cyc_end H L hB hc hd
    obtain ⟨h1, h2, h3, h4, h5⟩ := hc
    subst he
    refine ⟨fun x hx => ⟨?_, ?_⟩, hu, fun x hx => ?_⟩
    · by_cases e : x = y
      · rw [e, h3]; exact h1
      · exact h5 x hx e
    · by_cases e : x = o
      · exact ⟨y, h2, by rw [h3, e]⟩
      · obtain ⟨z, hz, _, hz2⟩ := h4 x hx e
        exact ⟨z, hz, hz2⟩
    · by_cases e : x = o
      · exact hw x (.inr e)
      · exact hw x (.inl ⟨hx, e⟩)
/-- One step of the loop. -/
theorem ph_step (H : PQ zs h) (L : SfL h s) (hB : SBit s) (hb : b < 2 * h) (hp : Ph zs s b o) (hd : bAt s.d (o / 2) = false) : Ph zs (sfStep zs s o) b (sg zs o) := by
  have ho := ph_lt H L hb hp
  have hch := cho_step (zs := zs) L ho hd
  have L2 := sfL_step (zs := zs) (o := o) L
  have hB2 := sbit_step H L hB ho
  have hno : ¬ Cho s o := fun hx => by rw [hx.1] at hd; cases hd
  have hcy : SCyc zs (sfStep zs s o) b o (sg zs o) := by
    rcases hp with ⟨rfl, h1, hcl, _⟩ | ⟨y, hc, _⟩
    · refine ⟨(hch o).2 (.inl rfl), (hch o).2 (.inl rfl), rfl, fun x hx hne => ?_, fun x hx hne => ?_⟩
      · rcases (hch x).1 hx with rfl | hx
        · exact absurd rfl hne
        · obtain ⟨z, hz, hz2⟩ := (hcl x hx).2
          exact ⟨z, (hch z).2 (.inr hz), fun e => hno (e ▸ hz), hz2⟩
      · rcases (hch x).1 hx with rfl | hx
        · exact absurd rfl hne
        · exact (hch _).2 (.inr (hcl x hx).1)
    · obtain ⟨h1, h2, h3, h4, h5⟩ := hc
      refine ⟨(hch b).2 (.inr h1), (hch o).2 (.inl rfl), rfl, fun x hx hne => ?_, fun x hx hne => ?_⟩
      · rcases (hch x).1 hx with rfl | hx
        · exact ⟨y, (hch y).2 (.inr h2), fun e => hno (e ▸ h2), h3⟩
        · obtain ⟨z, hz, _, hz2⟩ := h4 x hx hne
          exact ⟨z, (hch z).2 (.inr hz), fun e => hno (e ▸ hz), hz2⟩
      · rcases (hch x).1 hx with rfl | hx
        · exact absurd rfl hne
        · by_cases e : x = y
          · rw [e, h3]; exact (hch o).2 (.inl rfl)
          · exact (hch _).2 (.inr (h5 x hx e))
  have hup : SUp zs (sfStep zs s o) := by
    have hu : SUp zs s := by rcases hp with ⟨_, _, _, hu, _⟩ | ⟨y, _, hu, _⟩ <;> exact hu
    intro x hx
    show nth (s.u.set (o / 2) ((pN zs o / 2 : Nat) : Int)) (x / 2) = _
    rcases (hch x).1 hx with rfl | hx
    · exact nth_set_same (by rw [L.2.2.1]; omega)
    · rw [nth_set_ne (fun e => by have h1 := hx.1; rw [← e, hd] at h1; cases h1)]
      exact hu x hx
  refine .inr ⟨o, hcy, hup, fun x hx => ?_⟩
  show nth (s.w.set (sg zs o / 2) ((pN zs o / 2 : Nat) : Int)) (x / 2) = _
  have hso := sg_lt H ho
  have hval : pN zs (fl (sg zs o)) / 2 = pN zs o / 2 := by rw [sg, fl_fl, p_tau H ho, fl_half]
  by_cases e : x = sg zs o
  · subst e
    rw [hval]
    exact nth_set_same (by rw [L.2.2.2.1]; omega)
  · rcases hx with ⟨hx, hxb⟩ | hx
    · have hxs : sg zs o / 2 ≠ x / 2 := fun e2 => by
        have h6 := cyc_end H L2 hB2 hcy (by rw [e2]; exact hx.1)
        rw [h6] at e e2
        have h7 := cho_one hx hcy.1 e2.symm
        exact e h7
      rw [nth_set_ne hxs]
      rcases (hch x).1 hx with rfl | hx2
      · rcases hp with ⟨h8, _⟩ | ⟨y, _, _, hw⟩
        · exact absurd h8 hxb
        · exact hw x (.inr rfl)
      · rcases hp with ⟨_, _, _, _, hw⟩ | ⟨y, _, _, hw⟩
        · exact hw x hx2
        · exact hw x (.inl ⟨hx2, hxb⟩)
    · exact absurd hx e
end
/-- One loop: from rest to rest. -/
theorem loop_rest {zs : List Int} {h b : Nat} (H : PQ zs h) (hb : b < 2 * h) : ∀ g s o, SfL h s → SBit s → und s.d ≤ g → Ph zs s b o →
    SfL h (sfLoop zs g s o) ∧ SBit (sfLoop zs g s o) ∧ Rest zs (sfLoop zs g s o) ∧ bAt (sfLoop zs g s o).d (b / 2) = true ∧ ∀ k, bAt s.d k = true → bAt (sfLoop zs g s o).d k = true := by
  intro g
  induction g with
  | zero =>
    intro s o L hB hg hp
    have hd : bAt s.d (o / 2) = true := und_zero (by omega) (by rw [L.2.2.2.2]; have := ph_lt H L hb hp; omega)
    have hbd : bAt s.d (b / 2) = true := by
      rcases hp with ⟨rfl, _⟩ | ⟨y, hc, _⟩
      · exact hd
      · exact hc.1.1
    exact ⟨L, hB, ph_end H L hB hp hd, hbd, fun k hk => hk⟩
  | succ g ih =>
    intro s o L hB hg hp
    have ho := ph_lt H L hb hp
    cases hd : bAt s.d (o / 2) with
    | true =>
      rw [sfLoop_done hd]
      have hbd : bAt s.d (b / 2) = true := by
        rcases hp with ⟨rfl, _⟩ | ⟨y, hc, _⟩
        · exact hd
        · exact hc.1.1
      exact ⟨L, hB, ph_end H L hB hp hd, hbd, fun k hk => hk⟩
    | false =>
      rw [sfLoop_on hd]
      have hlen : o / 2 < s.d.length := by rw [L.2.2.2.2]; omega
      have hu := und_set hlen hd
      obtain ⟨h1, h2, h3, h4, h5⟩ := ih (sfStep zs s o) (sg zs o) (sfL_step L) (sbit_step H L hB ho) (by show und (s.d.set (o / 2) true) ≤ g; omega) (ph_step H L hB hb hp hd)
      refine ⟨h1, h2, h3, h4, fun k hk => h5 k ?_⟩
      show bAt (s.d.set (o / 2) true) k = true
      by_cases e : o / 2 = k
      · subst e
        rw [bAt, List.getD, List.getElem?_set_self hlen]; rfl
      · rw [bAt, List.getD, List.getElem?_set_ne e]; exact hk
theorem bAt_init (h k : Nat) : bAt (sfInit h).d k = false := by
  unfold bAt sfInit
  rw [List.getD, List.getElem?_replicate]
  split <;> rfl
theorem cho_init {h x : Nat} (hx : Cho (sfInit h) x) : False := by
  have := hx.1
  rw [bAt_init] at this
  cases this
theorem run_rest {zs : List Int} {h : Nat} (H : PQ zs h) : ∀ k, k ≤ h → SfL h (sfRun zs h k) ∧ SBit (sfRun zs h k) ∧ Rest zs (sfRun zs h k) ∧ ∀ j, j < k → bAt (sfRun zs h k).d j = true := by
  intro k
  induction k with
  | zero =>
    intro _
    refine ⟨sfL_init h, fun k hk => ?_, ⟨fun x hx => (cho_init hx).elim, fun x hx => (cho_init hx).elim, fun x hx => (cho_init hx).elim⟩, fun j hj => by omega⟩
    have hk2 : bAt (sfInit h).d k = true := hk
    rw [bAt_init] at hk2
    cases hk2
  | succ k ih =>
    intro hk
    obtain ⟨L, hB, hR, hd⟩ := ih (by omega)
    rw [sfRun]
    cases hb : bAt (sfRun zs h k).d k with
    | true =>
      rw [sfLoop_done (by rw [show 2 * k / 2 = k by omega]; exact hb)]
      refine ⟨L, hB, hR, fun j hj => ?_⟩
      by_cases e : j = k
      · subst e; exact hb
      · exact hd j (by omega)
    | false =>
      have hu := und_le (sfRun zs h k).d
      rw [L.2.2.2.2] at hu
      obtain ⟨h1, h2, h3, h4, h5⟩ := loop_rest (b := 2 * k) H (by omega) h (sfRun zs h k) (2 * k) L hB hu (.inl ⟨rfl, by rw [show 2 * k / 2 = k by omega]; exact hb, hR.1, hR.2.1, hR.2.2⟩)
      refine ⟨h1, h2, h3, fun j hj => ?_⟩
      by_cases e : j = k
      · subst e; rw [show 2 * j / 2 = j by omega] at h4; exact h4
      · exact h5 j (hd j (by omega))
/-- The orders of the inner fabrics, out of the last switches. -/
def upL (zs l : List Int) (h : Nat) : List Int := (List.range h).map fun k => ((pN zs (2 * k + (nth l k).toNat) / 2 : Nat) : Int)
def loL (zs l : List Int) (h : Nat) : List Int := (List.range h).map fun k => ((pN zs (2 * k + 1 - (nth l k).toNat) / 2 : Nat) : Int)
theorem upL_len (zs l : List Int) (h : Nat) : (upL zs l h).length = h := by simp [upL]
theorem loL_len (zs l : List Int) (h : Nat) : (loL zs l h).length = h := by simp [loL]
theorem upL_nth {zs l : List Int} {h k : Nat} (hk : k < h) : nth (upL zs l h) k = ((pN zs (2 * k + (nth l k).toNat) / 2 : Nat) : Int) := by simp [nth, upL, List.getD, hk]
theorem loL_nth {zs l : List Int} {h k : Nat} (hk : k < h) : nth (loL zs l h) k = ((pN zs (2 * k + 1 - (nth l k).toNat) / 2 : Nat) : Int) := by simp [nth, loL, List.getD, hk]
theorem list_ext {xs ys : List Int} {h : Nat} (h1 : xs.length = h) (h2 : ys.length = h) (he : ∀ k, k < h → nth xs k = nth ys k) : xs = ys := by
  apply List.ext_getElem (by omega)
  intro k hk1 hk2
  have := he k (by omega)
  rwa [nth_eq hk1, nth_eq hk2] at this
/-- A list with each number up to its length, none twice, is an order. -/
theorem ord_of {zs : List Int} {n : Nat} (hl : zs.length = n) (h1 : ∀ k, k < n → ∃ z : Nat, nth zs k = z ∧ z < n) (h2 : ∀ i k, i < k → k < n → nth zs i ≠ nth zs k) : isOrd zs = true := by
  have key : ∀ k, k ≤ n → ordTo zs k = true := by
    intro k
    induction k with
    | zero => intro _; rw [ordTo]
    | succ k ih =>
      intro hk
      obtain ⟨z, hz, hzn⟩ := h1 k (by omega)
      refine ord_step (ih (by omega)) hz (by omega) ?_
      unfold inPfx
      rw [decide_eq_false_iff_not]
      intro hm
      obtain ⟨i, hi, he⟩ := List.mem_take_iff_getElem.1 hm
      have hi2 : i < zs.length := by omega
      exact h2 i k (by omega) (by omega) (by rw [nth_eq hi2, he, hz])
  rw [isOrd, hl]
  exact key n (Nat.le_refl _)
theorem half_two {x y : Nat} (h : x / 2 = y / 2) (hne : x ≠ y) : x = fl y := by rcases half_eq h with e | e; exact absurd e hne; exact e
/-- All that the loops leave. -/
theorem run_out {zs : List Int} {h : Nat} (H : PQ zs h) : SfL h (sfRun zs h h) ∧ (∀ k, k < h → ∃ b : Nat, nth (sfRun zs h h).l k = b ∧ b ≤ 1) ∧ (sfRun zs h h).u = upL zs (sfRun zs h h).l h ∧ (sfRun zs h h).w = loL zs (sfRun zs h h).l h ∧
    isOrd (upL zs (sfRun zs h h).l h) = true ∧ isOrd (loL zs (sfRun zs h h).l h) = true := by
  have hR := run_rest H h (Nat.le_refl _)
  obtain ⟨s, hs⟩ : ∃ s, sfRun zs h h = s := ⟨_, rfl⟩
  rw [hs] at hR ⊢
  obtain ⟨L, hB, ⟨hC, hU, hW⟩, hd⟩ := hR
  have hbit : ∀ k, k < h → ∃ b : Nat, nth s.l k = b ∧ b ≤ 1 := fun k hk => by
    rcases hB k (hd k hk) with e | e
    · exact ⟨0, e, by omega⟩
    · exact ⟨1, e, by omega⟩
  have hcho : ∀ k, k < h → Cho s (2 * k + (nth s.l k).toNat) ∧ (2 * k + (nth s.l k).toNat) / 2 = k ∧ fl (2 * k + (nth s.l k).toNat) = 2 * k + 1 - (nth s.l k).toNat := fun k hk => by
    obtain ⟨b, hb, hb1⟩ := hbit k hk
    rw [hb, Int.toNat_natCast]
    have e1 : (2 * k + b) / 2 = k := by omega
    have e2 : (2 * k + b) % 2 = b := by omega
    refine ⟨⟨by rw [e1]; exact hd k hk, by rw [e1, e2]; exact hb⟩, e1, ?_⟩
    unfold fl
    split <;> omega
  have hu : s.u = upL zs s.l h := list_ext L.2.2.1 (upL_len _ _ _) fun k hk => by
    obtain ⟨h1, h2, _⟩ := hcho k hk
    have h3 := hU _ h1
    rw [h2] at h3
    rw [h3, upL_nth hk]
  have hw : s.w = loL zs s.l h := list_ext L.2.2.2.1 (loL_len _ _ _) fun k hk => by
    obtain ⟨h1, h2, h4⟩ := hcho k hk
    have h3 := hW _ h1
    rw [h2] at h3
    rw [h3, loL_nth hk, h4]
  refine ⟨L, hbit, hu, hw, ord_of (upL_len _ _ _) (fun k hk => ?_) (fun i k hik hk he => ?_), ord_of (loL_len _ _ _) (fun k hk => ?_) (fun i k hik hk he => ?_)⟩
  · have h1 := cho_lt L (hcho k hk).1
    exact ⟨_, upL_nth hk, by have := (H.at_ _ h1).2; omega⟩
  · rw [upL_nth (by omega), upL_nth hk] at he
    obtain ⟨hi1, hi2, _⟩ := hcho i (by omega)
    obtain ⟨hk1, hk2, _⟩ := hcho k hk
    obtain ⟨x, hx⟩ : ∃ x, 2 * i + (nth s.l i).toNat = x := ⟨_, rfl⟩
    obtain ⟨y, hy⟩ : ∃ y, 2 * k + (nth s.l k).toNat = y := ⟨_, rfl⟩
    rw [hx] at he hi1 hi2
    rw [hy] at he hk1 hk2
    have hxl := cho_lt L hi1
    have hyl := cho_lt L hk1
    have hne : pN zs x ≠ pN zs y := fun e => by have := p_inj H hxl hyl e; omega
    have hf := half_two (show pN zs y / 2 = pN zs x / 2 by omega) (fun e => hne e.symm)
    have h5 : y = tau zs x := by rw [tau, ← hf]; exact (H.back y hyl).symm
    have h6 : y = fl (sg zs x) := by rw [sg, fl_fl]; exact h5
    have h7 := cho_one hk1 (hC x hi1).1 (by rw [h6]; exact fl_half _)
    rw [← h7] at h6
    exact fl_ne _ h6.symm
  · have h1 := cho_lt L (hcho k hk).1
    refine ⟨_, loL_nth hk, ?_⟩
    rw [← (hcho k hk).2.2]
    have := (H.at_ _ (fl_lt h1)).2
    omega
  · rw [loL_nth (by omega), loL_nth hk, ← (hcho i (by omega)).2.2, ← (hcho k hk).2.2] at he
    obtain ⟨hi1, hi2, _⟩ := hcho i (by omega)
    obtain ⟨hk1, hk2, _⟩ := hcho k hk
    obtain ⟨x, hx⟩ : ∃ x, 2 * i + (nth s.l i).toNat = x := ⟨_, rfl⟩
    obtain ⟨y, hy⟩ : ∃ y, 2 * k + (nth s.l k).toNat = y := ⟨_, rfl⟩
    rw [hx] at he hi1 hi2
    rw [hy] at he hk1 hk2
    have hxl := cho_lt L hi1
    have hyl := cho_lt L hk1
    have hne : pN zs (fl x) ≠ pN zs (fl y) := fun e => by
      have h1 := p_inj H (fl_lt hxl) (fl_lt hyl) e
      have h2 := congrArg (· / 2) h1
      simp only [fl_half] at h2
      omega
    have hf := half_two (show pN zs (fl y) / 2 = pN zs (fl x) / 2 by omega) (fun e => hne e.symm)
    have h5 : fl y = tau zs (fl x) := by rw [tau, ← hf]; exact (H.back _ (fl_lt hyl)).symm
    obtain ⟨z, hz, hzx⟩ := (hC x hi1).2
    have h6 : tau zs z = fl x := by rw [← hzx, sg, fl_fl]
    have h7 : z = fl y := by rw [h5, ← h6]; exact (tau_tau H (cho_lt L hz)).symm
    have h8 := cho_one hz hk1 (by rw [h7]; exact fl_half _)
    rw [h8] at h7
    exact fl_ne _ h7.symm

end Go.Proofs.Ytchmmaokommnaaa
