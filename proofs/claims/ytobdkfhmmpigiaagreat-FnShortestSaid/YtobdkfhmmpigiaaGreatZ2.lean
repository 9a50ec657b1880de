/- FnShortest: impl.CountNetworks. -/
import Derived.Test.YtobdkfhmmpigiaaGreatZ1
import Derived.Deep.RegionHeld3
namespace Go.Proofs.YtobdkfhmmpigiaaGreat
open Go.RowKit Go.Deep
set_option linter.unusedVariables false

theorem below_drew2 {B : Nat} {a b : World} (h : Below B a.drew b) : Below B a b := ⟨h.os, h.tape, h.output, h.size, h.block⟩
/-- How many lists end in the sets of sorted masks. -/
def seeK (n : Nat) (zss : List (List Int)) (set : List Int) (s : Nat) : Nat × Bool := (if set.length = n + 1 then s + 1 else s, false)
theorem seeK_on {n : Nat} {zss : List (List Int)} {set : List Int} {s : Nat} (h : set.length = n + 1) : seeK n zss set s = (s + 1, false) := by rw [seeK, if_pos h]
theorem seeK_off {n : Nat} {zss : List (List Int)} {set : List Int} {s : Nat} (h : ¬ set.length = n + 1) : seeK n zss set s = (s, false) := by rw [seeK, if_neg h]
def cntI (n K : Nat) : Nat := (runL n (seeK n) K [] (marks 0 (2 ^ n)) 0).1
/-- What the closure holds: the number of wires and the count, in their boxes. -/
structure StK (bn bm n s : Nat) (D : Nat → Prop) (w : World) : Prop where
  hn : w.heap[bn]? = some (.cells #[.int .i64 (n : Int)] 3 (0, 0))
  hm : w.heap[bm]? = some (.cells #[.int .i64 (RowKit.wrap64 (s : Int))] 3 (0, 0))
  hne : bn ≠ bm
  hD : D = fun g => g = bm
theorem StK.lt {bn bm n s : Nat} {D : Nat → Prop} {w : World} (h : StK bn bm n s D w) : ∀ g, D g → g < w.heap.size := by
  intro g hg
  rw [h.hD] at hg
  have hg : g = bm := hg
  rw [hg]
  exact lt_heap h.hm
theorem StK.below {bn bm n s : Nat} {D : Nat → Prop} {w w' : World} (h : StK bn bm n s D w) (hb : Below w.heap.size w w') : StK bn bm n s D w' :=
  { h with hn := by rw [hb.block _ (lt_heap h.hn)]; exact h.hn
           hm := by rw [hb.block _ (lt_heap h.hm)]; exact h.hm }
theorem wrap_next (s : Nat) : RowKit.wrap64 (RowKit.wrap64 (s : Int) + 1) = RowKit.wrap64 ((s + 1 : Nat) : Int) := by
  unfold RowKit.wrap64
  omega

set_option maxHeartbeats 1000000 in
theorem implCnt1 (bn bm n s : Nat) (D : Nat → Prop) (w : World) (A : Option Addr) (l c : Nat) (zss : List (List Int)) (B : Option Addr) (m d : Nat) (set : List Int) (hI : StK bn bm n s D w) (hm : set.length = m) (hn : n ≤ 4) (hm16 : m ≤ 16) :
    Calls Tryz.prog 31 #[.slice A l c, .slice B m d, .pointer (some ⟨bn, 0, none⟩), .pointer (some ⟨bm, 0, none⟩)] w fun e w' => e = .returned (.bool (seeK n zss set s).2) ∧ ∃ D', StK bn bm n (seeK n zss set s).1 D' w' ∧ Fr D D' w w' := by
  have c1 : w.cell? ⟨bn, 0, none⟩ = some (.int .i64 (n : Int)) := cell_of_one hI.hn
  have c2 : w.cell? ⟨bm, 0, none⟩ = some (.int .i64 (RowKit.wrap64 (s : Int))) := cell_of_one hI.hm
  have f2 : w.frozen? ⟨bm, 0, none⟩ = false := free_of_one hI.hm
  have HI := Lib.hid hI
  by_cases he : m = n + 1
  · have HE := Lib.hid (show seeK n zss set s = (s + 1, false) from seeK_on (by rw [hm]; exact he))
    have hw := wrap_next s
    obtain ⟨v, hv⟩ : ∃ v, RowKit.wrap64 (s : Int) = v := ⟨_, rfl⟩
    obtain ⟨v2, hv2⟩ : ∃ v, RowKit.wrap64 ((s + 1 : Nat) : Int) = v := ⟨_, rfl⟩
    have HV2 := Lib.hid hv2
    have e1 : ((m : Int) == (n : Int) + 1) = true := by simp; omega
    rw [hv] at c2 hw
    rw [hv2] at hw
    clear hv hv2 hI hm
    go_enter Tryz.func31, Tryz.ntmps31
    go_wp2_with fail
    go_ret
    refine ⟨by rw [HE.out]; rfl, D, ?_, ?_⟩
    · rw [HE.out]
      refine { hn := ?_, hm := ?_, hne := HI.out.hne, hD := HI.out.hD }
      · rw [Below.heap_setCell w ⟨bm, 0, none⟩ _ bn HI.out.hne]; exact HI.out.hn
      · rw [show RowKit.wrap64 (((s + 1, false) : Nat × Bool).1 : Int) = v2 from HV2.out]
        first | exact one_setCell HI.out.hm | (rw [← hw]; exact one_setCell HI.out.hm)
    · refine ⟨rfl, rfl, rfl, by simp [World.setCell], fun g hg hd => Below.heap_setCell w ⟨bm, 0, none⟩ _ g (fun e => hd (by rw [HI.out.hD]; exact e)), fun g _ h => h⟩
  · have HE := Lib.hid (show seeK n zss set s = (s, false) from seeK_off (by rw [hm]; exact he))
    have e1 : ((m : Int) == (n : Int) + 1) = false := by simp; omega
    clear hI hm
    go_enter Tryz.func31, Tryz.ntmps31
    go_wp2_with fail
    go_ret
    exact ⟨by rw [HE.out]; rfl, D, by rw [HE.out]; exact HI.out, Fr.refl _ _⟩

set_option maxHeartbeats 4000000 in
theorem implCountN (n K : Nat) (w : World) (h1 : 1 ≤ n) (h4 : n ≤ 4) (hK : K ≤ 5) : Calls Tryz.prog 14 #[.int .i64 n, .int .i64 K] w fun e w' => e = .returned (.int .i64 (RowKit.wrap64 (cntI n K : Nat))) ∧ Below w.heap.size w w' := by
  have CC := Lib.hid (fun wx => implCounted (n : Int) (K : Int) wx)
  have HD := Lib.hid (show decide (((1 : Int) ≤ n ∧ (n : Int) ≤ 4) ∧ (0 : Int) ≤ K ∧ (K : Int) ≤ 5) = true from decide_eq_true (by omega))
  obtain ⟨b, hb⟩ : ∃ b, w.heap.size = b := ⟨_, rfl⟩
  obtain ⟨W1, hW1⟩ : ∃ W, w.alloc (.cells #[.int .i64 (n : Int)] 3) = W := ⟨_, rfl⟩
  have z1 : W1.heap.size = b + 1 := by rw [← hW1]; simp [hb]
  have b1 : Below b w W1 := hW1 ▸ (hb ▸ below_alloc w _)
  have k1 : W1.heap[b]? = some (.cells #[.int .i64 (n : Int)] 3 (0, 0)) := by have h := heap_alloc_new w (.cells #[.int .i64 (n : Int)] 3); rw [hb, hW1] at h; exact h
  obtain ⟨W2, hW2⟩ : ∃ W, W1.alloc (.cells #[.int .i64 0] 3) = W := ⟨_, rfl⟩
  have z2 : W2.heap.size = b + 2 := by rw [← hW2]; simp [z1]
  have b2 : Below (b + 1) W1 W2 := by have h := below_alloc W1 (.cells #[.int .i64 0] 3); rw [z1, hW2] at h; exact h
  have k2 : W2.heap[b]? = some (.cells #[.int .i64 (n : Int)] 3 (0, 0)) := by rw [b2.block b (by omega)]; exact k1
  have k3 : W2.heap[b + 1]? = some (.cells #[.int .i64 0] 3 (0, 0)) := by have h := heap_alloc_new W1 (.cells #[.int .i64 0] 3); rw [z1, hW2] at h; exact h
  have q1 : W1.cell? ⟨b, 0, none⟩ = some (.int .i64 (n : Int)) := cell_of_one k1
  have q2 : W2.cell? ⟨b, 0, none⟩ = some (.int .i64 (n : Int)) := cell_of_one k2
  have HST := Lib.hid (show StK b (b + 1) n 0 (fun g => g = b + 1) W2 from { hn := k2, hm := (by rw [show RowKit.wrap64 ((0 : Nat) : Int) = 0 from by unfold RowKit.wrap64; omega]; exact k3), hne := by omega, hD := rfl })
  have HBW := Lib.hid (b1.trans (b2.mono (by omega)))
  obtain ⟨N, hN⟩ : ∃ N, 2 ^ n = N := ⟨_, rfl⟩
  have CM := Lib.hid (fun wx (hx : b + 2 ≤ wx.heap.size) => show Calls Tryz.prog 22 #[.int .i64 n] wx fun e w' => ∃ A m c, e = .returned (.slice A m c) ∧ OwnI w' wx.heap.size 3 A m c (marks 0 N) ∧ Below wx.heap.size wx w' from hN ▸ implMasks n wx h4)
  have eg : ∀ args w, (callFunc 31 args).run Tryz.prog w = .ok (.enter 31 args) w := enters_of Tryz.func31 (by kernel_rfl) rfl
  have CL := Lib.hid (fun (wx : World) (A : Option Addr) (m c : Nat) (ho : OwnI wx (b + 2) 3 A m c (marks 0 N)) (hI : StK b (b + 1) n 0 (fun g => g = b + 1) wx) =>
    implLists (σ := Nat) n (b + 2) h4 (StK b (b + 1) n) (seeK n) 31 #[.pointer (some ⟨b, 0, none⟩), .pointer (some ⟨b + 1, 0, none⟩)] (fun s D w h => h.lt) (fun s D w w' h hb => h.below hb) eg
      (fun s D w A l c zss B m d set h1 h2 h3 h4' h5 h6 h7 => by
        have h := implCnt1 b (b + 1) n s D w A l c zss B m d set h1 h6.2.1 h4 h6.2.2
        simpa using h) K (by omega) 0 (fun g => g = b + 1) wx none 0 0 [] A m c (marks 0 N) hI (by have := lt_heap hI.hm; omega) ho
        (fun g hg hd => by have h3 := (ho.blk_ g hg).1; have hd : g = b + 1 := hd; omega) (RdX.nil_ _ _ _) (by have hg := good_marks h4; rw [hN] at hg; have := ho.lenI; rw [marks_len] at this; subst this; exact hg) (by omega))
  have hCI : (runL n (seeK n) K [] (marks 0 N) 0).1 = cntI n K := by rw [← hN]; rfl
  rw [hCI] at CL
  have HW1 := Lib.hid hW1
  have HW2 := Lib.hid hW2
  clear hW1 hW2 b1 b2 k1 k2 k3 eg hN hCI
  go_enter Tryz.func14, Tryz.ntmps14
  go_wp2_with fail
  rw [HW1.out]
  refine (CC.out _).mono ?_
  rintro e w' ⟨rfl, hww⟩
  obtain rfl := hww
  rw [HD.out]
  go_wp2_with fail
  rw [HW2.out]
  refine wp_region_held_drew (S := (fun w' => w'.cell? ⟨b, 0, none⟩ = some (.int .i64 (n : Int)))) (by kernel_rfl) ?_ (fun hHeld => ?_)
  · exact q2
  refine wpAnyH_take (i := 0) (oi := { dst := _, op := _, type := _, pos := _, after := _, guard := none }) (v := ?_) rfl (by kernel_rfl) (by kernel_rfl) (by kernel_rfl) (fun _ _ _ h => h) (Or.inl ⟨by rfl, ?_⟩) (by assumption) ?_
  rotate_left
  · intro w hSw; (try dsimp only at hSw); go_simp; (try with_reducible rfl)
  try simp only [Act.put, List.setIfInBounds_toArray, List.set_cons_zero, List.set_cons_succ]
  refine wpAnyH_take (i := 1) (oi := { dst := _, op := _, type := _, pos := _, after := _, guard := none }) (v := ?_) rfl (by kernel_rfl) (by kernel_rfl) (by kernel_rfl) (fun _ _ _ h => h) (Or.inl ⟨by rfl, ?_⟩) (by assumption) ?_
  rotate_left
  · intro w hSw; (try dsimp only at hSw); go_simp; (try with_reducible rfl)
  try simp only [Act.put, List.setIfInBounds_toArray, List.set_cons_zero, List.set_cons_succ]
  refine wpAnyH_take (i := 2) (oi := { dst := _, op := _, type := _, pos := _, after := _, guard := none }) (v := ?_) rfl (by kernel_rfl) (by kernel_rfl) (by kernel_rfl) (fun _ _ _ h => h) (Or.inl ⟨by rfl, ?_⟩) (by assumption) ?_
  rotate_left
  · intro w hSw; (try dsimp only at hSw); go_simp; (try with_reducible rfl)
  try simp only [Act.put, List.setIfInBounds_toArray, List.set_cons_zero, List.set_cons_succ]
  refine wpAnyH_take (i := 4) (oi := { dst := _, op := _, type := _, pos := _, after := _, guard := none }) (v := ?_) rfl (by kernel_rfl) (by kernel_rfl) (by kernel_rfl) (fun _ _ _ h => h) (Or.inl ⟨by rfl, ?_⟩) (by assumption) ?_
  rotate_left
  · intro w hSw; (try dsimp only at hSw); go_simp; (try with_reducible rfl)
  try simp only [Act.put, List.setIfInBounds_toArray, List.set_cons_zero, List.set_cons_succ]
  refine wpAnyH_ready (rs := [3]) (by kernel_rfl) (by simp) ?_
  refine AllReadyH.cons rfl (fun K hK => ?_) AllReadyH.nil
  go_simp
  refine (CM.out W2.drew (by show b + 2 ≤ W2.heap.size; omega)).mono ?_
  rintro e w5 ⟨A5, m5, c5, rfl, ho5, hb5⟩
  have hsz5 : b + 2 ≤ w5.heap.size := by have h := hb5.size; have h2 : W2.drew.heap.size = W2.heap.size := rfl; omega
  have s5 := (hb5.cell (p := ⟨b, 0, none⟩) (by show b < W2.heap.size; omega)).trans q2
  try go_simp
  refine hK.out _ _ s5 (fun hHeld1 => ?_)
  clear hK K
  try simp only [Act.put, List.setIfInBounds_toArray, List.set_cons_zero, List.set_cons_succ]
  refine wpAnyH_ready (rs := [5]) (by kernel_rfl) (by simp) ?_
  refine AllReadyH.cons rfl (fun K hK => ?_) AllReadyH.nil
  go_simp
  refine (CL.out w5 A5 m5 c5 (by rw [← z2]; exact ho5) (HST.out.below (below_drew2 hb5))).mono ?_
  rintro e w6 ⟨rfl, D6, hI6, hF6⟩
  have s6 : w6.cell? ⟨b, 0, none⟩ = some (.int .i64 (n : Int)) := cell_of_one hI6.hn
  try go_simp
  refine hK.out _ _ s6 (fun hHeld2 => ?_)
  clear hK K
  try simp only [Act.put, List.setIfInBounds_toArray, List.set_cons_zero, List.set_cons_succ]
  refine wpAnyH_done (by kernel_rfl) ?_ _
  have cm6 : w6.cell? ⟨b + 1, 0, none⟩ = some (.int .i64 (RowKit.wrap64 (cntI n K : Nat))) := cell_of_one hI6.hm
  have HBF := Lib.hid (HBW.out.trans ((below_drew2 hb5).mono (by show b ≤ W2.heap.size; omega)))
  have HF6 := Lib.hid ((hF6.to_below (B := b) (by omega) (fun g hg => by rw [hg]; omega)))
  have hs5' := hb5.size
  clear hI6 hF6 hb5 ho5 hHeld
  go_wp2_with fail
  go_ret
  exact ⟨rfl, by rw [hb]; exact HBF.out.trans HF6.out⟩
end Go.Proofs.YtobdkfhmmpigiaaGreat
