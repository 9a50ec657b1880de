/- FnShortest: impl.ShortestNetwork. -/
import Derived.Test.YtobdkfhmmpigiaaGreatZ2
namespace Go.Proofs.YtobdkfhmmpigiaaGreat
open Go.RowKit Go.Deep
set_option linter.unusedVariables false

theorem own_box2 {w : World} {b base : Nat} {e : TypeId} {u v : Value} {c : Nat} (h : Own w base e (some ⟨b, 0, none⟩) 2 c [u, v]) :
    w.cell? ⟨b, 0, none⟩ = some u ∧ w.cell? ⟨b, 1, none⟩ = some v ∧ w.frozen? ⟨b, 0, none⟩ = false ∧ w.frozen? ⟨b, 1, none⟩ = false ∧ b < w.heap.size := by
  obtain ⟨g0, u0, e0, _, _, h0, c0, f0⟩ := h.at_ (show 0 < 2 by omega)
  obtain ⟨g1, u1, e1, _, _, h1, c1, f1⟩ := h.at_ (show 1 < 2 by omega)
  injection e0 with e0
  injection e0 with e0
  subst e0
  injection e1 with e1
  injection e1 with e1
  subst e1
  simp at h0 h1
  subst h0 h1
  exact ⟨c0, c1, f0, f1, (h.blk_ b rfl).2⟩
/-- The last list, and whether its set is the sorted masks. -/
def seeN (n : Nat) (zss : List (List Int)) (set : List Int) (s : List (List Int)) : List (List Int) × Bool := (zss, decide (set.length = n + 1))
def shoI (n : Nat) : List (List Int) × Bool := runL n (seeN n) (lpV n) [] (marks 0 (2 ^ n)) []
/-- What the closure holds: the network that is built, the number of wires. -/
structure StN (bo br bn n : Nat) (s : List (List Int)) (D : Nat → Prop) (w : World) : Prop where
  hn : w.heap[bn]? = some (.cells #[.int .i64 (n : Int)] 3 (0, 0))
  hx : ∃ A l c, Own w 0 27 (some ⟨bo, 0, none⟩) 2 2 [.int .i64 (n : Int), .slice A l c] ∧ RdX D w A l s
  hr : Own w 0 27 (some ⟨br, 0, none⟩) 2 2 [.int .i64 0, .slice none 0 0]
  hne : bo ≠ bn
  hne2 : bo ≠ br
  hD : D = fun g => g = bo ∨ g = br
theorem StN.lt {bo br bn n : Nat} {s : List (List Int)} {D : Nat → Prop} {w : World} (h : StN bo br bn n s D w) : ∀ g, D g → g < w.heap.size := by
  intro g hg
  rw [h.hD] at hg
  obtain ⟨A, l, c, h1, _⟩ := h.hx
  rcases hg with rfl | rfl
  · exact (h1.blk_ _ rfl).2
  · exact (h.hr.blk_ _ rfl).2
theorem StN.below {bo br bn n : Nat} {s : List (List Int)} {D : Nat → Prop} {w w' : World} (h : StN bo br bn n s D w) (hb : Below w.heap.size w w') : StN bo br bn n s D w' := by
  obtain ⟨A, l, c, h1, h2⟩ := h.hx
  exact { h with hn := by rw [hb.block _ (lt_heap h.hn)]; exact h.hn
                 hx := ⟨A, l, c, h1.below hb, h2.below hb⟩
                 hr := h.hr.below hb }
theorem rdX_set {D : Nat → Prop} {w : World} {A : Option Addr} {l : Nat} {zss : List (List Int)} (h : RdX D w A l zss) (p : Addr) (v : Value) (hp : D p.block) : RdX D (w.setCell p v) A l zss :=
  h.fr ⟨rfl, rfl, rfl, by simp [World.setCell], fun g hg hd => Below.heap_setCell w p v g (fun e => hd (by rw [e]; exact hp)), fun g _ h => h⟩
theorem RdX.weak {D D' : Nat → Prop} {w : World} {A : Option Addr} {l : Nat} {zss : List (List Int)} (h : RdX D w A l zss) (hd : ∀ g, D' g → D g) : RdX D' w A l zss := by
  refine ⟨h.1, fun j hj => ?_⟩
  obtain ⟨ad, B, h1, h2, h3, h4, h5, h6, h7⟩ := h.2 j hj
  exact ⟨ad, B, h1, h2, fun e => h3 (hd _ e), h4, h5, fun e => h6 (hd _ e), h7⟩

set_option maxHeartbeats 1000000 in
theorem implSho1 (bo br bn n : Nat) (s : List (List Int)) (D : Nat → Prop) (w : World) (A : Option Addr) (l c : Nat) (zss : List (List Int)) (B : Option Addr) (m d : Nat) (set : List Int) (hI : StN bo br bn n s D w) (hX : RdX D w A l zss) (hm : set.length = m) (hn : n ≤ 4) (hm16 : m ≤ 16) :
    Calls Tryz.prog 23 #[.slice A l c, .slice B m d, .pointer (some ⟨bo, 0, none⟩), .pointer (some ⟨bn, 0, none⟩)] w fun e w' => e = .returned (.bool (seeN n zss set s).2) ∧ ∃ D', StN bo br bn n (seeN n zss set s).1 D' w' ∧ Fr D D' w w' := by
  obtain ⟨A0, l0, c0, hx, _⟩ := hI.hx
  obtain ⟨b0, b1, b2, b3, b4⟩ := own_box2 hx
  have hwn : (w.setCell ⟨bo, 1, none⟩ (.slice A l c)).heap[bn]? = some (.cells #[.int .i64 (n : Int)] 3 (0, 0)) := by rw [Below.heap_setCell w ⟨bo, 1, none⟩ _ bn (fun e => hI.hne e.symm)]; exact hI.hn
  have c2 : (w.setCell ⟨bo, 1, none⟩ (.slice A l c)).cell? ⟨bn, 0, none⟩ = some (.int .i64 (n : Int)) := cell_of_one hwn
  have HFR := Lib.hid (show Fr D D w (w.setCell ⟨bo, 1, none⟩ (.slice A l c)) from ⟨rfl, rfl, rfl, by simp [World.setCell], fun g hg hd => Below.heap_setCell w ⟨bo, 1, none⟩ _ g (fun e => hd (by rw [hI.hD]; exact .inl e)), fun g _ h => h⟩)
  have HST := Lib.hid (show StN bo br bn n zss D (w.setCell ⟨bo, 1, none⟩ (.slice A l c)) from { hn := hwn, hx := ⟨A, l, c, hx.set_ (k := 1) (.slice A l c) (by omega), hX.fr HFR.out⟩, hr := hI.hr.setOther (fun g e => by simp [blk] at e; show g ≠ bo; have := hI.hne2; omega) _, hne := hI.hne, hne2 := hI.hne2, hD := hI.hD })
  have HE := Lib.hid (show (seeN n zss set s).2 = decide (m = n + 1) by unfold seeN; rw [hm])
  clear hI hX hx hm hwn
  by_cases he : m = n + 1
  · have e1 : ((m : Int) == (n : Int) + 1) = true := by simp; omega
    have e2 := Lib.hid (show decide (m = n + 1) = true from decide_eq_true he)
    clear he
    go_enter Tryz.func23, Tryz.ntmps23
    go_wp2_with fail
    go_ret
    exact ⟨by rw [HE.out, e2.out]; rfl, D, HST.out, HFR.out⟩
  · have e1 : ((m : Int) == (n : Int) + 1) = false := by simp; omega
    have e2 := Lib.hid (show decide (m = n + 1) = false from decide_eq_false he)
    clear he
    go_enter Tryz.func23, Tryz.ntmps23
    go_wp2_with fail
    go_ret
    exact ⟨by rw [HE.out, e2.out]; rfl, D, HST.out, HFR.out⟩

set_option maxHeartbeats 4000000 in
theorem implShortest (n : Nat) (w : World) (h1 : 1 ≤ n) (h4 : n ≤ 4) : Calls Tryz.prog 7 #[.int .i64 n] w fun e w' => ∃ A l c, e = .returned (.tuple #[.agg #[.int .i64 n, .slice A l c], .bool (shoI n).2]) ∧ RdX (fun _ => False) w' A l (shoI n).1 ∧ Below w.heap.size w w' := by
  have CF := Lib.hid (fun wx => implFew (n : Int) wx)
  have HD := Lib.hid (show decide ((1 : Int) ≤ n ∧ (n : Int) ≤ 4) = true from decide_eq_true (by omega))
  obtain ⟨b, hb⟩ : ∃ b, w.heap.size = b := ⟨_, rfl⟩
  obtain ⟨W1, hW1⟩ : ∃ W, w.alloc (.cells #[.int .i64 (n : Int)] 3) = W := ⟨_, rfl⟩
  have z1 : W1.heap.size = b + 1 := by rw [← hW1]; simp [hb]
  have b1 : Below b w W1 := hW1 ▸ (hb ▸ below_alloc w _)
  have k1 : W1.heap[b]? = some (.cells #[.int .i64 (n : Int)] 3 (0, 0)) := by have h := heap_alloc_new w (.cells #[.int .i64 (n : Int)] 3); rw [hb, hW1] at h; exact h
  obtain ⟨W2, hW2⟩ : ∃ W, W1.alloc (.cells #[.int .i64 0, .slice none 0 0] 27) = W := ⟨_, rfl⟩
  have z2 : W2.heap.size = b + 2 := by rw [← hW2]; simp [z1]
  have b2 : Below (b + 1) W1 W2 := by have h := below_alloc W1 (.cells #[.int .i64 0, .slice none 0 0] 27); rw [z1, hW2] at h; exact h
  have k2 : W2.heap[b]? = some (.cells #[.int .i64 (n : Int)] 3 (0, 0)) := by rw [b2.block b (by omega)]; exact k1
  obtain ⟨W3, hW3⟩ : ∃ W, W2.alloc (.cells #[.int .i64 (n : Int), .slice none 0 0] 27) = W := ⟨_, rfl⟩
  have z3 : W3.heap.size = b + 3 := by rw [← hW3]; simp [z2]
  have b3 : Below (b + 2) W2 W3 := by have h := below_alloc W2 (.cells #[.int .i64 (n : Int), .slice none 0 0] 27); rw [z2, hW3] at h; exact h
  have k3 : W3.heap[b]? = some (.cells #[.int .i64 (n : Int)] 3 (0, 0)) := by rw [b3.block b (by omega)]; exact k2
  have o2 : Own W2 (b + 1) 27 (some ⟨b + 1, 0, none⟩) 2 2 [.int .i64 0, .slice none 0 0] := by
    have h := World.ownsRow_lit (base := b + 1) (e := 27) (size := 1) W1 #[.int .i64 0, .slice none 0 0] 2 (by omega) (by unfold maxLen; omega) rfl
    rw [z1, hW2] at h
    exact h
  have o3 : Own W3 (b + 2) 27 (some ⟨b + 2, 0, none⟩) 2 2 [.int .i64 (n : Int), .slice none 0 0] := by
    have h := World.ownsRow_lit (base := b + 2) (e := 27) (size := 1) W2 #[.int .i64 (n : Int), .slice none 0 0] 2 (by omega) (by unfold maxLen; omega) rfl
    rw [z2, hW3] at h
    exact h
  have q2 : W2.cell? ⟨b, 0, none⟩ = some (.int .i64 (n : Int)) := cell_of_one k2
  have q3 : W3.cell? ⟨b, 0, none⟩ = some (.int .i64 (n : Int)) := cell_of_one k3
  have HST := Lib.hid (show StN (b + 2) (b + 1) b n [] (fun g => g = b + 2 ∨ g = b + 1) W3 from { hn := k3, hx := ⟨none, 0, 0, o3.more (Nat.zero_le _), RdX.nil_ _ _ _⟩, hr := (o2.below (by rw [z2]; exact b3)).more (Nat.zero_le _), hne := by omega, hne2 := by omega, hD := rfl })
  have HBW := Lib.hid ((b1.trans (b2.mono (by omega))).trans (b3.mono (by omega)))
  have CP := Lib.hid (fun wx => implLeastP n wx h1 h4)
  obtain ⟨N, hN⟩ : ∃ N, 2 ^ n = N := ⟨_, rfl⟩
  have CM := Lib.hid (fun wx => show Calls Tryz.prog 22 #[.int .i64 n] wx fun e w' => ∃ A m c, e = .returned (.slice A m c) ∧ OwnI w' wx.heap.size 3 A m c (marks 0 N) ∧ Below wx.heap.size wx w' from hN ▸ implMasks n wx h4)
  have eg : ∀ args w, (callFunc 23 args).run Tryz.prog w = .ok (.enter 23 args) w := enters_of Tryz.func23 (by kernel_rfl) rfl
  have CL := Lib.hid (fun (wx : World) (A : Option Addr) (m c : Nat) (ho : OwnI wx (b + 3) 3 A m c (marks 0 N)) (hI : StN (b + 2) (b + 1) b n [] (fun g => g = b + 2 ∨ g = b + 1) wx) =>
    implLists (σ := List (List Int)) n (b + 3) h4 (StN (b + 2) (b + 1) b n) (seeN n) 23 #[.pointer (some ⟨b + 2, 0, none⟩), .pointer (some ⟨b, 0, none⟩)] (fun s D w h => h.lt) (fun s D w w' h hb => h.below hb) eg
      (fun s D w A l c zss B m d set h1 h2 h3 h4' h5 h6 h7 => by
        have h := implSho1 (b + 2) (b + 1) b n s D w A l c zss B m d set h1 h5 h6.2.1 h4 h6.2.2
        simpa using h) (lpV n) (by have := lpV_le n (by omega); omega) [] (fun g => g = b + 2 ∨ g = b + 1) wx none 0 0 [] A m c (marks 0 N) hI (by have := hI.lt (b + 2) (.inl rfl); omega) ho
        (fun g hg hd => by have h3 := (ho.blk_ g hg).1; have hd : g = b + 2 ∨ g = b + 1 := hd; omega) (RdX.nil_ _ _ _) (by have hg := good_marks h4; rw [hN] at hg; have := ho.lenI; rw [marks_len] at this; subst this; exact hg) (by have := lpV_le n (by omega); omega))
  have hCI : runL n (seeN n) (lpV n) [] (marks 0 N) [] = shoI n := by rw [← hN]; rfl
  rw [hCI] at CL
  have HW1 := Lib.hid hW1
  have HW2 := Lib.hid hW2
  have HW3 := Lib.hid hW3
  clear hW1 hW2 hW3 b1 b2 b3 k1 k2 k3 o2 o3 eg hN hCI
  go_enter Tryz.func7, Tryz.ntmps7
  go_wp2_with fail
  rw [HW1.out, HW2.out]
  refine (CF.out _).mono ?_
  rintro e w' ⟨rfl, hww⟩
  obtain rfl := hww
  rw [HD.out]
  go_wp2_with fail
  rw [HW3.out]
  refine wp_region_held_drew (S := (fun w' => w'.cell? ⟨b, 0, none⟩ = some (.int .i64 (n : Int)))) (by kernel_rfl) ?_ (fun hHeld => ?_)
  · exact q3
  refine wpAnyH_take (i := 0) (oi := { dst := _, op := _, type := _, pos := _, after := _, guard := none }) (v := ?_) rfl (by kernel_rfl) (by kernel_rfl) (by kernel_rfl) (fun _ _ _ h => h) (Or.inl ⟨by rfl, ?_⟩) (by assumption) ?_
  rotate_left
  · intro w hSw; (try dsimp only at hSw); go_simp; (try with_reducible rfl)
  try simp only [Act.put, List.setIfInBounds_toArray, List.set_cons_zero, List.set_cons_succ]
  refine wpAnyH_take (i := 1) (oi := { dst := _, op := _, type := _, pos := _, after := _, guard := none }) (v := ?_) rfl (by kernel_rfl) (by kernel_rfl) (by kernel_rfl) (fun _ _ _ h => h) (Or.inl ⟨by rfl, ?_⟩) (by assumption) ?_
  rotate_left
  · intro w hSw; (try dsimp only at hSw); go_simp; (try with_reducible rfl)
  try simp only [Act.put, List.setIfInBounds_toArray, List.set_cons_zero, List.set_cons_succ]
  refine wpAnyH_take (i := 3) (oi := { dst := _, op := _, type := _, pos := _, after := _, guard := none }) (v := ?_) rfl (by kernel_rfl) (by kernel_rfl) (by kernel_rfl) (fun _ _ _ h => h) (Or.inl ⟨by rfl, ?_⟩) (by assumption) ?_
  rotate_left
  · intro w hSw; (try dsimp only at hSw); go_simp; (try with_reducible rfl)
  try simp only [Act.put, List.setIfInBounds_toArray, List.set_cons_zero, List.set_cons_succ]
  refine wpAnyH_take (i := 5) (oi := { dst := _, op := _, type := _, pos := _, after := _, guard := none }) (v := ?_) rfl (by kernel_rfl) (by kernel_rfl) (by kernel_rfl) (fun _ _ _ h => h) (Or.inl ⟨by rfl, ?_⟩) (by assumption) ?_
  rotate_left
  · intro w hSw; (try dsimp only at hSw); go_simp; (try with_reducible rfl)
  try simp only [Act.put, List.setIfInBounds_toArray, List.set_cons_zero, List.set_cons_succ]
  refine wpAnyH_ready (rs := [2]) (by kernel_rfl) (by simp) ?_
  refine AllReadyH.cons rfl (fun K hK => ?_) AllReadyH.nil
  go_simp
  refine (CP.out W3.drew).mono ?_
  rintro e w4 ⟨rfl, hb4⟩
  have hz4 : b + 3 ≤ w4.heap.size := by have h := hb4.size; have h2 : W3.drew.heap.size = W3.heap.size := rfl; omega
  have s4 := (hb4.cell (p := ⟨b, 0, none⟩) (by show b < W3.heap.size; omega)).trans q3
  try go_simp
  refine hK.out _ _ s4 (fun hHeld1 => ?_)
  clear hK K
  try simp only [Act.put, List.setIfInBounds_toArray, List.set_cons_zero, List.set_cons_succ]
  refine wpAnyH_ready (rs := [4]) (by kernel_rfl) (by simp) ?_
  refine AllReadyH.cons rfl (fun K hK => ?_) AllReadyH.nil
  go_simp
  refine (CM.out w4).mono ?_
  rintro e w5 ⟨A5, m5, c5, rfl, ho5, hb5⟩
  have hz5 : b + 3 ≤ w5.heap.size := by have h := hb5.size; omega
  have s5 := (hb5.cell (p := ⟨b, 0, none⟩) (by show b < w4.heap.size; omega)).trans s4
  have hb35 : Below (b + 3) W3 w5 := by have h := below_drew2 hb4; rw [show W3.drew.heap.size = b + 3 from z3] at h; exact h.trans (hb5.mono hz4)
  try go_simp
  refine hK.out _ _ s5 (fun hHeld2 => ?_)
  clear hK K
  try simp only [Act.put, List.setIfInBounds_toArray, List.set_cons_zero, List.set_cons_succ]
  refine wpAnyH_ready (rs := [6]) (by kernel_rfl) (by simp) ?_
  refine AllReadyH.cons rfl (fun K hK => ?_) AllReadyH.nil
  go_simp
  refine (CL.out w5 A5 m5 c5 (ho5.more hz4) (HST.out.below (by rw [z3]; exact hb35))).mono ?_
  rintro e w6 ⟨rfl, D6, hI6, hF6⟩
  have s6 : w6.cell? ⟨b, 0, none⟩ = some (.int .i64 (n : Int)) := cell_of_one hI6.hn
  try go_simp
  refine hK.out _ _ s6 (fun hHeld3 => ?_)
  clear hK K
  try simp only [Act.put, List.setIfInBounds_toArray, List.set_cons_zero, List.set_cons_succ]
  refine wpAnyH_take (i := 7) (oi := { dst := _, op := _, type := _, pos := _, after := _, guard := none }) (v := ?_) rfl (by kernel_rfl) (by kernel_rfl) (by kernel_rfl) (fun _ _ _ h => h) (Or.inl ⟨by rfl, ?_⟩) (by assumption) ?_
  rotate_left
  · intro w hSw; (try dsimp only at hSw); go_simp; (try with_reducible rfl)
  try simp only [Act.put, List.setIfInBounds_toArray, List.set_cons_zero, List.set_cons_succ]
  refine wpAnyH_done (by kernel_rfl) ?_ _
  obtain ⟨A6, l6, c6, hx6, hX6⟩ := hI6.hx
  obtain ⟨b0, b1, b2, b3, b4⟩ := own_box2 hx6
  have hr6 := hI6.hr
  obtain ⟨r0, r1, r2, r3, r4⟩ := own_box2 hr6
  have hr7 := hr6.set_ (k := 0) (.int .i64 (n : Int)) (by omega)
  have hr8 := hr7.set_ (k := 1) (.slice A6 l6 c6) (by omega)
  obtain ⟨d0, d1, _, _, _⟩ := own_box2 hr8
  have HB8 := Lib.hid ((((HBW.out.trans (hb35.mono (by omega))).trans (hF6.to_below (B := b) (by omega) (fun g hg => by have hg : g = b + 2 ∨ g = b + 1 := hg; omega))).setCell (p := ⟨b + 1, 0, none⟩) (by show b ≤ b + 1; omega) (.int .i64 (n : Int))).setCell (p := ⟨b + 1, 1, none⟩) (by show b ≤ b + 1; omega) (.slice A6 l6 c6))
  have HX8 := Lib.hid (show RdX (fun _ => False) ((w6.setCell ⟨b + 1, 0, none⟩ (.int .i64 (n : Int))).setCell ⟨b + 1, 1, none⟩ (.slice A6 l6 c6)) A6 l6 (shoI n).1 from (rdX_set (rdX_set hX6 ⟨b + 1, 0, none⟩ _ (by rw [hI6.hD]; exact .inr rfl)) ⟨b + 1, 1, none⟩ _ (by rw [hI6.hD]; exact .inr rfl)).weak (fun _ h => h.elim))
  clear hI6 hF6 hb35 hb4 hb5 ho5 hHeld hx6 hr6 hr7 hr8 hX6
  go_wp2_with fail
  refine bodyPost_ret (v := .tuple #[.agg #[.int .i64 (n : Int), .slice A6 l6 c6], .bool (shoI n).2]) (by simp [results, Tryz.results7, go_sem, d0, d1]) rfl ⟨A6, l6, c6, rfl, HX8.out, by rw [hb]; exact HB8.out⟩
end Go.Proofs.YtobdkfhmmpigiaaGreat
