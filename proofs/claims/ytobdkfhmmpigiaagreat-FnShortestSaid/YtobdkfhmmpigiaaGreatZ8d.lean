/- FnShortest: spec.MakeSorting. -/
import Derived.Test.YtobdkfhmmpigiaaGreatZ8c
namespace Go.Proofs.YtobdkfhmmpigiaaGreat
open Go.RowKit Go.Deep
set_option linter.unusedVariables false

/-- A row of rows of the call's own, none of whose blocks is bx. -/
def OwnX (w : World) (lo bx : Nat) (A : Option Addr) (n c : Nat) (zss : List (List Int)) : Prop :=
  zss.length = n ∧ (∀ g, blk A = some g → g ≠ bx) ∧ ∃ vs, Own w lo 30 A n c vs ∧ All2 (Rw w lo fun g => blk A ≠ some g ∧ g ≠ bx) vs zss
theorem OwnX.s {w : World} {lo bx n c : Nat} {A : Option Addr} {z : List (List Int)} (h : OwnX w lo bx A n c z) : OwnS w lo A n c z := by
  obtain ⟨h1, _, vs, hv, hr⟩ := h
  exact ⟨h1, vs, hv, hr.mono fun v z k => k.keep fun g _ _ hd => ⟨rfl, hd.1⟩⟩
theorem OwnX.keep {w w' : World} {lo bx n c : Nat} {A : Option Addr} {z : List (List Int)} (h : OwnX w lo bx A n c z) (hk : ∀ g, lo ≤ g → g < w.heap.size → g ≠ bx → w'.heap[g]? = w.heap[g]?) : OwnX w' lo bx A n c z := by
  obtain ⟨h1, h2, vs, hv, hr⟩ := h
  exact ⟨h1, h2, vs, hv.keepAt fun g hg => hk g (hv.blk_ g hg).1 (hv.blk_ g hg).2 (h2 g hg), hr.mono fun v z k => k.keep fun g g1 g2 hd => ⟨hk g g1 g2 hd.2, hd⟩⟩
theorem OwnS.x {w : World} {lo bx n c : Nat} {A : Option Addr} {z : List (List Int)} (h : OwnS w lo A n c z) (hb : bx < lo ∨ w.heap.size ≤ bx) : OwnX w lo bx A n c z := by
  obtain ⟨h1, vs, hv, hr⟩ := h
  exact ⟨h1, fun g hg => by have := hv.blk_ g hg; omega, vs, hv, hr.mono fun v z k => k.keep fun g g1 g2 hd => ⟨rfl, hd, by omega⟩⟩
theorem OwnX.more {w : World} {lo lo2 bx n c : Nat} {A : Option Addr} {z : List (List Int)} (h : OwnX w lo bx A n c z) (hl : lo2 ≤ lo) : OwnX w lo2 bx A n c z := by
  obtain ⟨h1, h2, vs, hv, hr⟩ := h
  exact ⟨h1, h2, vs, hv.more hl, hr.mono fun v z k => k.more hl⟩
theorem OwnX.cat {w w3 : World} {lo lo2 bx n1 n2 c3 : Nat} {A1 A3 : Option Addr} {D2 : Nat → Prop} {z1 z2 : List (List Int)} {vs1 vs2 : List Value}
    (h1 : z1.length = n1) (e1 : ∀ g, blk A1 = some g → g ≠ bx) (r1 : All2 (Rw w lo fun g => blk A1 ≠ some g ∧ g ≠ bx) vs1 z1) (h2 : z2.length = n2) (r2 : All2 (Rw w lo2 D2) vs2 z2) (hlo : lo ≤ lo2) (hd : ∀ g, blk A1 = some g → g < lo2) (hbx : bx < lo2) (hbw : bx < w.heap.size)
    (ho : Own w3 lo 30 A3 (n1 + n2) c3 (vs1 ++ vs2)) (hg : w.grownBy w3 (blk A1)) (hat : ∀ g, blk A3 = some g → blk A1 = some g ∨ w.heap.size ≤ g) : OwnX w3 lo bx A3 (n1 + n2) c3 (z1 ++ z2) := by
  have hD : ∀ g, g < w.heap.size → blk A1 ≠ some g → blk A3 ≠ some g := fun g h1 h2 h3 => by
    rcases hat g h3 with h | h
    · exact h2 h
    · omega
  have hN : ∀ g, lo2 ≤ g → blk A1 ≠ some g := fun g h1 h2 => by have := hd g h2; omega
  refine ⟨by simp [h1, h2], fun g hg3 => ?_, _, ho, (r1.mono fun v z k => k.keep fun g h1 h2 h3 => ⟨hg.block g h2 (fun e => h3.1 e.symm), hD g h2 h3.1, h3.2⟩).append (r2.mono fun v z k => (k.keep fun g h1 h2 h3 => ⟨hg.block g h2 (fun e => hN g h1 e.symm), hD g h2 (hN g h1), by omega⟩).more hlo)⟩
  rcases hat g hg3 with h | h
  · exact e1 g h
  · omega
/-- The state of MakeSorting: the network x in its box bx, the cursor g, the result's box b. -/
structure MkS (w0 w : World) (b bx g lo W : Nat) (A : Option Addr) (m c : Nat) (z : List (List Int)) : Prop where
  x : OwnX w lo bx A m c z
  box : Own w bx 27 (some ⟨bx, 0, none⟩) 2 2 [.int .i64 (W : Int), .slice A m c]
  cur : Cur w g
  res : Own w b 27 (some ⟨b, 0, none⟩) 2 2 [.int .i64 0, .slice none 0 0]
  bel : Below b w0 w
  h1 : b < g
  h2 : g < lo
  h3 : lo ≤ bx
  h4 : bx < w.heap.size
section
variable {w0 w w3 w' : World} {b bx g lo W m c : Nat} {A : Option Addr} {z : List (List Int)}
theorem MkS.below (h : MkS w0 w b bx g lo W A m c z) (hb : Below w.heap.size w w') : MkS w0 w' b bx g lo W A m c z :=
  { x := h.x.keep fun g _ h2 _ => hb.block g h2
    box := h.box.below hb
    cur := h.cur.below hb
    res := h.res.below hb
    bel := h.bel.trans (hb.mono (by have := h.h1; have := h.h2; have := h.h3; have := h.h4; omega))
    h1 := h.h1, h2 := h.h2, h3 := h.h3, h4 := Nat.lt_of_lt_of_le h.h4 hb.size }
theorem MkS.curs (h : MkS w0 w b bx g lo W A m c z) (hg : w.grownBy w' (some g)) (hc : Cur w' g) : MkS w0 w' b bx g lo W A m c z :=
  { x := h.x.keep fun q h1 h2 _ => hg.block q h2 (fun e => by injection e with e; have := h.h2; omega)
    box := h.box.kept hg (fun q h1 h2 => by simp [blk] at h1; injection h2 with h2; have := h.h2; have := h.h3; omega)
    cur := hc
    res := h.res.kept hg (fun q h1 h2 => by simp [blk] at h1; injection h2 with h2; have := h.h1; omega)
    bel := below_of_grown h.bel hg (by have := h.h1; have := h.h2; have := h.h3; have := h.h4; omega) (fun q e => by injection e with e; have := h.h1; omega)
    h1 := h.h1, h2 := h.h2, h3 := h.h3, h4 := Nat.lt_of_lt_of_le h.h4 hg.size }
theorem MkS.ablk (h : MkS w0 w b bx g lo W A m c z) : ∀ q, blk A = some q → lo ≤ q ∧ q < w.heap.size ∧ q ≠ bx := fun q e => by
  obtain ⟨_, h2, vs, hv, _⟩ := h.x
  exact ⟨(hv.blk_ q e).1, (hv.blk_ q e).2, h2 q e⟩
theorem MkS.box3 (h : MkS w0 w b bx g lo W A m c z) (hg : w.grownBy w3 (blk A)) : Own w3 bx 27 (some ⟨bx, 0, none⟩) 2 2 [.int .i64 (W : Int), .slice A m c] :=
  h.box.kept hg (fun q h1 h2 => by simp [blk] at h1; have := h.ablk q h2.symm; omega)
theorem MkS.app {lo2 m2 c3 : Nat} {A3 : Option Addr} {D2 : Nat → Prop} {z2 : List (List Int)} {vs1 vs2 : List Value} (h : MkS w0 w b bx g lo W A m c z) (v1 : Own w lo 30 A m c vs1) (r1 : All2 (Rw w lo fun g => blk A ≠ some g ∧ g ≠ bx) vs1 z) (hl2 : z2.length = m2) (r2 : All2 (Rw w lo2 D2) vs2 z2)
    (hd : ∀ q, blk A = some q → q < lo2) (hbx : bx < lo2) (ho : Own w3 lo 30 A3 (m + m2) c3 (vs1 ++ vs2)) (hg : w.grownBy w3 (blk A)) (hat : blk A3 = blk A ∨ blk A3 = some w.heap.size) :
    MkS w0 (w3.setCell ⟨bx, 1, none⟩ (.slice A3 (m + m2 : Nat) c3)) b bx g lo W A3 (m + m2) c3 (z ++ z2) := by
  have k2 := h.h2
  have k3 := h.h3
  have k4 := h.h4
  have k1 := h.h1
  have hx := OwnX.cat h.x.1 h.x.2.1 r1 hl2 r2 (by omega) hd hbx h.h4 ho hg (hat_of hat)
  have hr := h.res.kept hg (fun q h1 h2 => by simp [blk] at h1; have := (h.ablk q h2.symm).1; omega)
  have hs := hg.size
  exact
  { x := hx.keep fun q _ _ h3 => Below.heap_setCell _ _ _ q (by show q ≠ bx; exact h3)
    box := (h.box3 hg).set_ (k := 1) _ (by omega)
    cur := (h.cur.grown hg (fun q e => by have := (h.ablk q e).1; omega)).grown (grownBy_set (World.grownBy.refl _ _) (p := ⟨bx, 1, none⟩) rfl _) (fun q e => by simp at e; omega)
    res := hr.setOther (fun q e => by simp [blk] at e; show q ≠ bx; omega) _
    bel := (below_of_grown h.bel hg (by omega) (fun q e => by have := (h.ablk q e).1; omega)).setCell (by show b ≤ bx; omega) _
    h1 := k1, h2 := k2, h3 := k3, h4 := by simp [World.setCell]; omega }
theorem MkS.ins {lo2 m2 c2 : Nat} {A2 : Option Addr} {z2 : List (List Int)} (h : MkS w0 w b bx g lo W A m c z) (hs : OwnS w lo2 A2 m2 c2 z2) (hlo : bx < lo2) :
    MkS w0 ((w.setCell ⟨bx, 0, none⟩ (.int .i64 (W : Int))).setCell ⟨bx, 1, none⟩ (.slice A2 m2 c2)) b bx g lo W A2 m2 c2 z2 := by
  have k2 := h.h2
  have k3 := h.h3
  have k4 := h.h4
  have k1 := h.h1
  exact
  { x := ((hs.x (.inl hlo)).more (by omega)).keep fun q _ _ h3 => (Below.heap_setCell _ _ _ q (by show q ≠ bx; exact h3)).trans (Below.heap_setCell _ _ _ q (by show q ≠ bx; exact h3))
    box := (h.box.set_ (k := 0) (.int .i64 (W : Int)) (by omega)).set_ (k := 1) _ (by omega)
    cur := (h.cur.grown (grownBy_set (World.grownBy.refl _ _) (p := ⟨bx, 0, none⟩) rfl _) (fun q e => by simp at e; omega)).grown (grownBy_set (World.grownBy.refl _ _) (p := ⟨bx, 1, none⟩) rfl _) (fun q e => by simp at e; omega)
    res := (h.res.setOther (fun q e => by simp [blk] at e; show q ≠ bx; omega) _).setOther (fun q e => by simp [blk] at e; show q ≠ bx; omega) _
    bel := (h.bel.setCell (p := ⟨bx, 0, none⟩) (by show b ≤ bx; omega) _).setCell (p := ⟨bx, 1, none⟩) (by show b ≤ bx; omega) _
    h1 := k1, h2 := k2, h3 := k3, h4 := by simp [World.setCell]; omega }
theorem grown_undrew {a b : World} {r : Option Nat} (h : a.drew.grownBy b r) : a.grownBy b r := ⟨h.os, h.tape, h.output, h.size, h.block⟩
end
/-- Batcher's comparators of at most four wires. -/
def batL : Nat → List (List Int)
  | 2 => [pr 0 1]
  | 3 => [pr 0 1, pr 0 2, pr 1 2]
  | 4 => [pr 0 1, pr 2 3, pr 0 2, pr 1 3, pr 1 2]
  | _ => []
theorem bat_pair (x y : Nat) : BatC [(x : Int), (y : Int)] [pr x y] :=
  bat_two [(x : Int), (y : Int)] 2 1 [] [] [pr x y] rfl (by omega) (by omega) rfl (by decide) (by decide) (by show 1 ≤ 10; omega) (bat_one _) (bat_one _)
    (specMrg9 [(x : Int)] [(y : Int)] 1 1 [pr 0 1] rfl rfl (by omega) (by omega) merge11 (by decide) (fun j hj => by
      match j, hj with
      | 0, _ => exact ⟨0, 1, by simp [row], by omega, by omega⟩
      | k + 1, h => simp at h))
theorem bat_law {W : Nat} (h1 : 1 ≤ W) (h4 : W ≤ 4) : BatC (wirL 0 W) (batL W) := by
  match W, h1, h4 with
  | 1, _, _ => exact bat_one 0
  | 2, _, _ => exact bat_pair 0 1
  | 3, _, _ =>
    exact bat_two [0, 1, 2] 3 2 [pr 0 1] [] [pr 0 2, pr 1 2] rfl (by omega) (by omega) rfl (by decide) (by decide) (by decide) (bat_pair 0 1) (bat_one 2)
      (specMrg9 [0, 1] [2] 2 1 [pr 0 2, pr 1 2] rfl rfl (by omega) (by omega) merge12 (by decide) (fun j hj => by
        match j, hj with
        | 0, _ => exact ⟨0, 2, by simp [row], by omega, by omega⟩
        | 1, _ => exact ⟨1, 2, by simp [row], by omega, by omega⟩
        | k + 2, h => simp at h; omega))
  | 4, _, _ =>
    exact bat_two [0, 1, 2, 3] 4 2 [pr 0 1] [pr 2 3] [pr 0 2, pr 1 3, pr 1 2] rfl (by omega) (by omega) rfl (by decide) (by decide) (by decide) (bat_pair 0 1) (bat_pair 2 3)
      (specMrg9 [0, 1] [2, 3] 2 2 [pr 0 2, pr 1 3, pr 1 2] rfl rfl (by omega) (by omega) merge22 (by decide) (fun j hj => by
        match j, hj with
        | 0, _ => exact ⟨0, 2, by simp [row], by omega, by omega⟩
        | 1, _ => exact ⟨1, 3, by simp [row], by omega, by omega⟩
        | 2, _ => exact ⟨1, 2, by simp [row], by omega, by omega⟩
        | k + 3, h => simp at h; omega))
theorem bat_len {W : Nat} (h1 : 1 ≤ W) (h4 : W ≤ 4) : (batL W).length ≤ 5 := by
  match W, h1, h4 with
  | 1, _, _ => decide
  | 2, _, _ => decide
  | 3, _, _ => decide
  | 4, _, _ => decide
/-- What MakeSorting makes: Batcher's comparators behind others, or those of the insertion network. -/
def YB (W : Nat) (z : List (List Int)) : Prop := (∃ P, z = P ++ batL W ∧ ∃ k, NetR W k P) ∨ z = insJ W
def YL (W : Nat) (z : List (List Int)) : Prop := ∃ Y Q, z = Y ++ Q ∧ YB W Y ∧ ∃ k, NetR W k Q
set_option maxHeartbeats 4000000 in
theorem specSorting (A0 : Option Addr) (n0 c0 : Nat) (bs : List Int) (w : World) (ha : RdU w A0 n0 bs) (hz : ∀ z ∈ bs, 0 ≤ z ∧ z < 256) (hn : n0 ≤ 1048576) :
    Calls Tryz.prog 15 #[.slice A0 n0 c0, .int .i64 20, .int .i64 4] w fun e w' => ∃ W m : Nat, ∃ A c z, e = .returned (.agg #[.int .i64 W, .slice A m c]) ∧ (1 ≤ W ∧ W ≤ 4) ∧ m ≤ 40 ∧ YL W z ∧ RdM w' A m z ∧ Below w.heap.size w w' := by
  obtain ⟨b, hb⟩ : ∃ b, w.heap.size = b := ⟨_, rfl⟩
  obtain ⟨W1, hW1⟩ : ∃ X, w.alloc (.cells #[.int .i64 0, .slice none 0 0] 27) = X := ⟨_, rfl⟩
  have z1 : W1.heap.size = b + 1 := by rw [← hW1]; simp [hb]
  have b1 : Below b w W1 := hW1 ▸ (hb ▸ below_alloc w _)
  have k1 : Own W1 b 27 (some ⟨b, 0, none⟩) 2 2 [.int .i64 0, .slice none 0 0] := by have h := own_netbox w 0 none 0 0; rw [hb, hW1] at h; exact h
  have ha1 : RdU W1 A0 n0 bs := hW1 ▸ ha.alloc _
  have CU := Lib.hid (specAtByte A0 n0 c0 20 bs W1 ha1 hz hn (by omega))
  have HW1 := Lib.hid hW1
  have HB1 := Lib.hid b1
  have HK1 := Lib.hid k1
  clear hW1 b1 k1 ha ha1
  go_enter Tryz.func15, Tryz.ntmps15
  go_wp2_with fail
  rw [HW1.out]
  refine CU.out.mono ?_
  rintro e w2 ⟨g, rfl, hg1, hc2, hb2⟩
  have s2 := hb2.size
  have HK2 := Lib.hid (HK1.out.below hb2)
  have HB2 := Lib.hid (HB1.out.trans (hb2.mono (by omega)))
  have g2 := hc2.lt
  clear hb2
  go_wp2_with fail
  refine (specBelow g 4 w2 hc2 (by omega) (by omega)).mono ?_
  rintro e w3 ⟨x, hx, rfl, hc3, hg3⟩
  obtain ⟨W, hW⟩ : ∃ W, 1 + x = W := ⟨_, rfl⟩
  have eW : (1 : Int) + (x : Int) = (W : Int) := by omega
  have hWW : 1 ≤ W ∧ W ≤ 4 := by omega
  have s3 := hg3.size
  have HK3 := Lib.hid (HK2.out.kept hg3 (fun q h1 h2 => by simp [blk] at h1; injection h2 with h2; omega))
  have HB3 := Lib.hid (below_of_grown HB2.out hg3 (by omega) (fun q e => by injection e with e; omega))
  clear hg3 hW
  go_wp2_with fail
  refine (specPairs4 g W true w3 hc3 (by omega) (by omega)).mono ?_
  rintro e w5 ⟨A5, m5, c5, P, rfl, hm5, hN5, hR5, hc5, hg5⟩
  obtain ⟨bx, hbx⟩ : ∃ bx, w5.heap.size = bx := ⟨_, rfl⟩
  obtain ⟨lo, hlo⟩ : ∃ lo, w3.heap.size = lo := ⟨_, rfl⟩
  have s5 := hg5.size
  rw [hlo] at hR5
  have HK5 := HK3.out.kept hg5 (fun q h1 h2 => by simp [blk] at h1; injection h2 with h2; omega)
  have HB5 := below_of_grown HB3.out hg5 (by omega) (fun q e => by injection e with e; omega)
  obtain ⟨W6, hW6⟩ : ∃ X, w5.alloc (.cells #[.int .i64 (W : Int), .slice A5 m5 c5] 27) = X := ⟨_, rfl⟩
  have z6 : W6.heap.size = bx + 1 := by rw [← hW6]; simp [hbx]
  have b6 : Below w5.heap.size w5 W6 := hW6 ▸ below_alloc w5 _
  have k6 : Own W6 bx 27 (some ⟨bx, 0, none⟩) 2 2 [.int .i64 (W : Int), .slice A5 m5 c5] := by have h := own_netbox w5 (W : Int) A5 m5 c5; rw [hbx, hW6] at h; exact h
  have hM6 : MkS w W6 b bx g lo W A5 m5 c5 P :=
    { x := (hR5.s.x (.inr (by omega))).keep fun q _ h2 _ => b6.block q h2
      box := k6
      cur := hc5.below b6
      res := HK5.below b6
      bel := HB5.trans (b6.mono (by omega))
      h1 := by omega, h2 := by omega, h3 := by omega, h4 := by omega }
  have HM6 := Lib.hid hM6
  have HP := Lib.hid (show ∃ k, NetR W k P from ⟨m5, hN5⟩)
  have HW6 := Lib.hid hW6
  have HSZ := Lib.hid hb
  have CW := Lib.hid (fun wx => show Calls Tryz.prog 34 #[.int .i64 0, .int .i64 W] wx fun e w' => ∃ A c, e = .returned (.slice A W c) ∧ OwnI w' wx.heap.size 3 A W c (wirL 0 W) ∧ Below wx.heap.size wx w' from specWires 0 W wx (by omega))
  have CB := Lib.hid (bat_law hWW.1 hWW.2)
  have HBL := Lib.hid (bat_len hWW.1 hWW.2)
  obtain ⟨q0, q1, q2, q3, q4⟩ := own_box2 k6
  clear hM6 hN5 hR5 hc5 hg5 hW6 b6 k6 HK5 HB5 hlo hb s5 s3 s2 hc3 hc2 g2 hg1 z1
  go_upto_region 4 with fail
  rw [HW6.out]
  clear hbx
  go_cut [9] from 24 (fun v wx => v = .pointer (some ⟨bx, 0, none⟩) ∧ ∃ A m c z, MkS w wx b bx g lo W A m c z ∧ m ≤ 9 ∧ Hid (YB W z))
  case first =>
    have hM := HM6.out
    have hm5 : m5 ≤ 4 := hm5
    have eb : batL W = batL W := rfl
    clear eb
    refine wp_region_held_drew (S := (fun _ => True)) (by kernel_rfl) ?_ (fun hHeld => ?_)
    · trivial
    refine wpAnyH_take (i := 0) (oi := { dst := _, op := _, type := _, pos := _, after := _, guard := none }) (v := ?_) rfl (by kernel_rfl) (by kernel_rfl) (by kernel_rfl) (fun _ _ _ h => h) (Or.inl ⟨by rfl, ?_⟩) (by assumption) ?_
    rotate_left
    · intro w hSw; (try dsimp only at hSw); go_simp; (try with_reducible rfl)
    try simp only [Act.put, List.setIfInBounds_toArray, List.set_cons_zero, List.set_cons_succ]
    refine wpAnyH_take (i := 2) (oi := { dst := _, op := _, type := _, pos := _, after := _, guard := none }) (v := ?_) rfl (by kernel_rfl) (by kernel_rfl) (by kernel_rfl) (fun _ _ _ h => h) (Or.inl ⟨by rfl, ?_⟩) (by assumption) ?_
    rotate_left
    · intro w hSw; (try dsimp only at hSw); go_simp; (try with_reducible rfl)
    try simp only [Act.put, List.setIfInBounds_toArray, List.set_cons_zero, List.set_cons_succ]
    refine wpAnyH_ready (rs := [1, 3]) (by kernel_rfl) (by simp) ?_
    refine AllReadyH.cons rfl (fun K hK => ?_) (AllReadyH.cons rfl (fun K hK => ?_) AllReadyH.nil)
    · go_simp
      try go_simp
      refine hK.out _ _ trivial (fun hHeld1 => ?_)
      clear hK K
      try simp only [Act.put, List.setIfInBounds_toArray, List.set_cons_zero, List.set_cons_succ]
      refine wpAnyH_ready (rs := [3]) (by kernel_rfl) (by simp) ?_
      refine AllReadyH.cons rfl (fun K hK => ?_) AllReadyH.nil
      go_simp
      refine (CW.out W6.drew).mono ?_
      rintro e w7 ⟨A7, c7, rfl, o7, b7⟩
      have hM7 := hM.below (show Below W6.heap.size W6 w7 from below_drew2 b7)
      have k7 : W6.heap.size ≤ w7.heap.size := b7.size
      have HAL := Lib.hid (show ∀ q, blk A5 = some q → q < w7.heap.size from fun q e => Nat.lt_of_lt_of_le (hM.ablk q e).2.1 (by omega))
      have hbx8 : bx < w7.heap.size := Nat.lt_of_lt_of_le hM.h4 (by omega)
      obtain ⟨x0, x1, x2, x3, x4⟩ := own_box2 (hM7.box)
      try go_simp
      refine hK.out _ _ trivial (fun hHeld2 => ?_)
      clear hK K
      try simp only [Act.put, List.setIfInBounds_toArray, List.set_cons_zero, List.set_cons_succ]
      refine wpAnyH_ready (rs := [4]) (by kernel_rfl) (by simp) ?_
      refine AllReadyH.cons rfl (fun K hK => ?_) AllReadyH.nil
      go_simp
      refine (CB.out A7 W c7 w7 o7.rd (o7.cap.1) (o7.cap.2)).mono ?_
      rintro e w8 ⟨A8, m8, c8, rfl, hs8, b8⟩
      have hM8 := hM7.below b8
      have hm8 : m8 ≤ 5 := by rw [← hs8.1]; exact HBL.out
      obtain ⟨y0, y1, y2, y3, y4⟩ := own_box2 (hM8.box)
      try go_simp
      refine hK.out _ _ trivial (fun hHeld3 => ?_)
      clear hK K
      try simp only [Act.put, List.setIfInBounds_toArray, List.set_cons_zero, List.set_cons_succ]
      refine wpAnyH_ready (rs := [5]) (by kernel_rfl) (by simp) ?_
      refine AllReadyH.cons rfl (fun K hK => ?_) AllReadyH.nil
      obtain ⟨hl1, hne1, vs1, v1, r1⟩ := hM8.x
      obtain ⟨hl2, vs2, v2, r2⟩ := hs8
      have one2 := all2_one r2 (fun v z h => h.one)
      have k83 := hM8.h3
      have k84 := hM8.h4
      refine step_append_any (w := w8) (by rfl) _ _ _ (by rfl) lo 30 (.slice none 0 0) 24 Tryz.underlying25 sliceInfo rfl A5 m5 c5 vs1 (by rfl) v1 A8 m8 c8 vs2 (by rfl) v2.rd one2 (by unfold maxLen; omega) (by omega) (by omega) ?_
      intro A9 c9 w9 ho9 hg9 hat9
      obtain ⟨d0, d1, d2, d3, d4⟩ := own_box2 (hM8.box3 hg9)
      have HM10 := Lib.hid (hM8.app v1 r1 hl2 r2 HAL.out hbx8 ho9 hg9 hat9)
      clear v1 v2 r1 r2 ho9 hg9 hat9 hM8 hl1 hne1 hl2
      try go_simp
      refine hK.out _ _ trivial (fun hHeld4 => ?_)
      clear hK K
      try simp only [Act.put, List.setIfInBounds_toArray, List.set_cons_zero, List.set_cons_succ]
      refine wpAnyH_take (i := 6) (oi := { dst := _, op := _, type := _, pos := _, after := _, guard := none }) (v := ?_) rfl (by kernel_rfl) (by kernel_rfl) (by kernel_rfl) (fun _ _ _ h => h) (Or.inl ⟨by rfl, ?_⟩) (by assumption) ?_
      rotate_left
      · intro w hSw; (try dsimp only at hSw); go_simp; (try with_reducible rfl)
      try simp only [Act.put, List.setIfInBounds_toArray, List.set_cons_zero, List.set_cons_succ]
      refine wpAnyH_ready (rs := [7]) (by kernel_rfl) (by simp) ?_
      refine AllReadyH.cons rfl (fun K hK => ?_) AllReadyH.nil
      go_simp
      try go_simp
      refine hK.out _ _ trivial (fun hHeld5 => ?_)
      clear hK K
      try simp only [Act.put, List.setIfInBounds_toArray, List.set_cons_zero, List.set_cons_succ]
      refine wpAnyH_done (by kernel_rfl) ?_ _
      go_wp2_with fail
      go_meet
      case rel => exact ⟨rfl, A9, m5 + m8, c9, _, HM10.out, by omega, Lib.hid (.inl ⟨P, rfl, HP.out⟩)⟩
    · go_simp
      refine (CW.out W6.drew).mono ?_
      rintro e w7 ⟨A7, c7, rfl, o7, b7⟩
      have hM7 := hM.below (show Below W6.heap.size W6 w7 from below_drew2 b7)
      have k7 : W6.heap.size ≤ w7.heap.size := b7.size
      have HAL := Lib.hid (show ∀ q, blk A5 = some q → q < w7.heap.size from fun q e => Nat.lt_of_lt_of_le (hM.ablk q e).2.1 (by omega))
      have hbx8 : bx < w7.heap.size := Nat.lt_of_lt_of_le hM.h4 (by omega)
      obtain ⟨x0, x1, x2, x3, x4⟩ := own_box2 (hM7.box)
      try go_simp
      refine hK.out _ _ trivial (fun hHeld6 => ?_)
      clear hK K
      try simp only [Act.put, List.setIfInBounds_toArray, List.set_cons_zero, List.set_cons_succ]
      refine wpAnyH_ready (rs := [1, 4]) (by kernel_rfl) (by simp) ?_
      refine AllReadyH.cons rfl (fun K hK => ?_) (AllReadyH.cons rfl (fun K hK => ?_) AllReadyH.nil)
      · go_simp
        try go_simp
        refine hK.out _ _ trivial (fun hHeld7 => ?_)
        clear hK K
        try simp only [Act.put, List.setIfInBounds_toArray, List.set_cons_zero, List.set_cons_succ]
        refine wpAnyH_ready (rs := [4]) (by kernel_rfl) (by simp) ?_
        refine AllReadyH.cons rfl (fun K hK => ?_) AllReadyH.nil
        go_simp
        refine (CB.out A7 W c7 w7 o7.rd (o7.cap.1) (o7.cap.2)).mono ?_
        rintro e w8 ⟨A8, m8, c8, rfl, hs8, b8⟩
        have hM8 := hM7.below b8
        have hm8 : m8 ≤ 5 := by rw [← hs8.1]; exact HBL.out
        obtain ⟨y0, y1, y2, y3, y4⟩ := own_box2 (hM8.box)
        try go_simp
        refine hK.out _ _ trivial (fun hHeld8 => ?_)
        clear hK K
        try simp only [Act.put, List.setIfInBounds_toArray, List.set_cons_zero, List.set_cons_succ]
        refine wpAnyH_ready (rs := [5]) (by kernel_rfl) (by simp) ?_
        refine AllReadyH.cons rfl (fun K hK => ?_) AllReadyH.nil
        obtain ⟨hl1, hne1, vs1, v1, r1⟩ := hM8.x
        obtain ⟨hl2, vs2, v2, r2⟩ := hs8
        have one2 := all2_one r2 (fun v z h => h.one)
        have k83 := hM8.h3
        have k84 := hM8.h4
        refine step_append_any (w := w8) (by rfl) _ _ _ (by rfl) lo 30 (.slice none 0 0) 24 Tryz.underlying25 sliceInfo rfl A5 m5 c5 vs1 (by rfl) v1 A8 m8 c8 vs2 (by rfl) v2.rd one2 (by unfold maxLen; omega) (by omega) (by omega) ?_
        intro A9 c9 w9 ho9 hg9 hat9
        obtain ⟨d0, d1, d2, d3, d4⟩ := own_box2 (hM8.box3 hg9)
        have HM10 := Lib.hid (hM8.app v1 r1 hl2 r2 HAL.out hbx8 ho9 hg9 hat9)
        clear v1 v2 r1 r2 ho9 hg9 hat9 hM8 hl1 hne1 hl2
        try go_simp
        refine hK.out _ _ trivial (fun hHeld9 => ?_)
        clear hK K
        try simp only [Act.put, List.setIfInBounds_toArray, List.set_cons_zero, List.set_cons_succ]
        refine wpAnyH_take (i := 6) (oi := { dst := _, op := _, type := _, pos := _, after := _, guard := none }) (v := ?_) rfl (by kernel_rfl) (by kernel_rfl) (by kernel_rfl) (fun _ _ _ h => h) (Or.inl ⟨by rfl, ?_⟩) (by assumption) ?_
        rotate_left
        · intro w hSw; (try dsimp only at hSw); go_simp; (try with_reducible rfl)
        try simp only [Act.put, List.setIfInBounds_toArray, List.set_cons_zero, List.set_cons_succ]
        refine wpAnyH_ready (rs := [7]) (by kernel_rfl) (by simp) ?_
        refine AllReadyH.cons rfl (fun K hK => ?_) AllReadyH.nil
        go_simp
        try go_simp
        refine hK.out _ _ trivial (fun hHeld10 => ?_)
        clear hK K
        try simp only [Act.put, List.setIfInBounds_toArray, List.set_cons_zero, List.set_cons_succ]
        refine wpAnyH_done (by kernel_rfl) ?_ _
        go_wp2_with fail
        go_meet
        case rel => exact ⟨rfl, A9, m5 + m8, c9, _, HM10.out, by omega, Lib.hid (.inl ⟨P, rfl, HP.out⟩)⟩
      · go_simp
        refine (CB.out A7 W c7 w7 o7.rd (o7.cap.1) (o7.cap.2)).mono ?_
        rintro e w8 ⟨A8, m8, c8, rfl, hs8, b8⟩
        have hM8 := hM7.below b8
        have hm8 : m8 ≤ 5 := by rw [← hs8.1]; exact HBL.out
        obtain ⟨y0, y1, y2, y3, y4⟩ := own_box2 (hM8.box)
        try go_simp
        refine hK.out _ _ trivial (fun hHeld11 => ?_)
        clear hK K
        try simp only [Act.put, List.setIfInBounds_toArray, List.set_cons_zero, List.set_cons_succ]
        refine wpAnyH_ready (rs := [1]) (by kernel_rfl) (by simp) ?_
        refine AllReadyH.cons rfl (fun K hK => ?_) AllReadyH.nil
        go_simp
        try go_simp
        refine hK.out _ _ trivial (fun hHeld12 => ?_)
        clear hK K
        try simp only [Act.put, List.setIfInBounds_toArray, List.set_cons_zero, List.set_cons_succ]
        refine wpAnyH_ready (rs := [5]) (by kernel_rfl) (by simp) ?_
        refine AllReadyH.cons rfl (fun K hK => ?_) AllReadyH.nil
        obtain ⟨hl1, hne1, vs1, v1, r1⟩ := hM8.x
        obtain ⟨hl2, vs2, v2, r2⟩ := hs8
        have one2 := all2_one r2 (fun v z h => h.one)
        have k83 := hM8.h3
        have k84 := hM8.h4
        refine step_append_any (w := w8) (by rfl) _ _ _ (by rfl) lo 30 (.slice none 0 0) 24 Tryz.underlying25 sliceInfo rfl A5 m5 c5 vs1 (by rfl) v1 A8 m8 c8 vs2 (by rfl) v2.rd one2 (by unfold maxLen; omega) (by omega) (by omega) ?_
        intro A9 c9 w9 ho9 hg9 hat9
        obtain ⟨d0, d1, d2, d3, d4⟩ := own_box2 (hM8.box3 hg9)
        have HM10 := Lib.hid (hM8.app v1 r1 hl2 r2 HAL.out hbx8 ho9 hg9 hat9)
        clear v1 v2 r1 r2 ho9 hg9 hat9 hM8 hl1 hne1 hl2
        try go_simp
        refine hK.out _ _ trivial (fun hHeld13 => ?_)
        clear hK K
        try simp only [Act.put, List.setIfInBounds_toArray, List.set_cons_zero, List.set_cons_succ]
        refine wpAnyH_take (i := 6) (oi := { dst := _, op := _, type := _, pos := _, after := _, guard := none }) (v := ?_) rfl (by kernel_rfl) (by kernel_rfl) (by kernel_rfl) (fun _ _ _ h => h) (Or.inl ⟨by rfl, ?_⟩) (by assumption) ?_
        rotate_left
        · intro w hSw; (try dsimp only at hSw); go_simp; (try with_reducible rfl)
        try simp only [Act.put, List.setIfInBounds_toArray, List.set_cons_zero, List.set_cons_succ]
        refine wpAnyH_ready (rs := [7]) (by kernel_rfl) (by simp) ?_
        refine AllReadyH.cons rfl (fun K hK => ?_) AllReadyH.nil
        go_simp
        try go_simp
        refine hK.out _ _ trivial (fun hHeld14 => ?_)
        clear hK K
        try simp only [Act.put, List.setIfInBounds_toArray, List.set_cons_zero, List.set_cons_succ]
        refine wpAnyH_done (by kernel_rfl) ?_ _
        go_wp2_with fail
        go_meet
        case rel => exact ⟨rfl, A9, m5 + m8, c9, _, HM10.out, by omega, Lib.hid (.inl ⟨P, rfl, HP.out⟩)⟩
  case rest =>
    obtain ⟨rfl, A, m, c, z, hM0, hm, HYB⟩ := hcut
    clear CW CB HBL
    go_wp2_with fail
    refine (specOnce g 2 _ hM0.cur (by omega) (by omega)).mono ?_
    rintro e wa ⟨t, rfl, hca, hga⟩
    have hMa := hM0.curs hga hca
    have CI := Lib.hid (specInsertion W wa hWW.1 hWW.2)
    have HM := Lib.hid hMa
    clear hM0 hca hga hMa
    cases t with
    | true =>
      obtain ⟨Ax, mx, cx, zx, hMa⟩ : ∃ A m c z, MkS w wa b bx g lo W A m c z := ⟨_, _, _, _, HM.out⟩
      clear HM HYB hm
      clear A m c z
      go_wp2_with fail
      refine CI.out.mono ?_
      rintro e w6 ⟨A6, m6, c6, rfl, hm6, hs6, b6⟩
      have h4a := hMa.h4
      have hM7 := (hMa.below b6).below (below_alloc w6 (.cells #[.int .i64 (W : Int), .slice A6 m6 c6] 27))
      obtain ⟨x0, x1, x2, x3, x4⟩ := own_box2 hM7.box
      obtain ⟨y0, y1, y2, y3, y4⟩ := own_box2 (own_netbox w6 (W : Int) A6 m6 c6)
      have HM8 := Lib.hid (hM7.ins (hs6.below (below_alloc w6 (.cells #[.int .i64 (W : Int), .slice A6 m6 c6] 27))) h4a)
      have HYB := Lib.hid (show YB W (insJ W) from .inr rfl)
      clear hMa hM7 hs6 b6
      go_wp2_with fail
      refine (specOnce g 3 _ HM8.out.cur (by omega) (by omega)).mono ?_
      rintro e wr ⟨t, rfl, hcr, hgr⟩
      have hM := HM8.out.curs hgr hcr
      clear HM8 hcr hgr CI
      cases t with
      | true =>
        obtain ⟨p0, p1, p2, p3, p4⟩ := own_box2 hM.box
        go_upto_region 9 with fail
        go_cut [9] from 41 (fun v wx => v = .pointer (some ⟨bx, 0, none⟩) ∧ ∃ A m c z, MkS w wx b bx g lo W A m c z ∧ m ≤ 40 ∧ Hid (YL W z))
        case first =>
          refine wp_region_held_drew (S := (fun _ => True)) (by kernel_rfl) ?_ (fun hHeld => ?_)
          · trivial
          refine wpAnyH_take (i := 0) (oi := { dst := _, op := _, type := _, pos := _, after := _, guard := none }) (v := ?_) rfl (by kernel_rfl) (by kernel_rfl) (by kernel_rfl) (fun _ _ _ h => h) (Or.inl ⟨by rfl, ?_⟩) (by assumption) ?_
          rotate_left
          · intro w hSw; (try dsimp only at hSw); go_simp; (try with_reducible rfl)
          try simp only [Act.put, List.setIfInBounds_toArray, List.set_cons_zero, List.set_cons_succ]
          refine wpAnyH_take (i := 2) (oi := { dst := _, op := _, type := _, pos := _, after := _, guard := none }) (v := ?_) rfl (by kernel_rfl) (by kernel_rfl) (by kernel_rfl) (fun _ _ _ h => h) (Or.inl ⟨by rfl, ?_⟩) (by assumption) ?_
          rotate_left
          · intro w hSw; (try dsimp only at hSw); go_simp; (try with_reducible rfl)
          try simp only [Act.put, List.setIfInBounds_toArray, List.set_cons_zero, List.set_cons_succ]
          refine wpAnyH_take (i := 3) (oi := { dst := _, op := _, type := _, pos := _, after := _, guard := none }) (v := ?_) rfl (by kernel_rfl) (by kernel_rfl) (by kernel_rfl) (fun _ _ _ h => h) (Or.inl ⟨by rfl, ?_⟩) (by assumption) ?_
          rotate_left
          · intro w hSw; (try dsimp only at hSw); go_simp; (try with_reducible rfl)
          try simp only [Act.put, List.setIfInBounds_toArray, List.set_cons_zero, List.set_cons_succ]
          refine wpAnyH_ready (rs := [1, 4]) (by kernel_rfl) (by simp) ?_
          refine AllReadyH.cons rfl (fun K hK => ?_) (AllReadyH.cons rfl (fun K hK => ?_) AllReadyH.nil)
          · go_simp
            try go_simp
            refine hK.out _ _ trivial (fun hHeld15 => ?_)
            clear hK K
            try simp only [Act.put, List.setIfInBounds_toArray, List.set_cons_zero, List.set_cons_succ]
            refine wpAnyH_ready (rs := [4]) (by kernel_rfl) (by simp) ?_
            refine AllReadyH.cons rfl (fun K hK => ?_) AllReadyH.nil
            go_simp
            refine (specPairs3 g W true wr.drew hM.cur.drew (by omega) (by omega)).mono ?_
            rintro e w8 ⟨A8, m8, c8, z8, rfl, hm8, hN8, hR8, hC8, hG8⟩
            have hM8 := hM.curs (show wr.grownBy w8 (some g) from grown_undrew hG8) hC8
            have hs8 := hR8.s
            have k0 : wr.drew.heap.size = wr.heap.size := rfl
            have HAL := Lib.hid (show ∀ q, blk A6 = some q → q < wr.drew.heap.size from fun q e => Nat.lt_of_lt_of_le (hM.ablk q e).2.1 (by omega))
            have hbx8 : bx < wr.drew.heap.size := Nat.lt_of_lt_of_le hM.h4 (by omega)
            obtain ⟨y0, y1, y2, y3, y4⟩ := own_box2 (hM8.box)
            try go_simp
            refine hK.out _ _ trivial (fun hHeld16 => ?_)
            clear hK K
            try simp only [Act.put, List.setIfInBounds_toArray, List.set_cons_zero, List.set_cons_succ]
            refine wpAnyH_ready (rs := [5]) (by kernel_rfl) (by simp) ?_
            refine AllReadyH.cons rfl (fun K hK => ?_) AllReadyH.nil
            obtain ⟨hl1, hne1, vs1, v1, r1⟩ := hM8.x
            obtain ⟨hl2, vs2, v2, r2⟩ := hs8
            have one2 := all2_one r2 (fun v z h => h.one)
            have k83 := hM8.h3
            have k84 := hM8.h4
            refine step_append_any (w := w8) (by rfl) _ _ _ (by rfl) lo 30 (.slice none 0 0) 24 Tryz.underlying25 sliceInfo rfl A6 m6 c6 vs1 (by rfl) v1 A8 m8 c8 vs2 (by rfl) v2.rd one2 (by unfold maxLen; omega) (by omega) (by omega) ?_
            intro A9 c9 w9 ho9 hg9 hat9
            obtain ⟨d0, d1, d2, d3, d4⟩ := own_box2 (hM8.box3 hg9)
            have HM10 := Lib.hid (hM8.app v1 r1 hl2 r2 HAL.out hbx8 ho9 hg9 hat9)
            clear v1 v2 r1 r2 ho9 hg9 hat9 hM8 hl1 hne1 hl2
            try go_simp
            refine hK.out _ _ trivial (fun hHeld17 => ?_)
            clear hK K
            try simp only [Act.put, List.setIfInBounds_toArray, List.set_cons_zero, List.set_cons_succ]
            refine wpAnyH_take (i := 6) (oi := { dst := _, op := _, type := _, pos := _, after := _, guard := none }) (v := ?_) rfl (by kernel_rfl) (by kernel_rfl) (by kernel_rfl) (fun _ _ _ h => h) (Or.inl ⟨by rfl, ?_⟩) (by assumption) ?_
            rotate_left
            · intro w hSw; (try dsimp only at hSw); go_simp; (try with_reducible rfl)
            try simp only [Act.put, List.setIfInBounds_toArray, List.set_cons_zero, List.set_cons_succ]
            refine wpAnyH_ready (rs := [7]) (by kernel_rfl) (by simp) ?_
            refine AllReadyH.cons rfl (fun K hK => ?_) AllReadyH.nil
            go_simp
            try go_simp
            refine hK.out _ _ trivial (fun hHeld18 => ?_)
            clear hK K
            try simp only [Act.put, List.setIfInBounds_toArray, List.set_cons_zero, List.set_cons_succ]
            refine wpAnyH_done (by kernel_rfl) ?_ _
            go_wp2_with fail
            go_meet
            case rel => exact ⟨rfl, A9, m6 + m8, c9, _, HM10.out, by omega, Lib.hid ⟨_, z8, rfl, HYB.out, m8, hN8⟩⟩
          · go_simp
            refine (specPairs3 g W true wr.drew hM.cur.drew (by omega) (by omega)).mono ?_
            rintro e w8 ⟨A8, m8, c8, z8, rfl, hm8, hN8, hR8, hC8, hG8⟩
            have hM8 := hM.curs (show wr.grownBy w8 (some g) from grown_undrew hG8) hC8
            have hs8 := hR8.s
            have k0 : wr.drew.heap.size = wr.heap.size := rfl
            have HAL := Lib.hid (show ∀ q, blk A6 = some q → q < wr.drew.heap.size from fun q e => Nat.lt_of_lt_of_le (hM.ablk q e).2.1 (by omega))
            have hbx8 : bx < wr.drew.heap.size := Nat.lt_of_lt_of_le hM.h4 (by omega)
            obtain ⟨y0, y1, y2, y3, y4⟩ := own_box2 (hM8.box)
            try go_simp
            refine hK.out _ _ trivial (fun hHeld19 => ?_)
            clear hK K
            try simp only [Act.put, List.setIfInBounds_toArray, List.set_cons_zero, List.set_cons_succ]
            refine wpAnyH_ready (rs := [1]) (by kernel_rfl) (by simp) ?_
            refine AllReadyH.cons rfl (fun K hK => ?_) AllReadyH.nil
            go_simp
            try go_simp
            refine hK.out _ _ trivial (fun hHeld20 => ?_)
            clear hK K
            try simp only [Act.put, List.setIfInBounds_toArray, List.set_cons_zero, List.set_cons_succ]
            refine wpAnyH_ready (rs := [5]) (by kernel_rfl) (by simp) ?_
            refine AllReadyH.cons rfl (fun K hK => ?_) AllReadyH.nil
            obtain ⟨hl1, hne1, vs1, v1, r1⟩ := hM8.x
            obtain ⟨hl2, vs2, v2, r2⟩ := hs8
            have one2 := all2_one r2 (fun v z h => h.one)
            have k83 := hM8.h3
            have k84 := hM8.h4
            refine step_append_any (w := w8) (by rfl) _ _ _ (by rfl) lo 30 (.slice none 0 0) 24 Tryz.underlying25 sliceInfo rfl A6 m6 c6 vs1 (by rfl) v1 A8 m8 c8 vs2 (by rfl) v2.rd one2 (by unfold maxLen; omega) (by omega) (by omega) ?_
            intro A9 c9 w9 ho9 hg9 hat9
            obtain ⟨d0, d1, d2, d3, d4⟩ := own_box2 (hM8.box3 hg9)
            have HM10 := Lib.hid (hM8.app v1 r1 hl2 r2 HAL.out hbx8 ho9 hg9 hat9)
            clear v1 v2 r1 r2 ho9 hg9 hat9 hM8 hl1 hne1 hl2
            try go_simp
            refine hK.out _ _ trivial (fun hHeld21 => ?_)
            clear hK K
            try simp only [Act.put, List.setIfInBounds_toArray, List.set_cons_zero, List.set_cons_succ]
            refine wpAnyH_take (i := 6) (oi := { dst := _, op := _, type := _, pos := _, after := _, guard := none }) (v := ?_) rfl (by kernel_rfl) (by kernel_rfl) (by kernel_rfl) (fun _ _ _ h => h) (Or.inl ⟨by rfl, ?_⟩) (by assumption) ?_
            rotate_left
            · intro w hSw; (try dsimp only at hSw); go_simp; (try with_reducible rfl)
            try simp only [Act.put, List.setIfInBounds_toArray, List.set_cons_zero, List.set_cons_succ]
            refine wpAnyH_ready (rs := [7]) (by kernel_rfl) (by simp) ?_
            refine AllReadyH.cons rfl (fun K hK => ?_) AllReadyH.nil
            go_simp
            try go_simp
            refine hK.out _ _ trivial (fun hHeld22 => ?_)
            clear hK K
            try simp only [Act.put, List.setIfInBounds_toArray, List.set_cons_zero, List.set_cons_succ]
            refine wpAnyH_done (by kernel_rfl) ?_ _
            go_wp2_with fail
            go_meet
            case rel => exact ⟨rfl, A9, m6 + m8, c9, _, HM10.out, by omega, Lib.hid ⟨_, z8, rfl, HYB.out, m8, hN8⟩⟩
        case rest =>
          clear hM p0 p1 p2 p3 p4
          obtain ⟨rfl, A, m, c, z, hM, hm, HYL⟩ := hcut
          obtain ⟨p0, p1, p2, p3, p4⟩ := own_box2 hM.box
          obtain ⟨r0, r1, r2, r3, r4⟩ := own_box2 hM.res
          have hk1 := hM.h1
          have hk2 := hM.h2
          have hr8 := (hM.res.set_ (k := 0) (.int .i64 (W : Int)) (by omega)).set_ (k := 1) (.slice A m c) (by omega)
          obtain ⟨d0, d1, _, _, _⟩ := own_box2 hr8
          have HRD := Lib.hid ((hM.x.keep (fun q h1 _ _ => (Below.heap_setCell _ ⟨b, 1, none⟩ (.slice A m c) q (by show q ≠ b; omega)).trans (Below.heap_setCell _ ⟨b, 0, none⟩ (.int .i64 (W : Int)) q (by show q ≠ b; omega)))).s.rd)
          have HBE := Lib.hid ((hM.bel.setCell (p := ⟨b, 0, none⟩) (Nat.le_refl _) (.int .i64 (W : Int))).setCell (p := ⟨b, 1, none⟩) (Nat.le_refl _) (.slice A m c))
          clear hM hr8
          go_wp2_with fail
          exact bodyPost_ret (v := .agg #[.int .i64 (W : Int), .slice A m c]) (by simp [results, Tryz.results15, go_sem, d0, d1]) rfl ⟨W, m, A, c, _, rfl, hWW, hm, HYL.out, HRD.out, by rw [HSZ.out]; exact HBE.out⟩
      | false =>
        have HYL := Lib.hid (show YL W (insJ W) from ⟨_, [], by simp, HYB.out, 0, netR_nil W⟩)
        have hm : m6 ≤ 40 := by omega
        obtain ⟨p0, p1, p2, p3, p4⟩ := own_box2 hM.box
        obtain ⟨r0, r1, r2, r3, r4⟩ := own_box2 hM.res
        have hk1 := hM.h1
        have hk2 := hM.h2
        have hr8 := (hM.res.set_ (k := 0) (.int .i64 (W : Int)) (by omega)).set_ (k := 1) (.slice A6 m6 c6) (by omega)
        obtain ⟨d0, d1, _, _, _⟩ := own_box2 hr8
        have HRD := Lib.hid ((hM.x.keep (fun q h1 _ _ => (Below.heap_setCell _ ⟨b, 1, none⟩ (.slice A6 m6 c6) q (by show q ≠ b; omega)).trans (Below.heap_setCell _ ⟨b, 0, none⟩ (.int .i64 (W : Int)) q (by show q ≠ b; omega)))).s.rd)
        have HBE := Lib.hid ((hM.bel.setCell (p := ⟨b, 0, none⟩) (Nat.le_refl _) (.int .i64 (W : Int))).setCell (p := ⟨b, 1, none⟩) (Nat.le_refl _) (.slice A6 m6 c6))
        clear hM hr8
        go_wp2_with fail
        exact bodyPost_ret (v := .agg #[.int .i64 (W : Int), .slice A6 m6 c6]) (by simp [results, Tryz.results15, go_sem, d0, d1]) rfl ⟨W, m6, A6, c6, _, rfl, hWW, hm, HYL.out, HRD.out, by rw [HSZ.out]; exact HBE.out⟩
    | false =>
      have HM8 := HM
      have hm6 : m ≤ 20 := by omega
      clear HM
      go_wp2_with fail
      refine (specOnce g 3 _ HM8.out.cur (by omega) (by omega)).mono ?_
      rintro e wr ⟨t, rfl, hcr, hgr⟩
      have hM := HM8.out.curs hgr hcr
      clear HM8 hcr hgr CI
      cases t with
      | true =>
        obtain ⟨p0, p1, p2, p3, p4⟩ := own_box2 hM.box
        go_upto_region 9 with fail
        go_cut [9] from 41 (fun v wx => v = .pointer (some ⟨bx, 0, none⟩) ∧ ∃ A m c z, MkS w wx b bx g lo W A m c z ∧ m ≤ 40 ∧ Hid (YL W z))
        case first =>
          refine wp_region_held_drew (S := (fun _ => True)) (by kernel_rfl) ?_ (fun hHeld => ?_)
          · trivial
          refine wpAnyH_take (i := 0) (oi := { dst := _, op := _, type := _, pos := _, after := _, guard := none }) (v := ?_) rfl (by kernel_rfl) (by kernel_rfl) (by kernel_rfl) (fun _ _ _ h => h) (Or.inl ⟨by rfl, ?_⟩) (by assumption) ?_
          rotate_left
          · intro w hSw; (try dsimp only at hSw); go_simp; (try with_reducible rfl)
          try simp only [Act.put, List.setIfInBounds_toArray, List.set_cons_zero, List.set_cons_succ]
          refine wpAnyH_take (i := 2) (oi := { dst := _, op := _, type := _, pos := _, after := _, guard := none }) (v := ?_) rfl (by kernel_rfl) (by kernel_rfl) (by kernel_rfl) (fun _ _ _ h => h) (Or.inl ⟨by rfl, ?_⟩) (by assumption) ?_
          rotate_left
          · intro w hSw; (try dsimp only at hSw); go_simp; (try with_reducible rfl)
          try simp only [Act.put, List.setIfInBounds_toArray, List.set_cons_zero, List.set_cons_succ]
          refine wpAnyH_take (i := 3) (oi := { dst := _, op := _, type := _, pos := _, after := _, guard := none }) (v := ?_) rfl (by kernel_rfl) (by kernel_rfl) (by kernel_rfl) (fun _ _ _ h => h) (Or.inl ⟨by rfl, ?_⟩) (by assumption) ?_
          rotate_left
          · intro w hSw; (try dsimp only at hSw); go_simp; (try with_reducible rfl)
          try simp only [Act.put, List.setIfInBounds_toArray, List.set_cons_zero, List.set_cons_succ]
          refine wpAnyH_ready (rs := [1, 4]) (by kernel_rfl) (by simp) ?_
          refine AllReadyH.cons rfl (fun K hK => ?_) (AllReadyH.cons rfl (fun K hK => ?_) AllReadyH.nil)
          · go_simp
            try go_simp
            refine hK.out _ _ trivial (fun hHeld23 => ?_)
            clear hK K
            try simp only [Act.put, List.setIfInBounds_toArray, List.set_cons_zero, List.set_cons_succ]
            refine wpAnyH_ready (rs := [4]) (by kernel_rfl) (by simp) ?_
            refine AllReadyH.cons rfl (fun K hK => ?_) AllReadyH.nil
            go_simp
            refine (specPairs3 g W true wr.drew hM.cur.drew (by omega) (by omega)).mono ?_
            rintro e w8 ⟨A8, m8, c8, z8, rfl, hm8, hN8, hR8, hC8, hG8⟩
            have hM8 := hM.curs (show wr.grownBy w8 (some g) from grown_undrew hG8) hC8
            have hs8 := hR8.s
            have k0 : wr.drew.heap.size = wr.heap.size := rfl
            have HAL := Lib.hid (show ∀ q, blk A = some q → q < wr.drew.heap.size from fun q e => Nat.lt_of_lt_of_le (hM.ablk q e).2.1 (by omega))
            have hbx8 : bx < wr.drew.heap.size := Nat.lt_of_lt_of_le hM.h4 (by omega)
            obtain ⟨y0, y1, y2, y3, y4⟩ := own_box2 (hM8.box)
            try go_simp
            refine hK.out _ _ trivial (fun hHeld24 => ?_)
            clear hK K
            try simp only [Act.put, List.setIfInBounds_toArray, List.set_cons_zero, List.set_cons_succ]
            refine wpAnyH_ready (rs := [5]) (by kernel_rfl) (by simp) ?_
            refine AllReadyH.cons rfl (fun K hK => ?_) AllReadyH.nil
            obtain ⟨hl1, hne1, vs1, v1, r1⟩ := hM8.x
            obtain ⟨hl2, vs2, v2, r2⟩ := hs8
            have one2 := all2_one r2 (fun v z h => h.one)
            have k83 := hM8.h3
            have k84 := hM8.h4
            refine step_append_any (w := w8) (by rfl) _ _ _ (by rfl) lo 30 (.slice none 0 0) 24 Tryz.underlying25 sliceInfo rfl A m c vs1 (by rfl) v1 A8 m8 c8 vs2 (by rfl) v2.rd one2 (by unfold maxLen; omega) (by omega) (by omega) ?_
            intro A9 c9 w9 ho9 hg9 hat9
            obtain ⟨d0, d1, d2, d3, d4⟩ := own_box2 (hM8.box3 hg9)
            have HM10 := Lib.hid (hM8.app v1 r1 hl2 r2 HAL.out hbx8 ho9 hg9 hat9)
            clear v1 v2 r1 r2 ho9 hg9 hat9 hM8 hl1 hne1 hl2
            try go_simp
            refine hK.out _ _ trivial (fun hHeld25 => ?_)
            clear hK K
            try simp only [Act.put, List.setIfInBounds_toArray, List.set_cons_zero, List.set_cons_succ]
            refine wpAnyH_take (i := 6) (oi := { dst := _, op := _, type := _, pos := _, after := _, guard := none }) (v := ?_) rfl (by kernel_rfl) (by kernel_rfl) (by kernel_rfl) (fun _ _ _ h => h) (Or.inl ⟨by rfl, ?_⟩) (by assumption) ?_
            rotate_left
            · intro w hSw; (try dsimp only at hSw); go_simp; (try with_reducible rfl)
            try simp only [Act.put, List.setIfInBounds_toArray, List.set_cons_zero, List.set_cons_succ]
            refine wpAnyH_ready (rs := [7]) (by kernel_rfl) (by simp) ?_
            refine AllReadyH.cons rfl (fun K hK => ?_) AllReadyH.nil
            go_simp
            try go_simp
            refine hK.out _ _ trivial (fun hHeld26 => ?_)
            clear hK K
            try simp only [Act.put, List.setIfInBounds_toArray, List.set_cons_zero, List.set_cons_succ]
            refine wpAnyH_done (by kernel_rfl) ?_ _
            go_wp2_with fail
            go_meet
            case rel => exact ⟨rfl, A9, m + m8, c9, _, HM10.out, by omega, Lib.hid ⟨_, z8, rfl, HYB.out, m8, hN8⟩⟩
          · go_simp
            refine (specPairs3 g W true wr.drew hM.cur.drew (by omega) (by omega)).mono ?_
            rintro e w8 ⟨A8, m8, c8, z8, rfl, hm8, hN8, hR8, hC8, hG8⟩
            have hM8 := hM.curs (show wr.grownBy w8 (some g) from grown_undrew hG8) hC8
            have hs8 := hR8.s
            have k0 : wr.drew.heap.size = wr.heap.size := rfl
            have HAL := Lib.hid (show ∀ q, blk A = some q → q < wr.drew.heap.size from fun q e => Nat.lt_of_lt_of_le (hM.ablk q e).2.1 (by omega))
            have hbx8 : bx < wr.drew.heap.size := Nat.lt_of_lt_of_le hM.h4 (by omega)
            obtain ⟨y0, y1, y2, y3, y4⟩ := own_box2 (hM8.box)
            try go_simp
            refine hK.out _ _ trivial (fun hHeld27 => ?_)
            clear hK K
            try simp only [Act.put, List.setIfInBounds_toArray, List.set_cons_zero, List.set_cons_succ]
            refine wpAnyH_ready (rs := [1]) (by kernel_rfl) (by simp) ?_
            refine AllReadyH.cons rfl (fun K hK => ?_) AllReadyH.nil
            go_simp
            try go_simp
            refine hK.out _ _ trivial (fun hHeld28 => ?_)
            clear hK K
            try simp only [Act.put, List.setIfInBounds_toArray, List.set_cons_zero, List.set_cons_succ]
            refine wpAnyH_ready (rs := [5]) (by kernel_rfl) (by simp) ?_
            refine AllReadyH.cons rfl (fun K hK => ?_) AllReadyH.nil
            obtain ⟨hl1, hne1, vs1, v1, r1⟩ := hM8.x
            obtain ⟨hl2, vs2, v2, r2⟩ := hs8
            have one2 := all2_one r2 (fun v z h => h.one)
            have k83 := hM8.h3
            have k84 := hM8.h4
            refine step_append_any (w := w8) (by rfl) _ _ _ (by rfl) lo 30 (.slice none 0 0) 24 Tryz.underlying25 sliceInfo rfl A m c vs1 (by rfl) v1 A8 m8 c8 vs2 (by rfl) v2.rd one2 (by unfold maxLen; omega) (by omega) (by omega) ?_
            intro A9 c9 w9 ho9 hg9 hat9
            obtain ⟨d0, d1, d2, d3, d4⟩ := own_box2 (hM8.box3 hg9)
            have HM10 := Lib.hid (hM8.app v1 r1 hl2 r2 HAL.out hbx8 ho9 hg9 hat9)
            clear v1 v2 r1 r2 ho9 hg9 hat9 hM8 hl1 hne1 hl2
            try go_simp
            refine hK.out _ _ trivial (fun hHeld29 => ?_)
            clear hK K
            try simp only [Act.put, List.setIfInBounds_toArray, List.set_cons_zero, List.set_cons_succ]
            refine wpAnyH_take (i := 6) (oi := { dst := _, op := _, type := _, pos := _, after := _, guard := none }) (v := ?_) rfl (by kernel_rfl) (by kernel_rfl) (by kernel_rfl) (fun _ _ _ h => h) (Or.inl ⟨by rfl, ?_⟩) (by assumption) ?_
            rotate_left
            · intro w hSw; (try dsimp only at hSw); go_simp; (try with_reducible rfl)
            try simp only [Act.put, List.setIfInBounds_toArray, List.set_cons_zero, List.set_cons_succ]
            refine wpAnyH_ready (rs := [7]) (by kernel_rfl) (by simp) ?_
            refine AllReadyH.cons rfl (fun K hK => ?_) AllReadyH.nil
            go_simp
            try go_simp
            refine hK.out _ _ trivial (fun hHeld30 => ?_)
            clear hK K
            try simp only [Act.put, List.setIfInBounds_toArray, List.set_cons_zero, List.set_cons_succ]
            refine wpAnyH_done (by kernel_rfl) ?_ _
            go_wp2_with fail
            go_meet
            case rel => exact ⟨rfl, A9, m + m8, c9, _, HM10.out, by omega, Lib.hid ⟨_, z8, rfl, HYB.out, m8, hN8⟩⟩
        case rest =>
          clear hM p0 p1 p2 p3 p4
          obtain ⟨rfl, A, m, c, z, hM, hm, HYL⟩ := hcut
          obtain ⟨p0, p1, p2, p3, p4⟩ := own_box2 hM.box
          obtain ⟨r0, r1, r2, r3, r4⟩ := own_box2 hM.res
          have hk1 := hM.h1
          have hk2 := hM.h2
          have hr8 := (hM.res.set_ (k := 0) (.int .i64 (W : Int)) (by omega)).set_ (k := 1) (.slice A m c) (by omega)
          obtain ⟨d0, d1, _, _, _⟩ := own_box2 hr8
          have HRD := Lib.hid ((hM.x.keep (fun q h1 _ _ => (Below.heap_setCell _ ⟨b, 1, none⟩ (.slice A m c) q (by show q ≠ b; omega)).trans (Below.heap_setCell _ ⟨b, 0, none⟩ (.int .i64 (W : Int)) q (by show q ≠ b; omega)))).s.rd)
          have HBE := Lib.hid ((hM.bel.setCell (p := ⟨b, 0, none⟩) (Nat.le_refl _) (.int .i64 (W : Int))).setCell (p := ⟨b, 1, none⟩) (Nat.le_refl _) (.slice A m c))
          clear hM hr8
          go_wp2_with fail
          exact bodyPost_ret (v := .agg #[.int .i64 (W : Int), .slice A m c]) (by simp [results, Tryz.results15, go_sem, d0, d1]) rfl ⟨W, m, A, c, _, rfl, hWW, hm, HYL.out, HRD.out, by rw [HSZ.out]; exact HBE.out⟩
      | false =>
        have HYL := Lib.hid (show YL W z from ⟨_, [], by simp, HYB.out, 0, netR_nil W⟩)
        have hm : m ≤ 40 := by omega
        obtain ⟨p0, p1, p2, p3, p4⟩ := own_box2 hM.box
        obtain ⟨r0, r1, r2, r3, r4⟩ := own_box2 hM.res
        have hk1 := hM.h1
        have hk2 := hM.h2
        have hr8 := (hM.res.set_ (k := 0) (.int .i64 (W : Int)) (by omega)).set_ (k := 1) (.slice A m c) (by omega)
        obtain ⟨d0, d1, _, _, _⟩ := own_box2 hr8
        have HRD := Lib.hid ((hM.x.keep (fun q h1 _ _ => (Below.heap_setCell _ ⟨b, 1, none⟩ (.slice A m c) q (by show q ≠ b; omega)).trans (Below.heap_setCell _ ⟨b, 0, none⟩ (.int .i64 (W : Int)) q (by show q ≠ b; omega)))).s.rd)
        have HBE := Lib.hid ((hM.bel.setCell (p := ⟨b, 0, none⟩) (Nat.le_refl _) (.int .i64 (W : Int))).setCell (p := ⟨b, 1, none⟩) (Nat.le_refl _) (.slice A m c))
        clear hM hr8
        go_wp2_with fail
        exact bodyPost_ret (v := .agg #[.int .i64 (W : Int), .slice A m c]) (by simp [results, Tryz.results15, go_sem, d0, d1]) rfl ⟨W, m, A, c, _, rfl, hWW, hm, HYL.out, HRD.out, by rw [HSZ.out]; exact HBE.out⟩
end Go.Proofs.YtobdkfhmmpigiaaGreat
