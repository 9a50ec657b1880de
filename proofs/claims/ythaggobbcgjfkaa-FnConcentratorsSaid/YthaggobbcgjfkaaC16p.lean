/- Chapter 16: a plan that is drawn. -/
import Derived.Test.YthaggobbcgjfkaaC16o
import Derived.Test.YthaggobbcgjfkaaDraw
namespace Go.Proofs.Ythaggobbcgjfkaa
open Go.RowKit Go.Deep
set_option linter.unusedVariables false

theorem pick_lt : ∀ k, k < 5 → 0 ≤ nth [0, 1, 2, 4, 8] k ∧ nth [0, 1, 2, 4, 8] k < 64 := by decide +kernel
theorem draw_fact {x y k : Nat} (hx : x < 64) (hy : y < 64) (hk : k < 5) : ∃ a v : Nat, a < 64 ∧ v < 64 ∧ bits .and .i64 (x : Int) (y : Int) = (a : Int) ∧ bits .or .i64 (a : Int) (nth [0, 1, 2, 4, 8] k) = (v : Int) := by
  have hp := pick_lt k hk
  have h1 := bits_and_small (a := (x : Int)) (b := (y : Int)) (by omega) (by omega) (by omega) (by omega)
  have ha : x &&& y < 64 := and64 hx
  have h2 := bits_or_small (a := ((x &&& y : Nat) : Int)) (b := nth [0, 1, 2, 4, 8] k) (by omega) (by omega) hp.1 (by omega)
  exact ⟨x &&& y, (x &&& y) ||| (nth [0, 1, 2, 4, 8] k).toNat, ha, or64 ha (by omega), by simpa using h1, by simpa using h2⟩
theorem pfx_app {zs : List Int} {m : Nat} {x : Int} (hl : zs.length = m) (h : PfxOk zs m) (hx : okSet x = true) : PfxOk (zs ++ [x]) (m + 1) := fun j hj => by
  by_cases e : j = m
  · subst e
    rw [nth, List.getD, List.getElem?_append_right (by omega), hl]
    simpa using hx
  · have h1 := h j (by omega)
    rw [nth, List.getD, List.getElem?_append_left (by omega)]
    exact h1
theorem rd_lit5 (w : World) : RdI (w.alloc (.cells #[.int .i64 0, .int .i64 1, .int .i64 2, .int .i64 4, .int .i64 8] 3)) (some ⟨w.heap.size, 0, none⟩) 5 [0, 1, 2, 4, 8] :=
  Own.rd (base := w.heap.size) (e := 3) (c := 5) (World.ownsRow_lit (base := w.heap.size) (e := 3) (size := 1) w #[.int .i64 0, .int .i64 1, .int .i64 2, .int .i64 4, .int .i64 8] 5 (Nat.le_refl _) (by unfold maxLen; omega) rfl)

set_option maxHeartbeats 4000000 in
theorem specDraw16 (g : Nat) (w : World) (hc : Cur w g) : Calls Try.prog 53 #[.pointer (some ⟨g, 0, none⟩)] w fun e w' => ∃ A m c zs, e = .returned (.slice A m c) ∧ 1 ≤ m ∧ m ≤ 5 ∧ OwnI w' w.heap.size 3 A m c zs ∧ PfxOk zs m ∧ Below g w w' := by
  have hgw := hc.lt
  obtain ⟨B, hB⟩ : ∃ B, w.heap.size = B := ⟨_, rfl⟩
  have HC0 := Lib.hid hc
  have HB := Lib.hid hB
  have HO0 := Lib.hid (show OwnI (w.alloc (.cells #[] 3)) B 3 (some ⟨w.heap.size, 0, none⟩) 0 0 [] from hB ▸ own_empty w _)
  rw [hB] at hgw ⊢
  clear hB hc
  go_enter Try.func53, Try.ntmps53
  go_wp2_with fail
  refine (specBelow g 5 _ (HC0.out.below (below_alloc w _)) (by omega) (by omega)).mono ?_
  rintro e w1 ⟨x0, hx0, rfl, hc1, hg1⟩
  have HO1 := Lib.hid (own_cur HO0.out hg1 hgw)
  have HB1 := Lib.hid (show Below g w w1 from ((below_alloc w _).mono (by rw [HB.out]; omega)).trans (below_cur hg1 (Nat.le_refl _) (by simp; rw [HB.out]; omega)))
  have HC1 := Lib.hid hc1
  clear hg1 hc1
  go_wp2_with fail
  rw [HB.out]
  go_loopw [3, 4] (fun lv nv wr => ∃ m r A c zs, lv = .slice A m c ∧ nv = .int .i64 (r : Nat) ∧ m + r = 1 + x0 ∧ OwnI wr B 3 A m c zs ∧ PfxOk zs m ∧ Cur wr g ∧ Below g w wr) (fun _ nv _ => (intOf nv).toNat)
  case atStart => exact ⟨0, 1 + x0, _, _, _, rfl, by go_num, by omega, by rw [← HB.out]; rw [HB.out]; exact HB.out ▸ HO1.out, PfxOk.zero _, HC1.out, HB1.out⟩
  case round =>
    obtain ⟨m, r, A, c, zs, rfl, rfl, hmr, hown, hpf, hc, hbl⟩ := hrel
    by_cases hr0 : 0 < r
    · have hm5 : m < 5 := by omega
      have HPF := Lib.hid hpf
      have HL := Lib.hid hown.lenI
      clear hpf
      go_wp2_with fail
      refine (specBelow g 64 wr hc (by omega) (by omega)).mono ?_
      rintro e w2 ⟨x, hx, rfl, hc2, hg2⟩
      have ho2 := own_cur hown hg2 hgw
      have hb2 := hbl.trans (below_cur hg2 (Nat.le_refl _) (by have := hc.lt; omega))
      clear hc hown hbl hg2
      go_wp2_with fail
      refine (specBelow g 64 w2 hc2 (by omega) (by omega)).mono ?_
      rintro e w3 ⟨y, hy, rfl, hc3, hg3⟩
      have ho3 := own_cur ho2 hg3 hgw
      have hb3 := hb2.trans (below_cur hg3 (Nat.le_refl _) (by have := hc2.lt; omega))
      clear hc2 ho2 hb2 hg3
      have HC4 := Lib.hid (hc3.below (below_alloc w3 (.cells #[.int .i64 0, .int .i64 1, .int .i64 2, .int .i64 4, .int .i64 8] 3)))
      have HO4 := Lib.hid (ho3.alloc (.cells #[.int .i64 0, .int .i64 1, .int .i64 2, .int .i64 4, .int .i64 8] 3))
      have HB4 := Lib.hid (hb3.alloc (show g ≤ w3.heap.size by have := hc3.lt; omega) (.cells #[.int .i64 0, .int .i64 1, .int .i64 2, .int .i64 4, .int .i64 8] 3))
      have hg3 := hc3.lt
      clear hc3 ho3 hb3
      go_wp2_with fail
      refine (specPick g (some ⟨w3.heap.size, 0, none⟩) 5 5 [0, 1, 2, 4, 8] _ HC4.out (rd_lit5 w3) (fun q hq => by have h3 : w3.heap.size = q := (by simpa [blk] using hq); omega) (by omega) (by omega)).mono ?_
      rintro e w5 ⟨k, hk, rfl, hc5, hg5⟩
      have hown := own_cur HO4.out hg5 hgw
      have hbl := HB4.out.trans (below_cur hg5 (Nat.le_refl _) (by have := HC4.out.lt; omega))
      obtain ⟨a, v, ha, hv, e1, e2⟩ := draw_fact hx hy hk
      have hsz : B ≤ w5.heap.size := by have := hbl.size; rw [HB.out] at this; exact this
      clear hg5
      go_wp2_with (at_builtin; refine wpL_append1 _ rfl _ _ _ rfl B 3 (.int .i64 0) 8 Try.underlying22 intInfo rfl _ m _ _ rfl hown _ rfl rfl (by unfold maxLen; omega) (by omega) hsz ?_)
      intro A6 c6 w6 ho6 hg6 hat6
      have hb6 : Below g w w6 := hbl.grown hg6 (by omega) fun q hq => by have := (hown.blk_ q hq).1; omega
      have hc6 : Cur w6 g := hc5.grown hg6 (fun q hq => by have := (hown.blk_ q hq).1; omega)
      go_wp2
      go_roundw
      case rel => exact ⟨m + 1, r - 1, A6, c6, zs ++ [(v : Int)], rfl, by go_num, by omega, by simpa [OwnI] using ho6, pfx_app HL.out HPF.out (by rw [okSet, decide_eq_true_eq]; omega), hc6, hb6⟩
      case measure => (simp [intOf] <;> omega)
    · go_wp2_with fail
      go_ret
      exact ⟨A, m, c, zs, rfl, by omega, by omega, hown, hpf, hbl⟩

set_option maxHeartbeats 1000000 in
theorem specPlan (A : Option Addr) (n c N : Nat) (bs : List Int) (w : World) (ha : RdU w A n bs) (hz : ∀ z ∈ bs, 0 ≤ z ∧ z < 256) (hn : n ≤ 1048576) (hN : N ≤ 1000) :
    Calls Try.prog 35 #[.slice A n c, .int .i64 N] w fun e w' => ∃ A' m c' zs, e = .returned (.slice A' m c') ∧ 1 ≤ m ∧ m ≤ 5 ∧ OwnI w' w.heap.size 3 A' m c' zs ∧ planOk zs = true ∧ Below w.heap.size w w' := by
  have CN := Lib.hid (specAtByte A n c N bs w ha hz hn hN)
  clear hz ha
  go_enter Try.func35, Try.ntmps35
  go_wp2_with fail
  refine CN.out.mono ?_
  rintro e w1 ⟨g, rfl, hg, hc, hb⟩
  go_wp2_with fail
  refine (specDraw16 g w1 hc).mono ?_
  rintro e w2 ⟨A2, m, c2, zs, rfl, h1, h5, ho, hp, hb2⟩
  go_wp2_with fail
  go_ret
  exact ⟨A2, m, c2, zs, rfl, h1, h5, ho.more (b2 := w.heap.size) hb.size, planOk_yes (by rw [ho.lenI]; omega) (by rw [ho.lenI]; exact hp), hb.trans (hb2.mono hg)⟩
end Go.Proofs.Ythaggobbcgjfkaa
