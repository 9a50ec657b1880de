/- Chapter 13: TraceTokens. -/
import Derived.Test.YtcijnmooifcicaaC13f
namespace Go.Proofs.Ytcijnmooifcicaa
open Go.RowKit Go.Deep
set_option linter.unusedVariables false

theorem boolInfo : (Try.prog.info? 4).map (fun i => (i.zero, i.size, i.bytes)) = some (some (.bool false), 1, 1) := by kernel_rfl
abbrev bV (v : List Bool) : List Value := v.map Value.bool
theorem bV_at {v : List Bool} {j : Nat} {u : Value} (h : (bV v)[j]? = some u) : u = .bool (bAt v j) := by
  rw [List.getElem?_map] at h
  cases hv : v[j]? with
  | none => rw [hv] at h; cases h
  | some b =>
    rw [hv] at h
    injection h with h
    rw [← h, bAt, List.getD, hv]; rfl
theorem own_bV {w : World} {g j n c base : Nat} {e : TypeId} {v : List Bool} (b : Bool) (h : Own w base e (some ⟨g, 0, none⟩) n c (bV v)) (hj : j < n) : Own (w.setCell ⟨g, j, none⟩ (.bool b)) base e (some ⟨g, 0, none⟩) n c (bV (v.set j b)) := by
  have h2 := h.set_ (Value.bool b) hj
  rwa [← List.map_set] at h2
def TtS (zss : List (List Int)) (n : Nat) (es : List Int) (x : Int) (k : Nat) (v : List Bool) (acc : List Int) : Prop := ttTo zss n es k = (v, acc) ∧ wiTo x es k = true
def TiS (zss : List (List Int)) (v : List Bool) (a j : Nat) (v2 : List Bool) (b : Nat) : Prop := ttIn zss v a j = (v2, b)
theorem tiS_zero (zss : List (List Int)) (v : List Bool) (a : Nat) : TiS zss v a 0 v a := ttIn_zero zss v a
theorem wi_next {x : Int} {es : List Int} {k : Nat} (h : wiTo x es k = true) {a W : Nat} (ha : nth es k = a) (hx : x = W) (hW : a < W) : wiTo x es (k + 1) = true := by
  refine wiTo_on h ?_
  rw [ha, hx, inW, decide_eq_true_eq]; omega
theorem ttS_next {zss : List (List Int)} {n : Nat} {es : List Int} {x : Int} {k a b W : Nat} {v v2 : List Bool} {acc : List Int} (h : TtS zss n es x k v acc) (ha : nth es k = a) (hx : x = W) (hW : a < W) (h2 : TiS zss v a n v2 b) : TtS zss n es x (k + 1) v2 (acc ++ [(b : Int)]) :=
  ⟨ttTo_succ h.1 ha h2, wi_next h.2 ha hx hW⟩
theorem ttB_yes {x : Int} {zss : List (List Int)} {es : List Int} {m : Nat} (hl : es.length = m) (h1 : netV x zss = true) (h2 : m ≤ 60) (h3 : wiTo x es m = true) : ttB x zss es = true := by
  rw [ttB, hl, h1, h3, decide_eq_true h2]; rfl
theorem ttB_wire {x : Int} {zss : List (List Int)} {es : List Int} {m k : Nat} (hl : es.length = m) (hk : k < m) (h : inW x (nth es k) = false) : ttB x zss es = false := by
  rw [ttB, hl, wiTo_bad h m hk]; simp
theorem ttOut_no {x : Int} {zss : List (List Int)} {es : List Int} (h : ttB x zss es = false) : ttOut x zss es = [] := by rw [ttOut, h]; rfl
theorem ttOut_yes {x : Int} {zss : List (List Int)} {es : List Int} {n m : Nat} {v : List Bool} {acc : List Int} (h : ttB x zss es = true) (hn : zss.length = n) (hm : es.length = m) (h2 : ttTo zss n es m = (v, acc)) : ttOut x zss es = acc := by
  rw [ttOut, h, hn, hm, h2]; rfl
attribute [irreducible] TtS TiS

set_option maxHeartbeats 4000000 in
theorem specTrace (x : Int) (A : Option Addr) (n c : Nat) (zss : List (List Int)) (S : Option Addr) (m d : Nat) (es : List Int) (w : World) (ha : RdM w A n zss) (hn : n ≤ 1048576) (hs : RdI w S m es) (hm : m ≤ 1048576) :
    Calls Try.prog 27 #[.agg #[.int .i64 x, .slice A n c], .slice S m d] w fun e w' => ∃ A' n' c', e = .returned (.tuple #[.slice A' n' c', .bool (ttB x zss es)]) ∧ OwnI w' w.heap.size 3 A' n' c' (ttOut x zss es) ∧ Below w.heap.size w w' := by
  have C := fun w' (h1 : RdM w' A n zss) => specNetOk x A n c zss w' h1 hn
  have hal := (below_alloc w (.cells #[.int .i64 x, .slice A n c] 35))
  have HLS := Lib.hid hs.lenI
  cases hg : netV x zss with
  | false =>
    have HT := Lib.hid (show ttB x zss es = false by rw [ttB, hg]; rfl)
    have H := Lib.hid (show ttOut x zss es = [] by rw [ttOut, HT.out]; rfl)
    rw [hg] at C
    have CC := Lib.hid C
    clear C hg
    go_enter Try.func27, Try.ntmps27
    go_wp2_with fail
    refine (CC.out _ (ha.below hal)).mono ?_
    rintro e w1 ⟨rfl, hb1⟩
    go_wp2_with fail
    go_ret2
    exact ⟨none, 0, 0, ret_sb HT.out.symm, by rw [H.out]; exact Own.nil_ _ _ _, hal.trans (hb1.mono (by simp))⟩
  | true =>
    have HG := Lib.hid hg
    rw [hg] at C
    have CC := Lib.hid C
    clear C hg
    by_cases h60 : m ≤ 60
    · skip
      obtain ⟨W, rfl, hW1, hW8, hn60, hrow⟩ := net_out ha.1 HG.out
      have HR := Lib.hid hrow
      have HA := Lib.hid ha
      have HS := Lib.hid hs
      have HZ := Lib.hid ha.1
      clear hrow hs
      have hm60 : m ≤ 60 := h60
      go_enter Try.func27, Try.ntmps27
      go_wp2_with fail
      refine (CC.out _ (ha.below hal)).mono ?_
      rintro e w1 ⟨rfl, hb1⟩
      have hsz1 : w.heap.size + 1 ≤ w1.heap.size := by have := hb1.size; simpa using this
      have hc0 : w1.cell? ⟨w.heap.size, 0, none⟩ = some (.int .i64 (W : Int)) := by rw [hb1.cell (p := ⟨w.heap.size, 0, none⟩) (by simp)]; simp
      have hc1 : w1.cell? ⟨w.heap.size, 1, none⟩ = some (.slice A n c) := by rw [hb1.cell (p := ⟨w.heap.size, 1, none⟩) (by simp)]; simp
      have hB1 := Lib.hid (hal.trans (hb1.mono (by simp)))
      have HC := Lib.hid (show ∀ wz : World, Below w1.heap.size w1 wz → wz.cell? ⟨w.heap.size, 0, none⟩ = some (.int .i64 (W : Int)) ∧ wz.cell? ⟨w.heap.size, 1, none⟩ = some (.slice A n c) from fun wz hz => ⟨(hz.cell (p := ⟨w.heap.size, 0, none⟩) (by show w.heap.size < _; omega)).trans hc0, (hz.cell (p := ⟨w.heap.size, 1, none⟩) (by show w.heap.size < _; omega)).trans hc1⟩)
      have HA1 := Lib.hid (HA.out.below hB1.out)
      have HS1 := Lib.hid (HS.out.below hB1.out)
      clear hb1 CC hal ha
      go_wp2_with (at_make; refine wpL_make _ rfl _ _ 59 rfl 4 (.bool false) 1 Try.underlying59 boolInfo rfl _ _ _ _ n rfl rfl rfl rfl (by omega) (by unfold maxLen; omega) ?_)
      intro w2 hF2 hbl2 hsz2
      have HF2 := Lib.hid (show Own (w2.alloc (.cells #[] 3)) w1.heap.size 4 (some ⟨w1.heap.size, 0, none⟩) n n (bV (List.replicate n false)) by rw [bV, List.map_replicate]; exact hF2.alloc _)
      have HO2 := Lib.hid (show OwnI (w2.alloc (.cells #[] 3)) (w1.heap.size + 1) 3 (some ⟨w1.heap.size + 1, 0, none⟩) 0 0 [] by have h := own_empty w2 3; rw [hsz2] at h; exact h)
      have HB2 := Lib.hid (show Below w1.heap.size w1 (w2.alloc (.cells #[] 3)) from hbl2.alloc (by omega) _)
      clear hF2 hbl2 hc0 hc1
      go_wp2_with fail
      go_loopw [28, 7] (fun i o wr => ∃ k : Nat, ∃ v : List Bool, ∃ A2 c2 acc, k ≤ m ∧ i = .int .i64 k ∧ o = .slice A2 k c2 ∧ Own wr w1.heap.size 4 (some ⟨w1.heap.size, 0, none⟩) n n (bV v) ∧ OwnI wr (w1.heap.size + 1) 3 A2 k c2 acc ∧ Hid (TtS zss n es (W : Int) k v acc) ∧ Below w1.heap.size w1 wr) (fun i _ _ => m - (intOf i).toNat)
      case atStart => exact ⟨0, List.replicate n false, _, _, [], Nat.zero_le _, rfl, rfl, HF2.out, HO2.out, Lib.hid (by unfold TtS; exact ⟨ttTo_zero _ _ _, wiTo_zero _ _⟩), HB2.out⟩
      case round =>
        clear hsz2 HF2 HO2 HB2
        obtain ⟨k, v, A2, c2, acc, hk, rfl, rfl, hF, hO, HT, hbl⟩ := hrel
        by_cases hlt : k < m
        · obtain ⟨ae, rfl, _, h1⟩ := (HS1.out.below hbl).at_ hlt
          obtain ⟨hc0, hc1⟩ := HC.out _ hbl
          by_cases hz : 0 ≤ nth es k ∧ nth es k < W
          · obtain ⟨a, haa⟩ := Int.eq_ofNat_of_zero_le hz.1
            have haW : a < W := by omega
            rw [haa] at h1
            have HAA := Lib.hid haa
            clear haa hz
            go_wp2_with fail
            refine (l01In_yes (a : Int) 0 ((W : Int) - 1) _ (by omega)).mono ?_
            rintro e w' ⟨rfl, rfl⟩
            obtain ⟨hd0, hd1⟩ := HC.out _ hbl
            clear hc0 hc1
            go_wp2_with fail
            go_loopw [42, 10] (fun i q wr => ∃ j b : Nat, ∃ v2 : List Bool, j ≤ n ∧ i = .int .i64 j ∧ q = .int .i64 b ∧ Own wr w1.heap.size 4 (some ⟨w1.heap.size, 0, none⟩) n n (bV v2) ∧ OwnI wr (w1.heap.size + 1) 3 A2 k c2 acc ∧ Hid (TiS zss v a j v2 b) ∧ Below w1.heap.size w1 wr) (fun i _ _ => n - (intOf i).toNat)
            case atStart => exact ⟨0, a, v, Nat.zero_le _, rfl, rfl, hF, hO, Lib.hid (tiS_zero _ _ _), hbl⟩
            case round =>
              clear hF hO hbl hd0 hd1 h1
              obtain ⟨j, b, v2, hj, rfl, rfl, hF, hO, HI, hb2⟩ := hrel
              by_cases hjn : j < n
              · obtain ⟨hl2, p, q, hp, hq, _, _, _⟩ := HR.out j hjn
                obtain ⟨a1, B, md, dd, rfl, la, h1, hB, hmd, hd⟩ := (HA1.out.below hb2).2 j hjn
                unfold maxLen at hd
                obtain rfl : 2 = md := by rw [← hB.lenI]; exact hl2.symm
                obtain ⟨bb, rfl, lb, p0⟩ := hB.at_ (show 0 < 2 by omega)
                obtain ⟨b', hb', _, p1⟩ := hB.at_ (show 1 < 2 by omega)
                injection hb' with hb'
                subst hb'
                rw [hp] at p0
                rw [hq] at p1
                have HP := Lib.hid hp
                have HQ := Lib.hid hq
                clear hp hq hl2 hB
                obtain ⟨gF, uF, eF, _, _, hu, cF, fF⟩ := hF.at_ hjn
                injection eF with eF
                injection eF with eF
                subst eF
                obtain rfl := bV_at hu
                clear hu
                obtain ⟨hc0, hc1⟩ := HC.out _ hb2
                have p1' : wr.cell? ⟨bb.block, bb.off + 1, none⟩ = some (.int .i64 (q : Int)) := by rw [← add_one_]; exact p1
                have p0' : wr.cell? bb = some (.int .i64 (p : Int)) := p0
                clear p0 p1
                by_cases hpb : p = b
                · have HOR := Lib.hid (show p = b ∨ q = b from .inl hpb)
                  subst hpb
                  cases hfl : bAt v2 j with
                  | false =>
                    have HN := Lib.hid (show TiS zss v a (j + 1) (v2.set j true) p from by unfold TiS; exact ttIn_low (by have := HI.out; unfold TiS at this; exact this) HP.out HQ.out HOR.out hfl)
                    rw [hfl] at cF
                    have oF := own_bV true hF hjn
                    have oO := hO.setOther (p := ⟨w1.heap.size, j, none⟩) (fun g h => by have := (hO.blk_ g h).1; show g ≠ w1.heap.size; omega) (.bool true)
                    have hb7 := hb2.setCell (p := ⟨w1.heap.size, j, none⟩) (Nat.le_refl _) (.bool true)
                    clear hfl hF hO hb2
                    go_wp2
                    go_roundw
                    case rel => exact ⟨j + 1, p, _, by omega, by go_num, rfl, oF, oO, HN, hb7⟩
                    case measure => (simp [intOf] <;> omega)
                  | true =>
                    have HN := Lib.hid (show TiS zss v a (j + 1) (v2.set j false) q from by unfold TiS; exact ttIn_high (by have := HI.out; unfold TiS at this; exact this) HP.out HQ.out HOR.out hfl)
                    rw [hfl] at cF
                    have oF := own_bV false hF hjn
                    have oO := hO.setOther (p := ⟨w1.heap.size, j, none⟩) (fun g h => by have := (hO.blk_ g h).1; show g ≠ w1.heap.size; omega) (.bool false)
                    have hb7 := hb2.setCell (p := ⟨w1.heap.size, j, none⟩) (Nat.le_refl _) (.bool false)
                    clear hfl hF hO hb2
                    go_wp2
                    go_roundw
                    case rel => exact ⟨j + 1, q, _, by omega, by go_num, rfl, oF, oO, HN, hb7⟩
                    case measure => (simp [intOf] <;> omega)
                · have nb1 : ((p : Int) != (b : Int)) = true := by rw [bne_iff_ne]; omega
                  have nb2 : ((b : Int) != (p : Int)) = true := by rw [bne_iff_ne]; omega
                  have na1 : ¬ (p : Int) = (b : Int) := by omega
                  have na2 : ¬ (b : Int) = (p : Int) := by omega
                  by_cases hqb : q = b
                  · have HOR := Lib.hid (show p = b ∨ q = b from .inr hqb)
                    subst hqb
                    clear hpb
                    cases hfl : bAt v2 j with
                    | false =>
                      have HN := Lib.hid (show TiS zss v a (j + 1) (v2.set j true) p from by unfold TiS; exact ttIn_low (by have := HI.out; unfold TiS at this; exact this) HP.out HQ.out HOR.out hfl)
                      rw [hfl] at cF
                      have oF := own_bV true hF hjn
                      have oO := hO.setOther (p := ⟨w1.heap.size, j, none⟩) (fun g h => by have := (hO.blk_ g h).1; show g ≠ w1.heap.size; omega) (.bool true)
                      have hb7 := hb2.setCell (p := ⟨w1.heap.size, j, none⟩) (Nat.le_refl _) (.bool true)
                      clear hfl hF hO hb2
                      go_wp2
                      go_roundw
                      case rel => exact ⟨j + 1, p, _, by omega, by go_num, rfl, oF, oO, HN, hb7⟩
                      case measure => (simp [intOf] <;> omega)
                    | true =>
                      have HN := Lib.hid (show TiS zss v a (j + 1) (v2.set j false) q from by unfold TiS; exact ttIn_high (by have := HI.out; unfold TiS at this; exact this) HP.out HQ.out HOR.out hfl)
                      rw [hfl] at cF
                      have oF := own_bV false hF hjn
                      have oO := hO.setOther (p := ⟨w1.heap.size, j, none⟩) (fun g h => by have := (hO.blk_ g h).1; show g ≠ w1.heap.size; omega) (.bool false)
                      have hb7 := hb2.setCell (p := ⟨w1.heap.size, j, none⟩) (Nat.le_refl _) (.bool false)
                      clear hfl hF hO hb2
                      go_wp2
                      go_roundw
                      case rel => exact ⟨j + 1, q, _, by omega, by go_num, rfl, oF, oO, HN, hb7⟩
                      case measure => (simp [intOf] <;> omega)
                  · have nb3 : ((q : Int) != (b : Int)) = true := by rw [bne_iff_ne]; omega
                    have nb4 : ((b : Int) != (q : Int)) = true := by rw [bne_iff_ne]; omega
                    have na3 : ¬ (q : Int) = (b : Int) := by omega
                    have na4 : ¬ (b : Int) = (q : Int) := by omega
                    have HN := Lib.hid (show TiS zss v a (j + 1) v2 b from by unfold TiS; exact ttIn_skip (by have := HI.out; unfold TiS at this; exact this) HP.out HQ.out hpb hqb)
                    clear hpb hqb
                    go_wp2
                    go_roundw
                    case rel => exact ⟨j + 1, b, _, by omega, by go_num, rfl, hF, hO, HN, hb2⟩
                    case measure => (simp [intOf] <;> omega)
              · obtain rfl : j = n := by omega
                have HTN := Lib.hid (ttS_next HT.out HAA.out rfl haW HI.out)
                go_wp2_with (at_builtin; refine wpL_append1 _ rfl _ _ _ rfl (w1.heap.size + 1) 3 (.int .i64 0) 8 Try.underlying22 intInfo rfl _ k _ _ rfl hO _ rfl rfl (by unfold maxLen; omega) (by omega) (by have := hb2.size; have := hF.blk_ _ rfl; omega) ?_)
                intro A3 c3 w3 ho3 hg3 hat3
                have hb3 := own_below (hO.more (b2 := w1.heap.size) (by omega)) hb2 (by have := (hF.blk_ w1.heap.size rfl).2; omega) hg3
                have hF3 := hF.kept hg3 (fun g h e => by have h2 := (hO.blk_ g e.symm).1; have h3 : w1.heap.size = g := (by simpa [blk] using h); omega)
                go_wp2
                go_roundw
                case rel => exact ⟨k + 1, v2, A3, c3, acc ++ [(b : Int)], by omega, by go_num, rfl, hF3, by rw [OwnI, List.map_append]; simpa using ho3, HTN, hb3⟩
                case measure => (simp [intOf] <;> omega)
          · have HT2 := Lib.hid (ttB_wire (x := (W : Int)) (zss := zss) HLS.out hlt (show inW (W : Int) (nth es k) = false by unfold inW; exact decide_eq_false hz))
            have H := Lib.hid (ttOut_no HT2.out)
            go_wp2_with fail
            refine (l01In_no (nth es k) 0 ((W : Int) - 1) _ (by omega)).mono ?_
            rintro e w' ⟨rfl, rfl⟩
            go_wp2_with fail
            go_ret2
            exact ⟨none, 0, 0, ret_sb HT2.out.symm, by rw [H.out]; exact Own.nil_ _ _ _, hB1.out.trans (hbl.mono hB1.out.size)⟩
        · obtain rfl : k = m := by omega
          have HT2 := Lib.hid (ttB_yes (es := es) HLS.out HG.out hm60 (by have := HT.out; unfold TtS at this; exact this.2))
          have H := Lib.hid (ttOut_yes HT2.out HZ.out HLS.out (by have := HT.out; unfold TtS at this; exact this.1))
          go_wp2_with fail
          go_ret2
          exact ⟨_, _, _, ret_sb HT2.out.symm, by rw [H.out]; exact hO.more (by have := hB1.out.size; omega), hB1.out.trans (hbl.mono hB1.out.size)⟩
    · have HT := Lib.hid (show ttB x zss es = false by rw [ttB, HLS.out, decide_eq_false h60]; simp)
      have H := Lib.hid (show ttOut x zss es = [] by rw [ttOut, HT.out]; rfl)
      have h61 : 60 < m := by omega
      clear h60
      go_enter Try.func27, Try.ntmps27
      go_wp2_with fail
      refine (CC.out _ (ha.below hal)).mono ?_
      rintro e w1 ⟨rfl, hb1⟩
      go_wp2_with fail
      go_ret2
      exact ⟨none, 0, 0, ret_sb HT.out.symm, by rw [H.out]; exact Own.nil_ _ _ _, hal.trans (hb1.mono (by simp))⟩

set_option maxHeartbeats 4000000 in
theorem implTrace (x : Int) (A : Option Addr) (n c : Nat) (zss : List (List Int)) (S : Option Addr) (m d : Nat) (es : List Int) (w : World) (ha : RdM w A n zss) (hn : n ≤ 1048576) (hs : RdI w S m es) (hm : m ≤ 1048576) :
    Calls Try.prog 28 #[.agg #[.int .i64 x, .slice A n c], .slice S m d] w fun e w' => ∃ A' n' c', e = .returned (.tuple #[.slice A' n' c', .bool (ttB x zss es)]) ∧ OwnI w' w.heap.size 3 A' n' c' (ttOut x zss es) ∧ Below w.heap.size w w' := by
  have C := fun w' (h1 : RdM w' A n zss) => implNetOk x A n c zss w' h1 hn
  have hal := (below_alloc w (.cells #[.int .i64 x, .slice A n c] 35))
  have HLS := Lib.hid hs.lenI
  cases hg : netV x zss with
  | false =>
    have HT := Lib.hid (show ttB x zss es = false by rw [ttB, hg]; rfl)
    have H := Lib.hid (show ttOut x zss es = [] by rw [ttOut, HT.out]; rfl)
    rw [hg] at C
    have CC := Lib.hid C
    clear C hg
    go_enter Try.func28, Try.ntmps28
    go_wp2_with fail
    refine (CC.out _ (ha.below hal)).mono ?_
    rintro e w1 ⟨rfl, hb1⟩
    go_wp2_with fail
    go_ret2
    exact ⟨none, 0, 0, ret_sb HT.out.symm, by rw [H.out]; exact Own.nil_ _ _ _, hal.trans (hb1.mono (by simp))⟩
  | true =>
    have HG := Lib.hid hg
    rw [hg] at C
    have CC := Lib.hid C
    clear C hg
    by_cases h60 : m ≤ 60
    · skip
      obtain ⟨W, rfl, hW1, hW8, hn60, hrow⟩ := net_out ha.1 HG.out
      have HR := Lib.hid hrow
      have HA := Lib.hid ha
      have HS := Lib.hid hs
      have HZ := Lib.hid ha.1
      clear hrow hs
      have hm60 : m ≤ 60 := h60
      go_enter Try.func28, Try.ntmps28
      go_wp2_with fail
      refine (CC.out _ (ha.below hal)).mono ?_
      rintro e w1 ⟨rfl, hb1⟩
      have hsz1 : w.heap.size + 1 ≤ w1.heap.size := by have := hb1.size; simpa using this
      have hc0 : w1.cell? ⟨w.heap.size, 0, none⟩ = some (.int .i64 (W : Int)) := by rw [hb1.cell (p := ⟨w.heap.size, 0, none⟩) (by simp)]; simp
      have hc1 : w1.cell? ⟨w.heap.size, 1, none⟩ = some (.slice A n c) := by rw [hb1.cell (p := ⟨w.heap.size, 1, none⟩) (by simp)]; simp
      have hB1 := Lib.hid (hal.trans (hb1.mono (by simp)))
      have HC := Lib.hid (show ∀ wz : World, Below w1.heap.size w1 wz → wz.cell? ⟨w.heap.size, 0, none⟩ = some (.int .i64 (W : Int)) ∧ wz.cell? ⟨w.heap.size, 1, none⟩ = some (.slice A n c) from fun wz hz => ⟨(hz.cell (p := ⟨w.heap.size, 0, none⟩) (by show w.heap.size < _; omega)).trans hc0, (hz.cell (p := ⟨w.heap.size, 1, none⟩) (by show w.heap.size < _; omega)).trans hc1⟩)
      have HA1 := Lib.hid (HA.out.below hB1.out)
      have HS1 := Lib.hid (HS.out.below hB1.out)
      clear hb1 CC hal ha
      go_wp2_with (at_make; refine wpL_make _ rfl _ _ 59 rfl 4 (.bool false) 1 Try.underlying59 boolInfo rfl _ _ _ _ n rfl rfl rfl rfl (by omega) (by unfold maxLen; omega) ?_)
      intro w2 hF2 hbl2 hsz2
      have HF2 := Lib.hid (show Own (w2.alloc (.cells #[] 3)) w1.heap.size 4 (some ⟨w1.heap.size, 0, none⟩) n n (bV (List.replicate n false)) by rw [bV, List.map_replicate]; exact hF2.alloc _)
      have HO2 := Lib.hid (show OwnI (w2.alloc (.cells #[] 3)) (w1.heap.size + 1) 3 (some ⟨w1.heap.size + 1, 0, none⟩) 0 0 [] by have h := own_empty w2 3; rw [hsz2] at h; exact h)
      have HB2 := Lib.hid (show Below w1.heap.size w1 (w2.alloc (.cells #[] 3)) from hbl2.alloc (by omega) _)
      clear hF2 hbl2 hc0 hc1
      go_wp2_with fail
      go_loopw [27, 7] (fun i o wr => ∃ k : Nat, ∃ v : List Bool, ∃ A2 c2 acc, k ≤ m ∧ i = .int .i64 k ∧ o = .slice A2 k c2 ∧ Own wr w1.heap.size 4 (some ⟨w1.heap.size, 0, none⟩) n n (bV v) ∧ OwnI wr (w1.heap.size + 1) 3 A2 k c2 acc ∧ Hid (TtS zss n es (W : Int) k v acc) ∧ Below w1.heap.size w1 wr) (fun i _ _ => m - (intOf i).toNat)
      case atStart => exact ⟨0, List.replicate n false, _, _, [], Nat.zero_le _, rfl, rfl, HF2.out, HO2.out, Lib.hid (by unfold TtS; exact ⟨ttTo_zero _ _ _, wiTo_zero _ _⟩), HB2.out⟩
      case round =>
        clear hsz2 HF2 HO2 HB2
        obtain ⟨k, v, A2, c2, acc, hk, rfl, rfl, hF, hO, HT, hbl⟩ := hrel
        by_cases hlt : k < m
        · obtain ⟨ae, rfl, _, h1⟩ := (HS1.out.below hbl).at_ hlt
          obtain ⟨hc0, hc1⟩ := HC.out _ hbl
          by_cases hz : 0 ≤ nth es k ∧ nth es k < W
          · obtain ⟨a, haa⟩ := Int.eq_ofNat_of_zero_le hz.1
            have haW : a < W := by omega
            rw [haa] at h1
            have HAA := Lib.hid haa
            clear haa hz
            have HW := Lib.hid (show inW (W : Int) (a : Int) = true by unfold inW; exact decide_eq_true (by omega))
            go_wp2_with fail
            refine (implIsWire (W : Int) (a : Int) A n c _).mono ?_
            rw [HW.out]
            rintro e wq ⟨rfl, hbq⟩
            replace hbl := hbl.trans (hbq.mono hbl.size)
            replace hF := hF.below hbq
            replace hO := hO.below hbq
            clear hbq
            obtain ⟨hd0, hd1⟩ := HC.out _ hbl
            clear hc0 hc1
            go_wp2_with fail
            go_loopw [38, 9] (fun i q wr => ∃ j b : Nat, ∃ v2 : List Bool, j ≤ n ∧ i = .int .i64 j ∧ q = .int .i64 b ∧ Own wr w1.heap.size 4 (some ⟨w1.heap.size, 0, none⟩) n n (bV v2) ∧ OwnI wr (w1.heap.size + 1) 3 A2 k c2 acc ∧ Hid (TiS zss v a j v2 b) ∧ Below w1.heap.size w1 wr) (fun i _ _ => n - (intOf i).toNat)
            case atStart => exact ⟨0, a, v, Nat.zero_le _, rfl, rfl, hF, hO, Lib.hid (tiS_zero _ _ _), hbl⟩
            case round =>
              clear hF hO hbl hd0 hd1 h1
              obtain ⟨j, b, v2, hj, rfl, rfl, hF, hO, HI, hb2⟩ := hrel
              by_cases hjn : j < n
              · obtain ⟨hl2, p, q, hp, hq, _, _, _⟩ := HR.out j hjn
                obtain ⟨a1, B, md, dd, rfl, la, h1, hB, hmd, hd⟩ := (HA1.out.below hb2).2 j hjn
                unfold maxLen at hd
                obtain rfl : 2 = md := by rw [← hB.lenI]; exact hl2.symm
                obtain ⟨bb, rfl, lb, p0⟩ := hB.at_ (show 0 < 2 by omega)
                obtain ⟨b', hb', _, p1⟩ := hB.at_ (show 1 < 2 by omega)
                injection hb' with hb'
                subst hb'
                rw [hp] at p0
                rw [hq] at p1
                have HP := Lib.hid hp
                have HQ := Lib.hid hq
                clear hp hq hl2 hB
                obtain ⟨gF, uF, eF, _, _, hu, cF, fF⟩ := hF.at_ hjn
                injection eF with eF
                injection eF with eF
                subst eF
                obtain rfl := bV_at hu
                clear hu
                obtain ⟨hc0, hc1⟩ := HC.out _ hb2
                have p1' : wr.cell? ⟨bb.block, bb.off + 1, none⟩ = some (.int .i64 (q : Int)) := by rw [← add_one_]; exact p1
                have p0' : wr.cell? bb = some (.int .i64 (p : Int)) := p0
                clear p0 p1
                by_cases hpb : p = b
                · have HOR := Lib.hid (show p = b ∨ q = b from .inl hpb)
                  subst hpb
                  cases hfl : bAt v2 j with
                  | false =>
                    have HN := Lib.hid (show TiS zss v a (j + 1) (v2.set j true) p from by unfold TiS; exact ttIn_low (by have := HI.out; unfold TiS at this; exact this) HP.out HQ.out HOR.out hfl)
                    rw [hfl] at cF
                    have oF := own_bV true hF hjn
                    have oO := hO.setOther (p := ⟨w1.heap.size, j, none⟩) (fun g h => by have := (hO.blk_ g h).1; show g ≠ w1.heap.size; omega) (.bool true)
                    have hb7 := hb2.setCell (p := ⟨w1.heap.size, j, none⟩) (Nat.le_refl _) (.bool true)
                    clear hfl hF hO hb2
                    go_wp2
                    go_roundw
                    case rel => exact ⟨j + 1, p, _, by omega, by go_num, rfl, oF, oO, HN, hb7⟩
                    case measure => (simp [intOf] <;> omega)
                  | true =>
                    have HN := Lib.hid (show TiS zss v a (j + 1) (v2.set j false) q from by unfold TiS; exact ttIn_high (by have := HI.out; unfold TiS at this; exact this) HP.out HQ.out HOR.out hfl)
                    rw [hfl] at cF
                    have oF := own_bV false hF hjn
                    have oO := hO.setOther (p := ⟨w1.heap.size, j, none⟩) (fun g h => by have := (hO.blk_ g h).1; show g ≠ w1.heap.size; omega) (.bool false)
                    have hb7 := hb2.setCell (p := ⟨w1.heap.size, j, none⟩) (Nat.le_refl _) (.bool false)
                    clear hfl hF hO hb2
                    go_wp2
                    go_roundw
                    case rel => exact ⟨j + 1, q, _, by omega, by go_num, rfl, oF, oO, HN, hb7⟩
                    case measure => (simp [intOf] <;> omega)
                · have nb1 : ((p : Int) != (b : Int)) = true := by rw [bne_iff_ne]; omega
                  have nb2 : ((b : Int) != (p : Int)) = true := by rw [bne_iff_ne]; omega
                  have na1 : ¬ (p : Int) = (b : Int) := by omega
                  have na2 : ¬ (b : Int) = (p : Int) := by omega
                  by_cases hqb : q = b
                  · have HOR := Lib.hid (show p = b ∨ q = b from .inr hqb)
                    subst hqb
                    clear hpb
                    cases hfl : bAt v2 j with
                    | false =>
                      have HN := Lib.hid (show TiS zss v a (j + 1) (v2.set j true) p from by unfold TiS; exact ttIn_low (by have := HI.out; unfold TiS at this; exact this) HP.out HQ.out HOR.out hfl)
                      rw [hfl] at cF
                      have oF := own_bV true hF hjn
                      have oO := hO.setOther (p := ⟨w1.heap.size, j, none⟩) (fun g h => by have := (hO.blk_ g h).1; show g ≠ w1.heap.size; omega) (.bool true)
                      have hb7 := hb2.setCell (p := ⟨w1.heap.size, j, none⟩) (Nat.le_refl _) (.bool true)
                      clear hfl hF hO hb2
                      go_wp2
                      go_roundw
                      case rel => exact ⟨j + 1, p, _, by omega, by go_num, rfl, oF, oO, HN, hb7⟩
                      case measure => (simp [intOf] <;> omega)
                    | true =>
                      have HN := Lib.hid (show TiS zss v a (j + 1) (v2.set j false) q from by unfold TiS; exact ttIn_high (by have := HI.out; unfold TiS at this; exact this) HP.out HQ.out HOR.out hfl)
                      rw [hfl] at cF
                      have oF := own_bV false hF hjn
                      have oO := hO.setOther (p := ⟨w1.heap.size, j, none⟩) (fun g h => by have := (hO.blk_ g h).1; show g ≠ w1.heap.size; omega) (.bool false)
                      have hb7 := hb2.setCell (p := ⟨w1.heap.size, j, none⟩) (Nat.le_refl _) (.bool false)
                      clear hfl hF hO hb2
                      go_wp2
                      go_roundw
                      case rel => exact ⟨j + 1, q, _, by omega, by go_num, rfl, oF, oO, HN, hb7⟩
                      case measure => (simp [intOf] <;> omega)
                  · have nb3 : ((q : Int) != (b : Int)) = true := by rw [bne_iff_ne]; omega
                    have nb4 : ((b : Int) != (q : Int)) = true := by rw [bne_iff_ne]; omega
                    have na3 : ¬ (q : Int) = (b : Int) := by omega
                    have na4 : ¬ (b : Int) = (q : Int) := by omega
                    have HN := Lib.hid (show TiS zss v a (j + 1) v2 b from by unfold TiS; exact ttIn_skip (by have := HI.out; unfold TiS at this; exact this) HP.out HQ.out hpb hqb)
                    clear hpb hqb
                    go_wp2
                    go_roundw
                    case rel => exact ⟨j + 1, b, _, by omega, by go_num, rfl, hF, hO, HN, hb2⟩
                    case measure => (simp [intOf] <;> omega)
              · obtain rfl : j = n := by omega
                have HTN := Lib.hid (ttS_next HT.out HAA.out rfl haW HI.out)
                go_wp2_with (at_builtin; refine wpL_append1 _ rfl _ _ _ rfl (w1.heap.size + 1) 3 (.int .i64 0) 8 Try.underlying22 intInfo rfl _ k _ _ rfl hO _ rfl rfl (by unfold maxLen; omega) (by omega) (by have := hb2.size; have := hF.blk_ _ rfl; omega) ?_)
                intro A3 c3 w3 ho3 hg3 hat3
                have hb3 := own_below (hO.more (b2 := w1.heap.size) (by omega)) hb2 (by have := (hF.blk_ w1.heap.size rfl).2; omega) hg3
                have hF3 := hF.kept hg3 (fun g h e => by have h2 := (hO.blk_ g e.symm).1; have h3 : w1.heap.size = g := (by simpa [blk] using h); omega)
                go_wp2
                go_roundw
                case rel => exact ⟨k + 1, v2, A3, c3, acc ++ [(b : Int)], by omega, by go_num, rfl, hF3, by rw [OwnI, List.map_append]; simpa using ho3, HTN, hb3⟩
                case measure => (simp [intOf] <;> omega)
          · have HT2 := Lib.hid (ttB_wire (x := (W : Int)) (zss := zss) HLS.out hlt (show inW (W : Int) (nth es k) = false by unfold inW; exact decide_eq_false hz))
            have H := Lib.hid (ttOut_no HT2.out)
            have HW := Lib.hid (show inW (W : Int) (nth es k) = false by unfold inW; exact decide_eq_false hz)
            go_wp2_with fail
            refine (implIsWire (W : Int) (nth es k) A n c _).mono ?_
            rw [HW.out]
            rintro e wq ⟨rfl, hbq⟩
            replace hbl := hbl.trans (hbq.mono hbl.size)
            clear hbq
            go_wp2_with fail
            go_ret2
            exact ⟨none, 0, 0, ret_sb HT2.out.symm, by rw [H.out]; exact Own.nil_ _ _ _, hB1.out.trans (hbl.mono hB1.out.size)⟩
        · obtain rfl : k = m := by omega
          have HT2 := Lib.hid (ttB_yes (es := es) HLS.out HG.out hm60 (by have := HT.out; unfold TtS at this; exact this.2))
          have H := Lib.hid (ttOut_yes HT2.out HZ.out HLS.out (by have := HT.out; unfold TtS at this; exact this.1))
          go_wp2_with fail
          go_ret2
          exact ⟨_, _, _, ret_sb HT2.out.symm, by rw [H.out]; exact hO.more (by have := hB1.out.size; omega), hB1.out.trans (hbl.mono hB1.out.size)⟩
    · have HT := Lib.hid (show ttB x zss es = false by rw [ttB, HLS.out, decide_eq_false h60]; simp)
      have H := Lib.hid (show ttOut x zss es = [] by rw [ttOut, HT.out]; rfl)
      have h61 : 60 < m := by omega
      clear h60
      go_enter Try.func28, Try.ntmps28
      go_wp2_with fail
      refine (CC.out _ (ha.below hal)).mono ?_
      rintro e w1 ⟨rfl, hb1⟩
      go_wp2_with fail
      go_ret2
      exact ⟨none, 0, 0, ret_sb HT.out.symm, by rw [H.out]; exact Own.nil_ _ _ _, hal.trans (hb1.mono (by simp))⟩

end Go.Proofs.Ytcijnmooifcicaa
