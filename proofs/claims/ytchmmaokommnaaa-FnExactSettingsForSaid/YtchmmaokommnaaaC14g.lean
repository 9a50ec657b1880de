/- Chapter 14: the reference's fabric. -/
import Derived.Test.YtchmmaokommnaaaC14f
import Derived.Deep.RegionHeld3
namespace Go.Proofs.Ytchmmaokommnaaa
open Go.RowKit Go.Deep
set_option linter.unusedVariables false

def FabS (n m : Nat) (G : List Int → List Int → List Int) : Prop :=
  ∀ (S : Option Addr) (d : Nat) (s : List Int) (A : Option Addr) (c : Nat) (l : List Int) (w : World), RdI w S m s → m ≤ d → d ≤ maxLen → Bits s m → RdI w A n l →
    Calls Try.prog 45 #[.int .i64 (n : Nat), .slice S m d, .slice A n c] w fun e w' => ∃ A' c', e = .returned (.slice A' n c') ∧ OwnI w' w.heap.size 3 A' n c' (G s l) ∧ Below w.heap.size w w'

theorem specFab1 : FabS 1 0 fab1 := by
  intro S d s A c l w hS hd1 hd2 hb hA
  show Calls Try.prog 45 #[.int .i64 1, .slice S 0 d, .slice A 1 c] w _
  obtain ⟨ad, rfl, _, h1⟩ := hA.at_ (show 0 < 1 by omega)
  replace h1 : w.cell? ad = some (.int .i64 (nth l 0)) := h1
  have HL := Lib.hid (show fab1 s l = [nth l 0] from rfl)
  clear hA
  go_enter Try.func45, Try.ntmps45
  go_wp2
  go_ret
  refine ⟨_, _, rfl, ?_, below_alloc w _⟩
  rw [HL.out]
  exact World.ownsRow_lit (base := w.heap.size) (e := 3) (size := 1) w #[.int .i64 (nth l 0)] 1 (Nat.le_refl _) (by unfold maxLen; omega) rfl

set_option maxHeartbeats 2000000 in
theorem specFab2 : FabS 2 1 fab2 := by
  intro S d s A c l w hS hd1 hd2 hb hA
  show Calls Try.prog 45 #[.int .i64 2, .slice S 1 d, .slice A 2 c] w _
  obtain ⟨e1, hb1⟩ := hb.le (show 0 < 1 by omega)
  obtain ⟨aS, rfl, _, h1⟩ := hS.at_ (show 0 < 1 by omega)
  replace h1 : w.cell? aS = some (.int .i64 (nth s 0)) := h1
  obtain ⟨b, hbb⟩ : ∃ b, sb s 0 = b := ⟨_, rfl⟩
  rw [hbb] at e1 hb1
  rw [e1] at h1
  obtain ⟨q, hq⟩ : ∃ q, 1 - b = q := ⟨_, rfl⟩
  have hq2 : q < 2 := by omega
  obtain ⟨ad, rfl, _, h2⟩ := hA.at_ (show b < 2 by omega)
  obtain ⟨ad', hA', _, h3⟩ := hA.at_ hq2
  injection hA' with hA'
  subst hA'
  have eq : (1 : Int) - (b : Int) = (q : Int) := by omega
  have HL := Lib.hid (show fab2 s l = [nth l b, nth l q] by unfold fab2; rw [hbb, hq])
  have hlen := Lib.hid hA.lenI
  clear hS hA hb hbb hq e1
  go_enter Try.func45, Try.ntmps45
  go_wp2
  go_region
  all_goals
    go_wp2
    go_ret
    refine ⟨_, _, rfl, ?_, ?_⟩
    · rw [HL.out]
      exact World.ownsRow_lit (base := w.heap.size) (e := 3) (size := 1) w #[.int .i64 (nth l b), .int .i64 (nth l q)] 2 (Nat.le_refl _) (by unfold maxLen; omega) rfl
    · exact (below_alloc w _).drew

set_option maxHeartbeats 8000000 in
theorem specFab4 : FabS 4 6 fab4 := by
  intro S d s A e0 l w hS hd1 hd2 hb hA
  show Calls Try.prog 45 #[.int .i64 4, .slice S 6 d, .slice A 4 e0] w _
  have HB := Lib.hid hb
  have HLS := Lib.hid hS.lenI
  obtain ⟨aS, rfl, _, _⟩ := hS.at_ (show 0 < 6 by omega)
  have CI := Lib.hid (specCnt 2)
  have CF := Lib.hid (show ∀ (S : Option Addr) (d : Nat) (s : List Int) (A : Option Addr) (c : Nat) (l : List Int) (w : World), RdI w S 1 s → 1 ≤ d → d ≤ maxLen → Bits s 1 → RdI w A 2 l →
    Calls Try.prog 45 #[.int .i64 2, .slice S 1 d, .slice A 2 c] w fun e w' => ∃ A' c', e = .returned (.slice A' 2 c') ∧ OwnI w' w.heap.size 3 A' 2 c' (fab2 s l) ∧ Below w.heap.size w w' from specFab2)
  unfold maxLen at hd2
  clear hb
  go_enter Try.func45, Try.ntmps45
  go_wp2_with fail
  refine (CI.out _ (by unfold IsP; omega)).mono ?_
  rintro e w1 ⟨rfl, rfl⟩
  rw [show swN 2 = 1 from rfl]
  go_wp2_with fail
  go_loopw [9, 10, 11] (fun v u i wr => ∃ k : Nat, ∃ A1 c1 A2 c2, k ≤ 2 ∧ i = .int .i64 k ∧ v = .slice A1 k c1 ∧ u = .slice A2 k c2 ∧ OwnI wr w.heap.size 3 A1 k c1 (upTo s l k) ∧ OwnI wr w.heap.size 3 A2 k c2 (loTo s l k) ∧ Hid (∀ g, blk A1 = some g → blk A2 = some g → False) ∧ Below w.heap.size w wr) (fun _ _ i _ => 2 - (intOf i).toNat)
  case atStart =>
    refine ⟨0, _, _, _, _, Nat.zero_le _, rfl, rfl, rfl, by simpa [OwnI, upTo_zero] using (own_empty w 3).alloc _, by simpa [OwnI, loTo_zero] using (own_empty (w.alloc (.cells #[] 3)) 3).more (b2 := w.heap.size) (by simp), Lib.hid ?_, (below_alloc w _).alloc (by simp) _⟩
    intro g h1 h2
    simp [blk] at h1 h2
    omega
  case round =>
    obtain ⟨k, A1, c1, A2, c2, hk, rfl, rfl, rfl, ho1, ho2, HSEP, hbl⟩ := hrel
    have hsz := hbl.size
    by_cases hlt : k < 2
    · obtain ⟨e1, hb1⟩ := HB.out.le (show k < 6 by omega)
      obtain ⟨as', has, _, h1⟩ := (hS.below hbl).at_ (show k < 6 by omega)
      injection has with has
      subst has
      obtain ⟨b, hbb⟩ : ∃ b, sb s k = b := ⟨_, rfl⟩
      rw [hbb] at e1 hb1
      rw [e1] at h1
      obtain ⟨z, hz⟩ : ∃ z, 2 * k = z := ⟨_, rfl⟩
      obtain ⟨p, hp⟩ : ∃ p, z + b = p := ⟨_, rfl⟩
      obtain ⟨q, hq⟩ : ∃ q, z + 1 - b = q := ⟨_, rfl⟩
      have hpn : p < 4 := by omega
      have hqn : q < 4 := by omega
      obtain ⟨ad, rfl, _, h2⟩ := (hA.below hbl).at_ hpn
      obtain ⟨ad', hA', _, h3⟩ := (hA.below hbl).at_ hqn
      injection hA' with hA'
      subst hA'
      have ez : 2 * (k : Int) = (z : Int) := by omega
      have ep : (z : Int) + (b : Int) = (p : Int) := by omega
      have eq : (z : Int) + 1 - (b : Int) = (q : Int) := by omega
      have HU := Lib.hid (show upTo s l (k + 1) = upTo s l k ++ [nth l p] by rw [upTo_succ, hbb, hz, hp])
      have HV := Lib.hid (show loTo s l (k + 1) = loTo s l k ++ [nth l q] by rw [loTo_succ, hbb, hz, hq])
      have hz8 : z < 4 := by omega
      clear hbb hz hp hq e1
      go_wp2_with (at_builtin; refine wpL_append1 _ rfl (.tmp 47) (.tmp 58) _ rfl w.heap.size 3 (.int .i64 0) 8 Try.underlying24 intInfo rfl _ k _ _ rfl ho1 _ rfl rfl (by unfold maxLen; omega) (by omega) hsz ?_)
      intro A4 c4 w4 ho4 hg4 hat4
      have hb4 := own_below ho1 hbl hsz hg4
      have hsz4 := hb4.size
      have ho24 := ho2.kept hg4 (fun g x y => HSEP.out g y.symm x)
      have HS4 := Lib.hid (fsep_append ho2 (fun g x y => HSEP.out g y x) hat4)
      have h1' := (hS.below hb4).at_ (show k < 6 by omega)
      obtain ⟨as', has, _, h1'⟩ := h1'
      injection has with has
      subst has
      obtain ⟨ad', hA', _, h3'⟩ := (hA.below hb4).at_ hqn
      injection hA' with hA'
      subst hA'
      rw [show nth s k = (b : Int) by
        have := h1'
        have h0 := (hS.below hbl).at_ (show k < 6 by omega)
        obtain ⟨as', has, _, h0⟩ := h0
        injection has with has
        subst has
        rw [h1] at h0
        injection h0 with h0
        injection h0 with _ h0
        exact h0.symm] at h1'
      clear ho1 ho2 hg4 hat4 h1 h2 h3
      go_wp2_with (at_builtin; refine wpL_append1 _ rfl (.tmp 60) (.tmp 72) _ rfl w.heap.size 3 (.int .i64 0) 8 Try.underlying24 intInfo rfl _ k _ _ rfl ho24 _ rfl rfl (by unfold maxLen; omega) (by omega) hsz4 ?_)
      intro A5 c5 w5 ho5 hg5 hat5
      have hb5 := own_below ho24 hb4 hsz4 hg5
      have ho45 := ho4.kept hg5 (fun g x y => HS4.out g y.symm x)
      have HS5 := Lib.hid (fsep_append ho4 (fun g x y => HS4.out g y x) hat5)
      clear ho24 hg5 hat5 ho4
      go_wp2
      go_roundw
      case rel => exact ⟨k + 1, A4, c4, A5, c5, by omega, by go_num, rfl, rfl, by rw [OwnI, HU.out, List.map_append]; simpa using ho45, by rw [OwnI, HV.out, List.map_append]; simpa using ho5, HS5, hb5⟩
      case measure => (simp [intOf] <;> omega)
    · obtain rfl : k = 2 := by omega
      have hAA := ho1.blk_
      have h6 := (hS.below hbl)
      have c1' := rd_cut (p := 2) (m := 1) h6 (by omega)
      have B1 := Lib.hid (bits_cut (p := 2) (q := 1) HB.out (by omega))
      have B2 := Lib.hid (bits_cut (p := 2 + 1) (q := 1) HB.out (by omega))
      go_wp2_with fail
      refine (CF.out (some (aS.add 2)) (d - 2) _ A1 c1 _ _ c1' (by omega) (by unfold maxLen; omega) B1.out ho1.rd).mono ?_
      rintro e w2 ⟨A3, c3, rfl, o3, hb2⟩
      have hs2 := hb2.size
      have hbl2 := hbl.trans (hb2.mono hsz)
      have hsz2 := hbl2.size
      have ho2b := ho2.below hb2
      have c2' := rd_cut (p := 2 + 1) (m := 1) (hS.below hbl2) (by omega)
      go_wp2_with fail
      refine (CF.out (some (aS.add (2 + 1))) (d - (2 + 1)) _ A2 c2 _ _ c2' (by omega) (by unfold maxLen; omega) B2.out ho2b.rd).mono ?_
      rintro e w4 ⟨A4, c4, rfl, o4, hb3⟩
      have hs3 := hb3.size
      have o3b := o3.below hb3
      have hbl3 := hbl2.trans (hb3.mono hsz2)
      have hsz3 := hbl3.size
      obtain ⟨U, hU⟩ : ∃ U, fab2 (cutL s 2 1) (upTo s l 2) = U := ⟨_, rfl⟩
      obtain ⟨V, hV⟩ : ∃ V, fab2 (cutL s (2 + 1) 1) (loTo s l 2) = V := ⟨_, rfl⟩
      rw [hU] at o3b
      rw [hV] at o4
      have HR := Lib.hid (show fab4 s l = outTo s (2 + 2 * 1) U V 2 by rw [← hU, ← hV]; rfl)
      have r3 := o3b.rd
      have r4 := o4.rd
      have i3 := o3b.blk_
      have i4 := o4.blk_
      clear hU hV o3 ho1 ho2 ho2b hAA o3b o4 c1' c2' h6
      obtain ⟨i0, hi0, hz0, hz1, hz2⟩ := info_parts intInfo
      go_wp2_with fail
      go_loopw [12, 13] (fun v i wr => ∃ k : Nat, ∃ A' c', k ≤ 2 ∧ i = .int .i64 k ∧ v = .slice A' (2 * k) c' ∧ OwnI wr w.heap.size 3 A' (2 * k) c' (outTo s (2 + 2 * 1) U V k) ∧ Hid (∀ g, blk A' = some g → w4.heap.size ≤ g) ∧ Below w4.heap.size w4 wr ∧ Below w.heap.size w wr) (fun _ i _ => 2 - (intOf i).toNat)
      case atStart => exact ⟨0, _, _, Nat.zero_le _, rfl, rfl, by simpa [OwnI, outTo_zero] using (own_empty w4 3).more hsz3, Lib.hid (fun g e => by simp [blk] at e; omega), below_alloc w4 _, hbl3.trans ((below_alloc w4 _).mono hsz3)⟩
      case round =>
        clear hbl3 hbl2 hb2 hb3
        obtain ⟨k, A', c', hk, rfl, rfl, own, HSP, hb4, hbl⟩ := hrel
        have hsz := hbl.size
        have hs4 := hb4.size
        by_cases hlt : k < 2
        · obtain ⟨e1, hb1⟩ := HB.out.le (show 2 + 2 * 1 + k < 6 by omega)
          obtain ⟨b, hbb⟩ : ∃ b, sb s (2 + 2 * 1 + k) = b := ⟨_, rfl⟩
          rw [hbb] at e1 hb1
          obtain ⟨a0, ha0, _, h1⟩ := (hS.below hbl).at_ (show 2 + 2 * 1 + k < 6 by omega)
          injection ha0 with ha0
          subst ha0
          obtain ⟨t, ht⟩ : ∃ t, 2 + 2 * 1 + k = t := ⟨_, rfl⟩
          have et : (4 : Int) + (k : Int) = (t : Int) := by omega
          have htm : t < 6 := by omega
          rw [ht] at h1 e1
          rw [e1] at h1
          obtain ⟨a3, rfl, l3, h2⟩ := (r3.below hb4).at_ hlt
          obtain ⟨a4, rfl, l4, h3⟩ := (r4.below hb4).at_ hlt
          have g3 := i3 a3.block rfl
          have g4 := i4 a4.block rfl
          have N3 := Lib.hid (show some a3.block ≠ blk A' from fun e => by have := HSP.out _ e.symm; omega)
          have N4 := Lib.hid (show some a4.block ≠ blk A' from fun e => by have := HSP.out _ e.symm; omega)
          rcases (show b = 0 ∨ b = 1 by omega) with hb0 | hb0
          · subst hb0
            have HO := Lib.hid (outTo_on (s := s) (o := 2 + 2 * 1) (i := k) U V (by rw [ht, e1]; rfl))
            clear e1 ht hbb
            go_wp2_with fail
            go_region_held3 (fun w' => w'.cell? (a3.add k) = some (.int .i64 (nth U k)) ∧ w'.cell? (a4.add k) = some (.int .i64 (nth V k)))
              (first
                | go_keep
                | (go_split_ands
                   refine ⟨?_, ?_⟩
                   · (rw [hgrow.cell_far _ (by simp [block_of_add]; omega) (by rw [ownBlock_slice, block_of_add]; exact N3.out)]; assumption)
                   · (rw [hgrow.cell_far _ (by simp [block_of_add]; omega) (by rw [ownBlock_slice, block_of_add]; exact N4.out)]; assumption)))
              ((refine step_append_lies _ (by rfl) _ _ _ (by rfl) w.heap.size 3 i0 _ 1 8 Try.underlying24 hi0 hz0 hz1 hz2 rfl (by omega) _ (2 * k) _ (by rfl) ((own.alloc _).drew)
                  ⟨_, 0, none⟩ 2 2 [.int .i64 (nth U k), .int .i64 (nth V k)] (by rfl) (by rfl) (World.news_of_block (cs := #[.int .i64 (nth U k), .int .i64 (nth V k)]) (t := 3) (fr := (0, 0)) (heap_alloc_new wr _)) (by simp [Value.oneCell'])
                  (by omega) (by unfold maxLen; omega) (by omega) (by simp; omega) (wr.heap.size + 1) (by simp) ?_; intro gg cap w7 hown7 hgrow hat hlt7))
            all_goals
              have hb7 := below_of_grown (((hbl.alloc hsz (.cells #[.int .i64 (nth U k), .int .i64 (nth V k)] 3)).drew)) hgrow (by simp; omega) (fun g e => by rw [ownBlock_slice] at e; exact (own.blk_ g e).1)
              have own7 : OwnI w7 w.heap.size 3 (some ⟨gg, 0, none⟩) (2 * (k + 1)) cap (outTo s (2 + 2 * 1) U V (k + 1)) := by
                rw [OwnI, HO.out, List.map_append, show 2 * (k + 1) = 2 * k + 2 by omega]
                exact hown7
              have hsep7 : ∀ g, blk (some (⟨gg, 0, none⟩ : Addr)) = some g → w4.heap.size ≤ g := fun g e => by
                injection e with e
                rcases hat with h | h
                · rw [ownBlock_slice] at h; have := HSP.out gg h; simp at e; omega
                · simp at e; omega
              have hs7 := hgrow.size
              have hK := below_of_grown (((hb4.alloc hs4 (.cells #[.int .i64 (nth U k), .int .i64 (nth V k)] 3)).drew)) hgrow (by simp; omega) (fun g e => HSP.out g (by rw [ownBlock_slice] at e; exact e))
              go_wp2
              go_roundw
              case rel => exact ⟨k + 1, _, _, by omega, by go_num, rfl, own7, Lib.hid hsep7, hK, hb7⟩
              case measure => (simp [intOf] <;> omega)
          · subst hb0
            have HO := Lib.hid (outTo_off (s := s) (o := 2 + 2 * 1) (i := k) U V (by rw [ht, e1]; simp))
            clear e1 ht hbb
            go_wp2_with fail
            go_region_held3 (fun w' => w'.cell? (a4.add k) = some (.int .i64 (nth V k)) ∧ w'.cell? (a3.add k) = some (.int .i64 (nth U k)))
              (first
                | go_keep
                | (go_split_ands
                   refine ⟨?_, ?_⟩
                   · (rw [hgrow.cell_far _ (by simp [block_of_add]; omega) (by rw [ownBlock_slice, block_of_add]; exact N4.out)]; assumption)
                   · (rw [hgrow.cell_far _ (by simp [block_of_add]; omega) (by rw [ownBlock_slice, block_of_add]; exact N3.out)]; assumption)))
              ((refine step_append_lies _ (by rfl) _ _ _ (by rfl) w.heap.size 3 i0 _ 1 8 Try.underlying24 hi0 hz0 hz1 hz2 rfl (by omega) _ (2 * k) _ (by rfl) ((own.alloc _).drew)
                  ⟨_, 0, none⟩ 2 2 [.int .i64 (nth V k), .int .i64 (nth U k)] (by rfl) (by rfl) (World.news_of_block (cs := #[.int .i64 (nth V k), .int .i64 (nth U k)]) (t := 3) (fr := (0, 0)) (heap_alloc_new wr _)) (by simp [Value.oneCell'])
                  (by omega) (by unfold maxLen; omega) (by omega) (by simp; omega) (wr.heap.size + 1) (by simp) ?_; intro gg cap w7 hown7 hgrow hat hlt7))
            all_goals
              have hb7 := below_of_grown (((hbl.alloc hsz (.cells #[.int .i64 (nth V k), .int .i64 (nth U k)] 3)).drew)) hgrow (by simp; omega) (fun g e => by rw [ownBlock_slice] at e; exact (own.blk_ g e).1)
              have own7 : OwnI w7 w.heap.size 3 (some ⟨gg, 0, none⟩) (2 * (k + 1)) cap (outTo s (2 + 2 * 1) U V (k + 1)) := by
                rw [OwnI, HO.out, List.map_append, show 2 * (k + 1) = 2 * k + 2 by omega]
                exact hown7
              have hsep7 : ∀ g, blk (some (⟨gg, 0, none⟩ : Addr)) = some g → w4.heap.size ≤ g := fun g e => by
                injection e with e
                rcases hat with h | h
                · rw [ownBlock_slice] at h; have := HSP.out gg h; simp at e; omega
                · simp at e; omega
              have hs7 := hgrow.size
              have hK := below_of_grown (((hb4.alloc hs4 (.cells #[.int .i64 (nth V k), .int .i64 (nth U k)] 3)).drew)) hgrow (by simp; omega) (fun g e => HSP.out g (by rw [ownBlock_slice] at e; exact e))
              go_wp2
              go_roundw
              case rel => exact ⟨k + 1, _, _, by omega, by go_num, rfl, own7, Lib.hid hsep7, hK, hb7⟩
              case measure => (simp [intOf] <;> omega)
        · obtain rfl : k = 2 := by omega
          go_wp2_with fail
          go_ret
          exact ⟨_, _, rfl, by rw [HR.out]; exact own, hbl⟩

set_option maxHeartbeats 8000000 in
theorem specFab8 : FabS 8 20 fab8 := by
  intro S d s A e0 l w hS hd1 hd2 hb hA
  show Calls Try.prog 45 #[.int .i64 8, .slice S 20 d, .slice A 8 e0] w _
  have HB := Lib.hid hb
  have HLS := Lib.hid hS.lenI
  obtain ⟨aS, rfl, _, _⟩ := hS.at_ (show 0 < 20 by omega)
  have CI := Lib.hid (specCnt 4)
  have CF := Lib.hid (show ∀ (S : Option Addr) (d : Nat) (s : List Int) (A : Option Addr) (c : Nat) (l : List Int) (w : World), RdI w S 6 s → 6 ≤ d → d ≤ maxLen → Bits s 6 → RdI w A 4 l →
    Calls Try.prog 45 #[.int .i64 4, .slice S 6 d, .slice A 4 c] w fun e w' => ∃ A' c', e = .returned (.slice A' 4 c') ∧ OwnI w' w.heap.size 3 A' 4 c' (fab4 s l) ∧ Below w.heap.size w w' from specFab4)
  unfold maxLen at hd2
  clear hb
  go_enter Try.func45, Try.ntmps45
  go_wp2_with fail
  refine (CI.out _ (by unfold IsP; omega)).mono ?_
  rintro e w1 ⟨rfl, rfl⟩
  rw [show swN 4 = 6 from rfl]
  go_wp2_with fail
  go_loopw [9, 10, 11] (fun v u i wr => ∃ k : Nat, ∃ A1 c1 A2 c2, k ≤ 4 ∧ i = .int .i64 k ∧ v = .slice A1 k c1 ∧ u = .slice A2 k c2 ∧ OwnI wr w.heap.size 3 A1 k c1 (upTo s l k) ∧ OwnI wr w.heap.size 3 A2 k c2 (loTo s l k) ∧ Hid (∀ g, blk A1 = some g → blk A2 = some g → False) ∧ Below w.heap.size w wr) (fun _ _ i _ => 4 - (intOf i).toNat)
  case atStart =>
    refine ⟨0, _, _, _, _, Nat.zero_le _, rfl, rfl, rfl, by simpa [OwnI, upTo_zero] using (own_empty w 3).alloc _, by simpa [OwnI, loTo_zero] using (own_empty (w.alloc (.cells #[] 3)) 3).more (b2 := w.heap.size) (by simp), Lib.hid ?_, (below_alloc w _).alloc (by simp) _⟩
    intro g h1 h2
    simp [blk] at h1 h2
    omega
  case round =>
    obtain ⟨k, A1, c1, A2, c2, hk, rfl, rfl, rfl, ho1, ho2, HSEP, hbl⟩ := hrel
    have hsz := hbl.size
    by_cases hlt : k < 4
    · obtain ⟨e1, hb1⟩ := HB.out.le (show k < 20 by omega)
      obtain ⟨as', has, _, h1⟩ := (hS.below hbl).at_ (show k < 20 by omega)
      injection has with has
      subst has
      obtain ⟨b, hbb⟩ : ∃ b, sb s k = b := ⟨_, rfl⟩
      rw [hbb] at e1 hb1
      rw [e1] at h1
      obtain ⟨z, hz⟩ : ∃ z, 2 * k = z := ⟨_, rfl⟩
      obtain ⟨p, hp⟩ : ∃ p, z + b = p := ⟨_, rfl⟩
      obtain ⟨q, hq⟩ : ∃ q, z + 1 - b = q := ⟨_, rfl⟩
      have hpn : p < 8 := by omega
      have hqn : q < 8 := by omega
      obtain ⟨ad, rfl, _, h2⟩ := (hA.below hbl).at_ hpn
      obtain ⟨ad', hA', _, h3⟩ := (hA.below hbl).at_ hqn
      injection hA' with hA'
      subst hA'
      have ez : 2 * (k : Int) = (z : Int) := by omega
      have ep : (z : Int) + (b : Int) = (p : Int) := by omega
      have eq : (z : Int) + 1 - (b : Int) = (q : Int) := by omega
      have HU := Lib.hid (show upTo s l (k + 1) = upTo s l k ++ [nth l p] by rw [upTo_succ, hbb, hz, hp])
      have HV := Lib.hid (show loTo s l (k + 1) = loTo s l k ++ [nth l q] by rw [loTo_succ, hbb, hz, hq])
      have hz8 : z < 8 := by omega
      clear hbb hz hp hq e1
      go_wp2_with (at_builtin; refine wpL_append1 _ rfl (.tmp 47) (.tmp 58) _ rfl w.heap.size 3 (.int .i64 0) 8 Try.underlying24 intInfo rfl _ k _ _ rfl ho1 _ rfl rfl (by unfold maxLen; omega) (by omega) hsz ?_)
      intro A4 c4 w4 ho4 hg4 hat4
      have hb4 := own_below ho1 hbl hsz hg4
      have hsz4 := hb4.size
      have ho24 := ho2.kept hg4 (fun g x y => HSEP.out g y.symm x)
      have HS4 := Lib.hid (fsep_append ho2 (fun g x y => HSEP.out g y x) hat4)
      have h1' := (hS.below hb4).at_ (show k < 20 by omega)
      obtain ⟨as', has, _, h1'⟩ := h1'
      injection has with has
      subst has
      obtain ⟨ad', hA', _, h3'⟩ := (hA.below hb4).at_ hqn
      injection hA' with hA'
      subst hA'
      rw [show nth s k = (b : Int) by
        have := h1'
        have h0 := (hS.below hbl).at_ (show k < 20 by omega)
        obtain ⟨as', has, _, h0⟩ := h0
        injection has with has
        subst has
        rw [h1] at h0
        injection h0 with h0
        injection h0 with _ h0
        exact h0.symm] at h1'
      clear ho1 ho2 hg4 hat4 h1 h2 h3
      go_wp2_with (at_builtin; refine wpL_append1 _ rfl (.tmp 60) (.tmp 72) _ rfl w.heap.size 3 (.int .i64 0) 8 Try.underlying24 intInfo rfl _ k _ _ rfl ho24 _ rfl rfl (by unfold maxLen; omega) (by omega) hsz4 ?_)
      intro A5 c5 w5 ho5 hg5 hat5
      have hb5 := own_below ho24 hb4 hsz4 hg5
      have ho45 := ho4.kept hg5 (fun g x y => HS4.out g y.symm x)
      have HS5 := Lib.hid (fsep_append ho4 (fun g x y => HS4.out g y x) hat5)
      clear ho24 hg5 hat5 ho4
      go_wp2
      go_roundw
      case rel => exact ⟨k + 1, A4, c4, A5, c5, by omega, by go_num, rfl, rfl, by rw [OwnI, HU.out, List.map_append]; simpa using ho45, by rw [OwnI, HV.out, List.map_append]; simpa using ho5, HS5, hb5⟩
      case measure => (simp [intOf] <;> omega)
    · obtain rfl : k = 4 := by omega
      have hAA := ho1.blk_
      have h6 := (hS.below hbl)
      have c1' := rd_cut (p := 4) (m := 6) h6 (by omega)
      have B1 := Lib.hid (bits_cut (p := 4) (q := 6) HB.out (by omega))
      have B2 := Lib.hid (bits_cut (p := 4 + 6) (q := 6) HB.out (by omega))
      go_wp2_with fail
      refine (CF.out (some (aS.add 4)) (d - 4) _ A1 c1 _ _ c1' (by omega) (by unfold maxLen; omega) B1.out ho1.rd).mono ?_
      rintro e w2 ⟨A3, c3, rfl, o3, hb2⟩
      have hs2 := hb2.size
      have hbl2 := hbl.trans (hb2.mono hsz)
      have hsz2 := hbl2.size
      have ho2b := ho2.below hb2
      have c2' := rd_cut (p := 4 + 6) (m := 6) (hS.below hbl2) (by omega)
      go_wp2_with fail
      refine (CF.out (some (aS.add (4 + 6))) (d - (4 + 6)) _ A2 c2 _ _ c2' (by omega) (by unfold maxLen; omega) B2.out ho2b.rd).mono ?_
      rintro e w4 ⟨A4, c4, rfl, o4, hb3⟩
      have hs3 := hb3.size
      have o3b := o3.below hb3
      have hbl3 := hbl2.trans (hb3.mono hsz2)
      have hsz3 := hbl3.size
      obtain ⟨U, hU⟩ : ∃ U, fab4 (cutL s 4 6) (upTo s l 4) = U := ⟨_, rfl⟩
      obtain ⟨V, hV⟩ : ∃ V, fab4 (cutL s (4 + 6) 6) (loTo s l 4) = V := ⟨_, rfl⟩
      rw [hU] at o3b
      rw [hV] at o4
      have HR := Lib.hid (show fab8 s l = outTo s (4 + 2 * 6) U V 4 by rw [← hU, ← hV]; rfl)
      have r3 := o3b.rd
      have r4 := o4.rd
      have i3 := o3b.blk_
      have i4 := o4.blk_
      clear hU hV o3 ho1 ho2 ho2b hAA o3b o4 c1' c2' h6
      obtain ⟨i0, hi0, hz0, hz1, hz2⟩ := info_parts intInfo
      go_wp2_with fail
      go_loopw [12, 13] (fun v i wr => ∃ k : Nat, ∃ A' c', k ≤ 4 ∧ i = .int .i64 k ∧ v = .slice A' (2 * k) c' ∧ OwnI wr w.heap.size 3 A' (2 * k) c' (outTo s (4 + 2 * 6) U V k) ∧ Hid (∀ g, blk A' = some g → w4.heap.size ≤ g) ∧ Below w4.heap.size w4 wr ∧ Below w.heap.size w wr) (fun _ i _ => 4 - (intOf i).toNat)
      case atStart => exact ⟨0, _, _, Nat.zero_le _, rfl, rfl, by simpa [OwnI, outTo_zero] using (own_empty w4 3).more hsz3, Lib.hid (fun g e => by simp [blk] at e; omega), below_alloc w4 _, hbl3.trans ((below_alloc w4 _).mono hsz3)⟩
      case round =>
        clear hbl3 hbl2 hb2 hb3
        obtain ⟨k, A', c', hk, rfl, rfl, own, HSP, hb4, hbl⟩ := hrel
        have hsz := hbl.size
        have hs4 := hb4.size
        by_cases hlt : k < 4
        · obtain ⟨e1, hb1⟩ := HB.out.le (show 4 + 2 * 6 + k < 20 by omega)
          obtain ⟨b, hbb⟩ : ∃ b, sb s (4 + 2 * 6 + k) = b := ⟨_, rfl⟩
          rw [hbb] at e1 hb1
          obtain ⟨a0, ha0, _, h1⟩ := (hS.below hbl).at_ (show 4 + 2 * 6 + k < 20 by omega)
          injection ha0 with ha0
          subst ha0
          obtain ⟨t, ht⟩ : ∃ t, 4 + 2 * 6 + k = t := ⟨_, rfl⟩
          have et : (16 : Int) + (k : Int) = (t : Int) := by omega
          have htm : t < 20 := by omega
          rw [ht] at h1 e1
          rw [e1] at h1
          obtain ⟨a3, rfl, l3, h2⟩ := (r3.below hb4).at_ hlt
          obtain ⟨a4, rfl, l4, h3⟩ := (r4.below hb4).at_ hlt
          have g3 := i3 a3.block rfl
          have g4 := i4 a4.block rfl
          have N3 := Lib.hid (show some a3.block ≠ blk A' from fun e => by have := HSP.out _ e.symm; omega)
          have N4 := Lib.hid (show some a4.block ≠ blk A' from fun e => by have := HSP.out _ e.symm; omega)
          rcases (show b = 0 ∨ b = 1 by omega) with hb0 | hb0
          · subst hb0
            have HO := Lib.hid (outTo_on (s := s) (o := 4 + 2 * 6) (i := k) U V (by rw [ht, e1]; rfl))
            clear e1 ht hbb
            go_wp2_with fail
            go_region_held3 (fun w' => w'.cell? (a3.add k) = some (.int .i64 (nth U k)) ∧ w'.cell? (a4.add k) = some (.int .i64 (nth V k)))
              (first
                | go_keep
                | (go_split_ands
                   refine ⟨?_, ?_⟩
                   · (rw [hgrow.cell_far _ (by simp [block_of_add]; omega) (by rw [ownBlock_slice, block_of_add]; exact N3.out)]; assumption)
                   · (rw [hgrow.cell_far _ (by simp [block_of_add]; omega) (by rw [ownBlock_slice, block_of_add]; exact N4.out)]; assumption)))
              ((refine step_append_lies _ (by rfl) _ _ _ (by rfl) w.heap.size 3 i0 _ 1 8 Try.underlying24 hi0 hz0 hz1 hz2 rfl (by omega) _ (2 * k) _ (by rfl) ((own.alloc _).drew)
                  ⟨_, 0, none⟩ 2 2 [.int .i64 (nth U k), .int .i64 (nth V k)] (by rfl) (by rfl) (World.news_of_block (cs := #[.int .i64 (nth U k), .int .i64 (nth V k)]) (t := 3) (fr := (0, 0)) (heap_alloc_new wr _)) (by simp [Value.oneCell'])
                  (by omega) (by unfold maxLen; omega) (by omega) (by simp; omega) (wr.heap.size + 1) (by simp) ?_; intro gg cap w7 hown7 hgrow hat hlt7))
            all_goals
              have hb7 := below_of_grown (((hbl.alloc hsz (.cells #[.int .i64 (nth U k), .int .i64 (nth V k)] 3)).drew)) hgrow (by simp; omega) (fun g e => by rw [ownBlock_slice] at e; exact (own.blk_ g e).1)
              have own7 : OwnI w7 w.heap.size 3 (some ⟨gg, 0, none⟩) (2 * (k + 1)) cap (outTo s (4 + 2 * 6) U V (k + 1)) := by
                rw [OwnI, HO.out, List.map_append, show 2 * (k + 1) = 2 * k + 2 by omega]
                exact hown7
              have hsep7 : ∀ g, blk (some (⟨gg, 0, none⟩ : Addr)) = some g → w4.heap.size ≤ g := fun g e => by
                injection e with e
                rcases hat with h | h
                · rw [ownBlock_slice] at h; have := HSP.out gg h; simp at e; omega
                · simp at e; omega
              have hs7 := hgrow.size
              have hK := below_of_grown (((hb4.alloc hs4 (.cells #[.int .i64 (nth U k), .int .i64 (nth V k)] 3)).drew)) hgrow (by simp; omega) (fun g e => HSP.out g (by rw [ownBlock_slice] at e; exact e))
              go_wp2
              go_roundw
              case rel => exact ⟨k + 1, _, _, by omega, by go_num, rfl, own7, Lib.hid hsep7, hK, hb7⟩
              case measure => (simp [intOf] <;> omega)
          · subst hb0
            have HO := Lib.hid (outTo_off (s := s) (o := 4 + 2 * 6) (i := k) U V (by rw [ht, e1]; simp))
            clear e1 ht hbb
            go_wp2_with fail
            go_region_held3 (fun w' => w'.cell? (a4.add k) = some (.int .i64 (nth V k)) ∧ w'.cell? (a3.add k) = some (.int .i64 (nth U k)))
              (first
                | go_keep
                | (go_split_ands
                   refine ⟨?_, ?_⟩
                   · (rw [hgrow.cell_far _ (by simp [block_of_add]; omega) (by rw [ownBlock_slice, block_of_add]; exact N4.out)]; assumption)
                   · (rw [hgrow.cell_far _ (by simp [block_of_add]; omega) (by rw [ownBlock_slice, block_of_add]; exact N3.out)]; assumption)))
              ((refine step_append_lies _ (by rfl) _ _ _ (by rfl) w.heap.size 3 i0 _ 1 8 Try.underlying24 hi0 hz0 hz1 hz2 rfl (by omega) _ (2 * k) _ (by rfl) ((own.alloc _).drew)
                  ⟨_, 0, none⟩ 2 2 [.int .i64 (nth V k), .int .i64 (nth U k)] (by rfl) (by rfl) (World.news_of_block (cs := #[.int .i64 (nth V k), .int .i64 (nth U k)]) (t := 3) (fr := (0, 0)) (heap_alloc_new wr _)) (by simp [Value.oneCell'])
                  (by omega) (by unfold maxLen; omega) (by omega) (by simp; omega) (wr.heap.size + 1) (by simp) ?_; intro gg cap w7 hown7 hgrow hat hlt7))
            all_goals
              have hb7 := below_of_grown (((hbl.alloc hsz (.cells #[.int .i64 (nth V k), .int .i64 (nth U k)] 3)).drew)) hgrow (by simp; omega) (fun g e => by rw [ownBlock_slice] at e; exact (own.blk_ g e).1)
              have own7 : OwnI w7 w.heap.size 3 (some ⟨gg, 0, none⟩) (2 * (k + 1)) cap (outTo s (4 + 2 * 6) U V (k + 1)) := by
                rw [OwnI, HO.out, List.map_append, show 2 * (k + 1) = 2 * k + 2 by omega]
                exact hown7
              have hsep7 : ∀ g, blk (some (⟨gg, 0, none⟩ : Addr)) = some g → w4.heap.size ≤ g := fun g e => by
                injection e with e
                rcases hat with h | h
                · rw [ownBlock_slice] at h; have := HSP.out gg h; simp at e; omega
                · simp at e; omega
              have hs7 := hgrow.size
              have hK := below_of_grown (((hb4.alloc hs4 (.cells #[.int .i64 (nth V k), .int .i64 (nth U k)] 3)).drew)) hgrow (by simp; omega) (fun g e => HSP.out g (by rw [ownBlock_slice] at e; exact e))
              go_wp2
              go_roundw
              case rel => exact ⟨k + 1, _, _, by omega, by go_num, rfl, own7, Lib.hid hsep7, hK, hb7⟩
              case measure => (simp [intOf] <;> omega)
        · obtain rfl : k = 4 := by omega
          go_wp2_with fail
          go_ret
          exact ⟨_, _, rfl, by rw [HR.out]; exact own, hbl⟩


end Go.Proofs.Ytchmmaokommnaaa
