/- Chapter 14: the program's fabric. -/
import Derived.Test.YtchmmaokommnaaaC14e
import Derived.Test.YtchmmaokommnaaaClone
import Derived.BigRegion
namespace Go.Proofs.Ytchmmaokommnaaa
open Go.RowKit Go.Deep
set_option linter.unusedVariables false

theorem fsep_append {wr : World} {B k : Nat} {e : TypeId} {A1 A2 A4 : Option Addr} {n c : Nat} {xs : List Value} (ho : Own wr B e A1 n c xs) (hsep : ∀ g, blk A1 = some g → blk A2 = some g → False) (hat : blk A4 = blk A2 ∨ blk A4 = some (wr.heap.size + k)) :
    ∀ g, blk A1 = some g → blk A4 = some g → False := fun g h1 h2 => by
  rcases hat with h | h
  · rw [h] at h2; exact hsep g h1 h2
  · rw [h] at h2; injection h2 with h2; have := (ho.blk_ g h1).2; omega

theorem add_lit2 (a : Addr) (m k : Nat) : (a.add (m + 1)).add k = ⟨a.block, a.off + (m + 1) + k, none⟩ := by
  unfold Addr.add
  rw [if_neg (show ¬ m + 1 = 0 by omega)]
  by_cases h : k = 0
  · subst h; rfl
  · rw [if_neg h]
/-- What a fabric does: a contract, whatever its size. -/
def FabI (n m : Nat) (G : List Int → List Int → List Int) : Prop :=
  ∀ (S : Option Addr) (d : Nat) (s : List Int) (A : Option Addr) (c : Nat) (l : List Int) (w : World), RdI w S m s → m ≤ d → d ≤ maxLen → Bits s m → RdI w A n l →
    Calls Try.prog 46 #[.slice S m d, .slice A n c] w fun e w' => ∃ A' c', e = .returned (.slice A' n c') ∧ OwnI w' w.heap.size 3 A' n c' (G s l) ∧ Below w.heap.size w w'

theorem implFab1 : FabI 1 0 fab1 := by
  intro S d s A c l w hS hd1 hd2 hb hA
  obtain ⟨ad, rfl, _, h1⟩ := hA.at_ (show 0 < 1 by omega)
  have HC := Lib.hid (implClone ad 1 c l w hA (by omega))
  have HL := Lib.hid (show fab1 s l = l by
    have := hA.lenI
    match l, this with
    | [x], _ => rfl)
  clear hA h1
  go_enter Try.func46, Try.ntmps46
  go_wp2_with fail
  refine HC.out.mono ?_
  rintro e w1 ⟨A1, c1, rfl, o1, hb1⟩
  go_wp2_with fail
  go_ret
  exact ⟨_, _, rfl, by rw [HL.out]; exact o1, hb1⟩

set_option maxHeartbeats 2000000 in
theorem implFab2 : FabI 2 1 fab2 := by
  intro S d s A c l w hS hd1 hd2 hb hA
  obtain ⟨e1, hb1⟩ := hb.le (show 0 < 1 by omega)
  obtain ⟨aS, rfl, _, h1⟩ := hS.at_ (show 0 < 1 by omega)
  replace h1 : w.cell? aS = some (.int .i64 (nth s 0)) := h1
  obtain ⟨b, hbb⟩ : ∃ b, sb s 0 = b := ⟨_, rfl⟩
  rw [hbb] at e1 hb1
  rw [e1] at h1
  obtain ⟨q, hq⟩ : ∃ q, 1 - b = q := ⟨_, rfl⟩
  have hq2 : q < 2 := by omega
  obtain ⟨ad, rfl, _, h2⟩ := hA.at_ (show b < 2 by omega)
  obtain ⟨ad', hA', _, h3⟩ := hA.at_ hq2
  injection hA' with hA'
  subst hA'
  have eq : (1 : Int) - (b : Int) = (q : Int) := by omega
  have HL := Lib.hid (show fab2 s l = [nth l b, nth l q] by unfold fab2; rw [hbb, hq])
  have hlen := Lib.hid hA.lenI
  clear hS hA hb hbb hq e1
  go_enter Try.func46, Try.ntmps46
  go_wp2
  go_region
  all_goals
    go_wp2
    go_ret
    refine ⟨_, _, rfl, ?_, ?_⟩
    · rw [HL.out]
      exact World.ownsRow_lit (base := w.heap.size) (e := 3) (size := 1) w #[.int .i64 (nth l b), .int .i64 (nth l q)] 2 (Nat.le_refl _) (by unfold maxLen; omega) rfl
    · exact (below_alloc w _).drew

set_option maxHeartbeats 8000000 in
theorem implFab4 : FabI 4 6 fab4 := by
  intro S d s A e0 l w hS hd1 hd2 hb hA
  have HB := Lib.hid hb
  have HLS := Lib.hid hS.lenI
  obtain ⟨aS, rfl, _, _⟩ := hS.at_ (show 0 < 6 by omega)
  have CI := Lib.hid (implCnt 2)
  have CF := Lib.hid implFab2
  unfold maxLen at hd2
  clear hb
  go_enter Try.func46, Try.ntmps46
  go_wp2_with fail
  refine (CI.out _ (by unfold IsP; omega)).mono ?_
  rintro e w1 ⟨rfl, hb1⟩
  have hs1 := hb1.size
  rw [show swN 2 = 1 from rfl]
  go_wp2_with fail
  go_loopw [8, 9, 45] (fun v u i wr => ∃ k : Nat, ∃ A1 c1 A2 c2, k ≤ 2 ∧ i = .int .i64 k ∧ v = .slice A1 k c1 ∧ u = .slice A2 k c2 ∧ OwnI wr w.heap.size 3 A1 k c1 (upTo s l k) ∧ OwnI wr w.heap.size 3 A2 k c2 (loTo s l k) ∧ Hid (∀ g, blk A1 = some g → blk A2 = some g → False) ∧ Below w.heap.size w wr) (fun _ _ i _ => 2 - (intOf i).toNat)
  case atStart =>
    refine ⟨0, _, _, _, _, Nat.zero_le _, rfl, rfl, rfl, by simpa [OwnI, upTo_zero] using ((own_empty w1 3).more hs1).alloc _, by simpa [OwnI, loTo_zero] using (own_empty (w1.alloc (.cells #[] 3)) 3).more (b2 := w.heap.size) (by simp; omega), Lib.hid ?_, hb1.trans (((below_alloc w1 _).alloc (by simp) _).mono hs1)⟩
    intro g h1 h2
    simp [blk] at h1 h2
    omega
  case round =>
    clear hb1 hs1
    obtain ⟨k, A1, c1, A2, c2, hk, rfl, rfl, rfl, ho1, ho2, HSEP, hbl⟩ := hrel
    have hsz := hbl.size
    by_cases hlt : k < 2
    · obtain ⟨e1, hb1⟩ := HB.out.le (show k < 6 by omega)
      obtain ⟨aS', has, _, h1⟩ := (hS.below hbl).at_ (show k < 6 by omega)
      injection has with has
      subst has
      obtain ⟨b, hbb⟩ : ∃ b, sb s k = b := ⟨_, rfl⟩
      rw [hbb] at e1 hb1
      rw [e1] at h1
      obtain ⟨z, hz⟩ : ∃ z, 2 * k = z := ⟨_, rfl⟩
      obtain ⟨p, hp⟩ : ∃ p, z + b = p := ⟨_, rfl⟩
      obtain ⟨q, hq⟩ : ∃ q, z + 1 - b = q := ⟨_, rfl⟩
      have hpn : p < 4 := by omega
      have hqn : q < 4 := by omega
      obtain ⟨ad, rfl, _, h2⟩ := (hA.below hbl).at_ hpn
      obtain ⟨ad', hA', _, h3⟩ := (hA.below hbl).at_ hqn
      injection hA' with hA'
      subst hA'
      have ez : 2 * (k : Int) = (z : Int) := by omega
      have ep : (z : Int) + (b : Int) = (p : Int) := by omega
      have eq : (z : Int) + 1 - (b : Int) = (q : Int) := by omega
      have HU := Lib.hid (show upTo s l (k + 1) = upTo s l k ++ [nth l p] by rw [upTo_succ, hbb, hz, hp])
      have HV := Lib.hid (show loTo s l (k + 1) = loTo s l k ++ [nth l q] by rw [loTo_succ, hbb, hz, hq])
      have hz8 : z < 4 := by omega
      clear hbb hz hp hq e1
      go_wp2_with (at_builtin; refine wpL_append1 _ rfl (.tmp 48) (.tmp 59) _ rfl w.heap.size 3 (.int .i64 0) 8 Try.underlying24 intInfo rfl _ k _ _ rfl ho1 _ rfl rfl (by unfold maxLen; omega) (by omega) hsz ?_)
      intro A4 c4 w4 ho4 hg4 hat4
      have hb4 := own_below ho1 hbl hsz hg4
      have hsz4 := hb4.size
      have ho24 := ho2.kept hg4 (fun g x y => HSEP.out g y.symm x)
      have HS4 := Lib.hid (fsep_append ho2 (fun g x y => HSEP.out g y x) hat4)
      have h1' := (hS.below hb4).at_ (show k < 6 by omega)
      obtain ⟨aS', has, _, h1'⟩ := h1'
      injection has with has
      subst has
      obtain ⟨ad', hA', _, h3'⟩ := (hA.below hb4).at_ hqn
      injection hA' with hA'
      subst hA'
      rw [show nth s k = (b : Int) by
        have := h1'
        have h0 := (hS.below hbl).at_ (show k < 6 by omega)
        obtain ⟨aS', has, _, h0⟩ := h0
        injection has with has
        subst has
        rw [h1] at h0
        injection h0 with h0
        injection h0 with _ h0
        exact h0.symm] at h1'
      clear ho1 ho2 hg4 hat4 h1 h2 h3
      go_wp2_with (at_builtin; refine wpL_append1 _ rfl (.tmp 61) (.tmp 73) _ rfl w.heap.size 3 (.int .i64 0) 8 Try.underlying24 intInfo rfl _ k _ _ rfl ho24 _ rfl rfl (by unfold maxLen; omega) (by omega) hsz4 ?_)
      intro A5 c5 w5 ho5 hg5 hat5
      have hb5 := own_below ho24 hb4 hsz4 hg5
      have ho45 := ho4.kept hg5 (fun g x y => HS4.out g y.symm x)
      have HS5 := Lib.hid (fsep_append ho4 (fun g x y => HS4.out g y x) hat5)
      clear ho24 hg5 hat5 ho4
      go_wp2
      go_roundw
      case rel => exact ⟨k + 1, A4, c4, A5, c5, by omega, by go_num, rfl, rfl, by rw [OwnI, HU.out, List.map_append]; simpa using ho45, by rw [OwnI, HV.out, List.map_append]; simpa using ho5, HS5, hb5⟩
      case measure => (simp [intOf] <;> omega)
    · obtain rfl : k = 2 := by omega
      have hAA := ho1.blk_
      have h6 := (hS.below hbl)
      have c1' := rd_cut (p := 2) (m := 1) h6 (by omega)
      have B1 := Lib.hid (bits_cut (p := 2) (q := 1) HB.out (by omega))
      have B2 := Lib.hid (bits_cut (p := 2 + 1) (q := 1) HB.out (by omega))
      have B3 := Lib.hid (bits_cut (p := 2 + 2 * 1) (q := 2) HB.out (by omega))
      go_wp2_with fail
      refine (CF.out (some (aS.add 2)) (d - 2) _ A1 c1 _ _ c1' (by omega) (by unfold maxLen; omega) B1.out ho1.rd).mono ?_
      rintro e w2 ⟨A3, c3, rfl, o3, hb2⟩
      have hs2 := hb2.size
      have hbl2 := hbl.trans (hb2.mono hsz)
      have hsz2 := hbl2.size
      have ho2b := ho2.below hb2
      have c2' := rd_cut (p := 2 + 1) (m := 1) (hS.below hbl2) (by omega)
      go_wp2_with fail
      refine (CF.out (some (aS.add (2 + 1))) (d - (2 + 1)) _ A2 c2 _ _ c2' (by omega) (by unfold maxLen; omega) B2.out ho2b.rd).mono ?_
      rintro e w3 ⟨A4, c4, rfl, o4, hb3⟩
      have hs3 := hb3.size
      have o3b := o3.below hb3
      have hbl3 := hbl2.trans (hb3.mono hsz2)
      have hsz3 := hbl3.size
      obtain ⟨U, hU⟩ : ∃ U, fab2 (cutL s 2 1) (upTo s l 2) = U := ⟨_, rfl⟩
      obtain ⟨V, hV⟩ : ∃ V, fab2 (cutL s (2 + 1) 1) (loTo s l 2) = V := ⟨_, rfl⟩
      rw [hU] at o3b
      rw [hV] at o4
      have HR := Lib.hid (show fab4 s l = outTo s (2 + 2 * 1) U V 2 by rw [← hU, ← hV]; rfl)
      have i3 := o3b.blk_
      have i4 := o4.blk_
      clear hU hV o3 ho1 ho2 ho2b hAA
      go_wp2_with (at_make; refine wpL_make _ rfl _ _ 24 rfl 3 (.int .i64 0) 8 Try.underlying24 intInfo rfl _ _ _ _ 4 rfl rfl rfl rfl (by omega) (by unfold maxLen; omega) ?_)
      intro w5 hown hb5 hs5
      have hs5' := hb5.size
      have hbl5 := hbl3.trans (hb5.mono hsz3)
      have c3' := rd_cut (p := 2 + 2 * 1) (m := 2) hS (by omega)
      have d4 : 4 < d := by omega
      have d5 : (d == 4) = false := by simp; omega
      clear c1' c2' h6
      go_wp2_with fail
      go_loopw [104] (fun i w6 => ∃ k : Nat, ∃ ys : List Int, k ≤ 2 ∧ i = .int .i64 k ∧ OwnI w6 w3.heap.size 3 (some ⟨w3.heap.size, 0, none⟩) 4 4 ys ∧ Hid (ys.take (2 * k) = outTo s (2 + 2 * 1) U V k) ∧ Below w3.heap.size w3 w6) (fun i _ => 2 - (intOf i).toNat)
      case atStart => exact ⟨0, List.replicate 4 0, Nat.zero_le _, rfl, by simpa [OwnI, List.map_replicate] using hown, Lib.hid (by rw [outTo_zero]; rfl), hb5⟩
      case round =>
        clear hown hb5 hs5 hs5' hbl5
        obtain ⟨k, ys, hk, rfl, own, HT, hb6⟩ := hrel
        have hs6 := hb6.size
        by_cases hlt : k < 2
        · obtain ⟨e1, hb1⟩ := HB.out.le (show 2 + 2 * 1 + k < 6 by omega)
          obtain ⟨b, hbb⟩ : ∃ b, sb s (2 + 2 * 1 + k) = b := ⟨_, rfl⟩
          have hset := fun x => out_set (n := 4) (u := U) (v := V) own.lenI HT.out ⟨e1, hb1⟩ x
          rw [hbb] at e1 hb1 hset
          obtain ⟨a0, ha0, _, h1⟩ := (c3'.below (hbl3.trans (hb6.mono hsz3))).at_ hlt
          injection ha0 with ha0
          subst ha0
          rw [cut_nth hlt, e1, show 2 + 2 * 1 = 3 + 1 from rfl, add_lit2] at h1
          obtain ⟨a3, rfl, _, h2⟩ := (o3b.rd.below hb6).at_ hlt
          obtain ⟨a4, rfl, _, h3⟩ := (o4.rd.below hb6).at_ hlt
          obtain ⟨z, hz⟩ : ∃ z, 2 * k = z := ⟨_, rfl⟩
          obtain ⟨p, hp⟩ : ∃ p, z + b = p := ⟨_, rfl⟩
          obtain ⟨q, hq⟩ : ∃ q, z + 1 - b = q := ⟨_, rfl⟩
          have hpn : p < 4 := by omega
          have hqn : q < 4 := by omega
          have hpq : p ≠ q := by omega
          have hset2 := hset (by omega)
          rw [hz, hp, hq] at hset2
          have HSET := Lib.hid hset2
          have ez : 2 * (k : Int) = (z : Int) := by omega
          have ep : (z : Int) + (b : Int) = (p : Int) := by omega
          have eq : (z : Int) + 1 - (b : Int) = (q : Int) := by omega
          obtain ⟨g1, u1, e3, _, _, _, f1, f2⟩ := own.at_ hpn
          injection e3 with e3
          injection e3 with e3
          subst e3
          obtain ⟨g2, u2, e4, _, _, _, f3, f4⟩ := own.at_ hqn
          injection e4 with e4
          injection e4 with e4
          subst e4
          have own2 := (own.setI (x := nth U k) hpn).setI (x := nth V k) hqn
          have hb7 := (hb6.setCell (p := ⟨_, p, none⟩) (Nat.le_refl _) (.int .i64 (nth U k))).setCell (p := ⟨_, q, none⟩) (Nat.le_refl _) (.int .i64 (nth V k))
          have hz8 : z < 4 := by omega
          clear hset hset2 hbb hz hp hq e1 own HT hb6
          go_wp2
          go_region
          all_goals
            go_wp2
            go_roundw
            case rel => exact ⟨k + 1, _, by omega, by go_num, own2, HSET, hb7.drew⟩
            case measure => (simp [intOf] <;> omega)
        · obtain rfl : k = 2 := by omega
          have hys := HT.out
          rw [List.take_of_length_le (by rw [own.lenI]; omega)] at hys
          subst hys
          have hblF := hbl3.trans (hb6.mono hsz3)
          have ownF := own.more hsz3
          go_wp2_with fail
          go_ret
          exact ⟨_, _, rfl, by rw [HR.out]; exact ownF, hblF⟩

set_option maxHeartbeats 8000000 in
theorem implFab8 : FabI 8 20 fab8 := by
  intro S d s A e0 l w hS hd1 hd2 hb hA
  have HB := Lib.hid hb
  have HLS := Lib.hid hS.lenI
  obtain ⟨aS, rfl, _, _⟩ := hS.at_ (show 0 < 20 by omega)
  have CI := Lib.hid (implCnt 4)
  have CF := Lib.hid implFab4
  unfold maxLen at hd2
  clear hb
  go_enter Try.func46, Try.ntmps46
  go_wp2_with fail
  refine (CI.out _ (by unfold IsP; omega)).mono ?_
  rintro e w1 ⟨rfl, hb1⟩
  have hs1 := hb1.size
  rw [show swN 4 = 6 from rfl]
  go_wp2_with fail
  go_loopw [8, 9, 45] (fun v u i wr => ∃ k : Nat, ∃ A1 c1 A2 c2, k ≤ 4 ∧ i = .int .i64 k ∧ v = .slice A1 k c1 ∧ u = .slice A2 k c2 ∧ OwnI wr w.heap.size 3 A1 k c1 (upTo s l k) ∧ OwnI wr w.heap.size 3 A2 k c2 (loTo s l k) ∧ Hid (∀ g, blk A1 = some g → blk A2 = some g → False) ∧ Below w.heap.size w wr) (fun _ _ i _ => 4 - (intOf i).toNat)
  case atStart =>
    refine ⟨0, _, _, _, _, Nat.zero_le _, rfl, rfl, rfl, by simpa [OwnI, upTo_zero] using ((own_empty w1 3).more hs1).alloc _, by simpa [OwnI, loTo_zero] using (own_empty (w1.alloc (.cells #[] 3)) 3).more (b2 := w.heap.size) (by simp; omega), Lib.hid ?_, hb1.trans (((below_alloc w1 _).alloc (by simp) _).mono hs1)⟩
    intro g h1 h2
    simp [blk] at h1 h2
    omega
  case round =>
    clear hb1 hs1
    obtain ⟨k, A1, c1, A2, c2, hk, rfl, rfl, rfl, ho1, ho2, HSEP, hbl⟩ := hrel
    have hsz := hbl.size
    by_cases hlt : k < 4
    · obtain ⟨e1, hb1⟩ := HB.out.le (show k < 20 by omega)
      obtain ⟨aS', has, _, h1⟩ := (hS.below hbl).at_ (show k < 20 by omega)
      injection has with has
      subst has
      obtain ⟨b, hbb⟩ : ∃ b, sb s k = b := ⟨_, rfl⟩
      rw [hbb] at e1 hb1
      rw [e1] at h1
      obtain ⟨z, hz⟩ : ∃ z, 2 * k = z := ⟨_, rfl⟩
      obtain ⟨p, hp⟩ : ∃ p, z + b = p := ⟨_, rfl⟩
      obtain ⟨q, hq⟩ : ∃ q, z + 1 - b = q := ⟨_, rfl⟩
      have hpn : p < 8 := by omega
      have hqn : q < 8 := by omega
      obtain ⟨ad, rfl, _, h2⟩ := (hA.below hbl).at_ hpn
      obtain ⟨ad', hA', _, h3⟩ := (hA.below hbl).at_ hqn
      injection hA' with hA'
      subst hA'
      have ez : 2 * (k : Int) = (z : Int) := by omega
      have ep : (z : Int) + (b : Int) = (p : Int) := by omega
      have eq : (z : Int) + 1 - (b : Int) = (q : Int) := by omega
      have HU := Lib.hid (show upTo s l (k + 1) = upTo s l k ++ [nth l p] by rw [upTo_succ, hbb, hz, hp])
      have HV := Lib.hid (show loTo s l (k + 1) = loTo s l k ++ [nth l q] by rw [loTo_succ, hbb, hz, hq])
      have hz8 : z < 8 := by omega
      clear hbb hz hp hq e1
      go_wp2_with (at_builtin; refine wpL_append1 _ rfl (.tmp 48) (.tmp 59) _ rfl w.heap.size 3 (.int .i64 0) 8 Try.underlying24 intInfo rfl _ k _ _ rfl ho1 _ rfl rfl (by unfold maxLen; omega) (by omega) hsz ?_)
      intro A4 c4 w4 ho4 hg4 hat4
      have hb4 := own_below ho1 hbl hsz hg4
      have hsz4 := hb4.size
      have ho24 := ho2.kept hg4 (fun g x y => HSEP.out g y.symm x)
      have HS4 := Lib.hid (fsep_append ho2 (fun g x y => HSEP.out g y x) hat4)
      have h1' := (hS.below hb4).at_ (show k < 20 by omega)
      obtain ⟨aS', has, _, h1'⟩ := h1'
      injection has with has
      subst has
      obtain ⟨ad', hA', _, h3'⟩ := (hA.below hb4).at_ hqn
      injection hA' with hA'
      subst hA'
      rw [show nth s k = (b : Int) by
        have := h1'
        have h0 := (hS.below hbl).at_ (show k < 20 by omega)
        obtain ⟨aS', has, _, h0⟩ := h0
        injection has with has
        subst has
        rw [h1] at h0
        injection h0 with h0
        injection h0 with _ h0
        exact h0.symm] at h1'
      clear ho1 ho2 hg4 hat4 h1 h2 h3
      go_wp2_with (at_builtin; refine wpL_append1 _ rfl (.tmp 61) (.tmp 73) _ rfl w.heap.size 3 (.int .i64 0) 8 Try.underlying24 intInfo rfl _ k _ _ rfl ho24 _ rfl rfl (by unfold maxLen; omega) (by omega) hsz4 ?_)
      intro A5 c5 w5 ho5 hg5 hat5
      have hb5 := own_below ho24 hb4 hsz4 hg5
      have ho45 := ho4.kept hg5 (fun g x y => HS4.out g y.symm x)
      have HS5 := Lib.hid (fsep_append ho4 (fun g x y => HS4.out g y x) hat5)
      clear ho24 hg5 hat5 ho4
      go_wp2
      go_roundw
      case rel => exact ⟨k + 1, A4, c4, A5, c5, by omega, by go_num, rfl, rfl, by rw [OwnI, HU.out, List.map_append]; simpa using ho45, by rw [OwnI, HV.out, List.map_append]; simpa using ho5, HS5, hb5⟩
      case measure => (simp [intOf] <;> omega)
    · obtain rfl : k = 4 := by omega
      have hAA := ho1.blk_
      have h6 := (hS.below hbl)
      have c1' := rd_cut (p := 4) (m := 6) h6 (by omega)
      have B1 := Lib.hid (bits_cut (p := 4) (q := 6) HB.out (by omega))
      have B2 := Lib.hid (bits_cut (p := 4 + 6) (q := 6) HB.out (by omega))
      have B3 := Lib.hid (bits_cut (p := 4 + 2 * 6) (q := 4) HB.out (by omega))
      go_wp2_with fail
      refine (CF.out (some (aS.add 4)) (d - 4) _ A1 c1 _ _ c1' (by omega) (by unfold maxLen; omega) B1.out ho1.rd).mono ?_
      rintro e w2 ⟨A3, c3, rfl, o3, hb2⟩
      have hs2 := hb2.size
      have hbl2 := hbl.trans (hb2.mono hsz)
      have hsz2 := hbl2.size
      have ho2b := ho2.below hb2
      have c2' := rd_cut (p := 4 + 6) (m := 6) (hS.below hbl2) (by omega)
      go_wp2_with fail
      refine (CF.out (some (aS.add (4 + 6))) (d - (4 + 6)) _ A2 c2 _ _ c2' (by omega) (by unfold maxLen; omega) B2.out ho2b.rd).mono ?_
      rintro e w3 ⟨A4, c4, rfl, o4, hb3⟩
      have hs3 := hb3.size
      have o3b := o3.below hb3
      have hbl3 := hbl2.trans (hb3.mono hsz2)
      have hsz3 := hbl3.size
      obtain ⟨U, hU⟩ : ∃ U, fab4 (cutL s 4 6) (upTo s l 4) = U := ⟨_, rfl⟩
      obtain ⟨V, hV⟩ : ∃ V, fab4 (cutL s (4 + 6) 6) (loTo s l 4) = V := ⟨_, rfl⟩
      rw [hU] at o3b
      rw [hV] at o4
      have HR := Lib.hid (show fab8 s l = outTo s (4 + 2 * 6) U V 4 by rw [← hU, ← hV]; rfl)
      have i3 := o3b.blk_
      have i4 := o4.blk_
      clear hU hV o3 ho1 ho2 ho2b hAA
      go_wp2_with (at_make; refine wpL_make _ rfl _ _ 24 rfl 3 (.int .i64 0) 8 Try.underlying24 intInfo rfl _ _ _ _ 8 rfl rfl rfl rfl (by omega) (by unfold maxLen; omega) ?_)
      intro w5 hown hb5 hs5
      have hs5' := hb5.size
      have hbl5 := hbl3.trans (hb5.mono hsz3)
      have c3' := rd_cut (p := 4 + 2 * 6) (m := 4) hS (by omega)
      have d4 : 16 < d := by omega
      have d5 : (d == 16) = false := by simp; omega
      clear c1' c2' h6
      go_wp2_with fail
      go_loopw [104] (fun i w6 => ∃ k : Nat, ∃ ys : List Int, k ≤ 4 ∧ i = .int .i64 k ∧ OwnI w6 w3.heap.size 3 (some ⟨w3.heap.size, 0, none⟩) 8 8 ys ∧ Hid (ys.take (2 * k) = outTo s (4 + 2 * 6) U V k) ∧ Below w3.heap.size w3 w6) (fun i _ => 4 - (intOf i).toNat)
      case atStart => exact ⟨0, List.replicate 8 0, Nat.zero_le _, rfl, by simpa [OwnI, List.map_replicate] using hown, Lib.hid (by rw [outTo_zero]; rfl), hb5⟩
      case round =>
        clear hown hb5 hs5 hs5' hbl5
        obtain ⟨k, ys, hk, rfl, own, HT, hb6⟩ := hrel
        have hs6 := hb6.size
        by_cases hlt : k < 4
        · obtain ⟨e1, hb1⟩ := HB.out.le (show 4 + 2 * 6 + k < 20 by omega)
          obtain ⟨b, hbb⟩ : ∃ b, sb s (4 + 2 * 6 + k) = b := ⟨_, rfl⟩
          have hset := fun x => out_set (n := 8) (u := U) (v := V) own.lenI HT.out ⟨e1, hb1⟩ x
          rw [hbb] at e1 hb1 hset
          obtain ⟨a0, ha0, _, h1⟩ := (c3'.below (hbl3.trans (hb6.mono hsz3))).at_ hlt
          injection ha0 with ha0
          subst ha0
          rw [cut_nth hlt, e1, show 4 + 2 * 6 = 15 + 1 from rfl, add_lit2] at h1
          obtain ⟨a3, rfl, _, h2⟩ := (o3b.rd.below hb6).at_ hlt
          obtain ⟨a4, rfl, _, h3⟩ := (o4.rd.below hb6).at_ hlt
          obtain ⟨z, hz⟩ : ∃ z, 2 * k = z := ⟨_, rfl⟩
          obtain ⟨p, hp⟩ : ∃ p, z + b = p := ⟨_, rfl⟩
          obtain ⟨q, hq⟩ : ∃ q, z + 1 - b = q := ⟨_, rfl⟩
          have hpn : p < 8 := by omega
          have hqn : q < 8 := by omega
          have hpq : p ≠ q := by omega
          have hset2 := hset (by omega)
          rw [hz, hp, hq] at hset2
          have HSET := Lib.hid hset2
          have ez : 2 * (k : Int) = (z : Int) := by omega
          have ep : (z : Int) + (b : Int) = (p : Int) := by omega
          have eq : (z : Int) + 1 - (b : Int) = (q : Int) := by omega
          obtain ⟨g1, u1, e3, _, _, _, f1, f2⟩ := own.at_ hpn
          injection e3 with e3
          injection e3 with e3
          subst e3
          obtain ⟨g2, u2, e4, _, _, _, f3, f4⟩ := own.at_ hqn
          injection e4 with e4
          injection e4 with e4
          subst e4
          have own2 := (own.setI (x := nth U k) hpn).setI (x := nth V k) hqn
          have hb7 := (hb6.setCell (p := ⟨_, p, none⟩) (Nat.le_refl _) (.int .i64 (nth U k))).setCell (p := ⟨_, q, none⟩) (Nat.le_refl _) (.int .i64 (nth V k))
          have hz8 : z < 8 := by omega
          clear hset hset2 hbb hz hp hq e1 own HT hb6
          go_wp2
          go_region
          all_goals
            go_wp2
            go_roundw
            case rel => exact ⟨k + 1, _, by omega, by go_num, own2, HSET, hb7.drew⟩
            case measure => (simp [intOf] <;> omega)
        · obtain rfl : k = 4 := by omega
          have hys := HT.out
          rw [List.take_of_length_le (by rw [own.lenI]; omega)] at hys
          subst hys
          have hblF := hbl3.trans (hb6.mono hsz3)
          have ownF := own.more hsz3
          go_wp2_with fail
          go_ret
          exact ⟨_, _, rfl, by rw [HR.out]; exact ownF, hblF⟩


end Go.Proofs.Ytchmmaokommnaaa
