/- Chapter 17: the reference's sorting by inserting. -/
import Derived.Test.YtcijnmooifcicaaSrt
import Derived.Test.YtcijnmooifcicaaIntS
namespace Go.Proofs.Ytcijnmooifcicaa
open Go.RowKit Go.Deep
set_option linter.unusedVariables false

theorem insIn_at {x : Int} {ys : List Int} {k : Nat} (h : ys.length = k) : insIn x ys = ys.take (insAt x ys k) ++ [x] ++ ys.drop (insAt x ys k) := by subst h; unfold insIn; rfl
theorem rd_head {w : World} {A : Option Addr} {n p : Nat} {zs : List Int} (h : RdI w A n zs) (hp : p ≤ n) : RdI w A p (zs.take p) := by
  have hl := h.lenI
  refine ⟨by simp; omega, fun hm => ?_⟩
  obtain ⟨ad, had, hb, hcell⟩ := h.2 (by omega)
  refine ⟨ad, had, hb, fun j u hu => hcell j u ?_⟩
  rw [List.map_take, List.getElem?_take] at hu
  split at hu
  · exact hu
  · cases hu
theorem rd_tail {w : World} {a : Addr} {n p : Nat} {zs : List Int} (h : RdI w (some a) n zs) (hp : p ≤ n) : RdI w (some (a.add p)) (n - p) (zs.drop p) := by
  have hl := h.lenI
  refine ⟨by simp; omega, fun hm => ?_⟩
  obtain ⟨ad, had, hb, hcell⟩ := h.2 (by omega)
  injection had with had
  subst had
  refine ⟨_, rfl, by rw [block_of_add]; exact hb, fun j u hu => ?_⟩
  rw [add_of_add]
  apply hcell
  rw [List.map_drop, List.getElem?_drop] at hu
  exact hu
theorem rd_tail_end {w : World} {A : Option Addr} {n p : Nat} {zs : List Int} (h : RdI w A n zs) (hp : n = p) : RdI w A (n - p) (zs.drop p) := by
  have hl := h.lenI
  exact ⟨by simp; omega, fun hm => by omega⟩

set_option maxHeartbeats 2000000 in
theorem specSort (A : Option Addr) (n c : Nat) (zs : List Int) (w : World) (ha : RdI w A n zs) (hn : n ≤ 1048576) :
    Calls Try.prog 75 #[.slice A n c] w fun e w' => ∃ A' c', e = .returned (.slice A' n c') ∧ OwnI w' w.heap.size 3 A' n c' (insTo zs n) ∧ Below w.heap.size w w' := by
  have hl := Lib.hid ha.lenI
  go_enter Try.func75, Try.ntmps75
  go_wp2
  go_loopw [3, 11] (fun v i wr => ∃ k : Nat, ∃ ad c', k ≤ n ∧ i = .int .i64 k ∧ v = .slice (some ad) k c' ∧ OwnI wr w.heap.size 3 (some ad) k c' (insTo zs k) ∧ Below w.heap.size w wr) (fun _ i _ => n - (intOf i).toNat)
  case atStart => exact ⟨0, _, _, Nat.zero_le _, rfl, rfl, by simpa [OwnI, insTo_zero] using own_empty w 3, below_alloc w _⟩
  case round =>
    obtain ⟨k, ad, c', hk, rfl, rfl, hown, hbl⟩ := hrel
    have hsz := hbl.size
    by_cases hlt : k < n
    · obtain ⟨a1, rfl, _, h1⟩ := (ha.below hbl).at_ hlt
      go_wp2
      go_loop [6] (fun v => ∃ t : Nat, t ≤ k ∧ v = .int .i64 t ∧ Hid (insAt (nth zs k) (insTo zs k) k = insAt (nth zs k) (insTo zs k) t)) (fun v => (intOf v).toNat)
      case atStart => exact ⟨k, Nat.le_refl _, rfl, Lib.hid rfl⟩
      case round =>
        obtain ⟨t, ht, rfl, HA⟩ := hrel
        by_cases h0 : t = 0
        · have HT := Lib.hid (show insAt (nth zs k) (insTo zs k) k = t by rw [HA.out, h0, insAt_zero])
          have e0 : decide (0 < (t : Int)) = false := by simp; omega
          have e00 : decide (0 < t) = false := by simp; omega
          have e01 : (t == 0) = true := by simp; omega
          clear h0
          have HI := Lib.hid (show insTo zs (k + 1) = (insTo zs k).take t ++ [nth zs k] ++ (insTo zs k).drop t by rw [insTo_succ, insIn_at (insTo_len zs k), HT.out])
          have hc2 := hown.cap.2
          have hc1 := hown.cap.1
          unfold maxLen at hc2
          have r1 := rd_head hown.rd ht
          have hAA := hown.blk_
          clear HA
          go_wp2_with (at_builtin; refine wpL_append _ rfl _ _ _ rfl wr.heap.size 3 (.int .i64 0) 8 Try.underlying22 intInfo rfl _ 0 _ [] rfl (own_empty _ _) (some ad) t c' (((insTo zs k).take t).map (Value.int .i64)) rfl (r1.alloc _) (ints_one _) (by unfold maxLen; omega) (by omega) (by simp) ?_)
          intro A2 c2 w2 ho2 hg2 hat2
          have hb2 : Below wr.heap.size wr w2 := own_below (own_empty wr 3) (below_alloc wr _) (by simp) hg2
          have hs2 := hb2.size
          try simp only [Nat.zero_add, List.nil_append] at ho2
          go_wp2_with (at_builtin; refine wpL_append1 _ rfl _ _ _ rfl wr.heap.size 3 (.int .i64 0) 8 Try.underlying22 intInfo rfl _ t _ _ rfl ho2 _ rfl rfl (by unfold maxLen; omega) (by omega) hs2 ?_)
          intro A3 c3 w3 ho3 hg3 hat3
          have hb3 := own_below ho2 hb2 hs2 hg3
          have hs3 := hb3.size
          have hbl3 := hbl.trans (hb3.mono hsz)
          have ho3' := hown.below hb3
          by_cases hct : c' = t
          · have r3 := rd_tail_end (p := t) ho3'.rd (by omega)
            go_wp2_with (at_builtin; refine wpL_append _ rfl _ _ _ rfl wr.heap.size 3 (.int .i64 0) 8 Try.underlying22 intInfo rfl _ _ _ _ rfl ho3 (some ad) (k - t) _ (((insTo zs k).drop t).map (Value.int .i64)) rfl r3 (ints_one _) (by unfold maxLen; omega) (by omega) hs3 ?_)
            intro A4 c4 w4 ho4 hg4 hat4
            have hb4 := own_below ho3 hb3 hs3 hg4
            have hbl4 := hbl.trans (hb4.mono hsz)
            rw [show t + 1 + (k - t) = k + 1 by omega] at ho4 ⊢
            have hsome : ∃ ad4, A4 = some ad4 := by
              obtain ⟨g, u, hA, _⟩ := ho4.at_ (show 0 < k + 1 by omega)
              exact ⟨_, hA⟩
            obtain ⟨ad4, rfl⟩ := hsome
            go_wp2
            go_roundw
            case rel => exact ⟨k + 1, ad4, c4, by omega, by go_num, rfl, by rw [OwnI, HI.out]; simpa using ho4.more hsz, hbl4⟩
            case measure => (simp [intOf] <;> omega)
          · have r3 := rd_tail ho3'.rd ht
            go_wp2_with (at_builtin; refine wpL_append _ rfl _ _ _ rfl wr.heap.size 3 (.int .i64 0) 8 Try.underlying22 intInfo rfl _ _ _ _ rfl ho3 (some (ad.add t)) (k - t) _ (((insTo zs k).drop t).map (Value.int .i64)) rfl r3 (ints_one _) (by unfold maxLen; omega) (by omega) hs3 ?_)
            intro A4 c4 w4 ho4 hg4 hat4
            have hb4 := own_below ho3 hb3 hs3 hg4
            have hbl4 := hbl.trans (hb4.mono hsz)
            rw [show t + 1 + (k - t) = k + 1 by omega] at ho4 ⊢
            have hsome : ∃ ad4, A4 = some ad4 := by
              obtain ⟨g, u, hA, _⟩ := ho4.at_ (show 0 < k + 1 by omega)
              exact ⟨_, hA⟩
            obtain ⟨ad4, rfl⟩ := hsome
            go_wp2
            go_roundw
            case rel => exact ⟨k + 1, ad4, c4, by omega, by go_num, rfl, by rw [OwnI, HI.out]; simpa using ho4.more hsz, hbl4⟩
            case measure => (simp [intOf] <;> omega)

        · obtain ⟨s, hs⟩ : ∃ s, t = s + 1 := ⟨t - 1, by omega⟩
          obtain ⟨a2, ha2, _, h2⟩ := hown.rd.at_ (show s < k by omega)
          injection ha2 with ha2
          subst ha2
          have et : ((t : Int) - 1) = (s : Int) := by omega
          by_cases hx : nth zs k < nth (insTo zs k) s
          · have H := Lib.hid (insAt_on hx)
            have HS := Lib.hid hs
            clear hs
            go_wp2
            go_round
            case rel => exact ⟨s, by have := HS.out; omega, by go_num, Lib.hid (by rw [HA.out, HS.out, H.out])⟩
            case measure => (simp [intOf] <;> (have := HS.out; omega))
          · have HT := Lib.hid (show insAt (nth zs k) (insTo zs k) k = t by rw [HA.out, hs, insAt_off hx])
            have e1 : decide (nth zs k < nth (insTo zs k) s) = false := decide_eq_false hx
            have HS := Lib.hid hs
            clear hx h0 hs
            have HI := Lib.hid (show insTo zs (k + 1) = (insTo zs k).take t ++ [nth zs k] ++ (insTo zs k).drop t by rw [insTo_succ, insIn_at (insTo_len zs k), HT.out])
            have hc2 := hown.cap.2
            have hc1 := hown.cap.1
            unfold maxLen at hc2
            have r1 := rd_head hown.rd ht
            have hAA := hown.blk_
            clear HA
            go_wp2_with (at_builtin; refine wpL_append _ rfl _ _ _ rfl wr.heap.size 3 (.int .i64 0) 8 Try.underlying22 intInfo rfl _ 0 _ [] rfl (own_empty _ _) (some ad) t c' (((insTo zs k).take t).map (Value.int .i64)) rfl (r1.alloc _) (ints_one _) (by unfold maxLen; omega) (by omega) (by simp) ?_)
            intro A2 c2 w2 ho2 hg2 hat2
            have hb2 : Below wr.heap.size wr w2 := own_below (own_empty wr 3) (below_alloc wr _) (by simp) hg2
            have hs2 := hb2.size
            try simp only [Nat.zero_add, List.nil_append] at ho2
            go_wp2_with (at_builtin; refine wpL_append1 _ rfl _ _ _ rfl wr.heap.size 3 (.int .i64 0) 8 Try.underlying22 intInfo rfl _ t _ _ rfl ho2 _ rfl rfl (by unfold maxLen; omega) (by omega) hs2 ?_)
            intro A3 c3 w3 ho3 hg3 hat3
            have hb3 := own_below ho2 hb2 hs2 hg3
            have hs3 := hb3.size
            have hbl3 := hbl.trans (hb3.mono hsz)
            have ho3' := hown.below hb3
            by_cases hct : c' = t
            · have r3 := rd_tail_end (p := t) ho3'.rd (by omega)
              go_wp2_with (at_builtin; refine wpL_append _ rfl _ _ _ rfl wr.heap.size 3 (.int .i64 0) 8 Try.underlying22 intInfo rfl _ _ _ _ rfl ho3 (some ad) (k - t) _ (((insTo zs k).drop t).map (Value.int .i64)) rfl r3 (ints_one _) (by unfold maxLen; omega) (by omega) hs3 ?_)
              intro A4 c4 w4 ho4 hg4 hat4
              have hb4 := own_below ho3 hb3 hs3 hg4
              have hbl4 := hbl.trans (hb4.mono hsz)
              rw [show t + 1 + (k - t) = k + 1 by omega] at ho4 ⊢
              have hsome : ∃ ad4, A4 = some ad4 := by
                obtain ⟨g, u, hA, _⟩ := ho4.at_ (show 0 < k + 1 by omega)
                exact ⟨_, hA⟩
              obtain ⟨ad4, rfl⟩ := hsome
              go_wp2
              go_roundw
              case rel => exact ⟨k + 1, ad4, c4, by omega, by go_num, rfl, by rw [OwnI, HI.out]; simpa using ho4.more hsz, hbl4⟩
              case measure => (simp [intOf] <;> omega)
            · have r3 := rd_tail ho3'.rd ht
              go_wp2_with (at_builtin; refine wpL_append _ rfl _ _ _ rfl wr.heap.size 3 (.int .i64 0) 8 Try.underlying22 intInfo rfl _ _ _ _ rfl ho3 (some (ad.add t)) (k - t) _ (((insTo zs k).drop t).map (Value.int .i64)) rfl r3 (ints_one _) (by unfold maxLen; omega) (by omega) hs3 ?_)
              intro A4 c4 w4 ho4 hg4 hat4
              have hb4 := own_below ho3 hb3 hs3 hg4
              have hbl4 := hbl.trans (hb4.mono hsz)
              rw [show t + 1 + (k - t) = k + 1 by omega] at ho4 ⊢
              have hsome : ∃ ad4, A4 = some ad4 := by
                obtain ⟨g, u, hA, _⟩ := ho4.at_ (show 0 < k + 1 by omega)
                exact ⟨_, hA⟩
              obtain ⟨ad4, rfl⟩ := hsome
              go_wp2
              go_roundw
              case rel => exact ⟨k + 1, ad4, c4, by omega, by go_num, rfl, by rw [OwnI, HI.out]; simpa using ho4.more hsz, hbl4⟩
              case measure => (simp [intOf] <;> omega)

    · obtain rfl : k = n := by omega
      go_wp2
      go_ret
      exact ⟨_, _, rfl, hown, hbl⟩

end Go.Proofs.Ytcijnmooifcicaa
