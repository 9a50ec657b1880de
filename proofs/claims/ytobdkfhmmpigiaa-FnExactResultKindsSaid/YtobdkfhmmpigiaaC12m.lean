/- Chapter 12: impl.images with a closure. -/
import Derived.Test.YtobdkfhmmpigiaaC12l
import Derived.Test.YtobdkfhmmpigiaaC12p
namespace Go.Proofs.Ytobdkfhmmpigiaa
open Go.RowKit Go.Deep
set_option linter.unusedVariables false

theorem take_map_succ {zs : List Int} {F : Int → Int} {k : Nat} (h : k < zs.length) : ((zs.take (k + 1)).map F) = (zs.take k).map F ++ [F (nth zs k)] := by
  rw [take_nth h, List.map_append]; rfl
theorem imL_of {F : Int → Int} {zs : List Int} : Lib.compact (srtM (zs.map F)) = imL F zs := by unfold imL; rfl

set_option maxHeartbeats 4000000 in
theorem implImages (A : Option Addr) (n c : Nat) (set : List Int) (g0 : Nat) (cb : Array Value) (F : Int → Int) (w : World) (ha : RdI w A n set) (hn : n ≤ 1000) (eg : ∀ args w, (callFunc g0 args).run Try.prog w = .ok (.enter g0 args) w)
    (hF : ∀ wx, Below w.heap.size w wx → ∀ k, k < n → Calls Try.prog g0 (#[.int .i64 (nth set k)] ++ cb) wx fun e w' => e = .returned (.int .i64 (F (nth set k))) ∧ Below wx.heap.size wx w') :
    Calls Try.prog 37 #[.slice A n c, .func (.func g0) #[] cb] w fun e w' => ∃ g' m' c', e = .returned (.slice (some ⟨g', 0, none⟩) m' c') ∧ OwnI w' w.heap.size 3 (some ⟨g', 0, none⟩) m' c' (imL F set) ∧ Below w.heap.size w w' := by
  have HL := Lib.hid ha.lenI
  have HA := Lib.hid ha
  have HF := Lib.hid hF
  clear ha hF
  go_enter Try.func37, Try.ntmps37
  go_wp2_with fail
  go_loopw [5, 11] (fun lv iv wr => ∃ k g5 c5 : Nat, lv = .slice (some ⟨g5, 0, none⟩) k c5 ∧ iv = .int .i64 (k : Nat) ∧ k ≤ n ∧ OwnI wr w.heap.size 3 (some ⟨g5, 0, none⟩) k c5 ((set.take k).map F) ∧ Below w.heap.size w wr) (fun _ iv _ => n - (intOf iv).toNat)
  case atStart => exact ⟨0, _, 0, rfl, rfl, Nat.zero_le _, own_empty w _, below_alloc w _⟩
  case round =>
    obtain ⟨k, g5, c5, rfl, rfl, hk, hown, hbl⟩ := hrel
    have hsz := hbl.size
    by_cases hlt : k < n
    · obtain ⟨a1, rfl, _, l1⟩ := (HA.out.below hbl).at_ hlt
      have HC := Lib.hid (HF.out wr hbl k hlt)
      have HT := Lib.hid (take_map_succ (F := F) (show k < set.length by rw [HL.out]; exact hlt))
      have HO := Lib.hid hown
      have HB := Lib.hid hbl
      clear hown hbl
      go_wp2_with (first
        | (go_at_fn g0; refine HC.out.mono ?_; rintro e w2 ⟨rfl, hb2⟩; have HO2 := Lib.hid (HO.out.below hb2); have hs2 : w.heap.size ≤ w2.heap.size := Nat.le_trans hsz hb2.size; have HB2 := Lib.hid (HB.out.trans (hb2.mono hsz)); clear hb2)
        | (at_builtin; refine wpL_append1 _ rfl _ _ _ rfl w.heap.size 3 (.int .i64 0) 8 Try.underlying28 intInfo rfl _ k _ _ rfl HO2.out _ rfl rfl (by unfold maxLen; omega) (by omega) hs2 ?_))
      intro A6 c6 w6 ho6 hg6 hat6
      have hb6 := own_below HO2.out HB2.out hs2 hg6
      obtain ⟨g6, rfl⟩ := own_some_ ho6 (by omega)
      go_wp2_with fail
      go_roundw
      case rel => exact ⟨k + 1, g6, c6, rfl, by go_num, by omega, by rw [OwnI, HT.out, List.map_append]; simpa using ho6, hb6⟩
      case measure => (simp [intOf] <;> omega)
    · obtain rfl : k = n := by omega
      have hown2 : OwnI wr w.heap.size 3 (some ⟨g5, 0, none⟩) k c5 (set.map F) := by
        have h := hown
        rw [List.take_of_length_le (by rw [HL.out]; exact Nat.le_refl _)] at h
        exact h
      have CS := Lib.hid (implSortM g5 k c5 w.heap.size (set.map F) wr hown2 (by omega))
      have HO := Lib.hid hown2
      have HB := Lib.hid hbl
      clear hown hown2 hbl
      go_wp2_with fail
      refine CS.out.mono ?_
      rintro e w2 ⟨rfl, ho2, hg2⟩
      have HB2 := Lib.hid (own_below HO.out HB.out hsz hg2)
      have CC := Lib.hid (implCompact g5 k c5 w.heap.size _ w2 ho2 (by omega))
      have HO2 := Lib.hid ho2
      have hs2 : w.heap.size ≤ w2.heap.size := HB2.out.size
      rw [imL_of] at CC
      clear ho2 hg2 CS
      go_wp2_with fail
      refine CC.out.mono ?_
      rintro e w3 ⟨rfl, ho3, hg3⟩
      have HB3 := Lib.hid (own_below HO2.out HB2.out hs2 hg3)
      go_wp2_with fail
      go_ret
      exact ⟨g5, _, c5, rfl, ho3, HB3.out⟩
end Go.Proofs.Ytobdkfhmmpigiaa
