/- Chapter 15: orders that are drawn. -/
import Derived.Test.YtaeabpmpfadkjaaC15n
import Derived.Test.YtaeabpmpfadkjaaDraw3
namespace Go.Proofs.Ytaeabpmpfadkjaa
open Go.RowKit Go.Deep
set_option linter.unusedVariables false

set_option maxHeartbeats 1000000 in
theorem specOnce (g n : Nat) (w : World) (hc : Cur w g) (h1 : 1 ≤ n) (h2 : n ≤ 256) : Calls Try.prog 76 #[.pointer (some ⟨g, 0, none⟩), .int .i64 n] w fun e w' => ∃ b : Bool, e = .returned (.bool b) ∧ Cur w' g ∧ w.grownBy w' (some g) := by
  go_enter Try.func76, Try.ntmps76
  go_wp2_with fail
  refine (specBelow g n w hc h1 h2).mono ?_
  rintro e w1 ⟨x, hx, rfl, hc1, hg1⟩
  go_wp2_with fail
  go_ret
  exact ⟨_, rfl, hc1, hg1⟩
theorem row_snoc_lt {zss : List (List Int)} {r : List Int} {j : Nat} (h : j < zss.length) : row zss j = row (zss ++ [r]) j := by
  simp only [row, List.getD, List.getElem?_append_left h]
theorem row_snoc_eq {zss : List (List Int)} {r : List Int} {j : Nat} (h : zss.length = j) : row (zss ++ [r]) j = r := by
  simp [row, List.getD, ← h]
theorem rd_lit3 (w : World) : RdI (w.alloc (.cells #[.int .i64 2, .int .i64 4, .int .i64 8] 3)) (some ⟨w.heap.size, 0, none⟩) 3 [2, 4, 8] :=
  Own.rd (base := w.heap.size) (e := 3) (c := 3) (World.ownsRow_lit (base := w.heap.size) (e := 3) (size := 1) w #[.int .i64 2, .int .i64 4, .int .i64 8] 3 (Nat.le_refl _) (by unfold maxLen; omega) rfl)
theorem pick3 : ∀ x, x < 3 → ∃ n, n ≤ 8 ∧ nth [2, 4, 8] x = ((n : Nat) : Int) ∧ (n = 2 ∨ n = 4 ∨ n = 8) := by
  intro x hx
  match x, hx with
  | 0, _ => exact ⟨2, by omega, rfl, .inl rfl⟩
  | 1, _ => exact ⟨4, by omega, rfl, .inr (.inl rfl)⟩
  | 2, _ => exact ⟨8, by omega, rfl, .inr (.inr rfl)⟩
/-- Rows of switches, the first i of them. -/
def BRows (n i : Nat) (t : List (List Int)) : Prop := t.length = i ∧ ∀ j, j < i → (row t j).length = n / 2 ∧ BitsL n (row t j)
theorem bRows_nil (n : Nat) : BRows n 0 [] := ⟨rfl, fun j h => by omega⟩
theorem bRows_snoc {n i : Nat} {t : List (List Int)} {r : List Int} (h : BRows n i t) (h1 : r.length = n / 2) (h2 : BitsL n r) : BRows n (i + 1) (t ++ [r]) := by
  refine ⟨by rw [List.length_append, h.1]; rfl, fun j hj => ?_⟩
  by_cases e : j = i
  · subst e; rw [row_snoc_eq h.1]; exact ⟨h1, h2⟩
  · rw [← row_snoc_lt (by rw [h.1]; omega)]; exact h.2 j (by omega)
/-- The first k switches of a row. -/
def BPfx (k : Nat) (r : List Int) : Prop := r.length = k ∧ ∀ j, j < k → nth r j = 0 ∨ nth r j = 1
theorem bPfx_nil : BPfx 0 [] := ⟨rfl, fun j h => by omega⟩
theorem bPfx_snoc {k x : Nat} {r : List Int} (h : BPfx k r) (hx : x < 2) : BPfx (k + 1) (r ++ [(x : Int)]) := by
  refine ⟨by rw [List.length_append, h.1]; rfl, fun j hj => ?_⟩
  by_cases e : j = k
  · subst e
    have := nth_app_new r (x : Int)
    rw [h.1] at this
    rw [this]
    omega
  · rw [nth_app_old (by rw [h.1]; omega)]; exact h.2 j (by omega)
theorem bPfx_bits {n : Nat} {r : List Int} (h : BPfx (n / 2) r) : BitsL n r := h.2
theorem RowsIn.congr {w : World} {lo hi n : Nat} {A : Option Addr} {f f' : Nat → List Int} {vs : List Value} (h : RowsIn w lo hi A n f vs) (hf : ∀ j, j < n → f j = f' j) : RowsIn w lo hi A n f' vs := by
  intro j hj
  obtain ⟨B, m, d, hv, hB, hd⟩ := h j hj
  exact ⟨B, m, d, hv, by rw [← hf j hj]; exact hB, hd⟩

set_option maxHeartbeats 8000000 in
theorem specDraw15 (g : Nat) (w : World) (hc : Cur w g) : Calls Try.prog 67 #[.pointer (some ⟨g, 0, none⟩)] w fun e w' => ∃ A n c zs, e = .returned (.slice A n c) ∧ (n = 2 ∨ n = 4 ∨ n = 8) ∧ OwnI w' w.heap.size 3 A n c zs ∧ ordV zs = true ∧ Below g w w' := by
  have hgw := hc.lt
  obtain ⟨B, hB⟩ : ∃ B, w.heap.size = B := ⟨_, rfl⟩
  have HB := Lib.hid hB
  have HC0 := Lib.hid (hc.below (below_alloc w (.cells #[.int .i64 2, .int .i64 4, .int .i64 8] 3)))
  have HG0 := Lib.hid (grown_alloc w g (.cells #[.int .i64 2, .int .i64 4, .int .i64 8] 3))
  have HL0 := Lib.hid (rd_lit3 w)
  rw [hB] at hgw ⊢
  clear hB hc
  go_enter Try.func67, Try.ntmps67
  go_wp2_with fail
  refine (specPick g (some ⟨w.heap.size, 0, none⟩) 3 3 [2, 4, 8] _ HC0.out HL0.out (fun q hq => by have h3 : w.heap.size = q := (by simpa [blk] using hq); have := HB.out; omega) (by omega) (by omega)).mono ?_
  rintro e w1 ⟨x, hx, rfl, hc1, hg1⟩
  obtain ⟨n, hn8, hxn, hn⟩ := pick3 x hx
  rw [hxn]
  have HG1 := Lib.hid (HG0.out.trans hg1)
  have HC1 := Lib.hid hc1
  have HN := Lib.hid hn
  obtain ⟨h, hh⟩ : ∃ h, n / 2 = h := ⟨_, rfl⟩
  have eh : (n : Int) / 2 = (h : Int) := by omega
  have hh4 : h ≤ 4 := by omega
  have HH := Lib.hid hh
  obtain ⟨K, hK⟩ : ∃ K, stgN n = K := ⟨_, rfl⟩
  have hK3 : K ≤ 3 := by have := (stg_le hn).2; omega
  have HK := Lib.hid hK
  have CS := Lib.hid (fun w' => hK ▸ specStages n w' hn)
  clear hc1 hg1 hxn hn hh hK
  go_wp2_with fail
  refine (specOnce g 2 w1 HC1.out (by omega) (by omega)).mono ?_
  rintro e w2 ⟨b, rfl, hc2, hg2⟩
  have hgg2 := HG1.out.trans hg2
  have hsz2 : B ≤ w2.heap.size := by have := hgg2.size; rw [HB.out] at this; exact this
  cases b with
  | true =>
    have HC2 := Lib.hid (hc2.below (below_alloc w2 (.cells #[] 24)))
    have HG2 := Lib.hid (hgg2.trans (grown_alloc w2 g (.cells #[] 24)))
    have HO2 := Lib.hid ((own_empty w2 24).more (b2 := B) hsz2)
    clear hc2 hg2 hgg2
    go_wp2_with fail
    go_loopw [4, 5] (fun sv iv wr => ∃ i : Nat, ∃ A c vs t, sv = .slice A i c ∧ iv = .int .i64 i ∧ i ≤ K ∧ Hid (BRows n i t) ∧ Own wr B 24 A i c vs ∧ RowsIn wr B wr.heap.size A i (row t) vs ∧ Cur wr g ∧ w.grownBy wr (some g)) (fun _ iv _ => K - (intOf iv).toNat)
    case atStart => exact ⟨0, _, _, [], [], rfl, rfl, Nat.zero_le _, Lib.hid (bRows_nil n), HO2.out, fun j hj => by omega, HC2.out, HG2.out⟩
    case round =>
      obtain ⟨i, A, c, vs, t, rfl, rfl, hi, HT, hown, hrs, hc, hg⟩ := hrel
      go_wp2_with fail
      refine (CS.out wr).mono ?_
      rintro e w' ⟨rfl, rfl⟩
      by_cases hlt : i < K
      · have hsr : B ≤ wr.heap.size := by have := hg.size; rw [HB.out] at this; exact this
        have HCr := Lib.hid (hc.below (below_alloc wr (.cells #[] 3)))
        have HGr := Lib.hid (grown_alloc wr g (.cells #[] 3))
        go_wp2_with fail
        go_loopw [6, 7] (fun rv kv w2 => ∃ k : Nat, ∃ R cR r, rv = .slice R k cR ∧ kv = .int .i64 k ∧ k ≤ h ∧ Hid (BPfx k r) ∧ OwnI w2 wr.heap.size 3 R k cR r ∧ Cur w2 g ∧ wr.grownBy w2 (some g)) (fun _ kv _ => h - (intOf kv).toNat)
        case atStart => exact ⟨0, _, _, [], rfl, rfl, Nat.zero_le _, Lib.hid bPfx_nil, own_empty wr _, HCr.out, HGr.out⟩
        case round =>
          obtain ⟨k, R, cR, r, rfl, rfl, hk, HP, hR, hc3, hg3⟩ := hrel
          by_cases hlt2 : k < h
          · go_wp2_with fail
            refine (specBelow g 2 _ hc3 (by omega) (by omega)).mono ?_
            rintro e w4 ⟨y, hy, rfl, hc4, hg4⟩
            have hR4 := own_cur hR hg4 hc.lt
            have hg34 := hg3.trans hg4
            have hs4 := hg34.size
            clear hR hc3 hg3 hg4
            go_wp2_with (at_builtin; refine wpL_append1 _ rfl _ _ _ rfl _ 3 (.int .i64 0) 8 Try.underlying24 intInfo rfl _ k _ _ rfl hR4 _ rfl rfl (by unfold maxLen; omega) (by omega) hs4 ?_)
            intro A6 c6 w6 ho6 hg6 hat6
            have hc6 : Cur w6 g := hc4.grown hg6 (fun q hq => by have := (hR4.blk_ q hq).1; have := hc.lt; omega)
            have hg7 := grown_own hg34 rfl hg6 (fun q hq => (hR4.blk_ q hq).1)
            go_wp2_with fail
            go_roundw
            case rel => exact ⟨k + 1, A6, c6, r ++ [(y : Int)], rfl, by go_num, by omega, Lib.hid (bPfx_snoc HP.out hy), by simpa [OwnI] using ho6, hc6, hg7⟩
            case measure => (simp [intOf] <;> omega)
          · obtain rfl : k = h := by omega
            have HL := Lib.hid HT.out.1
            have hown3 := own_cur hown hg3 hgw
            have hAA := hown.blk_
            have hRR := hR.blk_
            have hrs3 := RowsIn.keep hrs (fun q h1 h2 h3 => hg3.block q h3 (fun he => by injection he with he; omega))
            have hg4 := hg.trans hg3
            have hsz : B ≤ wr.heap.size := by have := hg4.size; rw [HB.out] at this; exact this
            have hs3 := hg3.size
            go_wp2_with (at_builtin; refine wpL_append1 _ rfl _ _ _ rfl B 24 (.slice none 0 0) 24 Try.underlying35 sliceInfo rfl _ i _ _ rfl hown3 (.slice R k cR) rfl rfl (by unfold maxLen; omega) (by omega) hsz ?_)
            intro A6 c6 w6 ho6 hg6 hat6
            have hc6 : Cur w6 g := hc3.grown hg6 (fun q hq => by have := (hown3.blk_ q hq).1; omega)
            have hg7 := grown_own hg4 HB.out hg6 (fun q hq => (hown3.blk_ q hq).1)
            have hrs6 := rowsIn_push (f := row (t ++ [r])) (cR := cR) hown3 (hrs3.congr fun j hj => row_snoc_lt (by rw [HL.out]; exact hj)) (fun q hq => (hAA q hq).2) hs3 (by rw [row_snoc_eq HL.out]; exact hR.more hsr) (fun q hq => (hRR q hq).1) hg6 hat6
            have HT2 := Lib.hid (bRows_snoc HT.out (by rw [HH.out]; exact HP.out.1) (by have := HP.out; rw [← HH.out] at this; exact bPfx_bits this))
            go_wp2_with fail
            go_roundw
            case rel => exact ⟨i + 1, A6, c6, _, t ++ [r], rfl, by go_num, by omega, HT2, ho6, hrs6, hc6, hg7⟩
            case measure => (simp [intOf] <;> omega)
      · obtain rfl : i = K := by omega
        have HT3 := HT.out
        have hRL := run_law HN.out (by rw [HK.out]; exact HT3.1) (fun k hk => (HT3.2 k (by rw [← HK.out]; exact hk)).1) (fun k hk => (HT3.2 k (by rw [← HK.out]; exact hk)).2)
        have hRV := runOk_of HN.out (by rw [HK.out]; exact HT3.1) (fun k hk => (HT3.2 k (by rw [← HK.out]; exact hk)).1) (fun k hk => (HT3.2 k (by rw [← HK.out]; exact hk)).2)
        have HRL := Lib.hid hRL
        have HRV := Lib.hid hRV
        have hRd : RdM wr A i t := (show OwnR wr B wr.heap.size A i c t from ⟨HT3.1, vs, hown, fun q hq => (hown.blk_ q hq).2, hrs⟩).rd
        have hbl := below_cur hg (Nat.le_refl g) (by rw [HB.out]; omega)
        have hsr : B ≤ wr.heap.size := by have := hg.size; rw [HB.out] at this; exact this
        clear hRL hRV HT3 hown hrs hc
        go_wp2_with fail
        refine (specRunStages n A i c t wr hRd (by omega) (fun k hk => by rw [(HT.out.2 k hk).1]; omega)).mono ?_
        rintro e w5 ⟨A5, n5, c5, rfl, o5, hb5⟩
        rw [HRV.out] at o5
        obtain rfl : n5 = n := by rw [← o5.lenI]; exact HRL.out.len
        go_wp2_with fail
        go_ret
        exact ⟨A5, n5, c5, _, rfl, HN.out, o5.more (b2 := B) hsr, HRL.out.ord, hbl.trans (hb5.mono (by omega))⟩
  | false =>
    have HC2 := Lib.hid hc2
    have HG2 := Lib.hid hgg2
    clear hc2 hg2 hgg2
    go_wp2_with fail
    refine (specOrder02 g n w2 HC2.out (by omega)).mono ?_
    rintro e w3 ⟨A3, c3, zs, rfl, o3, hd, hc3, hg3⟩
    have HO := Lib.hid (ordV_of o3.lenI HN.out (diff_ord o3.lenI hd))
    have hbl := below_cur (HG2.out.trans hg3) (Nat.le_refl g) (by rw [HB.out]; omega)
    go_wp2_with fail
    go_ret
    exact ⟨A3, n, c3, zs, rfl, HN.out, o3.more (b2 := B) hsz2, HO.out, hbl⟩

set_option maxHeartbeats 1000000 in
theorem specPassing (A : Option Addr) (n c N : Nat) (bs : List Int) (w : World) (ha : RdU w A n bs) (hz : ∀ z ∈ bs, 0 ≤ z ∧ z < 256) (hn : n ≤ 1048576) (hN : N ≤ 1000) :
    Calls Try.prog 40 #[.slice A n c, .int .i64 N] w fun e w' => ∃ A' n' c' zs, e = .returned (.slice A' n' c') ∧ (n' = 2 ∨ n' = 4 ∨ n' = 8) ∧ RdI w' A' n' zs ∧ (n' ≤ c' ∧ c' ≤ maxLen) ∧ ordV zs = true ∧ Below w.heap.size w w' := by
  have CN := Lib.hid (specAtByte A n c N bs w ha hz hn hN)
  clear hz ha
  go_enter Try.func40, Try.ntmps40
  go_wp2_with fail
  refine CN.out.mono ?_
  rintro e w1 ⟨g, rfl, hg, hc, hb⟩
  go_wp2_with fail
  refine (specDraw15 g w1 hc).mono ?_
  rintro e w2 ⟨A2, m, c2, zs, rfl, h1, ho, h2, hb2⟩
  go_wp2_with fail
  go_ret
  exact ⟨A2, m, c2, zs, rfl, h1, ho.rd, ho.cap, h2, hb.trans (hb2.mono hg)⟩

set_option maxHeartbeats 1000000 in
theorem lawSame (A B : Option Addr) (n c d : Nat) (zs : List Int) (w : World) (ha : RdI w A n zs) (hb : RdI w B n zs) (hn : n ≤ 1048576) : Calls Try.prog 41 #[.slice A n c, .slice B n d] w fun e w' => e = .returned (.bool true) ∧ w' = w := by
  go_enter Try.func41, Try.ntmps41
  go_wp2_with fail
  go_loopw [14] (fun iv wr => ∃ k : Nat, k ≤ n ∧ iv = .int .i64 k ∧ w = wr) (fun iv _ => n - (intOf iv).toNat)
  case atStart => exact ⟨0, Nat.zero_le _, rfl, rfl⟩
  case round =>
    obtain ⟨k, hk, rfl, rfl⟩ := hrel
    by_cases hlt : k < n
    · obtain ⟨a1, rfl, _, h1⟩ := ha.at_ hlt
      obtain ⟨b1, rfl, _, h2⟩ := hb.at_ hlt
      go_wp2_with fail
      go_roundw
      case rel => exact ⟨k + 1, by omega, by go_num, by first | rfl | trivial⟩
      case measure => simp [intOf]; omega
    · obtain rfl : k = n := by omega
      go_wp2_with fail
      go_ret
      exact ⟨rfl, rfl⟩
end Go.Proofs.Ytaeabpmpfadkjaa
