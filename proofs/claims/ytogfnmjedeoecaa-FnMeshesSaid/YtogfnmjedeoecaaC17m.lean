/- Chapter 17: shear sorting, of the reference and of the program. -/
import Derived.Test.YtogfnmjedeoecaaC17l
namespace Go.Proofs.Ytogfnmjedeoecaa
open Go.RowKit Go.Deep
set_option linter.unusedVariables false

def shearV (zss : List (List Int)) : List (List Int) := if meshV zss = true then shSt zss zss.length (row zss 0).length (shK zss zss.length (row zss 0).length) else []
def shearN (zss : List (List Int)) : Int := if meshV zss = true then (shK zss zss.length (row zss 0).length : Int) else -1
theorem shearV_no {zss : List (List Int)} (h : meshV zss = false) : shearV zss = [] := by rw [shearV, h]; rfl
theorem shearN_no {zss : List (List Int)} (h : meshV zss = false) : shearN zss = -1 := by rw [shearN, h]; rfl
theorem shearV_yes {zss : List (List Int)} {n m : Nat} (hl : zss.length = n) (hm : (row zss 0).length = m) (h : meshV zss = true) : shearV zss = shSt zss n m (shK zss n m) := by rw [shearV, h, hl, hm]; rfl
theorem shearN_yes {zss : List (List Int)} {n m : Nat} (hl : zss.length = n) (hm : (row zss 0).length = m) (h : meshV zss = true) : shearN zss = (shK zss n m : Int) := by rw [shearN, h, hl, hm]; rfl
theorem shearV_tot (zss : List (List Int)) : (shearV zss).length + tot (shearV zss) (shearV zss).length ≤ 1048576 := by
  cases h : meshV zss with
  | false => rw [shearV_no h]; simp [tot_zero]
  | true =>
    obtain ⟨h1, h2, m, h3, h4, h5⟩ := mesh_out h rfl
    rw [shearV_yes rfl (h5 0 (by omega)) h, shSt_len]
    have := tot_le (zss := shSt zss zss.length m (shK zss zss.length m)) (b := 4) zss.length (fun k hk => by rw [shSt_rows _ _ _ _ k hk]; exact h4)
    omega
theorem ret_si {A : Option Addr} {n c : Nat} {a b : Int} (h : a = b) : Ending.returned (.tuple #[.slice A n c, .int .i64 a]) = .returned (.tuple #[.slice A n c, .int .i64 b]) := by rw [h]
theorem shB_le (n : Nat) : shB n ≤ 5 := by unfold shB; split; omega; split <;> omega
theorem snake_tot (zss : List (List Int)) {n M : Nat} (hn : n ≤ 4) (hM : M ≤ 4) (h : ∀ k, k < n → (row zss k).length = M) : (snakeTo zss n).length ≤ 1048576 := by
  rw [snakeTo_len h n (Nat.le_refl _)]
  have := Nat.mul_le_mul hn hM
  omega

set_option maxHeartbeats 4000000 in
theorem specShear (A : Option Addr) (n c : Nat) (zss : List (List Int)) (w : World) (ha : RdM w A n zss) (hn : n ≤ 1048576) :
    Calls Try.prog 38 #[.slice A n c] w fun e w' => ∃ A' n' c', e = .returned (.tuple #[.slice A' n' c', .int .i64 (shearN zss)]) ∧ OwnR w' w.heap.size w'.heap.size A' n' c' (shearV zss) ∧ Below w.heap.size w w' := by
  have hl := ha.1
  have C := specMesh A n c zss w ha hn
  cases hg : meshV zss with
  | false =>
    have H := Lib.hid (shearV_no hg)
    have H2 := Lib.hid (shearN_no hg)
    rw [hg] at C
    have CC := Lib.hid C
    clear C hg hl
    go_enter Try.func38, Try.ntmps38
    go_wp2_with fail
    refine CC.out.mono ?_
    rintro e w' ⟨rfl, rfl⟩
    go_wp2_with fail
    go_ret2
    exact ⟨_, _, _, ret_si H2.out.symm, by rw [H.out]; exact OwnR.nil_ _ _ _, Below.refl _ _⟩
  | true =>
    obtain ⟨hn1, hn4, M, hM1, hM4, hrows⟩ := mesh_out hg hl
    have H := Lib.hid (shearV_yes hl (hrows 0 (by omega)) hg)
    have H2 := Lib.hid (shearN_yes hl (hrows 0 (by omega)) hg)
    rw [hg] at C
    have CC := Lib.hid C
    have CF := Lib.hid (specFlip A n c M zss w ha hn1 hn4 hM4 hrows)
    have CG := Lib.hid (fun A' c' w' (h : RdM w' A' M (flip zss n M)) => specFlip A' M c' n (flip zss n M) w' h hM1 hM4 hn4 (flip_rows zss n M))
    have HK := Lib.hid (show shFrom zss n M (shB n) 0 = shK zss n M from rfl)
    have HE := Lib.hid (sh_end zss hn1 hn4 hM1 hM4)
    obtain ⟨b, hb⟩ : ∃ b, shB n = b := ⟨_, rfl⟩
    have hb5 : b ≤ 5 := by have := shB_le n; omega
    rw [hb] at HK HE
    clear C hg hl hrows hb
    go_enter Try.func38, Try.ntmps38
    go_wp2_with fail
    refine CC.out.mono ?_
    rintro e w' ⟨rfl, rfl⟩
    go_wp2_with fail
    refine CF.out.mono ?_
    rintro e w1 ⟨A1, n1, c1, rfl, o1, hb1⟩
    obtain rfl : n1 = M := by rw [← o1.1, flip_len]
    have hs1 := hb1.size
    go_wp2_with fail
    refine (CG.out _ _ _ o1.rd).mono ?_
    rintro e w2 ⟨A2, n2, c2, rfl, o2, hb2⟩
    obtain rfl : n2 = n := by rw [← o2.1, flip_len]
    have hB2 := hb1.trans (hb2.mono hs1)
    replace o2 := o2.more hs1
    rw [← shSt_zero] at o2
    clear CC CF CG o1 hb1 hb2
    go_wp2_with fail
    go_loopw [4, 5] (fun v i wr => ∃ k : Nat, ∃ A' c', k ≤ b ∧ i = .int .i64 k ∧ v = .slice A' n2 c' ∧ OwnR wr w.heap.size wr.heap.size A' n2 c' (shSt zss n2 n1 k) ∧ Hid (shFrom zss n2 n1 (b - k) k = shK zss n2 n1) ∧ Below w.heap.size w wr) (fun _ i _ => b - (intOf i).toNat)
    case atStart => exact ⟨0, _, _, Nat.zero_le _, rfl, rfl, o2, HK, hB2⟩
    case round =>
      clear o2 hB2
      obtain ⟨k, A', c', hk, rfl, rfl, own, HF, hbl⟩ := hrel
      have hsz := hbl.size
      have HR := Lib.hid (shSt_rows zss n2 n1 k)
      go_wp2_with fail
      refine (specSnake A' n2 c' n1 (shSt zss n2 n1 k) wr own.rd hn4 hM4 HR.out).mono ?_
      rintro e w3 ⟨A3, n3, c3, rfl, o3, hb3⟩
      have hs3 := hb3.size
      have hl3 : n3 ≤ 1048576 := by rw [← o3.lenI]; exact snake_tot _ hn4 hM4 HR.out
      have own3 := own.below hb3
      have hbl3 := hbl.trans (hb3.mono hsz)
      have C := specRises A3 n3 c3 _ w3 o3.rd hl3
      cases hr : risesB (snakeTo (shSt zss n2 n1 k) n2) with
      | true =>
        rw [hr] at C
        have CC := Lib.hid C
        have HFK := Lib.hid (show k = shK zss n2 n1 by rw [← HF.out, shFrom_stop hr])
        clear C hr own
        go_wp2_with fail
        refine CC.out.mono ?_
        rintro e w4 ⟨rfl, hb4⟩
        have own4 := own3.below hb4
        have hbl4 := hbl3.trans (hb4.mono hbl3.size)
        have hs4 := hb4.size
        go_wp2_with fail
        go_ret2
        exact ⟨_, _, _, ret_si (by rw [H2.out, ← HFK.out]), by rw [H.out, ← HFK.out]; exact own4.keepHi (by omega), hbl4⟩
      | false =>
        rw [hr] at C
        have CC := Lib.hid C
        have hkb : k < b := by
          rcases Nat.lt_or_ge k b with h | h
          · exact h
          · obtain rfl : k = b := by omega
            rw [HE.out] at hr
            cases hr
        have HF2 := Lib.hid (show shFrom zss n2 n1 (b - (k + 1)) (k + 1) = shK zss n2 n1 by rw [← HF.out, show b - k = (b - (k + 1)) + 1 by omega, shFrom_go hr])
        clear C hr own
        go_wp2_with fail
        refine CC.out.mono ?_
        rintro e w4 ⟨rfl, hb4⟩
        have own4 := own3.below hb4
        have hbl4 := hbl3.trans (hb4.mono hbl3.size)
        have hsz4 := hbl4.size
        clear CC
        by_cases hev : k % 2 = 0
        · have HS := Lib.hid (shSt_even (zss := zss) (n := n2) (M := n1) hev)
          have e3 : ((k : Int) % 2 == 0) = true := by simp; omega
          clear hev
          go_wp2_with fail
          refine (specRows A' n2 c' n1 (shSt zss n2 n1 k) w4 own4.rd hn4 hM4 HR.out).mono ?_
          rintro e w5 ⟨A5, n5, c5, rfl, o5, hb5'⟩
          obtain rfl : n5 = n2 := by rw [← o5.1, sortL_len]
          have hbl5 := hbl4.trans (hb5'.mono hsz4)
          rw [← HS.out] at o5
          have o6 := o5.more hsz4
          clear own3 own4 o5
          go_wp2_with fail
          go_roundw
          case rel => exact ⟨k + 1, _, _, hkb, by go_num, rfl, o6, HF2, hbl5⟩
          case measure => (simp [intOf] <;> omega)
        · have HS := Lib.hid (shSt_odd (zss := zss) (n := n2) (M := n1) hev)
          have e3 : ((k : Int) % 2 == 0) = false := by simp; omega
          clear hev
          go_wp2_with fail
          refine (specCols A' n2 c' n1 (shSt zss n2 n1 k) w4 own4.rd hn1 hn4 hM1 hM4 HR.out).mono ?_
          rintro e w5 ⟨A5, n5, c5, rfl, o5, hb5'⟩
          obtain rfl : n5 = n2 := by rw [← o5.1, colL_len]
          have hbl5 := hbl4.trans (hb5'.mono hsz4)
          rw [← HS.out] at o5
          have o6 := o5.more hsz4
          clear own3 own4 o5
          go_wp2_with fail
          go_roundw
          case rel => exact ⟨k + 1, _, _, hkb, by go_num, rfl, o6, HF2, hbl5⟩
          case measure => (simp [intOf] <;> omega)

set_option maxHeartbeats 4000000 in
theorem implShear (A : Option Addr) (n c : Nat) (zss : List (List Int)) (w : World) (ha : RdM w A n zss) (hn : n ≤ 1048576) :
    Calls Try.prog 39 #[.slice A n c] w fun e w' => ∃ A' n' c', e = .returned (.tuple #[.slice A' n' c', .int .i64 (shearN zss)]) ∧ OwnR w' w.heap.size w'.heap.size A' n' c' (shearV zss) ∧ Below w.heap.size w w' := by
  have hl := ha.1
  have C := implMesh A n c zss w ha hn
  cases hg : meshV zss with
  | false =>
    have H := Lib.hid (shearV_no hg)
    have H2 := Lib.hid (shearN_no hg)
    rw [hg] at C
    have CC := Lib.hid C
    clear C hg hl
    go_enter Try.func39, Try.ntmps39
    go_wp2_with fail
    refine CC.out.mono ?_
    rintro e w' ⟨rfl, rfl⟩
    go_wp2_with fail
    go_ret2
    exact ⟨_, _, _, ret_si H2.out.symm, by rw [H.out]; exact OwnR.nil_ _ _ _, Below.refl _ _⟩
  | true =>
    obtain ⟨hn1, hn4, M, hM1, hM4, hrows⟩ := mesh_out hg hl
    have H := Lib.hid (shearV_yes hl (hrows 0 (by omega)) hg)
    have H2 := Lib.hid (shearN_yes hl (hrows 0 (by omega)) hg)
    rw [hg] at C
    have CC := Lib.hid C
    have CF := Lib.hid (implTurned A n c M zss w ha hn1 hn4 hM4 hrows)
    have CG := Lib.hid (fun A' c' w' (h : RdM w' A' M (flip zss n M)) => implTurned A' M c' n (flip zss n M) w' h hM1 hM4 hn4 (flip_rows zss n M))
    have HK := Lib.hid (show shFrom zss n M (shB n) 0 = shK zss n M from rfl)
    have HE := Lib.hid (sh_end zss hn1 hn4 hM1 hM4)
    obtain ⟨b, hb⟩ : ∃ b, shB n = b := ⟨_, rfl⟩
    have hb5 : b ≤ 5 := by have := shB_le n; omega
    rw [hb] at HK HE
    clear C hg hl hrows hb
    go_enter Try.func39, Try.ntmps39
    go_wp2_with fail
    refine CC.out.mono ?_
    rintro e w' ⟨rfl, rfl⟩
    go_wp2_with fail
    refine CF.out.mono ?_
    rintro e w1 ⟨A1, n1, c1, rfl, o1, hb1⟩
    obtain rfl : n1 = M := by rw [← o1.1, flip_len]
    have hs1 := hb1.size
    go_wp2_with fail
    refine (CG.out _ _ _ o1.rd).mono ?_
    rintro e w2 ⟨A2, n2, c2, rfl, o2, hb2⟩
    obtain rfl : n2 = n := by rw [← o2.1, flip_len]
    have hB2 := hb1.trans (hb2.mono hs1)
    replace o2 := o2.more hs1
    rw [← shSt_zero] at o2
    clear CC CF CG o1 hb1 hb2
    go_wp2_with fail
    go_loopw [4, 5] (fun v i wr => ∃ k : Nat, ∃ A' c', k ≤ b ∧ i = .int .i64 k ∧ v = .slice A' n2 c' ∧ OwnR wr w.heap.size wr.heap.size A' n2 c' (shSt zss n2 n1 k) ∧ Hid (shFrom zss n2 n1 (b - k) k = shK zss n2 n1) ∧ Below w.heap.size w wr) (fun _ i _ => b - (intOf i).toNat)
    case atStart => exact ⟨0, _, _, Nat.zero_le _, rfl, rfl, o2, HK, hB2⟩
    case round =>
      clear o2 hB2
      obtain ⟨k, A', c', hk, rfl, rfl, own, HF, hbl⟩ := hrel
      have hsz := hbl.size
      have HR := Lib.hid (shSt_rows zss n2 n1 k)
      go_wp2_with fail
      refine (implSnake A' n2 c' n1 (shSt zss n2 n1 k) wr own.rd hn4 hM1 hM4 HR.out).mono ?_
      rintro e w3 ⟨A3, n3, c3, rfl, o3, hb3⟩
      have hs3 := hb3.size
      have hl3 : n3 ≤ 1048576 := by rw [← o3.lenI]; exact snake_tot _ hn4 hM4 HR.out
      have own3 := own.below hb3
      have hbl3 := hbl.trans (hb3.mono hsz)
      have C := implSorted A3 n3 c3 _ w3 o3.rd hl3
      cases hr : risesB (snakeTo (shSt zss n2 n1 k) n2) with
      | true =>
        rw [hr] at C
        have CC := Lib.hid C
        have HFK := Lib.hid (show k = shK zss n2 n1 by rw [← HF.out, shFrom_stop hr])
        clear C hr own
        go_wp2_with fail
        refine CC.out.mono ?_
        rintro e w4 ⟨rfl, hb4⟩
        have own4 := own3.below hb4
        have hbl4 := hbl3.trans (hb4.mono hbl3.size)
        have hs4 := hb4.size
        go_wp2_with fail
        go_ret2
        exact ⟨_, _, _, ret_si (by rw [H2.out, ← HFK.out]), by rw [H.out, ← HFK.out]; exact own4.keepHi (by omega), hbl4⟩
      | false =>
        rw [hr] at C
        have CC := Lib.hid C
        have hkb : k < b := by
          rcases Nat.lt_or_ge k b with h | h
          · exact h
          · obtain rfl : k = b := by omega
            rw [HE.out] at hr
            cases hr
        have HF2 := Lib.hid (show shFrom zss n2 n1 (b - (k + 1)) (k + 1) = shK zss n2 n1 by rw [← HF.out, show b - k = (b - (k + 1)) + 1 by omega, shFrom_go hr])
        clear C hr own
        go_wp2_with fail
        refine CC.out.mono ?_
        rintro e w4 ⟨rfl, hb4⟩
        have own4 := own3.below hb4
        have hbl4 := hbl3.trans (hb4.mono hbl3.size)
        have hsz4 := hbl4.size
        clear CC
        by_cases hev : k % 2 = 0
        · have HS := Lib.hid (shSt_even (zss := zss) (n := n2) (M := n1) hev)
          have e3 : ((k : Int) % 2 == 0) = true := by simp; omega
          clear hev
          go_wp2_with fail
          refine (implRows A' n2 c' n1 (shSt zss n2 n1 k) w4 own4.rd hn4 hM1 hM4 HR.out).mono ?_
          rintro e w5 ⟨A5, n5, c5, rfl, o5, hb5'⟩
          obtain rfl : n5 = n2 := by rw [← o5.1, sortL_len]
          have hbl5 := hbl4.trans (hb5'.mono hsz4)
          rw [← HS.out] at o5
          have o6 := o5.more hsz4
          clear own3 own4 o5
          go_wp2_with fail
          go_roundw
          case rel => exact ⟨k + 1, _, _, hkb, by go_num, rfl, o6, HF2, hbl5⟩
          case measure => (simp [intOf] <;> omega)
        · have HS := Lib.hid (shSt_odd (zss := zss) (n := n2) (M := n1) hev)
          have e3 : ((k : Int) % 2 == 0) = false := by simp; omega
          clear hev
          go_wp2_with fail
          refine (implCols A' n2 c' n1 (shSt zss n2 n1 k) w4 own4.rd hn1 hn4 hM1 hM4 HR.out).mono ?_
          rintro e w5 ⟨A5, n5, c5, rfl, o5, hb5'⟩
          obtain rfl : n5 = n2 := by rw [← o5.1, colL_len]
          have hbl5 := hbl4.trans (hb5'.mono hsz4)
          rw [← HS.out] at o5
          have o6 := o5.more hsz4
          clear own3 own4 o5
          go_wp2_with fail
          go_roundw
          case rel => exact ⟨k + 1, _, _, hkb, by go_num, rfl, o6, HF2, hbl5⟩
          case measure => (simp [intOf] <;> omega)

end Go.Proofs.Ytogfnmjedeoecaa
