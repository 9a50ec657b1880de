/- Chapter 15: RoundsNeeded, the reference's side. -/
import Derived.Test.YtaeabpmpfadkjaaC15k
import Derived.Deep.RegionHeld3
import Derived.Deep.LoopGhost
namespace Go.Proofs.Ytaeabpmpfadkjaa
open Go.RowKit Go.Deep
set_option linter.unusedVariables false
attribute [local go_sem] bits_and_one

theorem wpL_append1_at {P : Program} (w : World) {ops : Array Oper} {rest : List Oper} {o : Oper} {a : Act} {Q : Exit → Act → World → Prop} (hgd : o.guard = none) (s x : Operand) (t : TypeId)
    (ho : o.op = .call { callee := .builtin .append, args := #[s, x], argTypes := #[t, t] })
    (base : Nat) (e : TypeId) (z : Value) (bytes : Nat) (ht : P.underlying t = some (.slice e)) (hinfo : (P.info? e).map (fun i => (i.zero, i.size, i.bytes)) = some (some z, 1, bytes)) (hzs : z.cells.size = 1)
    (A : Option Addr) (n c : Nat) (xs : List Value) (hs : a.eval s = .slice A n c) (hown : Own w base e A n c xs)
    (u : Value) (sz : Nat) (hsz : w.heap.size = sz) (hx : a.eval x = .slice (some ⟨sz, 0, none⟩) 1 1) (h1 : u.oneCell' = true)
    (h63 : n + 1 ≤ maxLen) (hbytes : (n + 1) * bytes ≤ 140737488355328) (hbase : base ≤ w.heap.size)
    (h : ∀ A' c' w', Own w' base e A' (n + 1) c' (xs ++ [u]) → w.grownBy w' (blk A) → (blk A' = blk A ∨ blk A' = some (w.heap.size + 1)) → wpList P ops Q rest (a.put o.dst (.slice A' (n + 1) c')) w') : wpList P ops Q (o :: rest) a (w.alloc (.cells #[u] e)) := by
  subst hsz
  exact wpL_append1 w hgd s x t ho base e z bytes ht hinfo hzs A n c xs hs hown u hx h1 h63 hbytes hbase h
theorem own_empty_at (w : World) (e : TypeId) (s : Nat) (h : w.heap.size = s) : Own (w.alloc (.cells #[] e)) s e (some ⟨s, 0, none⟩) 0 0 [] := by subst h; exact own_empty w e

theorem rowsIn_hi {w : World} {lo hi hi2 n : Nat} {A : Option Addr} {f : Nat → List Int} {vs : List Value} (h : RowsIn w lo hi A n f vs) (hh : hi ≤ hi2) : RowsIn w lo hi2 A n f vs := by
  intro j hj
  obtain ⟨B, m, d, hv, hB, hd⟩ := h j hj
  exact ⟨B, m, d, hv, hB, fun g hg => ⟨Nat.lt_of_lt_of_le (hd g hg).1 hh, (hd g hg).2⟩⟩
theorem rowsIn_drewN {w : World} {lo hi n : Nat} {A : Option Addr} {f : Nat → List Int} {vs : List Value} (h : RowsIn w lo hi A n f vs) (k : Nat) : RowsIn (w.drewN k) lo hi A n f vs := h

set_option maxHeartbeats 8000000 in
theorem specRounds (A : Option Addr) (n c : Nat) (zs : List Int) (w : World) (ha : RdI w A n zs) (hn : n ≤ 1048576) :
    Calls Try.prog 29 #[.slice A n c] w fun e w' => e = .returned (.int .i64 (rnV zs)) ∧ Below w.heap.size w w' := by
  have C := specOrder A n c zs w ha hn
  cases hv : ordV zs with
  | false =>
    have H := Lib.hid (rnV_no hv)
    rw [hv] at C
    have CC := Lib.hid C
    clear C hv
    go_enter Try.func29, Try.ntmps29
    go_wp2_with fail
    refine CC.out.mono ?_
    rintro e w1 ⟨rfl, hb1⟩
    go_wp2_with fail
    go_ret
    exact ⟨ret_int H.out.symm, hb1⟩
  | true =>
    have H0 := Lib.hid (rnV_yes ha.lenI hv)
    rw [hv] at C
    have CC := Lib.hid C
    have hl := Lib.hid ha.lenI
    have HV := Lib.hid (ordV_out hv ha.lenI)
    have hn8 : n ≤ 8 := by have := HV.out.1; omega
    clear C hv
    go_enter Try.func29, Try.ntmps29
    go_wp2_with fail
    refine CC.out.mono ?_
    rintro e w1 ⟨rfl, hb1⟩
    have HB1 := Lib.hid hb1
    have HA1 := Lib.hid (ha.below hb1)
    clear hb1 CC ha
    go_wp2_with fail
    go_loopw [19, 4] (fun i v wr => ∃ k L : Nat, ∃ A2 c2 vs, k ≤ n ∧ i = .int .i64 k ∧ v = .slice A2 L c2 ∧ Hid ((rnTo zs k).length = L) ∧ L ≤ k ∧ Own wr w1.heap.size 24 A2 L c2 vs ∧ RowsIn wr w1.heap.size wr.heap.size A2 L (row (rnTo zs k)) vs ∧ Below w1.heap.size w1 wr) (fun i _ _ => n - (intOf i).toNat)
    case atStart => exact ⟨0, 0, _, _, [], Nat.zero_le _, rfl, rfl, Lib.hid (by rw [rnTo_zero]; rfl), Nat.le_refl _, by simpa using own_empty w1 24, fun j hj => by omega, below_alloc w1 _⟩
    case round =>
      obtain ⟨i, L, A2, c2, vs, hi, rfl, rfl, HL, hLi, hown, hrs, hbl⟩ := hrel
      by_cases hlt : i < n
      · obtain ⟨a1, rfl, hlt1, h1⟩ := (HA1.out.below hbl).at_ hlt
        obtain ⟨x, hx, hxn⟩ := ord_get HV.out.2 (k := i) (by rw [hl.out]; exact hlt)
        have HX := Lib.hid hx
        have hxn' : x < n := by have := hl.out; omega
        rw [hx] at h1
        have HOK := Lib.hid (rnOk_to zs i)
        obtain ⟨rs, hrsd⟩ : ∃ rs, rnTo zs i = rs := ⟨_, rfl⟩
        rw [hrsd] at HL HOK hrs
        have HRS := Lib.hid hrsd
        obtain ⟨X, hX⟩ : ∃ X, rnGo zs i rs 0 rs.length = X := ⟨_, rfl⟩
        have HXX := Lib.hid hX
        have hXL : X ≤ L := by have := rnGo_le zs i rs rs.length 0; have := HL.out; omega
        clear hx hxn hrsd hX
        go_wp2_with fail
        go_loopg [7] (L + 1) (fun gk av wr => ∃ a : Nat, a ≤ L ∧ av = .int .i64 a ∧ Hid (a + gk = L + 1) ∧ Hid (rnGo zs i rs a (L - a) = X) ∧ Own wr w1.heap.size 24 A2 L c2 vs ∧ RowsIn wr w1.heap.size wr.heap.size A2 L (row rs) vs ∧ Below w1.heap.size w1 wr)
        case atStart => exact ⟨0, Nat.zero_le _, rfl, Lib.hid (by omega), Lib.hid (by rw [← HXX.out, HL.out]; rfl), hown, hrs, hbl⟩
        case round =>
          clear hown hrs hbl h1
          obtain ⟨a, haL, rfl, HG, HGO, hown, hrs, hbl⟩ := hrel
          obtain ⟨wo, rfl⟩ : ∃ wo : World, wo = wr := ⟨_, rfl⟩
          by_cases hal : a < L
          · obtain ⟨R, m, d, hvv, hR, hRd⟩ := hrs a hal
            obtain ⟨ar, hA2, hltr, hcr⟩ := hown.rd.atV hvv
            have HA2 := Lib.hid hA2
            have hm := hR.lenI
            have hm8 : m ≤ 8 := by have := HOK.out.2 a (by rw [HL.out]; exact hal); omega
            have HM := Lib.hid hm
            subst hA2
            clear hm
            go_wp2_with fail
            go_loopw [33, 8] (fun kv fv wr => ∃ k : Nat, k ≤ m ∧ kv = .int .i64 k ∧ fv = .bool (rnFree zs i (row rs a) k) ∧ Own wr w1.heap.size 24 (some ar) L c2 vs ∧ RowsIn wr w1.heap.size wr.heap.size (some ar) L (row rs) vs ∧ Below w1.heap.size w1 wr) (fun kv _ _ => m - (intOf kv).toNat)
            case atStart => exact ⟨0, Nat.zero_le _, rfl, by rw [rnFree_zero], hown, hrs, hbl⟩
            case round =>
              have HVV := Lib.hid hvv
              clear hown hrs hbl hvv hR hRd hcr hltr
              obtain ⟨k, hk, rfl, rfl, hown, hrs, hbl⟩ := hrel
              have hsz3 := hbl.size
              by_cases hkm : k < m
              · obtain ⟨R2, m2, d2, hvv, hR, hRd⟩ := hrs a hal
                have he := HVV.out.symm
                rw [hvv] at he
                injection he with he
                injection he with e1 e2 e3
                subst e1 e2 e3
                obtain ⟨q, hq, hqi⟩ := (HOK.out.2 a (by rw [HL.out]; exact hal)).2 k (by rw [HM.out]; exact hkm)
                have HQ := Lib.hid hq
                obtain ⟨ad, rfl, _, h5⟩ := hR.rd.at_ hkm
                rw [hq] at h5
                obtain ⟨y, hy, hyn⟩ := ord_get HV.out.2 (k := q) (by rw [hl.out]; omega)
                have HY := Lib.hid hy
                have hyn' : y < n := by have := hl.out; omega
                obtain ⟨a1', hA1', hltq, h2⟩ := (HA1.out.below hbl).at_ (show q < n by omega)
                injection hA1' with hA1'
                subst hA1'
                rw [hy] at h2
                have HP := Lib.hid (show pairMeet zs i q = pathsMeet n x i y q by rw [pairMeet, hl.out, HX.out, HY.out]; rfl)
                have HF := Lib.hid (rnFree_succ (zs := zs) (i := i) HQ.out)
                clear hq hy hyn hvv hR hRd
                have d1 : decide ((k : Int) < (m : Int)) = true := by simp; omega
                have d2 : decide (k < m) = true := by simp; omega
                cases hf : rnFree zs i (row rs a) k with
                | false =>
                  have H := Lib.hid (show rnFree zs i (row rs a) (k + 1) = false by rw [HF.out, hf]; rfl)
                  clear hf
                  go_wp2_with fail
                  refine wp_region_held_drew (S := (fun w' => w'.cell? (a1.add q) = some (.int .i64 (y : Int)))) (by kernel_rfl) ?_ (fun hHeld => ?_)
                  · go_keep
                  refine wpAnyH_take (i := 0) (oi := { dst := _, op := _, type := _, pos := _, after := _, guard := none }) (v := ?_) rfl (by kernel_rfl) (by kernel_rfl) (by kernel_rfl) (fun _ _ _ h => h) (Or.inl ⟨by rfl, ?_⟩) (by assumption) ?_
                  rotate_left
                  · intro w hSw; (try dsimp only at hSw); go_simp; (try with_reducible rfl)
                  try simp only [Act.put, List.setIfInBounds_toArray, List.set_cons_zero, List.set_cons_succ]
                  refine wpAnyH_take (i := 1) (oi := { dst := _, op := _, type := _, pos := _, after := _, guard := none }) (v := ?_) rfl (by kernel_rfl) (by kernel_rfl) (by kernel_rfl) (fun _ _ _ h => h) (Or.inl ⟨by rfl, ?_⟩) (by assumption) ?_
                  rotate_left
                  · intro w hSw; (try dsimp only at hSw); go_simp; (try with_reducible rfl)
                  try simp only [Act.put, List.setIfInBounds_toArray, List.set_cons_zero, List.set_cons_succ]
                  refine wpAnyH_take (i := 2) (oi := { dst := _, op := _, type := _, pos := _, after := _, guard := some (1, true) }) (v := undef) rfl (by kernel_rfl) (by kernel_rfl) (by kernel_rfl) (fun _ _ _ h => h) (Or.inr ⟨by rfl, rfl⟩) (by assumption) ?_
                  try simp only [Act.put, List.setIfInBounds_toArray, List.set_cons_zero, List.set_cons_succ]
                  refine wpAnyH_take (i := 3) (oi := { dst := _, op := _, type := _, pos := _, after := _, guard := some (1, true) }) (v := undef) rfl (by kernel_rfl) (by kernel_rfl) (by kernel_rfl) (fun _ _ _ h => h) (Or.inr ⟨by rfl, rfl⟩) (by assumption) ?_
                  try simp only [Act.put, List.setIfInBounds_toArray, List.set_cons_zero, List.set_cons_succ]
                  refine wpAnyH_take (i := 4) (oi := { dst := _, op := _, type := _, pos := _, after := _, guard := some (1, true) }) (v := undef) rfl (by kernel_rfl) (by kernel_rfl) (by kernel_rfl) (fun _ _ _ h => h) (Or.inr ⟨by rfl, rfl⟩) (by assumption) ?_
                  try simp only [Act.put, List.setIfInBounds_toArray, List.set_cons_zero, List.set_cons_succ]
                  refine wpAnyH_take (i := 5) (oi := { dst := _, op := _, type := _, pos := _, after := _, guard := some (1, true) }) (v := undef) rfl (by kernel_rfl) (by kernel_rfl) (by kernel_rfl) (fun _ _ _ h => h) (Or.inr ⟨by rfl, rfl⟩) (by assumption) ?_
                  try simp only [Act.put, List.setIfInBounds_toArray, List.set_cons_zero, List.set_cons_succ]
                  refine wpAnyH_take (i := 6) (oi := { dst := _, op := _, type := _, pos := _, after := _, guard := some (1, true) }) (v := undef) rfl (by kernel_rfl) (by kernel_rfl) (by kernel_rfl) (fun _ _ _ h => h) (Or.inr ⟨by rfl, rfl⟩) (by assumption) ?_
                  try simp only [Act.put, List.setIfInBounds_toArray, List.set_cons_zero, List.set_cons_succ]
                  refine wpAnyH_take (i := 7) (oi := { dst := _, op := _, type := _, pos := _, after := _, guard := some (1, true) }) (v := undef) rfl (by kernel_rfl) (by kernel_rfl) (by kernel_rfl) (fun _ _ _ h => h) (Or.inr ⟨by rfl, rfl⟩) (by assumption) ?_
                  try simp only [Act.put, List.setIfInBounds_toArray, List.set_cons_zero, List.set_cons_succ]
                  refine wpAnyH_take (i := 8) (oi := { dst := _, op := _, type := _, pos := _, after := _, guard := some (1, true) }) (v := undef) rfl (by kernel_rfl) (by kernel_rfl) (by kernel_rfl) (fun _ _ _ h => h) (Or.inr ⟨by rfl, rfl⟩) (by assumption) ?_
                  try simp only [Act.put, List.setIfInBounds_toArray, List.set_cons_zero, List.set_cons_succ]
                  refine wpAnyH_take (i := 9) (oi := { dst := _, op := _, type := _, pos := _, after := _, guard := some (1, true) }) (v := undef) rfl (by kernel_rfl) (by kernel_rfl) (by kernel_rfl) (fun _ _ _ h => h) (Or.inr ⟨by rfl, rfl⟩) (by assumption) ?_
                  try simp only [Act.put, List.setIfInBounds_toArray, List.set_cons_zero, List.set_cons_succ]
                  refine wpAnyH_take (i := 10) (oi := { dst := _, op := _, type := _, pos := _, after := _, guard := some (1, true) }) (v := undef) rfl (by kernel_rfl) (by kernel_rfl) (by kernel_rfl) (fun _ _ _ h => h) (Or.inr ⟨by rfl, rfl⟩) (by assumption) ?_
                  try simp only [Act.put, List.setIfInBounds_toArray, List.set_cons_zero, List.set_cons_succ]
                  refine wpAnyH_take (i := 11) (oi := { dst := _, op := _, type := _, pos := _, after := _, guard := some (1, true) }) (v := undef) rfl (by kernel_rfl) (by kernel_rfl) (by kernel_rfl) (fun _ _ _ h => h) (Or.inr ⟨by rfl, rfl⟩) (by assumption) ?_
                  try simp only [Act.put, List.setIfInBounds_toArray, List.set_cons_zero, List.set_cons_succ]
                  refine wpAnyH_take (i := 12) (oi := { dst := _, op := _, type := _, pos := _, after := _, guard := some (1, true) }) (v := undef) rfl (by kernel_rfl) (by kernel_rfl) (by kernel_rfl) (fun _ _ _ h => h) (Or.inr ⟨by rfl, rfl⟩) (by assumption) ?_
                  try simp only [Act.put, List.setIfInBounds_toArray, List.set_cons_zero, List.set_cons_succ]
                  refine wpAnyH_take (i := 13) (oi := { dst := _, op := _, type := _, pos := _, after := _, guard := some (1, true) }) (v := undef) rfl (by kernel_rfl) (by kernel_rfl) (by kernel_rfl) (fun _ _ _ h => h) (Or.inr ⟨by rfl, rfl⟩) (by assumption) ?_
                  try simp only [Act.put, List.setIfInBounds_toArray, List.set_cons_zero, List.set_cons_succ]
                  refine wpAnyH_take (i := 14) (oi := { dst := _, op := _, type := _, pos := _, after := _, guard := some (1, true) }) (v := undef) rfl (by kernel_rfl) (by kernel_rfl) (by kernel_rfl) (fun _ _ _ h => h) (Or.inr ⟨by rfl, rfl⟩) (by assumption) ?_
                  try simp only [Act.put, List.setIfInBounds_toArray, List.set_cons_zero, List.set_cons_succ]
                  refine wpAnyH_take (i := 15) (oi := { dst := _, op := _, type := _, pos := _, after := _, guard := none }) (v := ?_) rfl (by kernel_rfl) (by kernel_rfl) (by kernel_rfl) (fun _ _ _ h => h) (Or.inl ⟨by rfl, ?_⟩) (by assumption) ?_
                  rotate_left
                  · intro w hSw; (try dsimp only at hSw); go_simp; (try with_reducible rfl)
                  try simp only [Act.put, List.setIfInBounds_toArray, List.set_cons_zero, List.set_cons_succ]
                  refine wpAnyH_take (i := 16) (oi := { dst := _, op := _, type := _, pos := _, after := _, guard := none }) (v := ?_) rfl (by kernel_rfl) (by kernel_rfl) (by kernel_rfl) (fun _ _ _ h => h) (Or.inl ⟨by rfl, ?_⟩) (by assumption) ?_
                  rotate_left
                  · intro w hSw; (try dsimp only at hSw); go_simp; (try with_reducible rfl)
                  try simp only [Act.put, List.setIfInBounds_toArray, List.set_cons_zero, List.set_cons_succ]
                  refine wpAnyH_done (by kernel_rfl) ?_ _
                  go_wp2_with fail
                  go_roundw
                  case rel => exact ⟨k + 1, by omega, by go_num, by rw [H.out], hown.drewN 1, rowsIn_drewN hrs 1, below_drewN hbl 1⟩
                  case measure => (simp [intOf] <;> omega)
                | true =>
                  have C1 := Lib.hid (fun W => specPath n x i W HV.out.1 hxn' hlt)
                  have C2 := Lib.hid (fun W => specPath n y q W HV.out.1 hyn' (by omega))
                  have HS := Lib.hid (stg_le HV.out.1)
                  have tok1 : True := trivial
                  have b1 : (q : Int) < (n : Int) := by omega
                  have b2 : (0 : Int) ≤ (q : Int) := by omega
                  cases hm : pathsMeet n x i y q with
                  | true =>
                    have H := Lib.hid (show rnFree zs i (row rs a) (k + 1) = false by rw [HF.out, hf, HP.out, hm]; rfl)
                    have HM2 := Lib.hid hm
                    clear hm hf
                    go_wp2_with fail
                    go_region_held3 (fun w' => w'.cell? (a1.add q) = some (.int .i64 (y : Int))) (go_keep) (first | (go_at_call 51; have _t := tok1; clear _t tok1; refine (C1.out _).mono ?_; rintro e wA ⟨AA, nA, cA, rfl, hoA, hbA⟩; have s1 := (hbA.cell (p := a1.add q) (by rw [block_of_add]; exact hltq)).trans h2; obtain rfl : nA = stgN n := by rw [← hoA.lenI, pathL_len]) | (go_at_call 51; refine (C2.out _).mono ?_; rintro e wB ⟨AB, nB, cB, rfl, hoB, hbB⟩; have s3 := (hbB.cell (p := a1.add q) (by rw [block_of_add]; exact Nat.lt_of_lt_of_le hltq hbA.size)).trans s1; obtain rfl : nB = stgN n := by rw [← hoB.lenI, pathL_len]) | (go_at_call 48; refine (specMeet _ _ (stgN n) _ _ _ _ _ (hoA.rd.below hbB) hoB.rd (by have := HS.out; omega)).mono ?_; rw [show meetB (pathL n x i) (pathL n y q) = _ from HM2.out]; rintro e w' ⟨rfl, rfl⟩))
                    all_goals
                      have hE : Below wr.heap.size wr _ := (by first | exact below_two0 (Below.refl _ _) hbA hbB | exact below_two (Below.refl _ _) hbA hbB)
                      have o9 := hown.below hE
                      have r9 := RowsIn.keep (hi := wr.heap.size) hrs (fun g h1 h2 h3 => hE.block g h3)
                      have r10 := rowsIn_hi r9 hE.size
                      have b9 := hbl.trans (hE.mono hsz3)
                      clear hown hrs hbl hE r9
                      go_wp2_with fail
                      go_roundw
                      case rel => exact ⟨k + 1, by omega, by go_num, by rw [H.out], (by first | exact o9 | exact o9.drewN _), (by first | exact r10 | exact rowsIn_drewN r10 _), (by first | exact b9 | exact below_drewN b9 _)⟩
                      case measure => (simp [intOf] <;> omega)
                  | false =>
                    have H := Lib.hid (show rnFree zs i (row rs a) (k + 1) = true by rw [HF.out, hf, HP.out, hm]; rfl)
                    have HM2 := Lib.hid hm
                    clear hm hf
                    go_wp2_with fail
                    go_region_held3 (fun w' => w'.cell? (a1.add q) = some (.int .i64 (y : Int))) (go_keep) (first | (go_at_call 51; have _t := tok1; clear _t tok1; refine (C1.out _).mono ?_; rintro e wA ⟨AA, nA, cA, rfl, hoA, hbA⟩; have s1 := (hbA.cell (p := a1.add q) (by rw [block_of_add]; exact hltq)).trans h2; obtain rfl : nA = stgN n := by rw [← hoA.lenI, pathL_len]) | (go_at_call 51; refine (C2.out _).mono ?_; rintro e wB ⟨AB, nB, cB, rfl, hoB, hbB⟩; have s3 := (hbB.cell (p := a1.add q) (by rw [block_of_add]; exact Nat.lt_of_lt_of_le hltq hbA.size)).trans s1; obtain rfl : nB = stgN n := by rw [← hoB.lenI, pathL_len]) | (go_at_call 48; refine (specMeet _ _ (stgN n) _ _ _ _ _ (hoA.rd.below hbB) hoB.rd (by have := HS.out; omega)).mono ?_; rw [show meetB (pathL n x i) (pathL n y q) = _ from HM2.out]; rintro e w' ⟨rfl, rfl⟩))
                    all_goals
                      have hE : Below wr.heap.size wr _ := (by first | exact below_two0 (Below.refl _ _) hbA hbB | exact below_two (Below.refl _ _) hbA hbB)
                      have o9 := hown.below hE
                      have r9 := RowsIn.keep (hi := wr.heap.size) hrs (fun g h1 h2 h3 => hE.block g h3)
                      have r10 := rowsIn_hi r9 hE.size
                      have b9 := hbl.trans (hE.mono hsz3)
                      clear hown hrs hbl hE r9
                      go_wp2_with fail
                      go_roundw
                      case rel => exact ⟨k + 1, by omega, by go_num, by rw [H.out], (by first | exact o9 | exact o9.drewN _), (by first | exact r10 | exact rowsIn_drewN r10 _), (by first | exact b9 | exact below_drewN b9 _)⟩
                      case measure => (simp [intOf] <;> omega)
              · obtain rfl : k = m := by omega
                have d1 : decide ((k : Int) < (k : Int)) = false := by simp
                cases hf : rnFree zs i (row rs a) k with
                | false =>
                  have HGO2 := Lib.hid (show rnGo zs i rs (a + 1) (L - (a + 1)) = X by rw [← rnGo_miss hal (by rw [HM.out]; exact hf)]; exact HGO.out)
                  clear hf
                  go_wp2_with fail
                  go_roundg (gk - 1)
                  case measure => have := HG.out; omega
                  case rel => exact ⟨a + 1, by omega, by go_num, Lib.hid (by have := HG.out; omega), HGO2, hown, hrs, hbl⟩
                | true =>
                  have HXa := Lib.hid (show X = a by rw [← HGO.out]; exact rnGo_hit hal (by rw [HM.out]; exact hf))
                  clear hf
                  obtain ⟨gA, uA, hgA, hgB, hgs, hu, hcA, hfA⟩ := hown.at_ hal
                  have hu2 := HVV.out
                  rw [hu2] at hu
                  injection hu with hu
                  subst hu
                  injection hgA with hgA
                  subst hgA
                  obtain ⟨R2, m2, d2, hvv, hR, hRd⟩ := hrs a hal
                  have he := HVV.out
                  rw [hvv] at he
                  injection he with he
                  injection he with e1 e2 e3
                  subst e1 e2 e3
                  have hne1 : ((a : Int) == (L : Int)) = false := by rw [beq_eq_false_iff_ne]; omega
                  have hne2 : ¬ (a : Int) = (L : Int) := by omega
                  have hal2 : (a : Int) < (L : Int) := by omega
                  have hszB : w1.heap.size ≤ wr.heap.size := hbl.size
                  go_wp2_with (at_builtin; refine wpL_append1 _ rfl _ _ _ rfl w1.heap.size 3 (.int .i64 0) 8 Try.underlying24 intInfo rfl _ m2 _ _ rfl hR (.int .i64 (i : Int)) rfl rfl (by unfold maxLen; omega) (by omega) hszB ?_)
                  intro A4 c4 w4 ho4 hg4 hat4
                  have hPP := rowsIn_put (zs' := row rs a ++ [(i : Int)]) hown hrs hal hvv (by rw [OwnI, List.map_append]; exact ho4) hg4 (by rcases hat4 with h | h; exact .inl h; exact .inr ⟨_, h, by omega⟩)
                  obtain ⟨ho5, ho6, hr6⟩ := hPP
                  obtain ⟨gA', uA', hgA', _, _, hu', hcA', hfA'⟩ := ho5.at_ hal
                  injection hgA' with hgA'
                  injection hgA' with hgA'
                  subst hgA'
                  have hb4 := own_below hR hbl hszB hg4
                  have hb6 := hb4.setCell (p := ⟨gA, a, none⟩) hgB (.slice A4 (m2 + 1) c4)
                  have HN := Lib.hid (show rnTo zs (i + 1) = rnPut rs i a by rw [← HXa.out]; exact rnTo_succ HRS.out HXX.out)
                  have hr7 : RowsIn _ _ _ _ _ (row (rnPut rs i a)) _ := rowsIn_eq hr6 (fun j hj => put_row (by rw [HL.out]; exact hal) j (by rw [HL.out]; exact hj))
                  have HL2 := Lib.hid (show (rnPut rs i a).length = L by rw [put_len (by rw [HL.out]; exact hal)]; exact HL.out)
                  rw [← HN.out] at hr7
                  replace HL2 := Lib.hid (show (rnTo zs (i + 1)).length = L by rw [HN.out]; exact HL2.out)
                  have hs4 := hg4.size
                  clear hown hrs hR hRd ho4 hg4 hat4 ho5 hr6 hb4 hbl hvv hu2 hcA hfA
                  go_wp2
                  go_roundw
                  case rel => exact ⟨i + 1, L, _, _, _, by omega, by go_num, rfl, HL2, by omega, ho6, by simpa [World.setCell] using hr7, hb6⟩
                  case measure => (simp [intOf] <;> omega)
          · obtain rfl : a = L := by omega
            have HXa := Lib.hid (show X = a by rw [← HGO.out, Nat.sub_self]; exact rnGo_end _ _ _ _)
            have hszB : w1.heap.size ≤ wo.heap.size := hbl.size
            have hrs2 := Lib.hid (rowsIn_eq (g := addE rs a) hrs (fun j hj => addE_old hj))
            have hR0 := Lib.hid (show OwnI (wo.alloc (.cells #[] 3)) w1.heap.size 3 (some ⟨wo.heap.size, 0, none⟩) 0 0 (addE rs a a) by
              rw [addE_new]
              exact (own_empty wo 3).more hszB)
            have ho1 := hown.alloc (.cells #[] 3)
            have hrs3 := Lib.hid (RowsIn.keep hrs2.out (fun g h1 h2 h3 => Below.heap_alloc wo (.cells #[] 3) g h3))
            have hbl1 := Lib.hid (hbl.alloc hszB (.cells #[] 3))
            have hAA := Lib.hid hown.blk_
            clear hown hrs hbl
            go_wp2_with (at_builtin; refine wpL_append1_at _ rfl _ _ _ rfl w1.heap.size 24 (.slice none 0 0) 24 Try.underlying35 sliceInfo rfl _ a _ _ rfl ho1 (.slice (some ⟨wo.heap.size, 0, none⟩) 0 0) (wo.heap.size + 1) (by simp) rfl rfl (by unfold maxLen; omega) (by omega) (by simp; omega) ?_)
            intro A4 c4 w4 ho4 hg4 hat4
            have hs4 := hg4.size
            simp at hs4
            have hrs4 := rowsIn_push (cR := 0) ho1 hrs3.out (fun g hg => (hAA.out g hg).2) (by simp) hR0.out (fun g hg => by have h3 : wo.heap.size = g := (by simpa [blk] using hg); omega) hg4 (by simpa using hat4)
            have hb4 := below_of_grown hbl1.out hg4 (by simp; omega) (fun g e => (hAA.out g e).1)
            have hvv : (vs ++ [Value.slice (some ⟨wo.heap.size, 0, none⟩) 0 0])[a]? = some (.slice (some ⟨wo.heap.size, 0, none⟩) 0 0) := by
              have hll := ho1.len
              rw [List.getElem?_append_right (by omega), hll]; simp
            obtain ⟨gA, uA, hgA, hgB, hgs, hu, hcA, hfA⟩ := ho4.at_ (show a < a + 1 by omega)
            rw [hvv] at hu
            injection hu with hu
            subst hu
            subst hgA
            have hR := (hrs4 a (by omega))
            obtain ⟨R2, m2, d2, hvv2, hR, _⟩ := hR
            rw [hvv] at hvv2
            injection hvv2 with hvv2
            injection hvv2 with e1 e2 e3
            subst e1 e2 e3
            replace hR : OwnI w4 w1.heap.size 3 (some ⟨wo.heap.size, 0, none⟩) 0 0 [] := by rw [addE_new] at hR; exact hR
            have hne3 : (a : Int) < (a : Int) + 1 := by omega
            have hwr : IntKind.i64.wrap ((a : Int) + 1) = (a : Int) + 1 := IntWalk.i64_in _ (by omega)
            have hs5 : w1.heap.size ≤ w4.heap.size := by omega
            have ho4' := ho4
            clear ho1 hg4 hat4
            go_wp2_with (at_builtin; refine wpL_append1 _ rfl _ _ _ rfl w1.heap.size 3 (.int .i64 0) 8 Try.underlying24 intInfo rfl _ 0 _ _ rfl hR (.int .i64 (i : Int)) rfl rfl (by unfold maxLen; omega) (by omega) hs5 ?_)
            intro A5 c5 w5 ho5 hg5 hat5
            have hPP := rowsIn_put (zs' := [(i : Int)]) ho4' hrs4 (show a < a + 1 by omega) hvv (by simpa [OwnI] using ho5) hg5 (by rcases hat5 with h | h; exact .inl h; exact .inr ⟨_, h, by omega⟩)
            obtain ⟨ho6, ho7, hr7⟩ := hPP
            obtain ⟨gA', uA', hgA', _, _, hu', hcA', hfA'⟩ := ho6.at_ (show a < a + 1 by omega)
            injection hgA' with hgA'
            injection hgA' with hgA'
            subst hgA'
            have hb5 := own_below hR hb4 hs5 hg5
            have hb7 := hb5.setCell (p := ⟨gA, a, none⟩) hgB (.slice A5 (0 + 1) c5)
            have HN := Lib.hid (show rnTo zs (i + 1) = rs ++ [[(i : Int)]] by rw [rnTo_succ HRS.out HXX.out, HXa.out, ← HL.out]; exact put_new rs i)
            have hr8 : RowsIn _ _ _ _ _ (row (rs ++ [[(i : Int)]])) _ := rowsIn_eq hr7 (fun j hj => by
              by_cases e : j = a
              · subst e; rw [if_pos rfl, ← HL.out, row_app_new]
              · rw [if_neg e, ← addE_old (by omega), row_app_old (by have := HL.out; omega)])
            rw [← HN.out] at hr8
            have HL2 := Lib.hid (show (rnTo zs (i + 1)).length = a + 1 by rw [HN.out]; simp [HL.out])
            clear ho4 ho4' hrs4 hR ho5 hg5 hat5 ho6 hr7 hb5 hb4 hvv hcA hfA
            go_wp2
            go_roundw
            case rel => exact ⟨i + 1, a + 1, _, _, _, by omega, by go_num, rfl, HL2, by omega, ho7, by simpa [World.setCell] using hr8, hb7⟩
            case measure => (simp [intOf] <;> omega)
      · obtain rfl : i = n := by omega
        have H := Lib.hid (show rnV zs = (L : Int) by rw [H0.out, HL.out])
        go_wp2_with fail
        go_ret
        exact ⟨ret_int H.out.symm, HB1.out.trans (hbl.mono HB1.out.size)⟩

end Go.Proofs.Ytaeabpmpfadkjaa
