/- Chapter 18: GapNetwork. -/
import Derived.Test.YtojlcpfnkpfgnaaNetOkI
import Derived.Deep.LoopGhost
namespace Go.Proofs.Ytojlcpfnkpfgnaa
open Go.RowKit Go.Deep
set_option linter.unusedVariables false

theorem row_mk {m k : Nat} {f : Nat → List Int} (h : k < m) : row ((List.range m).map f) k = f k := by
  unfold row
  simp [List.getD, h]
/-- The pair number t of a network over D + h wires with the gap h. -/
def gpRow (D h t : Nat) : List Int := [((t % D : Nat) : Int), ((t % D + h : Nat) : Int)]
def gpL (D h m : Nat) : List (List Int) := (List.range m).map (gpRow D h)
theorem gpL_len (D h m : Nat) : (gpL D h m).length = m := by simp [gpL]
theorem gpL_row {D h m k : Nat} (hk : k < m) : row (gpL D h m) k = gpRow D h k := row_mk hk
theorem gp_at {D i : Nat} (h r : Nat) (hi : i < D) : gpRow D h (r * D + i) = [(i : Int), ((i + h : Nat) : Int)] := by
  unfold gpRow
  rw [Nat.mul_comm, Nat.mul_add_mod, Nat.mod_eq_of_lt hi]
def gnB (x y : Int) : Bool := decide ((1 ≤ x ∧ x ≤ 8) ∧ 1 ≤ y ∧ y ≤ x)
def gnX (x y : Int) : Int := if gnB x y then x else 0
def gnL (x y : Int) : List (List Int) := if gnB x y then gpL (x.toNat - y.toNat) y.toNat ((x.toNat + y.toNat - 1) / y.toNat * (x.toNat - y.toNat)) else []
theorem gn_bd : ∀ n, n < 9 → ∀ h, h < 9 → 1 ≤ h → h ≤ n → (n + h - 1) / h * (n - h) ≤ 60 ∧ (n + h - 1) / h ≤ 8 := by decide
theorem gnX_no {x y : Int} (h : gnB x y = false) : gnX x y = 0 := by rw [gnX, h]; rfl
theorem gnL_no {x y : Int} (h : gnB x y = false) : gnL x y = [] := by rw [gnL, h]; rfl
theorem gnX_yes {x y : Int} (h : gnB x y = true) : gnX x y = x := by rw [gnX, h]; rfl
theorem gn_out {x y : Int} (hb : gnB x y = true) : ∃ n h D K : Nat, x = n ∧ y = h ∧ n = D + h ∧ 1 ≤ h ∧ n ≤ 8 ∧ K = (n + h - 1) / h ∧ K * D ≤ 60 ∧ K ≤ 8 ∧ gnL x y = gpL D h (K * D) := by
  have hb' := hb
  rw [gnB, decide_eq_true_eq] at hb'
  obtain ⟨n, rfl⟩ := Int.eq_ofNat_of_zero_le (show 0 ≤ x by omega)
  obtain ⟨h, rfl⟩ := Int.eq_ofNat_of_zero_le (show 0 ≤ y by omega)
  have hbd := gn_bd n (by omega) h (by omega) (by omega) (by omega)
  exact ⟨n, h, n - h, _, rfl, rfl, by omega, by omega, by omega, rfl, hbd.1, hbd.2, by rw [gnL, hb, Int.toNat_natCast, Int.toNat_natCast]; rfl⟩
theorem gp_tot (D h m : Nat) : ∀ k, k ≤ m → tot (gpL D h m) k = 2 * k := by
  intro k
  induction k with
  | zero => intro _; rw [tot_zero]
  | succ k ih => intro hk; rw [tot_succ, ih (by omega), gpL_row (by omega)]; simp [gpRow]; omega
theorem gnL_tot (x y : Int) : (gnL x y).length + tot (gnL x y) (gnL x y).length ≤ 1048576 := by
  cases hb : gnB x y with
  | false => rw [gnL_no hb, List.length_nil, tot_zero]; omega
  | true =>
    obtain ⟨n, h, D, K, _, _, _, _, _, _, hk, _, hl⟩ := gn_out hb
    rw [hl, gpL_len, gp_tot _ _ _ _ (Nat.le_refl _)]
    omega
theorem gp_net {n D h m : Nat} (hn : n = D + h) (h1 : 1 ≤ h) (h8 : n ≤ 8) (hm : m ≤ 60) (hD : m = 0 ∨ 0 < D) : netV (n : Int) (gpL D h m) = true := by
  refine net_yes (gpL_len _ _ _) (by omega) hm ?_
  have key : ∀ k, k ≤ m → netTo (n : Int) (gpL D h m) k = true := by
    intro k
    induction k with
    | zero => intro _; exact netTo_zero _ _
    | succ k ih =>
      intro hk
      refine netTo_on (ih (by omega)) ?_
      have hlt : k % D < D := Nat.mod_lt _ (by omega)
      have e0 : nth (gpRow D h k) 0 = ((k % D : Nat) : Int) := rfl
      have e1 : nth (gpRow D h k) 1 = ((k % D + h : Nat) : Int) := rfl
      rw [gpL_row (by omega), pairB, e0, e1, inW, inW]
      simp only [Bool.and_eq_true, decide_eq_true_eq, Bool.not_eq_true', beq_eq_false_iff_ne]
      refine ⟨rfl, by omega, by omega, by omega⟩
  exact key m (Nat.le_refl _)
/-- 'append(s, x)' of one element, the new block's number given. -/
theorem wpL_append1_at {P : Program} (w : World) {ops : Array Oper} {rest : List Oper} {o : Oper} {a : Act} {Q : Exit → Act → World → Prop} (hgd : o.guard = none) (s x : Operand) (t : TypeId)
    (ho : o.op = .call { callee := .builtin .append, args := #[s, x], argTypes := #[t, t] })
    (base : Nat) (e : TypeId) (z : Value) (bytes : Nat) (ht : P.underlying t = some (.slice e)) (hinfo : (P.info? e).map (fun i => (i.zero, i.size, i.bytes)) = some (some z, 1, bytes)) (hzs : z.cells.size = 1)
    (A : Option Addr) (n c : Nat) (xs : List Value) (hs : a.eval s = .slice A n c) (hown : Own w base e A n c xs)
    (u : Value) (sz : Nat) (hsz : w.heap.size = sz) (hx : a.eval x = .slice (some ⟨sz, 0, none⟩) 1 1) (h1 : u.oneCell' = true)
    (h63 : n + 1 ≤ maxLen) (hbytes : (n + 1) * bytes ≤ 140737488355328) (hbase : base ≤ w.heap.size)
    (h : ∀ A' c' w', Own w' base e A' (n + 1) c' (xs ++ [u]) → w.grownBy w' (blk A) → (blk A' = blk A ∨ blk A' = some (w.heap.size + 1)) → wpList P ops Q rest (a.put o.dst (.slice A' (n + 1) c')) w') : wpList P ops Q (o :: rest) a (w.alloc (.cells #[u] e)) := by
  subst hsz
  exact wpL_append1 w hgd s x t ho base e z bytes ht hinfo hzs A n c xs hs hown u hx h1 h63 hbytes hbase h
theorem own_lit (w : World) (e : TypeId) (cs : Array Value) (n : Nat) (h : cs.size = n) (hn : n ≤ maxLen) : Own (w.alloc (.cells cs e)) w.heap.size e (some ⟨w.heap.size, 0, none⟩) n n cs.toList :=
  World.ownsRow_lit (base := w.heap.size) (e := e) (size := 1) w cs n (Nat.le_refl _) hn (by simpa using h)
theorem own_lit_at (w : World) (s : Nat) (e : TypeId) (cs : Array Value) (n : Nat) (hs : w.heap.size = s) (h : cs.size = n) (hn : n ≤ maxLen) : Own (w.alloc (.cells cs e)) s e (some ⟨s, 0, none⟩) n n cs.toList := by
  subst hs; exact own_lit w e cs n h hn
/-- The cells of a box that the call has made. -/
theorem own_box {w : World} {b base : Nat} {e : TypeId} {u v : Value} {c : Nat} (h : Own w base e (some ⟨b, 0, none⟩) 2 c [u, v]) :
    w.cell? ⟨b, 0, none⟩ = some u ∧ w.cell? ⟨b, 1, none⟩ = some v ∧ w.frozen? ⟨b, 0, none⟩ = false ∧ w.frozen? ⟨b, 1, none⟩ = false ∧ b < w.heap.size := by
  obtain ⟨g0, u0, e0, _, _, h0, c0, f0⟩ := h.at_ (show 0 < 2 by omega)
  obtain ⟨g1, u1, e1, _, _, h1, c1, f1⟩ := h.at_ (show 1 < 2 by omega)
  injection e0 with e0
  injection e0 with e0
  subst e0
  injection e1 with e1
  injection e1 with e1
  subst e1
  simp at h0 h1
  subst h0 h1
  exact ⟨c0, c1, f0, f1, (h.blk_ b rfl).2⟩

set_option maxHeartbeats 1000000 in
theorem specOut (x : Int) (A : Option Addr) (n c : Nat) (zss : List (List Int)) (w : World) (ha : RdM w A n zss) (hn : n ≤ 1048576) (hv : netV x zss = true) :
    Calls Try.prog 33 #[.agg #[.int .i64 x, .slice A n c]] w fun e w' => e = .returned (.tuple #[.agg #[.int .i64 x, .slice A n c], .bool true]) ∧ Below w.heap.size w w' := by
  have C := fun w' (h1 : RdM w' A n zss) => specNetOk x A n c zss w' h1 hn
  rw [hv] at C
  have CC := Lib.hid C
  have hal := ((below_alloc w (.cells #[.int .i64 x, .slice A n c] 32))).alloc (by simp) (.cells #[.int .i64 0, .slice none 0 0] 32)
  clear C hv
  go_enter Try.func33, Try.ntmps33
  go_wp2_with fail
  refine (CC.out _ (ha.below hal)).mono ?_
  rintro e w1 ⟨rfl, hb1⟩
  obtain ⟨hc, hf⟩ := bcell hb1
  have hz := hb1.size
  simp at hz
  have hB := Lib.hid (hal.trans (hb1.mono (by simp; omega)))
  clear hb1 hal CC
  go_wp2
  refine bodyPost_ret (v := .tuple #[.agg #[.int .i64 x, .slice A n c], .bool true]) ?_ rfl ⟨rfl, ?_⟩
  · simp [results, Try.results33, go_sem, hc]
  · exact (hB.out.setCell (by simp) _).setCell (by simp) _

set_option maxHeartbeats 1000000 in
theorem implChecked (x : Int) (A : Option Addr) (n c : Nat) (zss : List (List Int)) (w : World) (ha : RdM w A n zss) (hn : n ≤ 1048576) (hv : netV x zss = true) :
    Calls Try.prog 35 #[.agg #[.int .i64 x, .slice A n c]] w fun e w' => e = .returned (.tuple #[.agg #[.int .i64 x, .slice A n c], .bool true]) ∧ Below w.heap.size w w' := by
  have C := fun w' (h1 : RdM w' A n zss) => implNetOk x A n c zss w' h1 hn
  rw [hv] at C
  have CC := Lib.hid C
  have hal := ((below_alloc w (.cells #[.int .i64 x, .slice A n c] 32))).alloc (by simp) (.cells #[.int .i64 0, .slice none 0 0] 32)
  clear C hv
  go_enter Try.func35, Try.ntmps35
  go_wp2_with fail
  refine (CC.out _ (ha.below hal)).mono ?_
  rintro e w1 ⟨rfl, hb1⟩
  obtain ⟨hc, hf⟩ := bcell hb1
  have hz := hb1.size
  simp at hz
  have hB := Lib.hid (hal.trans (hb1.mono (by simp; omega)))
  clear hb1 hal CC
  go_wp2
  refine bodyPost_ret (v := .tuple #[.agg #[.int .i64 x, .slice A n c], .bool true]) ?_ rfl ⟨rfl, ?_⟩
  · simp [results, Try.results35, go_sem, hc]
  · exact (hB.out.setCell (by simp) _).setCell (by simp) _

theorem specN_yes (x : Int) (w : World) (h : 1 ≤ x ∧ x ≤ 8) : Calls Try.prog 32 #[.int .i64 x] w fun e w' => e = .returned (.bool true) ∧ w = w' := by
  go_enter Try.func32, Try.ntmps32
  go_wp2_with (go_at_call 30; refine (l01In_yes _ _ _ _ h).mono ?_; rintro e w' ⟨rfl, rfl⟩)
  go_ret
  exact ⟨rfl, rfl⟩
theorem specN_no (x : Int) (w : World) (h : ¬ (1 ≤ x ∧ x ≤ 8)) : Calls Try.prog 32 #[.int .i64 x] w fun e w' => e = .returned (.bool false) ∧ w = w' := by
  go_enter Try.func32, Try.ntmps32
  go_wp2_with (go_at_call 30; refine (l01In_no _ _ _ _ h).mono ?_; rintro e w' ⟨rfl, rfl⟩)
  go_ret
  exact ⟨rfl, rfl⟩

set_option maxHeartbeats 4000000 in
theorem specGapNetwork (x y : Int) (w : World) :
    Calls Try.prog 21 #[.int .i64 x, .int .i64 y] w fun e w' => ∃ A' n' c', e = .returned (.tuple #[.agg #[.int .i64 (gnX x y), .slice A' n' c'], .bool (gnB x y)]) ∧ OwnR w' w.heap.size w'.heap.size A' n' c' (gnL x y) ∧ Below w.heap.size w w' := by
  cases hg : gnB x y with
  | false =>
    rw [gnX_no hg, gnL_no hg]
    rw [gnB, decide_eq_false_iff_not] at hg
    by_cases hx : 1 ≤ x ∧ x ≤ 8
    · have hy : ¬ (1 ≤ y ∧ y ≤ x) := fun h => hg ⟨hx, h⟩
      clear hg
      go_enter Try.func21, Try.ntmps21
      go_wp2_with fail
      refine (specN_yes x _ hx).mono ?_
      rintro e w' ⟨rfl, rfl⟩
      go_wp2_with fail
      refine (l01In_no y 1 x _ hy).mono ?_
      rintro e w' ⟨rfl, rfl⟩
      go_wp2_with fail
      refine bodyPost_ret (v := .tuple #[.agg #[.int .i64 0, .slice none 0 0], .bool false]) (by simp [results, Try.results21, go_sem]) rfl ⟨none, 0, 0, rfl, OwnR.nil_ _ _ _, ?_⟩
      first | exact below_alloc w _ | exact ((below_alloc w _).setCell (by simp) _).setCell (by simp) _
    · clear hg
      go_enter Try.func21, Try.ntmps21
      go_wp2_with fail
      refine (specN_no x _ hx).mono ?_
      rintro e w' ⟨rfl, rfl⟩
      go_wp2_with fail
      refine bodyPost_ret (v := .tuple #[.agg #[.int .i64 0, .slice none 0 0], .bool false]) (by simp [results, Try.results21, go_sem]) rfl ⟨none, 0, 0, rfl, OwnR.nil_ _ _ _, ?_⟩
      first | exact below_alloc w _ | exact ((below_alloc w _).setCell (by simp) _).setCell (by simp) _
  | true =>
    obtain ⟨n, h, D, K, rfl, rfl, hD, hh1, hn8, hK, hK60, hK8, hL⟩ := gn_out hg
    have H := Lib.hid (show gnX (n : Int) (h : Int) = n from gnX_yes hg)
    rw [H.out, hL]
    have HV := Lib.hid (gp_net hD hh1 hn8 hK60 (show K * D = 0 ∨ 0 < D by rcases Nat.eq_zero_or_pos D with h0 | h0; exact .inl (by rw [h0, Nat.mul_zero]); exact .inr h0))
    have HK := Lib.hid (show K * D ≤ 60 ∧ K ≤ 8 from ⟨hK60, hK8⟩)
    have e1 : ((n : Int) + (h : Int) - 1) / (h : Int) = (K : Int) := by
      rw [hK, show (n : Int) + (h : Int) - 1 = ((n + h - 1 : Nat) : Int) by omega]
      exact (Int.natCast_ediv _ _).symm
    have hlen : h ≤ n := by omega
    have HD := Lib.hid hD
    clear hK hK60 hL hg hD
    go_enter Try.func21, Try.ntmps21
    go_wp2_with fail
    refine (specN_yes (n : Int) _ (by omega)).mono ?_
    rintro e w' ⟨rfl, rfl⟩
    go_wp2_with fail
    refine (l01In_yes (h : Int) 1 (n : Int) _ (by omega)).mono ?_
    rintro e w' ⟨rfl, rfl⟩
    have HB1 := Lib.hid (show Own ((w.alloc (.cells #[.int .i64 0, .slice none 0 0] 32)).alloc (.cells #[.int .i64 (n : Int), .slice none 0 0] 32)) (w.heap.size + 1) 32 (some ⟨w.heap.size + 1, 0, none⟩) 2 2 [.int .i64 (n : Int), .slice none 0 0] from own_lit_at _ (w.heap.size + 1) 32 #[.int .i64 (n : Int), .slice none 0 0] 2 (by simp) rfl (by unfold maxLen; omega))
    have HB0 := Lib.hid (show Below (w.heap.size + 1) (w.alloc (.cells #[.int .i64 0, .slice none 0 0] 32)) ((w.alloc (.cells #[.int .i64 0, .slice none 0 0] 32)).alloc (.cells #[.int .i64 (n : Int), .slice none 0 0] 32)) from (Below.refl _ _).alloc (by simp) _)
    go_wp2_with fail
    rw [e1]
    go_loopw [7] (fun i wr => ∃ k r t : Nat, ∃ A2 c2 vs, i = .int .i64 k ∧ Hid (k + r = K ∧ t = r * D ∧ t ≤ 60) ∧ k ≤ 8 ∧ Own wr (w.heap.size + 1) 32 (some ⟨w.heap.size + 1, 0, none⟩) 2 2 [.int .i64 (n : Int), .slice A2 t c2] ∧ Own wr (w.heap.size + 2) 22 A2 t c2 vs ∧ RowsIn wr (w.heap.size + 2) wr.heap.size A2 t (gpRow D h) vs ∧ Below (w.heap.size + 1) (w.alloc (.cells #[.int .i64 0, .slice none 0 0] 32)) wr) (fun i _ => (intOf i).toNat)
    case atStart => exact ⟨K, 0, 0, none, 0, [], rfl, Lib.hid ⟨by omega, by simp, by omega⟩, HK.out.2, HB1.out, Own.nil_ _ _ _, fun j hj => by omega, HB0.out⟩
    case round =>
      clear e1
      obtain ⟨k, r, t, A2, c2, vs, rfl, HT, hk8, hbox, hown, hrs, hbl⟩ := hrel
      by_cases hlt : 0 < k
      · go_wp2_with fail
        go_loopg [8] D (fun gk i wr => ∃ j t' : Nat, ∃ A2 c2 vs, i = .int .i64 j ∧ j ≤ D ∧ Hid (j + gk = D) ∧ Hid (t' = t + j ∧ t' ≤ 60) ∧ Own wr (w.heap.size + 1) 32 (some ⟨w.heap.size + 1, 0, none⟩) 2 2 [.int .i64 (n : Int), .slice A2 t' c2] ∧ Own wr (w.heap.size + 2) 22 A2 t' c2 vs ∧ RowsIn wr (w.heap.size + 2) wr.heap.size A2 t' (gpRow D h) vs ∧ Below (w.heap.size + 1) (w.alloc (.cells #[.int .i64 0, .slice none 0 0] 32)) wr)
        case atStart => exact ⟨0, t, A2, c2, vs, rfl, Nat.zero_le _, Lib.hid (Nat.zero_add _), Lib.hid ⟨rfl, HT.out.2.2⟩, hbox, hown, hrs, hbl⟩
        case round =>
          clear hbox hown hrs hbl A2 c2 vs
          obtain ⟨j, t', A2, c2, vs, rfl, hj, HG2, HT2, hbox, hown, hrs, hbl⟩ := hrel
          obtain ⟨b0, b1, b2, b3, b4⟩ := own_box hbox
          by_cases hjD : j < D
          · have hjn : j + h < n := by have := HD.out; omega
            have hjn2 : (j : Int) + (h : Int) < (n : Int) := by omega
            have hjn3 : (j : Int) < (n : Int) - (h : Int) := by omega
            have ht59 : t' ≤ 59 := by
              have h1 := HT2.out.1
              have h2 := HT.out.2.1
              have h3 : (r + 1) * D ≤ K * D := Nat.mul_le_mul_right _ (by have := HT.out.1; omega)
              rw [Nat.succ_mul] at h3
              have := HK.out.1
              omega
            have HROW := Lib.hid (show gpRow D h t' = [(j : Int), ((j + h : Nat) : Int)] by rw [HT2.out.1, HT.out.2.1]; exact gp_at h r hjD)
            have hszr : w.heap.size + 2 ≤ wr.heap.size := by omega
            have hjh : (j : Int) + (h : Int) = ((j + h : Nat) : Int) := by omega
            obtain ⟨q, hq⟩ : ∃ q, j + h = q := ⟨_, rfl⟩
            rw [hq] at hjh HROW
            have hR := Lib.hid (show OwnI (wr.alloc (.cells #[.int .i64 (j : Int), .int .i64 (q : Int)] 3)) (w.heap.size + 2) 3 (some ⟨wr.heap.size, 0, none⟩) 2 2 (gpRow D h t') by rw [HROW.out]; exact (own_lit wr 3 #[.int .i64 (j : Int), .int .i64 (q : Int)] 2 rfl (by unfold maxLen; omega)).more hszr)
            have ho1 := hown.alloc (.cells #[.int .i64 (j : Int), .int .i64 (q : Int)] 3)
            have hrs1 := Lib.hid (RowsIn.keep hrs (fun g h1 h2 h3 => Below.heap_alloc wr (.cells #[.int .i64 (j : Int), .int .i64 (q : Int)] 3) g h3))
            have hbl1 := Lib.hid (hbl.alloc (by omega) (.cells #[.int .i64 (j : Int), .int .i64 (q : Int)] 3))
            have hbox1 := Lib.hid (hbox.alloc (.cells #[.int .i64 (j : Int), .int .i64 (q : Int)] 3))
            have hAA := Lib.hid hown.blk_
            have hqn : q < n := by omega
            have HQ := Lib.hid hq
            clear hjn hq hrs hbl hbox
            go_wp2_with (at_builtin; refine wpL_append1_at _ rfl _ _ _ rfl (w.heap.size + 2) 22 (.slice none 0 0) 24 Try.underlying30 sliceInfo rfl _ t' _ _ rfl ho1 (.slice (some ⟨wr.heap.size, 0, none⟩) 2 2) (wr.heap.size + 1) (by simp) rfl rfl (by unfold maxLen; omega) (by omega) (by simp; omega) ?_)
            intro A4 c4 w4 ho4 hg4 hat4
            have hs4 := hg4.size
            simp at hs4
            have hrs4 := Lib.hid (rowsIn_push (cR := 2) (f := gpRow D h) ho1 hrs1.out (fun g hg => (hAA.out g hg).2) (by simp) hR.out (fun g hg => by simp [blk] at hg; omega) hg4 (by simpa using hat4))
            have hb4 := below_of_grown hbl1.out hg4 (by simp; omega) (fun g e => by have := (hAA.out g e).1; omega)
            have hbox4 := hbox1.out.kept hg4 (fun g h1 h2 => by have h3 : w.heap.size + 1 = g := (by simpa [blk] using h1); have := (hAA.out g h2.symm).1; omega)
            obtain ⟨d0, d1, d2, d3, d4⟩ := own_box hbox4
            have ho5 := Lib.hid (ho4.setOther (p := ⟨w.heap.size + 1, 1, none⟩) (fun g h => by have := (ho4.blk_ g h).1; show g ≠ w.heap.size + 1; omega) (.slice A4 (t' + 1) c4))
            have hbox5 := Lib.hid (hbox4.set_ (k := 1) (.slice A4 (t' + 1) c4) (by omega))
            have hb5 := Lib.hid (hb4.setCell (p := ⟨w.heap.size + 1, 1, none⟩) (Nat.le_refl _) (.slice A4 (t' + 1) c4))
            have hrs5 := Lib.hid (RowsIn.keep (w' := w4.setCell ⟨w.heap.size + 1, 1, none⟩ (.slice A4 (t' + 1) c4)) hrs4.out (fun g h1 h2 h3 => Below.heap_setCell _ _ _ g (by show g ≠ w.heap.size + 1; omega)))
            have HT3 := Lib.hid (show t' + 1 = t + (j + 1) ∧ t' + 1 ≤ 60 from ⟨by rw [HT2.out.1]; omega, by omega⟩)
            clear ho1 ho4 hown hg4 hat4 hb4 hbox4 b0 b1 b2 b3 b4
            go_wp2
            go_roundg (gk - 1)
            case measure => have := HG2.out; omega
            case rel => exact ⟨j + 1, t' + 1, A4, c4, _, by go_num, by omega, Lib.hid (by have := HG2.out; omega), HT3, hbox5.out, ho5.out, by simpa [World.setCell] using hrs5.out, hb5.out⟩
          · have HDi := Lib.hid (show j = D by omega)
            have hj8 : j ≤ 8 := by have := HD.out; omega
            have hjn2 : (n : Int) ≤ (j : Int) + (h : Int) := by have := HD.out; omega
            have hjn3 : (n : Int) - (h : Int) ≤ (j : Int) := by omega
            go_wp2_with fail
            go_roundw
            case rel => exact ⟨k - 1, r + 1, t', A2, c2, vs, int_eq (by omega), Lib.hid ⟨by have := HT.out.1; omega, by rw [HT2.out.1, HT.out.2.1, Nat.succ_mul, HDi.out], HT2.out.2⟩, by omega, hbox, hown, hrs, hbl⟩
            case measure => (simp [intOf] <;> omega)
      · have hk0 : k = 0 := by omega
        subst hk0
        have HE := Lib.hid (show t = K * D by rw [HT.out.2.1, show r = K by have := HT.out.1; omega])
        obtain ⟨b0, b1, b2, b3, b4⟩ := own_box hbox
        have hM := (show OwnR wr (w.heap.size + 2) wr.heap.size A2 t c2 (gpL D h (K * D)) from ⟨by rw [gpL_len, HE.out], vs, hown, fun g hg => (hown.blk_ g hg).2, fun i hi => by have := hrs i hi; rw [gpL_row (by rw [← HE.out]; exact hi)]; exact this⟩)
        have hM2 := Lib.hid hM
        have hszr : w.heap.size + 2 ≤ wr.heap.size := by omega
        have z0 : wr.cell? ⟨w.heap.size, 0, none⟩ = some (.int .i64 0) := by rw [hbl.cell (p := ⟨w.heap.size, 0, none⟩) (by show w.heap.size < _; omega)]; simp
        have z1 : wr.cell? ⟨w.heap.size, 1, none⟩ = some (.slice none 0 0) := by rw [hbl.cell (p := ⟨w.heap.size, 1, none⟩) (by show w.heap.size < _; omega)]; simp
        have z2 : wr.frozen? ⟨w.heap.size, 0, none⟩ = false := by rw [hbl.frozen (p := ⟨w.heap.size, 0, none⟩) (by show w.heap.size < _; omega)]; simp
        have z3 : wr.frozen? ⟨w.heap.size, 1, none⟩ = false := by rw [hbl.frozen (p := ⟨w.heap.size, 1, none⟩) (by show w.heap.size < _; omega)]; simp
        have hblw := Lib.hid ((below_alloc w _).trans (hbl.mono (by simp)))
        clear hown hrs hbox hbl hM
        go_wp2_with fail
        refine (specOut (n : Int) A2 t c2 (gpL D h (K * D)) _ hM2.out.rd (by have := HT.out.2.2; omega) HV.out).mono ?_
        rintro e w5 ⟨rfl, hb5⟩
        have y0 := (hb5.cell (p := ⟨w.heap.size, 0, none⟩) (by show w.heap.size < _; omega)).trans z0
        have y1 := (hb5.cell (p := ⟨w.heap.size, 1, none⟩) (by show w.heap.size < _; omega)).trans z1
        have y2 := (hb5.frozen (p := ⟨w.heap.size, 0, none⟩) (by show w.heap.size < _; omega)).trans z2
        have y3 := (hb5.frozen (p := ⟨w.heap.size, 1, none⟩) (by show w.heap.size < _; omega)).trans z3
        have hM5 := Lib.hid (hM2.out.below hb5)
        have hs5 := hb5.size
        have hB5 := Lib.hid (hblw.out.trans (hb5.mono (by omega)))
        clear hb5 z0 z1 z2 z3
        go_wp2_with fail
        refine bodyPost_ret (v := .tuple #[.agg #[.int .i64 (n : Int), .slice A2 t c2], .bool true]) (by simp [results, Try.results21, go_sem, y0, y1]) rfl ⟨A2, t, c2, rfl, ?_, ?_⟩
        · refine ((hM5.out.keep (fun g h1 h2 h3 => ?_)).more (by omega)).keepHi (by simp [World.setCell]; omega)
          exact (Below.heap_setCell _ _ _ g (by show g ≠ w.heap.size; omega)).trans (Below.heap_setCell _ _ _ g (by show g ≠ w.heap.size; omega))
        · exact (hB5.out.setCell (by simp) _).setCell (by simp) _

set_option maxHeartbeats 4000000 in
theorem implGapNetwork (x y : Int) (w : World) :
    Calls Try.prog 22 #[.int .i64 x, .int .i64 y] w fun e w' => ∃ A' n' c', e = .returned (.tuple #[.agg #[.int .i64 (gnX x y), .slice A' n' c'], .bool (gnB x y)]) ∧ OwnR w' w.heap.size w'.heap.size A' n' c' (gnL x y) ∧ Below w.heap.size w w' := by
  cases hg : gnB x y with
  | false =>
    rw [gnX_no hg, gnL_no hg]
    rw [gnB, decide_eq_false_iff_not] at hg
    by_cases hx : 1 ≤ x ∧ x ≤ 8
    · have hy : ¬ (1 ≤ y ∧ y ≤ x) := fun h => hg ⟨hx, h⟩
      clear hg
      by_cases h1 : y < 1
      · skip
        go_enter Try.func22, Try.ntmps22
        go_wp2_with fail
        refine (implIsWires_yes x _ hx).mono ?_
        rintro e w' ⟨rfl, rfl⟩
        go_wp2_with fail
        refine bodyPost_ret (v := .tuple #[.agg #[.int .i64 0, .slice none 0 0], .bool false]) (by simp [results, Try.results22, go_sem]) rfl ⟨none, 0, 0, rfl, OwnR.nil_ _ _ _, ?_⟩
        first | exact below_alloc w _ | exact ((below_alloc w _).setCell (by simp) _).setCell (by simp) _
      · have h2 : 1 ≤ y := by omega
        have h3 : x < y := by omega
        have d1 : decide (y < 1) = false := by simp; omega
        clear h1 hy
        go_enter Try.func22, Try.ntmps22
        go_wp2_with fail
        refine (implIsWires_yes x _ hx).mono ?_
        rintro e w' ⟨rfl, rfl⟩
        go_wp2_with fail
        refine bodyPost_ret (v := .tuple #[.agg #[.int .i64 0, .slice none 0 0], .bool false]) (by simp [results, Try.results22, go_sem]) rfl ⟨none, 0, 0, rfl, OwnR.nil_ _ _ _, ?_⟩
        first | exact below_alloc w _ | exact ((below_alloc w _).setCell (by simp) _).setCell (by simp) _
    · clear hg
      go_enter Try.func22, Try.ntmps22
      go_wp2_with fail
      refine (implIsWires_no x _ hx).mono ?_
      rintro e w' ⟨rfl, rfl⟩
      go_wp2_with fail
      refine bodyPost_ret (v := .tuple #[.agg #[.int .i64 0, .slice none 0 0], .bool false]) (by simp [results, Try.results22, go_sem]) rfl ⟨none, 0, 0, rfl, OwnR.nil_ _ _ _, ?_⟩
      first | exact below_alloc w _ | exact ((below_alloc w _).setCell (by simp) _).setCell (by simp) _
  | true =>
    obtain ⟨n, h, D, K, rfl, rfl, hD, hh1, hn8, hK, hK60, hK8, hL⟩ := gn_out hg
    have H := Lib.hid (show gnX (n : Int) (h : Int) = n from gnX_yes hg)
    rw [H.out, hL]
    have HV := Lib.hid (gp_net hD hh1 hn8 hK60 (show K * D = 0 ∨ 0 < D by rcases Nat.eq_zero_or_pos D with h0 | h0; exact .inl (by rw [h0, Nat.mul_zero]); exact .inr h0))
    have HK := Lib.hid (show K * D ≤ 60 ∧ K ≤ 8 from ⟨hK60, hK8⟩)
    have e1 : ((n : Int) + (h : Int) - 1) / (h : Int) = (K : Int) := by
      rw [hK, show (n : Int) + (h : Int) - 1 = ((n + h - 1 : Nat) : Int) by omega]
      exact (Int.natCast_ediv _ _).symm
    have hlen : h ≤ n := by omega
    have HD := Lib.hid hD
    clear hK hK60 hL hg hD
    have dd1 : decide ((h : Int) < 1) = false := by simp; omega
    have dd2 : decide ((n : Int) < (h : Int)) = false := by simp; omega
    have dd3 : decide (n < h) = false := by simp; omega
    go_enter Try.func22, Try.ntmps22
    go_wp2_with fail
    refine (implIsWires_yes (n : Int) _ (by omega)).mono ?_
    rintro e w' ⟨rfl, rfl⟩
    have HB1 := Lib.hid (show Own ((w.alloc (.cells #[.int .i64 0, .slice none 0 0] 32)).alloc (.cells #[.int .i64 (n : Int), .slice none 0 0] 32)) (w.heap.size + 1) 32 (some ⟨w.heap.size + 1, 0, none⟩) 2 2 [.int .i64 (n : Int), .slice none 0 0] from own_lit_at _ (w.heap.size + 1) 32 #[.int .i64 (n : Int), .slice none 0 0] 2 (by simp) rfl (by unfold maxLen; omega))
    have HB0 := Lib.hid (show Below (w.heap.size + 1) (w.alloc (.cells #[.int .i64 0, .slice none 0 0] 32)) ((w.alloc (.cells #[.int .i64 0, .slice none 0 0] 32)).alloc (.cells #[.int .i64 (n : Int), .slice none 0 0] 32)) from (Below.refl _ _).alloc (by simp) _)
    go_wp2_with fail
    rw [e1]
    go_loopw [29] (fun i wr => ∃ r t : Nat, ∃ A2 c2 vs, i = .int .i64 r ∧ r ≤ K ∧ Hid (t = r * D ∧ t ≤ 60) ∧ Own wr (w.heap.size + 1) 32 (some ⟨w.heap.size + 1, 0, none⟩) 2 2 [.int .i64 (n : Int), .slice A2 t c2] ∧ Own wr (w.heap.size + 2) 22 A2 t c2 vs ∧ RowsIn wr (w.heap.size + 2) wr.heap.size A2 t (gpRow D h) vs ∧ Below (w.heap.size + 1) (w.alloc (.cells #[.int .i64 0, .slice none 0 0] 32)) wr) (fun i _ => K - (intOf i).toNat)
    case atStart => exact ⟨0, 0, none, 0, [], rfl, Nat.zero_le _, Lib.hid ⟨by simp, by omega⟩, HB1.out, Own.nil_ _ _ _, fun j hj => by omega, HB0.out⟩
    case round =>
      clear e1
      obtain ⟨r, t, A2, c2, vs, rfl, hrK, HT, hbox, hown, hrs, hbl⟩ := hrel
      by_cases hlt : r < K
      · go_wp2_with fail
        go_loopg [34] D (fun gk i wr => ∃ j t' : Nat, ∃ A2 c2 vs, i = .int .i64 j ∧ j ≤ D ∧ Hid (j + gk = D) ∧ Hid (t' = t + j ∧ t' ≤ 60) ∧ Own wr (w.heap.size + 1) 32 (some ⟨w.heap.size + 1, 0, none⟩) 2 2 [.int .i64 (n : Int), .slice A2 t' c2] ∧ Own wr (w.heap.size + 2) 22 A2 t' c2 vs ∧ RowsIn wr (w.heap.size + 2) wr.heap.size A2 t' (gpRow D h) vs ∧ Below (w.heap.size + 1) (w.alloc (.cells #[.int .i64 0, .slice none 0 0] 32)) wr)
        case atStart => exact ⟨0, t, A2, c2, vs, rfl, Nat.zero_le _, Lib.hid (Nat.zero_add _), Lib.hid ⟨rfl, HT.out.2⟩, hbox, hown, hrs, hbl⟩
        case round =>
          clear hbox hown hrs hbl A2 c2 vs
          obtain ⟨j, t', A2, c2, vs, rfl, hj, HG2, HT2, hbox, hown, hrs, hbl⟩ := hrel
          obtain ⟨b0, b1, b2, b3, b4⟩ := own_box hbox
          by_cases hjD : j < D
          · have hjn : j + h < n := by have := HD.out; omega
            have hjn2 : (j : Int) + (h : Int) < (n : Int) := by omega
            have hjn3 : (j : Int) < (n : Int) - (h : Int) := by omega
            have ht59 : t' ≤ 59 := by
              have h1 := HT2.out.1
              have h2 := HT.out.1
              have h3 : (r + 1) * D ≤ K * D := Nat.mul_le_mul_right _ (by omega)
              rw [Nat.succ_mul] at h3
              have := HK.out.1
              omega
            have HROW := Lib.hid (show gpRow D h t' = [(j : Int), ((j + h : Nat) : Int)] by rw [HT2.out.1, HT.out.1]; exact gp_at h r hjD)
            have hszr : w.heap.size + 2 ≤ wr.heap.size := by omega
            have hjh : (j : Int) + (h : Int) = ((j + h : Nat) : Int) := by omega
            obtain ⟨q, hq⟩ : ∃ q, j + h = q := ⟨_, rfl⟩
            rw [hq] at hjh HROW
            have hR := Lib.hid (show OwnI (wr.alloc (.cells #[.int .i64 (j : Int), .int .i64 (q : Int)] 3)) (w.heap.size + 2) 3 (some ⟨wr.heap.size, 0, none⟩) 2 2 (gpRow D h t') by rw [HROW.out]; exact (own_lit wr 3 #[.int .i64 (j : Int), .int .i64 (q : Int)] 2 rfl (by unfold maxLen; omega)).more hszr)
            have ho1 := hown.alloc (.cells #[.int .i64 (j : Int), .int .i64 (q : Int)] 3)
            have hrs1 := Lib.hid (RowsIn.keep hrs (fun g h1 h2 h3 => Below.heap_alloc wr (.cells #[.int .i64 (j : Int), .int .i64 (q : Int)] 3) g h3))
            have hbl1 := Lib.hid (hbl.alloc (by omega) (.cells #[.int .i64 (j : Int), .int .i64 (q : Int)] 3))
            have hbox1 := Lib.hid (hbox.alloc (.cells #[.int .i64 (j : Int), .int .i64 (q : Int)] 3))
            have hAA := Lib.hid hown.blk_
            have hqn : q < n := by omega
            have HQ := Lib.hid hq
            clear hjn hq hrs hbl hbox
            go_wp2_with (at_builtin; refine wpL_append1_at _ rfl _ _ _ rfl (w.heap.size + 2) 22 (.slice none 0 0) 24 Try.underlying30 sliceInfo rfl _ t' _ _ rfl ho1 (.slice (some ⟨wr.heap.size, 0, none⟩) 2 2) (wr.heap.size + 1) (by simp) rfl rfl (by unfold maxLen; omega) (by omega) (by simp; omega) ?_)
            intro A4 c4 w4 ho4 hg4 hat4
            have hs4 := hg4.size
            simp at hs4
            have hrs4 := Lib.hid (rowsIn_push (cR := 2) (f := gpRow D h) ho1 hrs1.out (fun g hg => (hAA.out g hg).2) (by simp) hR.out (fun g hg => by simp [blk] at hg; omega) hg4 (by simpa using hat4))
            have hb4 := below_of_grown hbl1.out hg4 (by simp; omega) (fun g e => by have := (hAA.out g e).1; omega)
            have hbox4 := hbox1.out.kept hg4 (fun g h1 h2 => by have h3 : w.heap.size + 1 = g := (by simpa [blk] using h1); have := (hAA.out g h2.symm).1; omega)
            obtain ⟨d0, d1, d2, d3, d4⟩ := own_box hbox4
            have ho5 := Lib.hid (ho4.setOther (p := ⟨w.heap.size + 1, 1, none⟩) (fun g h => by have := (ho4.blk_ g h).1; show g ≠ w.heap.size + 1; omega) (.slice A4 (t' + 1) c4))
            have hbox5 := Lib.hid (hbox4.set_ (k := 1) (.slice A4 (t' + 1) c4) (by omega))
            have hb5 := Lib.hid (hb4.setCell (p := ⟨w.heap.size + 1, 1, none⟩) (Nat.le_refl _) (.slice A4 (t' + 1) c4))
            have hrs5 := Lib.hid (RowsIn.keep (w' := w4.setCell ⟨w.heap.size + 1, 1, none⟩ (.slice A4 (t' + 1) c4)) hrs4.out (fun g h1 h2 h3 => Below.heap_setCell _ _ _ g (by show g ≠ w.heap.size + 1; omega)))
            have HT3 := Lib.hid (show t' + 1 = t + (j + 1) ∧ t' + 1 ≤ 60 from ⟨by rw [HT2.out.1]; omega, by omega⟩)
            clear ho1 ho4 hown hg4 hat4 hb4 hbox4 b0 b1 b2 b3 b4
            go_wp2
            go_roundg (gk - 1)
            case measure => have := HG2.out; omega
            case rel => exact ⟨j + 1, t' + 1, A4, c4, _, by go_num, by omega, Lib.hid (by have := HG2.out; omega), HT3, hbox5.out, ho5.out, by simpa [World.setCell] using hrs5.out, hb5.out⟩
          · have HDi := Lib.hid (show j = D by omega)
            have hj8 : j ≤ 8 := by have := HD.out; omega
            have hjn2 : (n : Int) ≤ (j : Int) + (h : Int) := by have := HD.out; omega
            have hjn3 : (n : Int) - (h : Int) ≤ (j : Int) := by omega
            go_wp2_with fail
            go_roundw
            case rel => exact ⟨r + 1, t', A2, c2, vs, by go_num, by omega, Lib.hid ⟨by rw [HT2.out.1, HT.out.1, Nat.succ_mul, HDi.out], HT2.out.2⟩, hbox, hown, hrs, hbl⟩
            case measure => (simp [intOf] <;> omega)
      · have hge : K ≤ r := by omega
        have HE := Lib.hid (show t = K * D by rw [HT.out.1, show r = K by omega])
        obtain ⟨b0, b1, b2, b3, b4⟩ := own_box hbox
        have hM := (show OwnR wr (w.heap.size + 2) wr.heap.size A2 t c2 (gpL D h (K * D)) from ⟨by rw [gpL_len, HE.out], vs, hown, fun g hg => (hown.blk_ g hg).2, fun i hi => by have := hrs i hi; rw [gpL_row (by rw [← HE.out]; exact hi)]; exact this⟩)
        have hM2 := Lib.hid hM
        have hszr : w.heap.size + 2 ≤ wr.heap.size := by omega
        have z0 : wr.cell? ⟨w.heap.size, 0, none⟩ = some (.int .i64 0) := by rw [hbl.cell (p := ⟨w.heap.size, 0, none⟩) (by show w.heap.size < _; omega)]; simp
        have z1 : wr.cell? ⟨w.heap.size, 1, none⟩ = some (.slice none 0 0) := by rw [hbl.cell (p := ⟨w.heap.size, 1, none⟩) (by show w.heap.size < _; omega)]; simp
        have z2 : wr.frozen? ⟨w.heap.size, 0, none⟩ = false := by rw [hbl.frozen (p := ⟨w.heap.size, 0, none⟩) (by show w.heap.size < _; omega)]; simp
        have z3 : wr.frozen? ⟨w.heap.size, 1, none⟩ = false := by rw [hbl.frozen (p := ⟨w.heap.size, 1, none⟩) (by show w.heap.size < _; omega)]; simp
        have hblw := Lib.hid ((below_alloc w _).trans (hbl.mono (by simp)))
        clear hown hrs hbox hbl hM
        go_wp2_with fail
        refine (implChecked (n : Int) A2 t c2 (gpL D h (K * D)) _ hM2.out.rd (by have := HT.out.2; omega) HV.out).mono ?_
        rintro e w5 ⟨rfl, hb5⟩
        have y0 := (hb5.cell (p := ⟨w.heap.size, 0, none⟩) (by show w.heap.size < _; omega)).trans z0
        have y1 := (hb5.cell (p := ⟨w.heap.size, 1, none⟩) (by show w.heap.size < _; omega)).trans z1
        have y2 := (hb5.frozen (p := ⟨w.heap.size, 0, none⟩) (by show w.heap.size < _; omega)).trans z2
        have y3 := (hb5.frozen (p := ⟨w.heap.size, 1, none⟩) (by show w.heap.size < _; omega)).trans z3
        have hM5 := Lib.hid (hM2.out.below hb5)
        have hs5 := hb5.size
        have hB5 := Lib.hid (hblw.out.trans (hb5.mono (by omega)))
        clear hb5 z0 z1 z2 z3
        go_wp2_with fail
        refine bodyPost_ret (v := .tuple #[.agg #[.int .i64 (n : Int), .slice A2 t c2], .bool true]) (by simp [results, Try.results22, go_sem, y0, y1]) rfl ⟨A2, t, c2, rfl, ?_, ?_⟩
        · refine ((hM5.out.keep (fun g h1 h2 h3 => ?_)).more (by omega)).keepHi (by simp [World.setCell]; omega)
          exact (Below.heap_setCell _ _ _ g (by show g ≠ w.heap.size; omega)).trans (Below.heap_setCell _ _ _ g (by show g ≠ w.heap.size; omega))
        · exact (hB5.out.setCell (by simp) _).setCell (by simp) _

end Go.Proofs.Ytojlcpfnkpfgnaa
