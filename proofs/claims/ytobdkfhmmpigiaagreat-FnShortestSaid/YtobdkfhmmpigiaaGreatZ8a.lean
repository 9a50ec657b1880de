/- FnShortest: spec.l08Wires, l08Half, l08Merge. -/
import Derived.Test.YtobdkfhmmpigiaaGreatZ7
import Derived.Test.YtobdkfhmmpigiaaGreatMG
namespace Go.Proofs.YtobdkfhmmpigiaaGreat
open Go.RowKit Go.Deep
set_option linter.unusedVariables false

/-- 'append(s, x...)' as a step of a region that draws its order; x may be empty. -/
theorem step_append_any {P : Program} {w : World} {ops : Array Oper} {o : Oper} {a : Act} {K : Act → World → Prop} {Q : Exit → Act → World → Prop} {E : Prop} (hgd : o.guard = none) (s x : Operand) (t : TypeId)
    (ho : o.op = .call { callee := .builtin .append, args := #[s, x], argTypes := #[t, t] })
    (base : Nat) (e : TypeId) (z : Value) (bytes : Nat) (ht : P.underlying t = some (.slice e)) (hinfo : (P.info? e).map (fun i => (i.zero, i.size, i.bytes)) = some (some z, 1, bytes)) (hzs : z.cells.size = 1)
    (A : Option Addr) (n c : Nat) (xs : List Value) (hs : a.eval s = .slice A n c) (hown : Own w base e A n c xs)
    (B : Option Addr) (m d : Nat) (news : List Value) (hx : a.eval x = .slice B m d) (hr : Rd w B m news) (h1 : ∀ u ∈ news, u.oneCell' = true)
    (h63 : n + m ≤ maxLen) (hbytes : (n + m) * bytes ≤ 140737488355328) (hbase : base ≤ w.heap.size)
    (h : ∀ A' c' w', Own w' base e A' (n + m) c' (xs ++ news) → w.grownBy w' (blk A) → (blk A' = blk A ∨ blk A' = some w.heap.size) → K (a.put o.dst (.slice A' (n + m) c')) w') :
    if Region.wanted o (yielded ops a.tmps) = true then Oper.wp P o a w K Q else E := by
  have hw : Region.wanted o (yielded ops a.tmps) = true := by simp [Region.wanted, hgd]
  rw [if_pos hw]
  exact wp_append_any w s x t ho base e z bytes ht hinfo hzs A n c xs hs hown B m d news hx hr h1 h63 hbytes hbase h
/-- Two rows of rows, the second one appended to the first one. -/
theorem OwnS.cat {w w3 : World} {lo lo2 n1 n2 c3 : Nat} {A1 A3 : Option Addr} {D2 : Nat → Prop} {z1 z2 : List (List Int)} {vs1 vs2 : List Value}
    (h1 : z1.length = n1) (r1 : All2 (Rw w lo fun g => blk A1 ≠ some g) vs1 z1) (h2 : z2.length = n2) (r2 : All2 (Rw w lo2 D2) vs2 z2) (hlo : lo ≤ lo2) (hd : ∀ g, blk A1 = some g → g < lo2)
    (ho : Own w3 lo 30 A3 (n1 + n2) c3 (vs1 ++ vs2)) (hg : w.grownBy w3 (blk A1)) (hat : ∀ g, blk A3 = some g → blk A1 = some g ∨ w.heap.size ≤ g) : OwnS w3 lo A3 (n1 + n2) c3 (z1 ++ z2) := by
  have hD : ∀ g, g < w.heap.size → blk A1 ≠ some g → blk A3 ≠ some g := fun g h1 h2 h3 => by
    rcases hat g h3 with h | h
    · exact h2 h
    · omega
  have hN : ∀ g, lo2 ≤ g → blk A1 ≠ some g := fun g h1 h2 => by have := hd g h2; omega
  refine ⟨by simp [h1, h2], _, ho, (r1.mono fun v z k => k.keep fun g h1 h2 h3 => ⟨hg.block g h2 (fun e => h3 e.symm), hD g h2 h3⟩).append (r2.mono fun v z k => (k.keep fun g h1 h2 h3 => ⟨hg.block g h2 (fun e => hN g h1 e.symm), hD g h2 (hN g h1)⟩).more hlo)⟩
theorem hat_of {w : World} {A3 A1 : Option Addr} (h : blk A3 = blk A1 ∨ blk A3 = some w.heap.size) : ∀ g, blk A3 = some g → blk A1 = some g ∨ w.heap.size ≤ g := fun g e => by
  rcases h with h | h
  · exact .inl (by rw [← h]; exact e)
  · rw [h] at e; injection e with e; exact .inr (by omega)
theorem below_drewR {B : Nat} {a b : World} (h : Below B a b) : Below B a.drew b := ⟨h.os, h.tape, h.output, h.size, h.block⟩
/-- The wires from a on. -/
def wirL (a n : Nat) : List Int := (List.range n).map fun i => ((a + i : Nat) : Int)
theorem wirL_succ (a k : Nat) : wirL a (k + 1) = wirL a k ++ [((a + k : Nat) : Int)] := by simp [wirL, List.range_succ]
set_option maxHeartbeats 1000000 in
theorem specWires (a n : Nat) (w : World) (h : a + n ≤ 60) : Calls Tryz.prog 34 #[.int .i64 a, .int .i64 n] w fun e w' => ∃ A c, e = .returned (.slice A n c) ∧ OwnI w' w.heap.size 3 A n c (wirL a n) ∧ Below w.heap.size w w' := by
  obtain ⟨B, hB⟩ : ∃ B, w.heap.size = B := ⟨_, rfl⟩
  have HO := Lib.hid (show OwnI (w.alloc (.cells #[] 3)) B 3 (some ⟨B, 0, none⟩) 0 0 (wirL a 0) from own_emptyA w 3 B hB)
  have HL := Lib.hid (show Below B w (w.alloc (.cells #[] 3)) from hB ▸ below_alloc w _)
  rw [hB]
  go_enter Tryz.func34, Tryz.ntmps34
  go_wp2_with fail
  go_loopw [5, 6] (fun ov iv wr => ∃ k : Nat, ∃ A c, ov = .slice A k c ∧ iv = .int .i64 (k : Nat) ∧ k ≤ n ∧ OwnI wr B 3 A k c (wirL a k) ∧ Below B w wr) (fun _ iv _ => n - (intOf iv).toNat)
  case atStart => exact ⟨0, _, _, rfl, rfl, Nat.zero_le _, HO.out, HL.out⟩
  case round =>
    clear HO HL
    obtain ⟨k, A, c, rfl, rfl, hk, ho, hbl⟩ := hrel
    by_cases hlt : k < n
    · obtain ⟨x, hx⟩ : ∃ x, a + k = x := ⟨_, rfl⟩
      have ex : (a : Int) + (k : Int) = (x : Int) := by omega
      have hx60 : x ≤ 60 := by omega
      have HS := Lib.hid (show wirL a (k + 1) = wirL a k ++ [(x : Int)] by rw [wirL_succ, hx])
      have HOW := Lib.hid ho
      have HBL := Lib.hid hbl
      have hsz : B ≤ wr.heap.size := by have := hbl.size; omega
      clear hx ho hbl
      go_wp2_with (at_builtin; refine wpL_append1 _ rfl _ _ _ rfl B 3 (.int .i64 0) 8 Tryz.underlying30 intInfo rfl _ k _ _ rfl HOW.out (.int .i64 (x : Int)) rfl rfl (by unfold maxLen; omega) (by omega) hsz ?_)
      intro A4 c4 w4 ho4 hg4 hat4
      have hb4 := below_of_grown HBL.out hg4 hsz (fun g e => (HOW.out.blk_ g e).1)
      have HO4 := Lib.hid (show OwnI w4 B 3 A4 (k + 1) c4 (wirL a (k + 1)) by rw [HS.out, OwnI, List.map_append]; exact ho4)
      clear ho4 hg4 hat4
      go_wp2_with fail
      go_roundw
      case rel => exact ⟨k + 1, A4, c4, rfl, by go_num, by omega, HO4.out, hb4⟩
      case measure => (simp [intOf] <;> omega)
    · obtain rfl : k = n := by omega
      go_wp2_with fail
      go_ret
      exact ⟨_, _, rfl, ho, hbl⟩

/-- Every second entry, from f on. -/
def halfT (zs : List Int) (f k : Nat) : List Int := (List.range k).map fun j => nth zs (f + 2 * j)
theorem halfT_succ (zs : List Int) (f k : Nat) : halfT zs f (k + 1) = halfT zs f k ++ [nth zs (f + 2 * k)] := by simp [halfT, List.range_succ]
set_option maxHeartbeats 1000000 in
theorem specHalf (A : Option Addr) (n c f : Nat) (zs : List Int) (w : World) (ha : RdI w A n zs) (hn : n ≤ 60) (hf : f ≤ 1) : Calls Tryz.prog 76 #[.slice A n c, .int .i64 f] w fun e w' => ∃ A' c', e = .returned (.slice A' ((n + 1 - f) / 2 : Nat) c') ∧ OwnI w' w.heap.size 3 A' ((n + 1 - f) / 2) c' (halfT zs f ((n + 1 - f) / 2)) ∧ Below w.heap.size w w' := by
  obtain ⟨B, hB⟩ : ∃ B, w.heap.size = B := ⟨_, rfl⟩
  have HO := Lib.hid (show OwnI (w.alloc (.cells #[] 3)) B 3 (some ⟨w.heap.size, 0, none⟩) 0 0 (halfT zs f 0) from hB ▸ own_empty w 3)
  have HL := Lib.hid (show Below B w (w.alloc (.cells #[] 3)) from hB ▸ below_alloc w _)
  have HA := Lib.hid ha
  have HB := Lib.hid hB
  rw [hB]
  clear ha hB
  go_enter Tryz.func76, Tryz.ntmps76
  go_wp2_with fail
  go_loopw [5, 6] (fun ov iv wr => ∃ k i : Nat, ∃ A c, ov = .slice A k c ∧ iv = .int .i64 (i : Nat) ∧ i ≤ n + 1 ∧ Hid (i = f + 2 * k) ∧ OwnI wr B 3 A k c (halfT zs f k) ∧ Below B w wr) (fun _ iv _ => n - (intOf iv).toNat)
  case atStart => exact ⟨0, f, _, _, rfl, rfl, by omega, Lib.hid (by omega), HO.out, HL.out⟩
  case round =>
    clear HO HL
    obtain ⟨k, i, A2, c2, rfl, rfl, hk, HI, ho, hbl⟩ := hrel
    by_cases hlt : i < n
    · obtain ⟨ad, rfl, _, hc⟩ := (HA.out.below (by rw [HB.out]; exact hbl)).at_ hlt
      have HS := Lib.hid (show halfT zs f (k + 1) = halfT zs f k ++ [nth zs i] by rw [halfT_succ, HI.out])
      have HK := Lib.hid (show k ≤ i by have := HI.out; omega)
      have HOW := Lib.hid ho
      have HBL := Lib.hid hbl
      have hsz : B ≤ wr.heap.size := by have := hbl.size; rw [HB.out] at this; exact this
      clear ho hbl
      go_wp2_with (at_builtin; refine wpL_append1 _ rfl _ _ _ rfl B 3 (.int .i64 0) 8 Tryz.underlying30 intInfo rfl _ k _ _ rfl HOW.out (.int .i64 (nth zs i)) rfl rfl (by have := HK.out; unfold maxLen; omega) (by have := HK.out; omega) hsz ?_)
      intro A4 c4 w4 ho4 hg4 hat4
      have hb4 := below_of_grown HBL.out hg4 hsz (fun g e => (HOW.out.blk_ g e).1)
      have HO4 := Lib.hid (show OwnI w4 B 3 A4 (k + 1) c4 (halfT zs f (k + 1)) by rw [HS.out, OwnI, List.map_append]; exact ho4)
      clear ho4 hg4 hat4
      go_wp2_with fail
      go_roundw
      case rel => exact ⟨k + 1, i + 2, A4, c4, rfl, by go_num, by omega, Lib.hid (by have := HI.out; omega), HO4.out, hb4⟩
      case measure => (simp [intOf] <;> omega)
    · have HE := Lib.hid (show k = (n + 1 - f) / 2 by have := HI.out; omega)
      go_wp2_with fail
      go_ret
      exact ⟨A2, c2, by rw [← HE.out]; rfl, by rw [← HE.out]; exact ho, hbl⟩

/-- The program merges the lists a and b by the comparators z. -/
def MrgC (a b : List Int) (z : List (List Int)) : Prop := ∀ (A : Option Addr) (m c : Nat) (B : Option Addr) (n d : Nat) (w : World), RdI w A m a → RdI w B n b → Calls Tryz.prog 66 #[.slice A m c, .slice B n d] w fun e w' => ∃ A' k c', e = .returned (.slice A' k c') ∧ OwnS w' w.heap.size A' k c' z ∧ Below w.heap.size w w'
theorem merge_nil (x : Int) : MrgC [x] [] [] := by
  intro A m c B n d w ha hb
  obtain rfl : 1 = m := ha.lenI
  obtain rfl : 0 = n := hb.lenI
  go_enter Tryz.func66, Tryz.ntmps66
  go_wp2_with fail
  go_ret
  exact ⟨_, _, _, rfl, ⟨rfl, [], own_empty w _, trivial⟩, below_alloc w _⟩
theorem nth_one (x : Int) : nth [x] 0 = x := rfl
set_option maxHeartbeats 2000000 in
theorem merge_one (x y : Nat) : MrgC [(x : Int)] [(y : Int)] [pr x y] := by
  intro A m c B n d w ha hb
  obtain rfl : 1 = m := ha.lenI
  obtain rfl : 1 = n := hb.lenI
  obtain ⟨ax, rfl, lx, cx⟩ := ha.at_ (show 0 < 1 by omega)
  obtain ⟨ay, rfl, ly, cy⟩ := hb.at_ (show 0 < 1 by omega)
  have cx : w.cell? ax = some (.int .i64 (x : Int)) := cx
  have cy : w.cell? ay = some (.int .i64 (y : Int)) := cy
  clear ha hb
  go_enter Tryz.func66, Tryz.ntmps66
  go_wp2_with fail
  refine wp_region_held_drew (S := (fun w' => w'.cell? ax = some (.int .i64 (x : Int)) ∧ w'.cell? ay = some (.int .i64 (y : Int)))) (by kernel_rfl) ?_ (fun hHeld => ?_)
  · exact ⟨cx, cy⟩
  refine wpAnyH_take (i := 0) (oi := { dst := _, op := _, type := _, pos := _, after := _, guard := none }) (v := ?_) rfl (by kernel_rfl) (by kernel_rfl) (by kernel_rfl) (fun _ _ _ h => h) (Or.inl ⟨by rfl, ?_⟩) (by assumption) ?_
  rotate_left
  · intro w hSw; (try dsimp only at hSw); go_simp; (try with_reducible rfl)
  try simp only [Act.put, List.setIfInBounds_toArray, List.set_cons_zero, List.set_cons_succ]
  refine wpAnyH_take (i := 1) (oi := { dst := _, op := _, type := _, pos := _, after := _, guard := none }) (v := ?_) rfl (by kernel_rfl) (by kernel_rfl) (by kernel_rfl) (fun _ _ _ h => h) (Or.inl ⟨by rfl, ?_⟩) (by assumption) ?_
  rotate_left
  · intro w hSw; (try dsimp only at hSw); go_simp; (try with_reducible rfl)
  try simp only [Act.put, List.setIfInBounds_toArray, List.set_cons_zero, List.set_cons_succ]
  refine wpAnyH_take (i := 2) (oi := { dst := _, op := _, type := _, pos := _, after := _, guard := none }) (v := ?_) rfl (by kernel_rfl) (by kernel_rfl) (by kernel_rfl) (fun _ _ _ h => h) (Or.inl ⟨by rfl, ?_⟩) (by assumption) ?_
  rotate_left
  · intro w hSw; (try dsimp only at hSw); go_simp; (try with_reducible rfl)
  try simp only [Act.put, List.setIfInBounds_toArray, List.set_cons_zero, List.set_cons_succ]
  refine wpAnyH_take (i := 3) (oi := { dst := _, op := _, type := _, pos := _, after := _, guard := none }) (v := ?_) rfl (by kernel_rfl) (by kernel_rfl) (by kernel_rfl) (fun _ _ _ h => h) (Or.inl ⟨by rfl, ?_⟩) (by assumption) ?_
  rotate_left
  · intro w hSw; (try dsimp only at hSw); go_simp; (try with_reducible rfl)
  try simp only [Act.put, List.setIfInBounds_toArray, List.set_cons_zero, List.set_cons_succ]
  refine wpAnyH_take (i := 4) (oi := { dst := _, op := _, type := _, pos := _, after := _, guard := none }) (v := ?_) rfl (by kernel_rfl) (by kernel_rfl) (by kernel_rfl) (fun _ _ _ h => h) (Or.inl ⟨by rfl, ?_⟩) (by assumption) ?_
  rotate_left
  · intro w hSw; (try dsimp only at hSw); go_simp; (try with_reducible rfl)
  try simp only [Act.put, List.setIfInBounds_toArray, List.set_cons_zero, List.set_cons_succ]
  refine wpAnyH_take (i := 5) (oi := { dst := _, op := _, type := _, pos := _, after := _, guard := none }) (v := ?_) rfl (by kernel_rfl) (by kernel_rfl) (by kernel_rfl) (fun _ _ _ h => h) (Or.inl ⟨by rfl, ?_⟩) (by assumption) ?_
  rotate_left
  · intro w hSw; (try dsimp only at hSw); go_simp; (try with_reducible rfl)
  try simp only [Act.put, List.setIfInBounds_toArray, List.set_cons_zero, List.set_cons_succ]
  refine wpAnyH_ready (rs := [6]) (by kernel_rfl) (by simp) ?_
  refine AllReadyH.cons rfl (fun K hK => ?_) AllReadyH.nil
  go_simp
  try go_simp
  refine hK.out _ _ ⟨((below_alloc w.drew _).cell (p := ax) lx).trans cx, ((below_alloc w.drew _).cell (p := ay) ly).trans cy⟩ (fun hHeld1 => ?_)
  clear hK K
  try simp only [Act.put, List.setIfInBounds_toArray, List.set_cons_zero, List.set_cons_succ]
  refine wpAnyH_ready (rs := [7]) (by kernel_rfl) (by simp) ?_
  refine AllReadyH.cons rfl (fun K hK => ?_) AllReadyH.nil
  go_simp
  try go_simp
  refine hK.out _ _ ⟨((below_alloc (w.drew.alloc (.cells #[.int .i64 (x : Int), .int .i64 (y : Int)] 3)) _).cell (p := ax) (by show ax.block < _; simp; omega)).trans (((below_alloc w.drew _).cell (p := ax) lx).trans cx), ((below_alloc (w.drew.alloc (.cells #[.int .i64 (x : Int), .int .i64 (y : Int)] 3)) _).cell (p := ay) (by show ay.block < _; simp; omega)).trans (((below_alloc w.drew _).cell (p := ay) ly).trans cy)⟩ (fun hHeld2 => ?_)
  clear hK K
  try simp only [Act.put, List.setIfInBounds_toArray, List.set_cons_zero, List.set_cons_succ]
  refine wpAnyH_take (i := 8) (oi := { dst := _, op := _, type := _, pos := _, after := _, guard := none }) (v := ?_) rfl (by kernel_rfl) (by kernel_rfl) (by kernel_rfl) (fun _ _ _ h => h) (Or.inl ⟨by rfl, ?_⟩) (by assumption) ?_
  rotate_left
  · intro w hSw; (try dsimp only at hSw); go_simp; (try with_reducible rfl)
  try simp only [Act.put, List.setIfInBounds_toArray, List.set_cons_zero, List.set_cons_succ]
  refine wpAnyH_done (by kernel_rfl) ?_ _
  go_wp2_with fail
  go_ret
  refine ⟨_, _, _, rfl, ⟨rfl, [.slice (some ⟨w.heap.size, 0, none⟩) 2 2], ?_, All2.one ⟨some ⟨w.heap.size, 0, none⟩, 2, 2, rfl, ?_, fun g hg => ?_⟩⟩, ?_⟩
  · have h : Own ((w.alloc (.cells #[.int .i64 (x : Int), .int .i64 (y : Int)] 3)).alloc (.cells #[.slice (some ⟨w.heap.size, 0, none⟩) 2 2] 30)) w.heap.size 30 (some ⟨w.heap.size + 1, 0, none⟩) 1 1 [.slice (some ⟨w.heap.size, 0, none⟩) 2 2] := by
      have h := World.ownsRow_lit (base := w.heap.size) (e := 30) (size := 1) (w.alloc (.cells #[.int .i64 (x : Int), .int .i64 (y : Int)] 3)) #[.slice (some ⟨w.heap.size, 0, none⟩) 2 2] 1 (by simp) (by unfold maxLen; omega) rfl
      unfold Own
      simpa using h
    exact h.drew
  · exact Own.alloc (own_pair2 w x y).drew _
  · simp [blk] at hg ⊢; omega
  · exact ((below_alloc w (.cells #[.int .i64 (x : Int), .int .i64 (y : Int)] 3)).alloc (by simp) (.cells #[.slice (some ⟨w.heap.size, 0, none⟩) 2 2] 30)).drew
set_option maxHeartbeats 4000000 in
theorem merge_two (b b1 : List Int) (nb : Nat) (z0 z1 : List (List Int)) (hnb : nb = 1 ∨ nb = 2) (hb : b.length = nb) (hb0 : halfT b 0 1 = [2]) (hb1 : halfT b 1 (nb - 1) = b1) (hl1 : b1.length = nb - 1) (hz0 : z0.length ≤ 10) (hz1 : z1.length ≤ 10)
    (m0 : MrgC [0] [2] z0) (m1 : MrgC [1] b1 z1) : MrgC [0, 1] b (z0 ++ z1 ++ [pr 1 2]) := by
  intro A m c B n d w ha hbr
  obtain rfl : 2 = m := ha.lenI
  obtain rfl : nb = n := hb ▸ hbr.lenI
  obtain ⟨lo, hlo⟩ : ∃ lo, w.heap.size = lo := ⟨_, rfl⟩
  have HHA := Lib.hid (fun wx (h : RdI wx A 2 [0, 1]) => show Calls Tryz.prog 76 #[.slice A 2 c, .int .i64 0] wx fun e w' => ∃ A' c', e = .returned (.slice A' 1 c') ∧ OwnI w' wx.heap.size 3 A' 1 c' [0] ∧ Below wx.heap.size wx w' from specHalf A 2 c 0 [0, 1] wx h (by omega) (by omega))
  have HHB := Lib.hid (fun wx (h : RdI wx A 2 [0, 1]) => show Calls Tryz.prog 76 #[.slice A 2 c, .int .i64 1] wx fun e w' => ∃ A' c', e = .returned (.slice A' 1 c') ∧ OwnI w' wx.heap.size 3 A' 1 c' [1] ∧ Below wx.heap.size wx w' from specHalf A 2 c 1 [0, 1] wx h (by omega) (by omega))
  have HHC := Lib.hid (fun wx (h : RdI wx B nb b) => show Calls Tryz.prog 76 #[.slice B nb d, .int .i64 0] wx fun e w' => ∃ A' c', e = .returned (.slice A' 1 c') ∧ OwnI w' wx.heap.size 3 A' 1 c' [2] ∧ Below wx.heap.size wx w' from by
    have h1 := specHalf B nb d 0 b wx h (by omega) (by omega)
    rw [show (nb + 1 - 0) / 2 = 1 by omega, hb0] at h1
    exact h1)
  have HHD := Lib.hid (fun wx (h : RdI wx B nb b) => show Calls Tryz.prog 76 #[.slice B nb d, .int .i64 1] wx fun e w' => ∃ A' c', e = .returned (.slice A' (nb - 1 : Nat) c') ∧ OwnI w' wx.heap.size 3 A' (nb - 1) c' b1 ∧ Below wx.heap.size wx w' from by
    have h1 := specHalf B nb d 1 b wx h (by omega) (by omega)
    rw [show (nb + 1 - 1) / 2 = nb - 1 by omega, hb1] at h1
    exact h1)
  have HM0 := Lib.hid m0
  have HM1 := Lib.hid m1
  have HA := Lib.hid ha
  have HB := Lib.hid hbr
  obtain ⟨k1, hk1⟩ : ∃ k1, nb - 1 = k1 := ⟨_, rfl⟩
  have e0 : ((nb : Int) == 0) = false := by rw [beq_eq_false_iff_ne]; omega
  rw [hk1] at HHD hl1
  have hkk : k1 ≤ 1 := by omega
  have hnk : nb = k1 + 1 := by omega
  clear m0 m1 ha hbr hb0 hb1 hb hnb hk1
  subst hnk
  go_enter Tryz.func66, Tryz.ntmps66
  go_wp2_with fail
  refine (HHA.out w HA.out).mono ?_
  rintro e w1 ⟨Aa, ca, rfl, oa, ba1⟩
  have hb1 := HB.out.below ba1
  go_wp2_with fail
  refine (HHC.out w1 hb1).mono ?_
  rintro e w2 ⟨Ab, cb, rfl, ob, ba2⟩
  have s2 : lo ≤ w2.heap.size := by have h1 := ba1.size; have h2 := ba2.size; omega
  go_wp2_with fail
  refine (HM0.out Aa 1 ca Ab 1 cb w2 (oa.below ba2).rd ob.rd).mono ?_
  rintro e w3 ⟨A5, n5, c5, rfl, hs5, ba3⟩
  have bw3 : Below lo w w3 := hlo ▸ ((ba1.trans (ba2.mono (by have h1 := ba1.size; omega))).trans (ba3.mono (by omega)))
  have HS5 := Lib.hid hs5
  have h5a : ∀ g, blk A5 = some g → w2.heap.size ≤ g ∧ g < w3.heap.size := fun g e => by obtain ⟨_, _, hv, _⟩ := hs5; exact hv.blk_ g e
  have hn5 : n5 ≤ 10 := by rw [← hs5.1]; exact hz0
  have HA3 := HA.out.below (by rw [hlo]; exact bw3)
  have HB3 := HB.out.below (by rw [hlo]; exact bw3)
  have s3 : w2.heap.size ≤ w3.heap.size := ba3.size
  have HBW3 := Lib.hid bw3
  clear hs5 oa ob hb1 ba1 ba2 ba3 bw3
  go_wp2_with fail
  refine (HHB.out w3 HA3).mono ?_
  rintro e w4 ⟨Ac, cc, rfl, oc, ba4⟩
  have hb4 := HB3.below ba4
  go_wp2_with fail
  refine (HHD.out w4 hb4).mono ?_
  rintro e w5 ⟨Ad, cd, rfl, od, ba5⟩
  have s5 : w3.heap.size ≤ w5.heap.size := by have h1 := ba4.size; have h2 := ba5.size; omega
  go_wp2_with fail
  refine (HM1.out Ac 1 cc Ad k1 cd w5 (oc.below ba5).rd od.rd).mono ?_
  rintro e w6 ⟨A6, n6, c6, rfl, hs6, ba6⟩
  have hn6 : n6 ≤ 10 := by rw [← hs6.1]; exact hz1
  have bw36 : Below w3.heap.size w3 w6 := (ba4.trans (ba5.mono (by have h1 := ba4.size; omega))).trans (ba6.mono s5)
  have hs56 := HS5.out.below bw36
  obtain ⟨hl5, vs5, v5, r5⟩ := hs56
  obtain ⟨hl6, vs6, v6, r6⟩ := hs6
  have s6 : w5.heap.size ≤ w6.heap.size := ba6.size
  have HB6 := Lib.hid (HBW3.out.trans (bw36.mono (by omega)))
  have one6 := all2_one r6 (fun v z h => h.one)
  have H5A := Lib.hid h5a
  have HR5 := Lib.hid r5
  have HR6 := Lib.hid r6
  have HL5 := Lib.hid hl5
  have HL6 := Lib.hid hl6
  clear HA3 HB3 hb4 oc od ba4 ba5 ba6 bw36 r5 r6 hl5 hl6 h5a
  go_wp2_with (at_builtin; refine wpL_append _ rfl _ _ _ rfl lo 30 (.slice none 0 0) 24 Tryz.underlying25 sliceInfo rfl _ n5 _ _ rfl (v5.more (show lo ≤ w2.heap.size by omega)) A6 n6 c6 vs6 rfl v6.rd one6 (by unfold maxLen; omega) (by omega) (by omega) ?_)
  intro A7 c7 w7 ho7 hg7 hat7
  have hS7 := OwnS.cat (lo := lo) HL5.out (HR5.out.mono fun v z k => k.more (by omega)) HL6.out HR6.out (by omega) (fun g e => by have := H5A.out g e; omega) ho7 hg7 (hat_of hat7)
  have hb7 := below_of_grown HB6.out hg7 (by omega) (fun g e => by have := (H5A.out g e).1; omega)
  have s7 : lo ≤ w7.heap.size := by have := hg7.size; omega
  have HS7 := Lib.hid hS7
  have HB7 := Lib.hid hb7
  have ha7 := HA.out.below (by rw [hlo]; exact hb7)
  have hbb7 := HB.out.below (by rw [hlo]; exact hb7)
  clear v5 v6 hS7 hb7 hg7 hat7 ho7
  go_wp2_with fail
  refine (HHA.out w7 ha7).mono ?_
  rintro e w8 ⟨Ag, cg, rfl, og, ba8⟩
  have hb8 := hbb7.below ba8
  go_wp2_with fail
  refine (HHC.out w8 hb8).mono ?_
  rintro e w9 ⟨Ah, ch, rfl, oh, ba9⟩
  have s8 := ba8.size
  have s9 := ba9.size
  have og9 := og.below ba9
  have ba79 : Below w7.heap.size w7 w9 := ba8.trans (ba9.mono s8)
  clear ha7 hbb7 hb8 og ba8 ba9
  go_wp2_with (at_builtin; refine wpL_append _ rfl _ _ _ rfl w7.heap.size 3 (.int .i64 0) 8 Tryz.underlying30 intInfo rfl _ 1 _ _ rfl og9 Ah 1 ch ([2].map (Value.int .i64)) rfl oh.rd (ints_one _) (by unfold maxLen; omega) (by omega) (by omega) ?_)
  intro Av cv w10 ov hg10 hat10
  have ba10 := below_of_grown ba79 hg10 (by omega) (fun g e => (og9.blk_ g e).1)
  have ov : OwnI w10 w7.heap.size 3 Av 2 cv [0, 2] := ov
  have HB10 := Lib.hid (HB7.out.trans (ba10.mono s7))
  have s10 := ba10.size
  have ha10 := HA.out.below (by rw [hlo]; exact HB10.out)
  have hbb10 := HB.out.below (by rw [hlo]; exact HB10.out)
  have HS10 := Lib.hid (HS7.out.below ba10)
  obtain ⟨gv, _, eAv, _, _, _, _, _⟩ := ov.at_ (show 0 < 2 by omega)
  subst eAv
  have hgv := ov.blk_ gv rfl
  have HV10 := Lib.hid ov
  clear ov og9 oh ba79 hg10 hat10
  go_wp2_with fail
  refine (HHB.out w10 ha10).mono ?_
  rintro e w11 ⟨Ag, cg, rfl, og, ba8⟩
  have hb8 := hbb10.below ba8
  go_wp2_with fail
  refine (HHD.out w11 hb8).mono ?_
  rintro e w12 ⟨Ah, ch, rfl, oh, ba9⟩
  have s11 := ba8.size
  have s12 := ba9.size
  have og9 := og.below ba9
  have ba79 : Below w10.heap.size w10 w12 := ba8.trans (ba9.mono s11)
  clear ha10 hbb10 hb8 og ba8 ba9
  go_wp2_with (at_builtin; refine wpL_append _ rfl _ _ _ rfl w10.heap.size 3 (.int .i64 0) 8 Tryz.underlying30 intInfo rfl _ 1 _ _ rfl og9 Ah k1 ch (b1.map (Value.int .i64)) rfl oh.rd (ints_one _) (by unfold maxLen; omega) (by omega) (by omega) ?_)
  intro Aw cw w13 ow hg13 hat13
  have ba13 := below_of_grown ba79 hg13 (by omega) (fun g e => (og9.blk_ g e).1)
  have ow : OwnI w13 w10.heap.size 3 Aw (1 + k1) cw (1 :: b1) := ow
  have HB13 := Lib.hid (HB10.out.trans (ba13.mono (by omega)))
  have HS13 := Lib.hid (HS10.out.below ba13)
  have HV13 := Lib.hid ((HV10.out.below ba13).more s7)
  obtain ⟨gw, _, eAw, _, _, _, _, _⟩ := ow.at_ (show 0 < 1 + k1 by omega)
  subst eAw
  have hgw := ow.blk_ gw rfl
  have HW13 := Lib.hid (ow.more (show lo ≤ w10.heap.size by omega))
  have HAG := Lib.hid (show ∀ g, blk A7 = some g → g ≠ gv ∧ g ≠ gw from fun g e => by
    obtain ⟨_, vs, hv, _⟩ := HS7.out
    have := (hv.blk_ g e).2
    omega)
  have HW0 := Lib.hid (show nth (1 :: b1) 0 = 1 from rfl)
  have hnb0 : 0 < 1 + k1 := by omega
  have hmin : min (1 : Int) 2 = 1 := by decide
  have hmax : max (1 : Int) 2 = 2 := by decide
  clear ow og9 oh ba79 hg13 hat13 ba10 ba13
  go_wp2_with fail
  go_loopw [5, 8] (fun ov iv wr => ∃ i n5 : Nat, ∃ A5 c5 z, ov = .slice A5 n5 c5 ∧ iv = .int .i64 (i : Nat) ∧ i ≤ 1 ∧ n5 ≤ 20 + i ∧ Hid (z = if i = 0 then z0 ++ z1 else z0 ++ z1 ++ [pr 1 2]) ∧ OwnS wr lo A5 n5 c5 z ∧ Hid (∀ g, blk A5 = some g → g ≠ gv ∧ g ≠ gw) ∧ OwnI wr lo 3 (some ⟨gv, 0, none⟩) 2 cv [0, 2] ∧ OwnI wr lo 3 (some ⟨gw, 0, none⟩) (1 + k1) cw (1 :: b1) ∧ Below lo w wr) (fun _ iv _ => 1 - (intOf iv).toNat)
  case atStart => exact ⟨0, n5 + n6, A7, c7, z0 ++ z1, rfl, rfl, by omega, by omega, Lib.hid rfl, HS13.out, HAG, HV13.out, HW13.out, HB13.out⟩
  case round =>
    clear HS13 HV13 HW13 HB13 HAG HS7 HS5 HB7 HB10 HS10 HV10 HA HB H5A HR5 HR6 HL5 HL6 HB6 HBW3
    obtain ⟨i, n5, A5, c5, z5, rfl, rfl, hi, hn5, HZ, hS, HA5, hV, hW, hbl⟩ := hrel
    rcases Nat.eq_zero_or_pos i with hi0 | hi0
    · subst hi0
      obtain ⟨hl5, vs5, v5, r5⟩ := hS
      have hszr : lo ≤ wr.heap.size := by have := hbl.size; omega
      obtain ⟨cw, _⟩ := own_cell hW hnb0
      obtain ⟨cv, _⟩ := own_cell hV (show 1 < 2 by omega)
      rw [HW0.out] at cw
      rw [show nth [0, 2] 1 = 2 from rfl] at cv
      have lw := (hW.blk_ gw rfl).2
      have lv := (hV.blk_ gv rfl).2
      have hw1 : IntKind.i64.wrap 1 = 1 := by decide
      have HOZ := Lib.hid (show Own ((wr.drew.alloc (.cells #[.int .i64 1, .int .i64 2] 3)).alloc (.cells #[.slice (some ⟨wr.heap.size, 0, none⟩) 2 2] 30)) lo 30 A5 n5 c5 vs5 from (v5.drew.alloc _).alloc _)
      have HBZ0 : Below wr.heap.size wr ((wr.drew.alloc (.cells #[.int .i64 1, .int .i64 2] 3)).alloc (.cells #[.slice (some ⟨wr.heap.size, 0, none⟩) 2 2] 30)) := below_drew2 ((below_alloc wr.drew (.cells #[.int .i64 1, .int .i64 2] 3)).alloc (by simp) (.cells #[.slice (some ⟨wr.heap.size, 0, none⟩) 2 2] 30))
      have HRD := Lib.hid (show Rd ((wr.drew.alloc (.cells #[.int .i64 1, .int .i64 2] 3)).alloc (.cells #[.slice (some ⟨wr.heap.size, 0, none⟩) 2 2] 30)) (some ⟨wr.heap.size + 1, 0, none⟩) 1 [.slice (some ⟨wr.heap.size, 0, none⟩) 2 2] from by have h := rd_one (wr.drew.alloc (.cells #[.int .i64 1, .int .i64 2] 3)) (.slice (some ⟨wr.heap.size, 0, none⟩) 2 2) 30; simpa using h)
      have HRZ := Lib.hid (r5.mono fun v z k => k.keep fun g h1 h2 h3 => ⟨HBZ0.block g h2, h3⟩)
      have HPZ := Lib.hid (show OwnI ((wr.drew.alloc (.cells #[.int .i64 1, .int .i64 2] 3)).alloc (.cells #[.slice (some ⟨wr.heap.size, 0, none⟩) 2 2] 30)) lo 3 (some ⟨wr.heap.size, 0, none⟩) 2 2 (pr 1 2) from ((own_pair2 wr.drew 1 2).alloc _).more hszr)
      have HPN := Lib.hid (show ∀ g, blk (some (⟨wr.heap.size, 0, none⟩ : Addr)) = some g → blk A5 ≠ some g from fun g e e2 => by simp [blk] at e; have := (v5.blk_ g e2).2; omega)
      have HBZ := Lib.hid (hbl.trans (HBZ0.mono hszr))
      have HVZ := Lib.hid (hV.below HBZ0)
      have HWZ := Lib.hid (hW.below HBZ0)
      clear hV hW v5 r5 hbl HBZ0
      go_wp2_with fail
      refine wp_region_held_drew (S := (fun w' => w'.cell? ⟨gw, 0, none⟩ = some (.int .i64 1) ∧ w'.cell? ⟨gv, 1, none⟩ = some (.int .i64 2))) (by kernel_rfl) ?_ (fun hHeld => ?_)
      · exact ⟨cw, cv⟩
      refine wpAnyH_take (i := 0) (oi := { dst := _, op := _, type := _, pos := _, after := _, guard := none }) (v := ?_) rfl (by kernel_rfl) (by kernel_rfl) (by kernel_rfl) (fun _ _ _ h => h) (Or.inl ⟨by rfl, ?_⟩) (by assumption) ?_
      rotate_left
      · intro w hSw; (try dsimp only at hSw); go_simp; (try with_reducible rfl)
      try simp only [Act.put, List.setIfInBounds_toArray, List.set_cons_zero, List.set_cons_succ]
      refine wpAnyH_take (i := 1) (oi := { dst := _, op := _, type := _, pos := _, after := _, guard := none }) (v := ?_) rfl (by kernel_rfl) (by kernel_rfl) (by kernel_rfl) (fun _ _ _ h => h) (Or.inl ⟨by rfl, ?_⟩) (by assumption) ?_
      rotate_left
      · intro w hSw; (try dsimp only at hSw); go_simp; (try with_reducible rfl)
      try simp only [Act.put, List.setIfInBounds_toArray, List.set_cons_zero, List.set_cons_succ]
      refine wpAnyH_take (i := 2) (oi := { dst := _, op := _, type := _, pos := _, after := _, guard := none }) (v := ?_) rfl (by kernel_rfl) (by kernel_rfl) (by kernel_rfl) (fun _ _ _ h => h) (Or.inl ⟨by rfl, ?_⟩) (by assumption) ?_
      rotate_left
      · intro w hSw; (try dsimp only at hSw); go_simp; (try with_reducible rfl)
      try simp only [Act.put, List.setIfInBounds_toArray, List.set_cons_zero, List.set_cons_succ]
      refine wpAnyH_take (i := 3) (oi := { dst := _, op := _, type := _, pos := _, after := _, guard := none }) (v := ?_) rfl (by kernel_rfl) (by kernel_rfl) (by kernel_rfl) (fun _ _ _ h => h) (Or.inl ⟨by rfl, ?_⟩) (by assumption) ?_
      rotate_left
      · intro w hSw; (try dsimp only at hSw); go_simp; (try with_reducible rfl)
      try simp only [Act.put, List.setIfInBounds_toArray, List.set_cons_zero, List.set_cons_succ]
      refine wpAnyH_take (i := 4) (oi := { dst := _, op := _, type := _, pos := _, after := _, guard := none }) (v := ?_) rfl (by kernel_rfl) (by kernel_rfl) (by kernel_rfl) (fun _ _ _ h => h) (Or.inl ⟨by rfl, ?_⟩) (by assumption) ?_
      rotate_left
      · intro w hSw; (try dsimp only at hSw); go_simp; (try with_reducible rfl)
      try simp only [Act.put, List.setIfInBounds_toArray, List.set_cons_zero, List.set_cons_succ]
      refine wpAnyH_take (i := 5) (oi := { dst := _, op := _, type := _, pos := _, after := _, guard := none }) (v := ?_) rfl (by kernel_rfl) (by kernel_rfl) (by kernel_rfl) (fun _ _ _ h => h) (Or.inl ⟨by rfl, ?_⟩) (by assumption) ?_
      rotate_left
      · intro w hSw; (try dsimp only at hSw); go_simp; (try with_reducible rfl)
      try simp only [Act.put, List.setIfInBounds_toArray, List.set_cons_zero, List.set_cons_succ]
      refine wpAnyH_take (i := 6) (oi := { dst := _, op := _, type := _, pos := _, after := _, guard := none }) (v := ?_) rfl (by kernel_rfl) (by kernel_rfl) (by kernel_rfl) (fun _ _ _ h => h) (Or.inl ⟨by rfl, ?_⟩) (by assumption) ?_
      rotate_left
      · intro w hSw; (try dsimp only at hSw); go_simp; (try with_reducible rfl)
      try simp only [Act.put, List.setIfInBounds_toArray, List.set_cons_zero, List.set_cons_succ]
      refine wpAnyH_take (i := 7) (oi := { dst := _, op := _, type := _, pos := _, after := _, guard := none }) (v := ?_) rfl (by kernel_rfl) (by kernel_rfl) (by kernel_rfl) (fun _ _ _ h => h) (Or.inl ⟨by rfl, ?_⟩) (by assumption) ?_
      rotate_left
      · intro w hSw; (try dsimp only at hSw); go_simp; (try with_reducible rfl)
      try simp only [Act.put, List.setIfInBounds_toArray, List.set_cons_zero, List.set_cons_succ]
      refine wpAnyH_take (i := 8) (oi := { dst := _, op := _, type := _, pos := _, after := _, guard := none }) (v := ?_) rfl (by kernel_rfl) (by kernel_rfl) (by kernel_rfl) (fun _ _ _ h => h) (Or.inl ⟨by rfl, ?_⟩) (by assumption) ?_
      rotate_left
      · intro w hSw; (try dsimp only at hSw); go_simp; (try with_reducible rfl)
      try simp only [Act.put, List.setIfInBounds_toArray, List.set_cons_zero, List.set_cons_succ]
      refine wpAnyH_take (i := 9) (oi := { dst := _, op := _, type := _, pos := _, after := _, guard := none }) (v := ?_) rfl (by kernel_rfl) (by kernel_rfl) (by kernel_rfl) (fun _ _ _ h => h) (Or.inl ⟨by rfl, ?_⟩) (by assumption) ?_
      rotate_left
      · intro w hSw; (try dsimp only at hSw); go_simp; (try with_reducible rfl)
      try simp only [Act.put, List.setIfInBounds_toArray, List.set_cons_zero, List.set_cons_succ]
      refine wpAnyH_take (i := 10) (oi := { dst := _, op := _, type := _, pos := _, after := _, guard := none }) (v := ?_) rfl (by kernel_rfl) (by kernel_rfl) (by kernel_rfl) (fun _ _ _ h => h) (Or.inl ⟨by rfl, ?_⟩) (by assumption) ?_
      rotate_left
      · intro w hSw; (try dsimp only at hSw); go_simp; (try with_reducible rfl)
      try simp only [Act.put, List.setIfInBounds_toArray, List.set_cons_zero, List.set_cons_succ]
      refine wpAnyH_take (i := 11) (oi := { dst := _, op := _, type := _, pos := _, after := _, guard := none }) (v := ?_) rfl (by kernel_rfl) (by kernel_rfl) (by kernel_rfl) (fun _ _ _ h => h) (Or.inl ⟨by rfl, ?_⟩) (by assumption) ?_
      rotate_left
      · intro w hSw; (try dsimp only at hSw); go_simp; (try with_reducible rfl)
      try simp only [Act.put, List.setIfInBounds_toArray, List.set_cons_zero, List.set_cons_succ]
      refine wpAnyH_take (i := 12) (oi := { dst := _, op := _, type := _, pos := _, after := _, guard := none }) (v := ?_) rfl (by kernel_rfl) (by kernel_rfl) (by kernel_rfl) (fun _ _ _ h => h) (Or.inl ⟨by rfl, ?_⟩) (by assumption) ?_
      rotate_left
      · intro w hSw; (try dsimp only at hSw); go_simp; (try with_reducible rfl)
      try simp only [Act.put, List.setIfInBounds_toArray, List.set_cons_zero, List.set_cons_succ]
      refine wpAnyH_take (i := 13) (oi := { dst := _, op := _, type := _, pos := _, after := _, guard := none }) (v := ?_) rfl (by kernel_rfl) (by kernel_rfl) (by kernel_rfl) (fun _ _ _ h => h) (Or.inl ⟨by rfl, ?_⟩) (by assumption) ?_
      rotate_left
      · intro w hSw; (try dsimp only at hSw); go_simp; (try with_reducible rfl)
      try simp only [Act.put, List.setIfInBounds_toArray, List.set_cons_zero, List.set_cons_succ]
      refine wpAnyH_take (i := 14) (oi := { dst := _, op := _, type := _, pos := _, after := _, guard := none }) (v := ?_) rfl (by kernel_rfl) (by kernel_rfl) (by kernel_rfl) (fun _ _ _ h => h) (Or.inl ⟨by rfl, ?_⟩) (by assumption) ?_
      rotate_left
      · intro w hSw; (try dsimp only at hSw); go_simp; (try with_reducible rfl)
      try simp only [Act.put, List.setIfInBounds_toArray, List.set_cons_zero, List.set_cons_succ]
      refine wpAnyH_take (i := 15) (oi := { dst := _, op := _, type := _, pos := _, after := _, guard := none }) (v := ?_) rfl (by kernel_rfl) (by kernel_rfl) (by kernel_rfl) (fun _ _ _ h => h) (Or.inl ⟨by rfl, ?_⟩) (by assumption) ?_
      rotate_left
      · intro w hSw; (try dsimp only at hSw); go_simp; (try with_reducible rfl)
      try simp only [Act.put, List.setIfInBounds_toArray, List.set_cons_zero, List.set_cons_succ]
      refine wpAnyH_take (i := 16) (oi := { dst := _, op := _, type := _, pos := _, after := _, guard := none }) (v := ?_) rfl (by kernel_rfl) (by kernel_rfl) (by kernel_rfl) (fun _ _ _ h => h) (Or.inl ⟨by rfl, ?_⟩) (by assumption) ?_
      rotate_left
      · intro w hSw; (try dsimp only at hSw); go_simp; (try with_reducible rfl)
      try simp only [Act.put, List.setIfInBounds_toArray, List.set_cons_zero, List.set_cons_succ]
      refine wpAnyH_take (i := 17) (oi := { dst := _, op := _, type := _, pos := _, after := _, guard := none }) (v := ?_) rfl (by kernel_rfl) (by kernel_rfl) (by kernel_rfl) (fun _ _ _ h => h) (Or.inl ⟨by rfl, ?_⟩) (by assumption) ?_
      rotate_left
      · intro w hSw; (try dsimp only at hSw); go_simp; (try with_reducible rfl)
      try simp only [Act.put, List.setIfInBounds_toArray, List.set_cons_zero, List.set_cons_succ]
      refine wpAnyH_take (i := 18) (oi := { dst := _, op := _, type := _, pos := _, after := _, guard := none }) (v := ?_) rfl (by kernel_rfl) (by kernel_rfl) (by kernel_rfl) (fun _ _ _ h => h) (Or.inl ⟨by rfl, ?_⟩) (by assumption) ?_
      rotate_left
      · intro w hSw; (try dsimp only at hSw); go_simp; (try with_reducible rfl)
      try simp only [Act.put, List.setIfInBounds_toArray, List.set_cons_zero, List.set_cons_succ]
      refine wpAnyH_take (i := 19) (oi := { dst := _, op := _, type := _, pos := _, after := _, guard := none }) (v := ?_) rfl (by kernel_rfl) (by kernel_rfl) (by kernel_rfl) (fun _ _ _ h => h) (Or.inl ⟨by rfl, ?_⟩) (by assumption) ?_
      rotate_left
      · intro w hSw; (try dsimp only at hSw); go_simp; (try with_reducible rfl)
      try simp only [Act.put, List.setIfInBounds_toArray, List.set_cons_zero, List.set_cons_succ]
      refine wpAnyH_take (i := 20) (oi := { dst := _, op := _, type := _, pos := _, after := _, guard := none }) (v := ?_) rfl (by kernel_rfl) (by kernel_rfl) (by kernel_rfl) (fun _ _ _ h => h) (Or.inl ⟨by rfl, ?_⟩) (by assumption) ?_
      rotate_left
      · intro w hSw; (try dsimp only at hSw); go_simp; (try with_reducible rfl)
      try simp only [Act.put, List.setIfInBounds_toArray, List.set_cons_zero, List.set_cons_succ]
      refine wpAnyH_ready (rs := [21]) (by kernel_rfl) (by simp) ?_
      refine AllReadyH.cons rfl (fun K hK => ?_) AllReadyH.nil
      go_simp
      try go_simp
      refine hK.out _ _ ⟨((below_alloc wr.drew _).cell (p := ⟨gw, 0, none⟩) lw).trans cw, ((below_alloc wr.drew _).cell (p := ⟨gv, 1, none⟩) lv).trans cv⟩ (fun hHeld3 => ?_)
      clear hK K
      try simp only [Act.put, List.setIfInBounds_toArray, List.set_cons_zero, List.set_cons_succ]
      refine wpAnyH_ready (rs := [22]) (by kernel_rfl) (by simp) ?_
      refine AllReadyH.cons rfl (fun K hK => ?_) AllReadyH.nil
      go_simp
      try go_simp
      refine hK.out _ _ ⟨((below_alloc (wr.drew.alloc (.cells #[.int .i64 1, .int .i64 2] 3)) _).cell (p := ⟨gw, 0, none⟩) (by show gw < _; simp; omega)).trans (((below_alloc wr.drew _).cell (p := ⟨gw, 0, none⟩) lw).trans cw), ((below_alloc (wr.drew.alloc (.cells #[.int .i64 1, .int .i64 2] 3)) _).cell (p := ⟨gv, 1, none⟩) (by show gv < _; simp; omega)).trans (((below_alloc wr.drew _).cell (p := ⟨gv, 1, none⟩) lv).trans cv)⟩ (fun hHeld4 => ?_)
      clear hK K
      try simp only [Act.put, List.setIfInBounds_toArray, List.set_cons_zero, List.set_cons_succ]
      refine wpAnyH_ready (rs := [23]) (by kernel_rfl) (by simp) ?_
      refine AllReadyH.cons rfl (fun K hK => ?_) AllReadyH.nil
      refine step_append_any (w := ((wr.drew.alloc (.cells #[.int .i64 1, .int .i64 2] 3)).alloc (.cells #[.slice (some ⟨wr.heap.size, 0, none⟩) 2 2] 30))) (by rfl) _ _ _ (by rfl) lo 30 (.slice none 0 0) 24 Tryz.underlying25 sliceInfo rfl _ n5 _ _ (by rfl) HOZ.out (some ⟨wr.heap.size + 1, 0, none⟩) 1 1 [.slice (some ⟨wr.heap.size, 0, none⟩) 2 2] (by rfl) HRD.out (by simp [Value.oneCell']) (by unfold maxLen; omega) (by omega) (by simp; omega) ?_
      intro A7 c7 w7 ho7 hg7 hat7
      have hS7 := OwnS.push2 (x := pr 1 2) hl5 HOZ.out HRZ.out HPZ.out HPN.out ho7 hg7 (fun g e => by rcases hat7 with h | h; exact .inl (by rw [← h]; exact e); exact .inr (by rw [h] at e; injection e with e; omega))
      have hb7 := below_of_grown HBZ.out hg7 (by simp; omega) (fun g e => by have := (HOZ.out.blk_ g e).1; omega)
      have hv7 := HVZ.out.kept hg7 (fun g h1 h2 => by have h3 : gv = g := (by simpa [blk] using h1); have := HA5.out g h2.symm; omega)
      have hw7 := HWZ.out.kept hg7 (fun g h1 h2 => by have h3 : gw = g := (by simpa [blk] using h1); have := HA5.out g h2.symm; omega)
      have k1 := (own_cell hw7 hnb0).1
      have k2 := (own_cell hv7 (show 1 < 2 by omega)).1
      rw [HW0.out] at k1
      rw [show nth [0, 2] 1 = 2 from rfl] at k2
      try go_simp
      refine hK.out _ _ ⟨k1, k2⟩ (fun hHeld5 => ?_)
      clear hK K
      try simp only [Act.put, List.setIfInBounds_toArray, List.set_cons_zero, List.set_cons_succ]
      refine wpAnyH_take (i := 24) (oi := { dst := _, op := _, type := _, pos := _, after := _, guard := none }) (v := ?_) rfl (by kernel_rfl) (by kernel_rfl) (by kernel_rfl) (fun _ _ _ h => h) (Or.inl ⟨by rfl, ?_⟩) (by assumption) ?_
      rotate_left
      · intro w hSw; (try dsimp only at hSw); go_simp; (try with_reducible rfl)
      try simp only [Act.put, List.setIfInBounds_toArray, List.set_cons_zero, List.set_cons_succ]
      refine wpAnyH_done (by kernel_rfl) ?_ _
      have HA7 := Lib.hid (show ∀ g, blk A7 = some g → g ≠ gv ∧ g ≠ gw from fun g e => by
        rcases hat7 with h | h
        · exact HA5.out g (by rw [← h]; exact e)
        · rw [h] at e
          injection e with e
          simp at e
          omega)
      have HZ7 := Lib.hid (show z5 ++ [pr 1 2] = z0 ++ z1 ++ [pr 1 2] by rw [HZ.out]; rfl)
      clear hat7 ho7 hg7 HZ
      go_wp2_with fail
      go_roundw
      case rel => exact ⟨1, n5 + 1, A7, c7, z5 ++ [pr 1 2], rfl, by first | rfl | go_num, by omega, by omega, HZ7, hS7, HA7, hv7, hw7, hb7⟩
      case measure => (simp [intOf] <;> omega)
    · obtain rfl : i = 1 := by omega
      rw [HZ.out, if_neg (by decide)] at hS
      rcases (show k1 = 0 ∨ k1 = 1 by omega) with rfl | rfl
      all_goals
        go_wp2_with fail
        go_ret
        exact ⟨A5, n5, c5, rfl, by rw [hlo]; exact hS, by rw [hlo]; exact hbl⟩
end Go.Proofs.YtobdkfhmmpigiaaGreat
