/- Chapter 13: running tokens. -/
import Derived.Test.YtcijnmooifcicaaC13c
import Derived.Test.YtcijnmooifcicaaClone
namespace Go.Proofs.Ytcijnmooifcicaa
open Go.RowKit Go.Deep
set_option linter.unusedVariables false

def ctStep (ys : List Int) (p q : Nat) : List Int := (ys.set p ((nth ys p + nth ys q + 1) / 2)).set q ((nth ys p + nth ys q) / 2)
def ctTo (ts : List Int) (zss : List (List Int)) : Nat → List Int
  | 0 => ts
  | k + 1 => ctStep (ctTo ts zss k) (nth (row zss k) 0).toNat (nth (row zss k) 1).toNat
theorem ct_zero (ts : List Int) (zss : List (List Int)) : ctTo ts zss 0 = ts := rfl
theorem ct_succ {ts : List Int} {zss : List (List Int)} {k p q : Nat} (hp : nth (row zss k) 0 = p) (hq : nth (row zss k) 1 = q) : ctTo ts zss (k + 1) = ctStep (ctTo ts zss k) p q := by rw [ctTo, hp, hq]; rfl
def BdT (ys : List Int) : Prop := ∀ y ∈ ys, 0 ≤ y ∧ y ≤ 1000
theorem bdT_of {ts : List Int} {n : Nat} (hl : ts.length = n) (h : toksTo ts n = true) : BdT ts := by
  intro y hy
  obtain ⟨k, hk, rfl⟩ := List.mem_iff_getElem.1 hy
  have := toks_at n h k (by omega)
  rwa [nth_eq hk] at this
theorem bdT_nth {ys : List Int} (h : BdT ys) {p : Nat} (hp : p < ys.length) : 0 ≤ nth ys p ∧ nth ys p ≤ 1000 := h _ (nth_mem hp)
theorem bdT_step {ys : List Int} (h : BdT ys) {p q : Nat} (hp : p < ys.length) (hq : q < ys.length) : BdT (ctStep ys p q) := by
  have h1 := bdT_nth h hp
  have h2 := bdT_nth h hq
  intro y hy
  unfold ctStep at hy
  rcases List.mem_or_eq_of_mem_set hy with hy | rfl
  · rcases List.mem_or_eq_of_mem_set hy with hy | rfl
    · exact h y hy
    · omega
  · omega
theorem ct_len (ts : List Int) (zss : List (List Int)) : ∀ k, (ctTo ts zss k).length = ts.length := by
  intro k
  induction k with
  | zero => rfl
  | succ k ih => rw [ctTo, ctStep, List.length_set, List.length_set, ih]
attribute [irreducible] ctTo

set_option maxHeartbeats 4000000 in
theorem specRun (x : Int) (A : Option Addr) (n c : Nat) (zss : List (List Int)) (S : Option Addr) (m d : Nat) (ts : List Int) (w : World) (hx : netV x zss = true) (ha : RdM w A n zss) (hs : RdI w S m ts) (hm : (m : Int) = x) (hbt : BdT ts) :
    Calls Try.prog 58 #[.agg #[.int .i64 x, .slice A n c], .slice S m d] w fun e w' => ∃ A' c', e = .returned (.slice A' m c') ∧ OwnI w' w.heap.size 3 A' m c' (ctTo ts zss n) ∧ Below w.heap.size w w' := by
  obtain ⟨W, rfl, hW1, hW8, hn60, hrow⟩ := net_out ha.1 hx
  obtain rfl : m = W := by omega
  have HR := Lib.hid hrow
  have HA := Lib.hid ha
  have HB := Lib.hid hbt
  obtain ⟨ad, rfl, _, _⟩ := hs.at_ (show 0 < m by omega)
  clear hx hbt hm hrow
  have hE : Own (((w.alloc (.cells #[.int .i64 (m : Int), .slice A n c] 35))).alloc (.cells #[] 3)) (w.heap.size + 1) 3 (some ⟨w.heap.size + 1, 0, none⟩) 0 0 [] := by
    have h := own_empty (w.alloc (.cells #[.int .i64 (m : Int), .slice A n c] 35)) 3
    simpa using h
  have hs2 := hs
  clear ha hs
  go_enter Try.func58, Try.ntmps58
  go_wp2_with (at_builtin; refine wpL_append _ rfl _ _ _ rfl (w.heap.size + 1) 3 (.int .i64 0) 8 Try.underlying22 intInfo rfl _ 0 _ [] rfl hE (some ad) m d (ts.map (Value.int .i64)) rfl ((hs2.alloc _).alloc _) (ints_one _) (by unfold maxLen; omega) (by omega) (by simp) ?_)
  intro A2 c2 w2 ho2 hg2 hat2
  have hbx := own_below (a := (w.alloc (.cells #[.int .i64 (m : Int), .slice A n c] 35))) hE (by have h := below_alloc (w.alloc (.cells #[.int .i64 (m : Int), .slice A n c] 35)) (.cells #[] 3); simpa using h) (by simp) hg2
  have hc1 : w2.cell? ⟨w.heap.size, 1, none⟩ = some (.slice A n c) := by rw [hbx.cell (p := ⟨w.heap.size, 1, none⟩) (by simp)]; simp
  have hb2 := (below_alloc w (.cells #[.int .i64 (m : Int), .slice A n c] 35)).trans (hbx.mono (by simp))
  have ho3 : OwnI w2 w.heap.size 3 A2 m c2 ts := by
    have h := ho2.more (b2 := w.heap.size) (by simp)
    simpa [OwnI] using h
  clear ho2 hg2 hat2 hbx hs2
  obtain ⟨g, u, rfl, hgB, _, _, _, _⟩ := ho3.at_ (show 0 < m by omega)
  have HL := Lib.hid ho3.lenI
  go_wp2_with fail
  go_loopw [15] (fun i wr => ∃ k : Nat, ∃ ys, k ≤ n ∧ i = .int .i64 k ∧ OwnI wr w.heap.size 3 (some ⟨g, 0, none⟩) m c2 ys ∧ Hid (ys = ctTo ts zss k ∧ BdT ys) ∧ Below w.heap.size w wr) (fun i _ => n - (intOf i).toNat)
  case atStart => exact ⟨0, ts, Nat.zero_le _, rfl, ho3, Lib.hid ⟨(ct_zero _ _).symm, HB.out⟩, hb2⟩
  case round =>
    clear hc1 hb2 ho3
    obtain ⟨k, ys, hk, rfl, ho, HY, hbl⟩ := hrel
    by_cases hlt : k < n
    · obtain ⟨hl2, p, q, hp, hq, hpW, hqW, hpq⟩ := HR.out k hlt
      obtain ⟨a1, B, md, dd, rfl, la, h1, hB, hmd, hd⟩ := HA.out.2 k hlt
      replace h1 := (hbl.cell (p := a1.add k) (by rw [block_of_add]; exact la)).trans h1
      unfold maxLen at hd
      obtain rfl : 2 = md := by rw [← hB.lenI]; exact hl2.symm
      obtain ⟨b, rfl, lb, p0⟩ := hB.at_ (show 0 < 2 by omega)
      obtain ⟨b', hb', _, p1⟩ := hB.at_ (show 1 < 2 by omega)
      injection hb' with hb'
      subst hb'
      have p0w : w.cell? b = some (.int .i64 (nth (row zss k) 0)) := p0
      have p1w : w.cell? ⟨b.block, b.off + 1, none⟩ = some (.int .i64 (nth (row zss k) 1)) := by rw [← add_one_]; exact p1
      clear p0 p1
      have p0 := (hbl.cell (p := b) lb).trans p0w
      have p1 := (hbl.cell (p := ⟨b.block, b.off + 1, none⟩) lb).trans p1w
      clear p0w p1w
      have HS := Lib.hid (ct_succ (ts := ts) hp hq)
      rw [hp] at p0
      rw [hq] at p1
      obtain ⟨g1, u1, e1, _, _, hu1, c1, f1⟩ := ho.at_ hpW
      obtain ⟨g2, u2, e2, _, _, hu2, c2', f2⟩ := ho.at_ hqW
      injection e1 with e1
      injection e1 with e1
      subst e1
      injection e2 with e2
      injection e2 with e2
      subst e2
      have hly := ho.lenI
      have y1 := bdT_nth HY.out.2 (show p < ys.length by omega)
      have y2 := bdT_nth HY.out.2 (show q < ys.length by omega)
      have q1 : u1 = .int .i64 (nth ys p) := by
        rw [List.getElem?_map, List.getElem?_eq_getElem (show p < ys.length by omega)] at hu1
        rw [nth_eq (show p < ys.length by omega)]
        simpa using hu1.symm
      have q2 : u2 = .int .i64 (nth ys q) := by
        rw [List.getElem?_map, List.getElem?_eq_getElem (show q < ys.length by omega)] at hu2
        rw [nth_eq (show q < ys.length by omega)]
        simpa using hu2.symm
      subst q1
      subst q2
      have HN := Lib.hid (show ctStep ys p q = ctTo ts zss (k + 1) ∧ BdT (ctStep ys p q) from ⟨by rw [HS.out, ← HY.out.1], bdT_step HY.out.2 (by omega) (by omega)⟩)
      have own2 : OwnI _ _ _ _ _ _ (ctStep ys p q) := (ho.setI (x := (nth ys p + nth ys q + 1) / 2) hpW).setI (x := (nth ys p + nth ys q) / 2) hqW
      have hb7 := (hbl.setCell (p := ⟨g, p, none⟩) hgB (.int .i64 ((nth ys p + nth ys q + 1) / 2))).setCell (p := ⟨g, q, none⟩) hgB (.int .i64 ((nth ys p + nth ys q) / 2))
      obtain ⟨z1, hz1⟩ : ∃ z, nth ys p = z := ⟨_, rfl⟩
      obtain ⟨z2, hz2⟩ : ∃ z, nth ys q = z := ⟨_, rfl⟩
      rw [hz1] at c1 own2 hb7 y1
      rw [hz2] at c2' own2 hb7 y2
      obtain ⟨y1a, y1b⟩ := y1
      obtain ⟨y2a, y2b⟩ := y2
      have hp8 : p < 8 := by omega
      have hq8 : q < 8 := by omega
      have lc : wr.cell? (⟨g, p, none⟩ : Addr) = some (.int .i64 z1) := c1
      have hbg : b.block ≠ g := by omega
      have hgb : g ≠ b.block := by omega
      have p1' := (((Below.refl w.heap.size wr).setCell (p := ⟨g, p, none⟩) hgB (.int .i64 ((z1 + z2 + 1) / 2))).cell (p := ⟨b.block, b.off + 1, none⟩) lb).trans p1
      clear hp hq hl2 hB hu1 hu2 hz1 hz2 ho lc hly
      go_wp2
      go_region
      all_goals
        go_wp2
        go_roundw
        case rel => exact ⟨k + 1, _, by omega, by go_num, own2, HN, (by first | exact hb7.drew | exact hb7.drew.drew | exact hb7.drew.drew.drew)⟩
        case measure => (simp [intOf] <;> omega)
    · obtain rfl : k = n := by omega
      have hy := HY.out.1
      go_wp2_with fail
      go_ret
      exact ⟨_, _, rfl, by rw [← hy]; exact ho, hbl⟩

theorem implClone13 (A : Option Addr) (n c : Nat) (zs : List Int) (w : World) (h0 : 0 < n) (ha : RdI w A n zs) (hn : n ≤ 1048576) :
    Calls Try.prog 69 #[.slice A n c] w fun e w' => ∃ A' c', e = .returned (.slice A' n c') ∧ OwnI w' w.heap.size 3 A' n c' zs ∧ Below w.heap.size w w' := by
  obtain ⟨ad, rfl, _, _⟩ := ha.at_ h0
  exact implClone ad n c zs w ha hn

set_option maxHeartbeats 4000000 in
theorem implCount (x : Int) (A : Option Addr) (n c : Nat) (zss : List (List Int)) (S : Option Addr) (m d : Nat) (ts : List Int) (w : World) (hx : netV x zss = true) (ha : RdM w A n zss) (hs : RdI w S m ts) (hm : (m : Int) = x) (hbt : BdT ts) :
    Calls Try.prog 59 #[.agg #[.int .i64 x, .slice A n c], .slice S m d] w fun e w' => ∃ A' c', e = .returned (.slice A' m c') ∧ OwnI w' w.heap.size 3 A' m c' (ctTo ts zss n) ∧ Below w.heap.size w w' := by
  obtain ⟨W, rfl, hW1, hW8, hn60, hrow⟩ := net_out ha.1 hx
  obtain rfl : m = W := by omega
  have HR := Lib.hid hrow
  have HA := Lib.hid ha
  have HB := Lib.hid hbt
  obtain ⟨ad, rfl, _, _⟩ := hs.at_ (show 0 < m by omega)
  clear hx hbt hm hrow
  have HC := Lib.hid (fun (w' : World) (h : RdI w' (some ad) m ts) => implClone13 (some ad) m d ts w' (by omega) h (by omega))
  have hs2 := hs
  clear ha hs
  go_enter Try.func59, Try.ntmps59
  go_wp2_with fail
  refine (HC.out _ (hs2.alloc _)).mono ?_
  rintro e w2 ⟨A2, c2, rfl, ho2, hbx⟩
  have hc1 : w2.cell? ⟨w.heap.size, 1, none⟩ = some (.slice A n c) := by rw [hbx.cell (p := ⟨w.heap.size, 1, none⟩) (by simp)]; simp
  have hb2 := (below_alloc w (.cells #[.int .i64 (m : Int), .slice A n c] 35)).trans (hbx.mono (by simp))
  have ho3 : OwnI w2 w.heap.size 3 A2 m c2 ts := ho2.more (b2 := w.heap.size) (by simp)
  clear ho2 hbx hs2
  obtain ⟨g, u, rfl, hgB, _, _, _, _⟩ := ho3.at_ (show 0 < m by omega)
  have HL := Lib.hid ho3.lenI
  go_wp2_with fail
  go_loopw [14] (fun i wr => ∃ k : Nat, ∃ ys, k ≤ n ∧ i = .int .i64 k ∧ OwnI wr w.heap.size 3 (some ⟨g, 0, none⟩) m c2 ys ∧ Hid (ys = ctTo ts zss k ∧ BdT ys) ∧ Below w.heap.size w wr) (fun i _ => n - (intOf i).toNat)
  case atStart => exact ⟨0, ts, Nat.zero_le _, rfl, ho3, Lib.hid ⟨(ct_zero _ _).symm, HB.out⟩, hb2⟩
  case round =>
    clear hc1 hb2 ho3
    obtain ⟨k, ys, hk, rfl, ho, HY, hbl⟩ := hrel
    by_cases hlt : k < n
    · obtain ⟨hl2, p, q, hp, hq, hpW, hqW, hpq⟩ := HR.out k hlt
      obtain ⟨a1, B, md, dd, rfl, la, h1, hB, hmd, hd⟩ := HA.out.2 k hlt
      replace h1 := (hbl.cell (p := a1.add k) (by rw [block_of_add]; exact la)).trans h1
      unfold maxLen at hd
      obtain rfl : 2 = md := by rw [← hB.lenI]; exact hl2.symm
      obtain ⟨b, rfl, lb, p0⟩ := hB.at_ (show 0 < 2 by omega)
      obtain ⟨b', hb', _, p1⟩ := hB.at_ (show 1 < 2 by omega)
      injection hb' with hb'
      subst hb'
      have p0w : w.cell? b = some (.int .i64 (nth (row zss k) 0)) := p0
      have p1w : w.cell? ⟨b.block, b.off + 1, none⟩ = some (.int .i64 (nth (row zss k) 1)) := by rw [← add_one_]; exact p1
      clear p0 p1
      have p0 := (hbl.cell (p := b) lb).trans p0w
      have p1 := (hbl.cell (p := ⟨b.block, b.off + 1, none⟩) lb).trans p1w
      clear p0w p1w
      have HS := Lib.hid (ct_succ (ts := ts) hp hq)
      rw [hp] at p0
      rw [hq] at p1
      obtain ⟨g1, u1, e1, _, _, hu1, c1, f1⟩ := ho.at_ hpW
      obtain ⟨g2, u2, e2, _, _, hu2, c2', f2⟩ := ho.at_ hqW
      injection e1 with e1
      injection e1 with e1
      subst e1
      injection e2 with e2
      injection e2 with e2
      subst e2
      have hly := ho.lenI
      have y1 := bdT_nth HY.out.2 (show p < ys.length by omega)
      have y2 := bdT_nth HY.out.2 (show q < ys.length by omega)
      have q1 : u1 = .int .i64 (nth ys p) := by
        rw [List.getElem?_map, List.getElem?_eq_getElem (show p < ys.length by omega)] at hu1
        rw [nth_eq (show p < ys.length by omega)]
        simpa using hu1.symm
      have q2 : u2 = .int .i64 (nth ys q) := by
        rw [List.getElem?_map, List.getElem?_eq_getElem (show q < ys.length by omega)] at hu2
        rw [nth_eq (show q < ys.length by omega)]
        simpa using hu2.symm
      subst q1
      subst q2
      have HN := Lib.hid (show ctStep ys p q = ctTo ts zss (k + 1) ∧ BdT (ctStep ys p q) from ⟨by rw [HS.out, ← HY.out.1], bdT_step HY.out.2 (by omega) (by omega)⟩)
      have own2 : OwnI _ _ _ _ _ _ (ctStep ys p q) := (ho.setI (x := (nth ys p + nth ys q + 1) / 2) hpW).setI (x := (nth ys p + nth ys q) / 2) hqW
      have hb7 := (hbl.setCell (p := ⟨g, p, none⟩) hgB (.int .i64 ((nth ys p + nth ys q + 1) / 2))).setCell (p := ⟨g, q, none⟩) hgB (.int .i64 ((nth ys p + nth ys q) / 2))
      obtain ⟨z1, hz1⟩ : ∃ z, nth ys p = z := ⟨_, rfl⟩
      obtain ⟨z2, hz2⟩ : ∃ z, nth ys q = z := ⟨_, rfl⟩
      rw [hz1] at c1 own2 hb7 y1
      rw [hz2] at c2' own2 hb7 y2
      obtain ⟨y1a, y1b⟩ := y1
      obtain ⟨y2a, y2b⟩ := y2
      have hp8 : p < 8 := by omega
      have hq8 : q < 8 := by omega
      have lc : wr.cell? (⟨g, p, none⟩ : Addr) = some (.int .i64 z1) := c1
      have hbg : b.block ≠ g := by omega
      have hgb : g ≠ b.block := by omega
      have p1' := (((Below.refl w.heap.size wr).setCell (p := ⟨g, p, none⟩) hgB (.int .i64 ((z1 + z2 + 1) / 2))).cell (p := ⟨b.block, b.off + 1, none⟩) lb).trans p1
      clear hp hq hl2 hB hu1 hu2 hz1 hz2 ho lc hly
      go_wp2
      go_region
      all_goals
        go_wp2
        go_region
        all_goals
          go_wp2
          go_roundw
          case rel => exact ⟨k + 1, _, by omega, by go_num, own2, HN, (by first | exact hb7.drew | exact hb7.drew.drew | exact hb7.drew.drew.drew)⟩
          case measure => (simp [intOf] <;> omega)
    · obtain rfl : k = n := by omega
      have hy := HY.out.1
      go_wp2_with fail
      go_ret
      exact ⟨_, _, rfl, by rw [← hy]; exact ho, hbl⟩

end Go.Proofs.Ytcijnmooifcicaa
