/- Slices of slices of ints: what is read of them (RdM), rows that a call has made (OwnM), and what the statements' own helpers do with them. -/
import Derived.Test.YtcijnmooifcicaaIntS
import Derived.Deep.Matrix
namespace Go.Proofs.Ytcijnmooifcicaa
open Go.RowKit Go.Deep
set_option linter.unusedVariables false

theorem sliceInfo : (Try.prog.info? 22).map (fun i => (i.zero, i.size, i.bytes)) = some (some (.slice none 0 0), 1, 24) := by kernel_rfl
/-- The j-th row of a list of rows. -/
def row (zss : List (List Int)) (j : Nat) : List Int := zss.getD j []
def RdM (w : World) (A : Option Addr) (n : Nat) (zss : List (List Int)) : Prop :=
  zss.length = n ∧ ∀ j, j < n → ∃ ad B m d, A = some ad ∧ ad.block < w.heap.size ∧ w.cell? (ad.add j) = some (.slice B m d) ∧ RdI w B m (row zss j) ∧ m ≤ d ∧ d ≤ maxLen
theorem RdM.below {w w' : World} {A : Option Addr} {n : Nat} {zss : List (List Int)} (h : RdM w A n zss) (hb : Below w.heap.size w w') : RdM w' A n zss := by
  refine ⟨h.1, fun j hj => ?_⟩
  obtain ⟨ad, B, m, d, hA, hlt, hc, hr, h1, h2⟩ := h.2 j hj
  refine ⟨ad, B, m, d, hA, Nat.lt_of_lt_of_le hlt hb.size, ?_, hr.below hb, h1, h2⟩
  rw [World.cell?_of_block (w := w) (by rw [block_of_add]; exact hb.block _ hlt)]
  exact hc
def RdArgM (w : World) (A : Option Addr) (n c : Nat) (zss : List (List Int)) : Prop := RdM w A n zss ∧ n ≤ c ∧ c ≤ maxLen
theorem rdArgM_of_open {H : Type} {enc : TypeId × Value → H} {P : Program} {w : World} {base : Nat} {held : Bool} {t e q : TypeId} {fuel : Nat} {a : Option Addr} {l c : Nat} {x : DataW H × List MemPlace}
    (ht : P.underlying t = some (.slice e)) (he : P.underlying e = some (.slice q)) (hq : P.underlying q = some (.int .i64)) (ce : P.cellsOf e = 1) (cq : P.cellsOf q = 1)
    (h : DataW.trod enc P w base (fun _ => true) held fuel t [.slice a l c] = some x) : ∃ zss, RdArgM w a l c zss := by
  rcases open_int_rows ht he hq ce cq h with ⟨hcs, _⟩ | ⟨ad, len, cap, AA, L, C, Z, hcs, _, hl, hm, _, hr⟩
  · simp at hcs
    obtain ⟨rfl, rfl, rfl⟩ := hcs
    exact ⟨[], ⟨rfl, fun j hj => by omega⟩, Nat.le_refl _, Nat.zero_le _⟩
  · simp at hcs
    obtain ⟨rfl, rfl, rfl⟩ := hcs
    refine ⟨(List.range l).map fun r => (Z r).take (L r), ⟨by simp, fun j hj => ?_⟩, hl, hm⟩
    obtain ⟨h1, h2, h3, h4, h5, h6, h7⟩ := hr j (by omega)
    refine ⟨ad, AA j, L j, C j, rfl, ?_, h1, ?_, h2, h3⟩
    · have := World.block_lt_of_cell? w _ h1
      rwa [block_of_add] at this
    · have hrow : row ((List.range l).map fun r => (Z r).take (L r)) j = (Z j).take (L j) := by simp [row, List.getD, hj]
      rw [hrow]
      cases hA : AA j with
      | none => have := h6 hA; exact ⟨by simp; omega, fun h => by omega⟩
      | some a' => exact (RdArg.of_open h2 h3 h4 (fun i hi => (h7 a' hA).2 i (by omega)) h5).1

theorem rdArgM_of_trod {H : Type} {enc : TypeId × Value → H} {P : Program} {w : World} {base : Nat} {held : Bool} {t e q : TypeId} {fuel : Nat} {v : Value} {x : DataW H × List MemPlace}
    (ht : P.underlying t = some (.slice e)) (he : P.underlying e = some (.slice q)) (hq : P.underlying q = some (.int .i64)) (ce : P.cellsOf e = 1) (cq : P.cellsOf q = 1)
    (h : DataW.trod enc P w base (fun _ => true) held fuel t [v] = some x) : ∃ a l c zss, v = .slice a l c ∧ RdArgM w a l c zss := by
  have hform : ∃ a l c, v = .slice a l c := by
    rcases open_int_rows ht he hq ce cq h with ⟨hcs, _⟩ | ⟨ad, len, cap, AA, L, C, Z, hcs, _⟩
    · exact ⟨none, 0, 0, by simpa using hcs⟩
    · exact ⟨some ad, len, cap, by simpa using hcs⟩
  obtain ⟨a, l, c, rfl⟩ := hform
  obtain ⟨z, g⟩ := rdArgM_of_open ht he hq ce cq h
  exact ⟨a, l, c, z, rfl, g⟩

def OwnM (w : World) (base : Nat) (A : Option Addr) (n c : Nat) (zss : List (List Int)) : Prop :=
  zss.length = n ∧ ∃ vs, Own w base 22 A n c vs ∧ ∀ j, j < n → ∃ B m d, vs[j]? = some (.slice B m d) ∧ OwnI w base 3 B m d (row zss j) ∧ ∀ g, blk B = some g → blk A ≠ some g
section
variable {w w' : World} {A : Option Addr} {n c base : Nat} {zss : List (List Int)}
theorem OwnM.rd (h : OwnM w base A n c zss) : RdM w A n zss := by
  obtain ⟨hl, vs, ho, hr⟩ := h
  refine ⟨hl, fun j hj => ?_⟩
  obtain ⟨B, m, d, hv, hB, _⟩ := hr j hj
  obtain ⟨ad, hA, hlt, hc⟩ := ho.rd.atV hv
  exact ⟨ad, B, m, d, hA, hlt, hc, hB.rd, hB.cap.1, hB.cap.2⟩
theorem OwnM.cap (h : OwnM w base A n c zss) : n ≤ c ∧ c ≤ maxLen := by
  obtain ⟨_, vs, ho, _⟩ := h
  exact ho.cap
theorem OwnM.below (h : OwnM w base A n c zss) (hb : Below w.heap.size w w') : OwnM w' base A n c zss := by
  obtain ⟨hl, vs, ho, hr⟩ := h
  refine ⟨hl, vs, ho.below hb, fun j hj => ?_⟩
  obtain ⟨B, m, d, hv, hB, hne⟩ := hr j hj
  exact ⟨B, m, d, hv, hB.below hb, hne⟩
end

/-- How many numbers the first k rows have. -/
def tot (zss : List (List Int)) : Nat → Nat
  | 0 => 0
  | k + 1 => tot zss k + (row zss k).length
theorem tot_zero (zss : List (List Int)) : tot zss 0 = 0 := rfl
theorem tot_succ (zss : List (List Int)) (k : Nat) : tot zss (k + 1) = tot zss k + (row zss k).length := rfl
theorem tot_row {zss : List (List Int)} {k : Nat} : ∀ n, k < n → (row zss k).length ≤ tot zss n := by
  intro n
  induction n with
  | zero => intro h; omega
  | succ n ih =>
    intro h
    rw [tot]
    by_cases e : k = n
    · subst e; omega
    · have := ih (by omega); omega
attribute [irreducible] tot row

theorem szIntS_any (B : Option Addr) (m d : Nat) (k : Int) (w : World) (hm : m ≤ maxLen) (h0 : 0 ≤ k) (h1 : k ≤ 1048576) :
    Calls Try.prog 68 #[.slice B m d, .int .i64 k] w fun e w' => ∃ r : Int, e = .returned (.int .i64 r) ∧ (r = -1 ∨ (0 ≤ r ∧ (m : Int) + r = k)) ∧ w = w' := by
  unfold maxLen at hm
  by_cases h : (m : Int) ≤ k
  · go_enter Try.func68, Try.ntmps68
    go_wp2
    go_ret
    exact ⟨_, rfl, .inr ⟨by omega, by omega⟩, rfl⟩
  · go_enter Try.func68, Try.ntmps68
    go_wp2
    go_ret
    exact ⟨_, rfl, .inl rfl, rfl⟩

set_option maxHeartbeats 1000000 in
theorem szIntSS_any (A : Option Addr) (n c : Nat) (zss : List (List Int)) (w : World) (ha : RdM w A n zss) (hn : n ≤ maxLen) :
    Calls Try.prog 51 #[.slice A n c, .int .i64 1048576] w fun e w' => ∃ r : Int, e = .returned (.int .i64 r) ∧ (r = -1 ∨ (0 ≤ r ∧ n + tot zss n ≤ 1048576)) ∧ w = w' := by
  unfold maxLen at hn
  by_cases h : n ≤ 1048576
  · go_enter Try.func51, Try.ntmps51
    go_wp2
    go_loop [5, 1] (fun i v => ∃ k : Nat, ∃ q : Int, k ≤ n ∧ i = .int .i64 k ∧ v = .int .i64 q ∧ 0 ≤ q ∧ (n : Int) + tot zss k + q = 1048576) (fun i _ => n - (intOf i).toNat)
    case atStart => exact ⟨0, _, Nat.zero_le _, rfl, rfl, by omega, by rw [tot_zero]; omega⟩
    case round =>
      obtain ⟨k, q, hk, rfl, rfl, hq0, hq⟩ := hrel
      by_cases hlt : k < n
      · obtain ⟨a1, B, m, d, rfl, _, h1, hB, hmd, hd⟩ := ha.2 k hlt
        have HT := Lib.hid (tot_succ zss k)
        have hm := hB.lenI
        have HM := Lib.hid hm
        clear hm
        go_wp2_with fail
        refine (szIntS_any B m d q w (by omega) hq0 (by omega)).mono ?_
        rintro e w' ⟨r, rfl, hr, rfl⟩
        rcases hr with hr | ⟨hr0, hr⟩
        · subst hr
          go_wp2
          go_ret
          exact ⟨_, rfl, .inl rfl, rfl⟩
        · have HR := Lib.hid hr
          clear hr
          go_wp2
          go_round
          case rel => exact ⟨k + 1, r, by omega, by go_num, rfl, hr0, by have := HR.out; rw [HT.out, HM.out]; omega⟩
          case measure => (simp [intOf] <;> omega)
      · obtain rfl : k = n := by omega
        go_wp2
        go_ret
        exact ⟨_, rfl, .inr ⟨hq0, by omega⟩, rfl⟩
  · go_enter Try.func51, Try.ntmps51
    go_wp2
    go_ret
    exact ⟨_, rfl, .inl rfl, rfl⟩

theorem drewN_add (w : World) (a b : Nat) : (w.drewN a).drewN b = w.drewN (a + b) := by
  induction b with
  | zero => rfl
  | succ b ih => simp [World.drewN] at ih ⊢; try omega
theorem drewN_one (w : World) (a : Nat) : (w.drewN a).drew = w.drewN (a + 1) := rfl

set_option maxHeartbeats 1000000 in
theorem eqIntS_q (A B : Option Addr) (n c d : Nat) (zs : List Int) (w : World) (ha : RdI w A n zs) (hb : RdI w B n zs) (hn : n ≤ maxLen) :
    Calls Try.prog 15 #[.slice A n c, .slice B n d] w fun e w' => e = .returned (.bool true) ∧ ∃ m, w' = w.drewN m := by
  unfold maxLen at hn
  go_enter Try.func15, Try.ntmps15
  go_wp2
  go_loopw [5] (fun i wr => ∃ k : Nat, k ≤ n ∧ i = .int .i64 k ∧ ∃ m, wr = w.drewN m) (fun i _ => n - (intOf i).toNat)
  case atStart => exact ⟨0, Nat.zero_le _, rfl, 0, rfl⟩
  case round =>
    obtain ⟨k, hk, rfl, m, rfl⟩ := hrel
    by_cases hlt : k < n
    · obtain ⟨a1, rfl, _, h1⟩ := ha.at_ hlt
      obtain ⟨a2, rfl, _, h2⟩ := hb.at_ hlt
      go_wp2
      go_region
      all_goals
        go_wp2
        go_roundw
        case rel => exact ⟨k + 1, by omega, by go_num, m + 1, drewN_one _ _⟩
        case measure => simp [intOf]; omega
    · go_wp2
      go_ret
      exact ⟨rfl, m, rfl⟩

theorem RdM.drewN {w : World} {A : Option Addr} {n : Nat} {zss : List (List Int)} (h : RdM w A n zss) (k : Nat) : RdM (w.drewN k) A n zss := h

theorem quiet_q {P : Program} {f : FuncId} {args : Array Value} {w : World} {n : Nat} {v : Value}
    (h : Calls P f args (w.drewN n) fun e w' => e = .returned v ∧ ∃ m, w' = (w.drewN n).drewN m) : Calls P f args (w.drewN n) fun e w'' => e = .returned v ∧ ∃ m, w'' = w.drewN m :=
  h.mono fun _ _ ⟨he, m, hm⟩ => ⟨he, n + m, by rw [hm, drewN_add]⟩

set_option maxHeartbeats 1000000 in
theorem eqIntSS_yes (A B : Option Addr) (n c d : Nat) (zss : List (List Int)) (w : World) (ha : RdM w A n zss) (hb : RdM w B n zss) (hn : n ≤ 1048576) :
    Calls Try.prog 55 #[.slice A n c, .slice B n d] w fun e w' => e = .returned (.bool true) ∧ Below w.heap.size w w' := by
  go_enter Try.func55, Try.ntmps55
  go_wp2
  go_loopw [5] (fun i wr => ∃ k : Nat, k ≤ n ∧ i = .int .i64 k ∧ Below w.heap.size w wr) (fun i _ => n - (intOf i).toNat)
  case atStart => exact ⟨0, Nat.zero_le _, rfl, Below.refl _ _⟩
  case round =>
    obtain ⟨k, hk, rfl, hbl⟩ := hrel
    by_cases hlt : k < n
    · obtain ⟨a1, B1, m1, d1, rfl, _, h1, hB1, hm1, hd1⟩ := (ha.below hbl).2 k hlt
      obtain ⟨a2, B2, m2, d2, rfl, _, h2, hB2, hm2, hd2⟩ := (hb.below hbl).2 k hlt
      obtain rfl : m1 = m2 := by rw [← hB1.lenI, ← hB2.lenI]
      go_wp2_with fail
      go_quiet ((go_at_call 15; exact quiet_q (eqIntS_q B1 B2 m1 d1 d2 (row zss k) _ (hB1.drewN _) (hB2.drewN _) (by omega))))
      go_wp2
      go_roundw
      case rel => exact ⟨k + 1, by omega, by go_num, below_drewN hbl _⟩
      case measure => simp [intOf]; omega
    · go_wp2
      go_ret
      exact ⟨rfl, hbl⟩

set_option maxHeartbeats 2000000 in
theorem toIntSS_any (A : Option Addr) (n c : Nat) (zss : List (List Int)) (w : World) (ha : RdM w A n zss) (hn : n + tot zss n ≤ 1048576) :
    Calls Try.prog 53 #[.slice A n c] w fun e w' => ∃ A' c', e = .returned (.slice A' n c') ∧ OwnM w' w.heap.size A' n c' zss ∧ Below w.heap.size w w' := by
  have HN := Lib.hid hn
  replace hn : n ≤ 1048576 := by omega
  go_enter Try.func53, Try.ntmps53
  go_wp2_with (at_make; refine wpL_make _ rfl _ _ 30 rfl 22 (.slice none 0 0) 24 Try.underlying30 sliceInfo rfl _ _ _ _ n rfl rfl rfl rfl (by omega) (by unfold maxLen; omega) ?_)
  intro w1 hown hbl hsz
  go_wp2
  go_loopw [4] (fun i wr => ∃ k : Nat, ∃ vs : List Value, k ≤ n ∧ i = .int .i64 k ∧ Own wr w.heap.size 22 (some ⟨w.heap.size, 0, none⟩) n n vs ∧
    (∀ j, j < k → ∃ B m d, vs[j]? = some (.slice B m d) ∧ OwnI wr (w.heap.size + 1) 3 B m d (row zss j)) ∧ w.heap.size + 1 ≤ wr.heap.size ∧ Below w.heap.size w wr) (fun i _ => n - (intOf i).toNat)
  case atStart => exact ⟨0, _, Nat.zero_le _, rfl, hown, fun j hj => by omega, by omega, hbl⟩
  case round =>
    clear hown hbl hsz
    obtain ⟨k, vs, hk, rfl, hown, hrows, hsz, hbl⟩ := hrel
    by_cases hlt : k < n
    · obtain ⟨a1, B, m, d, rfl, _, h1, hB, hmd, hd⟩ := (ha.below hbl).2 k hlt
      have hm : m ≤ 1048576 := by
        have := tot_row (zss := zss) n hlt
        have := hB.lenI
        have := HN.out
        omega
      go_wp2_with fail
      refine (toIntS_any B m d (row zss k) wr hB hm).mono ?_
      rintro e w2 ⟨A2, c2, rfl, o2, hb2⟩
      have hown2 := hown.below hb2
      obtain ⟨g, u, hgA, _, _, _, h2, h3⟩ := hown2.at_ hlt
      injection hgA with hgA
      injection hgA with hgA
      subst hgA
      have hlen := hown2.len
      have hown3 := hown2.set_ (.slice A2 m c2) hlt
      have hs2 := hb2.size
      have hb3 := (hbl.trans (hb2.mono hbl.size)).setCell (p := ⟨w.heap.size, k, none⟩) (Nat.le_refl _) (.slice A2 m c2)
      have HR := Lib.hid (show ∀ j, j < k + 1 → ∃ B m' d, (vs.set k (.slice A2 m c2))[j]? = some (.slice B m' d) ∧ OwnI (w2.setCell ⟨w.heap.size, k, none⟩ (.slice A2 m c2)) (w.heap.size + 1) 3 B m' d (row zss j) by
        intro j hj
        by_cases e : k = j
        · subst e
          refine ⟨A2, m, c2, by simp [List.getElem?_set]; omega, (o2.more hsz).setOther (fun g hg => ?_) _⟩
          have := o2.blk_ g hg
          show g ≠ w.heap.size
          omega
        · obtain ⟨B', m', d', hv, hB'⟩ := hrows j (by omega)
          refine ⟨B', m', d', by rw [List.getElem?_set, if_neg e]; exact hv, (hB'.below hb2).setOther (fun g hg => ?_) _⟩
          have := hB'.blk_ g hg
          show g ≠ w.heap.size
          omega)
      clear hrows hown hown2 hbl o2
      go_wp2
      go_roundw
      case rel => exact ⟨k + 1, _, by omega, by go_num, hown3, HR.out, by simp; omega, hb3⟩
      case measure => simp [intOf]; omega
    · obtain rfl : k = n := by omega
      go_wp2
      go_ret
      refine ⟨_, _, rfl, ⟨ha.1, vs, hown, fun j hj => ?_⟩, hbl⟩
      obtain ⟨B, m, d, hv, hB⟩ := hrows j hj
      refine ⟨B, m, d, hv, hB.more (by omega), fun g hg => ?_⟩
      have := hB.blk_ g hg
      simp [blk]
      omega

end Go.Proofs.Ytcijnmooifcicaa
