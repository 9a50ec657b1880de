/- Chapter 12: a map from ints to bools that the call makes (MapB); impl.IsWithin. -/
import Derived.Test.YtobdkfhmmpigiaaGreatMB
import Derived.Maps.OwnSet
namespace Go.Proofs.YtobdkfhmmpigiaaGreat
open Go.RowKit Go.Deep Go.Maps
set_option linter.unusedVariables false

theorem zeroB (w : World) : (zeroValue 4).run Tryz.prog w = .ok (.bool false) w := by kernel_rfl
theorem wf64 {x : Int} (h : 0 ≤ x ∧ x ≤ 1048576) : (Lit.int .i64 x).wf = true := by
  have h1 : IntKind.i64.min = -9223372036854775808 := rfl
  have h2 : IntKind.i64.max = 9223372036854775807 := rfl
  simp only [Lit.wf, Bool.and_eq_true, decide_eq_true_eq]
  omega
theorem plainElem_bool_inv {H : Type} {P : Program} {e : TypeId} (he : P.underlying e = some .bool) {v : Value} {z : DataW H × List MemPlace} (h : plainElem P e v = some z) : ∃ x, v = .bool x ∧ z = (.lit (.bool x), []) := by
  unfold plainElem at h
  rw [he] at h
  cases v <;> simp at h
  exact ⟨_, rfl, h.symm⟩
/-- Block b is a map of at most k entries in which just the numbers of S are true. -/
def MapB (w : World) (b k : Nat) (S : Int → Bool) : Prop :=
  ∃ D : DataW Unit, w.ownsMap Tryz.prog 3 (plainElem Tryz.prog 4) b k D ∧ IsMap D ∧ ∀ x, 0 ≤ x → x ≤ 1048576 → D.atKey (.int .i64 x) (.lit (.bool false)) = .lit (.bool (S x))
section
variable {w w' : World} {b k : Nat} {S : Int → Bool}
theorem MapB.new (w : World) : MapB (w.alloc (.map #[] 0)) w.heap.size 0 fun _ => false :=
  ⟨.map [], World.ownsMap_made w _ _ _, isMap_empty, fun x _ _ => rfl⟩
theorem MapB.lt (h : MapB w b k S) : b < w.heap.size := by
  obtain ⟨D, h1, _⟩ := h
  exact h1.lt
theorem MapB.mono {k' : Nat} (h : MapB w b k S) (hk : k ≤ k') : MapB w b k' S := by
  obtain ⟨D, h1, h2⟩ := h
  exact ⟨D, h1.mono hk, h2⟩
theorem MapB.kept {row : Option Nat} (h : MapB w b k S) (hg : w.grownBy w' row) (hne : some b ≠ row) : MapB w' b k S := by
  obtain ⟨D, h1, h2⟩ := h
  exact ⟨D, h1.kept hg hne, h2⟩
theorem MapB.keep (h : MapB w b k S) (hk : w'.heap[b]? = w.heap[b]?) : MapB w' b k S := by
  obtain ⟨D, ⟨es, clock, hb, hr⟩, h2⟩ := h
  exact ⟨D, ⟨es, clock, by rw [hk]; exact hb, hr⟩, h2⟩
theorem MapB.look (h : MapB w b k S) {x : Int} (hx : 0 ≤ x ∧ x ≤ 1048576) : (Instr.lookup 63 (.map (some b)) (.int .i64 x) false).run Tryz.prog w = .ok (.bool (S x)) w := by
  obtain ⟨D, h1, h2, h3⟩ := h
  obtain ⟨v, ps, hrun, hv⟩ := h1.lookup (int_keyed Tryz.underlying3) Tryz.underlying63 (zeroB w) (plainElem_bool Tryz.underlying4 false) (keyOf_int_mk Tryz.underlying3 (wf64 hx))
  rw [h3 x hx.1 hx.2] at hv
  obtain ⟨x1, e1, he⟩ := plainElem_bool_inv Tryz.underlying4 hv
  rw [e1] at hrun
  refine hrun.trans ?_
  simp only [Prod.mk.injEq, DataW.lit.injEq, Lit.bool.injEq] at he
  rw [he.1]
end
/-- 'm[x] = true'. -/
theorem wpL_mapset (w : World) {ops : Array Oper} {rest : List Oper} {o : Oper} {a : Act} {Q : Exit → Act → World → Prop} (hg : o.guard = none) (m x v : Operand) (hop : o.op = Op.mapUpdate 63 m x v)
    (b k : Nat) (S : Int → Bool) (hm : a.eval m = .map (some b)) (hown : MapB w b k S) (hn : k < 1048576) (z : Int) (hx : a.eval x = .int .i64 z) (hv : a.eval v = .bool true) (hz : 0 ≤ z ∧ z ≤ 1048576)
    (hK : ∀ w', MapB w' b (k + 1) (fun y => S y || y == z) → w.grownBy w' (some b) → wpList Tryz.prog ops Q rest (a.put o.dst undef) w') : wpList Tryz.prog ops Q (o :: rest) a w := by
  obtain ⟨D, h1, h2, h3⟩ := hown
  refine wpList_mapUpdate_own w hg m x v 63 hop 3 4 (int_keyed Tryz.underlying3) Tryz.underlying63 (plainElem Tryz.prog 4) b k D hm h1 (by unfold maxLen; omega) _ _ _ hx hv (keyOf_int_mk Tryz.underlying3 (wf64 hz)) _ [] (plainElem_bool Tryz.underlying4 true) ?_
  intro w' r1 r2
  refine hK w' ⟨_, r1, h2.put _ _, fun y hy1 hy2 => ?_⟩ r2
  by_cases e : y = z
  · subst e
    rw [atKey_put_same h2 (by first | trivial | rfl | simp [WideAt.IsKeyLit])]
    simp
  · have hne : (Lit.int .i64 y) ≠ Lit.int .i64 z := fun h => e (by injection h)
    rw [atKey_put_other hne, h3 y hy1 hy2]
    have : (y == z) = false := by simp [e]
    show DataW.lit (Lit.bool (S y)) = DataW.lit (Lit.bool (S y || y == z))
    rw [this, Bool.or_false]

/-- Which numbers are in the first k of a list. -/
def inTo (b : List Int) (k : Nat) (x : Int) : Bool := (b.take k).contains x
theorem inTo_succ {b : List Int} {k : Nat} (h : k < b.length) : (fun y => inTo b k y || y == nth b k) = inTo b (k + 1) := by
  funext y
  unfold inTo
  rw [take_nth h]
  simp
  rfl
def witI (a b : List Int) : Bool := a.all fun x => b.contains x
theorem all_take {a : List Int} {f : Int → Bool} {k : Nat} (h : k < a.length) : (a.take (k + 1)).all f = ((a.take k).all f && f (nth a k)) := by
  rw [take_nth h]; simp [List.all_append]
theorem all_bad {a : List Int} {f : Int → Bool} {k : Nat} (h : k < a.length) (h2 : f (nth a k) = false) : a.all f = false := by
  rw [← Bool.not_eq_true, List.all_eq_true]
  intro h3
  have := h3 _ (nth_mem h)
  rw [h2] at this
  cases this
attribute [irreducible] inTo witI

set_option maxHeartbeats 2000000 in
theorem implWithin (A B : Option Addr) (n m c d : Nat) (a b : List Int) (w : World) (ha : RdI w A n a) (hb : RdI w B m b) (hn : n ≤ 1048576) (hm : m ≤ 1000) (hza : ∀ x ∈ a, 0 ≤ x ∧ x ≤ 1048576) (hzb : ∀ x ∈ b, 0 ≤ x ∧ x ≤ 1048576) :
    Calls Tryz.prog 57 #[.slice A n c, .slice B m d] w fun e w' => e = .returned (.bool (witI a b)) ∧ Below w.heap.size w w' := by
  have HLA := Lib.hid ha.lenI
  have HLB := Lib.hid hb.lenI
  have HA := Lib.hid ha
  have HB := Lib.hid hb
  have HZA := Lib.hid hza
  have HZB := Lib.hid hzb
  have HM0 := Lib.hid (MapB.new w)
  have HL0 := Lib.hid (below_alloc w (.map #[] 0))
  have hmm := @run_makeMap Tryz.prog
  clear ha hb hza hzb
  go_enter Tryz.func57, Tryz.ntmps57
  go_wp2_with fail
  go_loopw [13] (fun iv wr => ∃ k : Nat, iv = .int .i64 (k : Nat) ∧ k ≤ m ∧ MapB wr w.heap.size k (inTo b k) ∧ Below w.heap.size w wr) (fun iv _ => m - (intOf iv).toNat)
  case atStart => exact ⟨0, rfl, Nat.zero_le _, by have h := HM0.out; have e : (fun _ => false) = inTo b 0 := by { funext y; unfold inTo; simp }; rw [e] at h; exact h, HL0.out⟩
  case round =>
    clear HM0 HL0
    obtain ⟨k, rfl, hk, hmap, hbl⟩ := hrel
    have hsz := hbl.size
    by_cases hlt : k < m
    · obtain ⟨b1, rfl, _, l1⟩ := (HB.out.below hbl).at_ hlt
      obtain ⟨z, hz⟩ : ∃ z, nth b k = z := ⟨_, rfl⟩
      have hzz : 0 ≤ z ∧ z ≤ 1048576 := by rw [← hz]; exact HZB.out _ (nth_mem (by rw [HLB.out]; exact hlt))
      have HS := Lib.hid (inTo_succ (b := b) (k := k) (by rw [HLB.out]; exact hlt))
      rw [hz] at l1 HS
      have HMP := Lib.hid hmap
      clear hz hmap
      go_wp2_with (at_mapUpdate; refine wpL_mapset _ rfl _ _ _ rfl w.heap.size k _ rfl HMP.out (by omega) z rfl rfl hzz ?_)
      intro w1 hm1 hg1
      have hb1 := below_of_grown hbl hg1 hsz (fun g e => by injection e with e; omega)
      rw [HS.out] at hm1
      go_wp2_with fail
      go_roundw
      case rel => exact ⟨k + 1, by go_num, by omega, hm1, hb1⟩
      case measure => (simp [intOf] <;> omega)
    · obtain rfl : k = m := by omega
      have HMP := Lib.hid hmap
      have HBL := Lib.hid hbl
      have HT := Lib.hid (show inTo b k = fun y => b.contains y by funext y; unfold inTo; rw [List.take_of_length_le (by rw [HLB.out]; exact Nat.le_refl _)])
      obtain ⟨wo, hwo⟩ : ∃ x, x = wr := ⟨_, rfl⟩
      subst hwo
      clear hmap hbl
      go_wp2_with fail
      go_loopw [22] (fun iv wr => ∃ j : Nat, iv = .int .i64 (j : Nat) ∧ j ≤ n ∧ Hid ((a.take j).all (fun x => b.contains x) = true) ∧ wo = wr) (fun iv _ => n - (intOf iv).toNat)
      case atStart => exact ⟨0, rfl, Nat.zero_le _, Lib.hid (by simp), rfl⟩
      case round =>
        obtain ⟨j, rfl, hj, HJ, hww⟩ := hrel
        obtain rfl := hww
        by_cases hlt : j < n
        · obtain ⟨a1, rfl, _, l1⟩ := (HA.out.below HBL.out).at_ hlt
          have HAT := Lib.hid (all_take (f := fun x => b.contains x) (show j < a.length by rw [HLA.out]; exact hlt))
          have HBD := Lib.hid (fun h => all_bad (f := fun x => b.contains x) (show j < a.length by rw [HLA.out]; exact hlt) h)
          have hzz : 0 ≤ nth a j ∧ nth a j ≤ 1048576 := HZA.out _ (nth_mem (by rw [HLA.out]; exact hlt))
          have hlk := HMP.out.look hzz
          obtain ⟨z, hz⟩ : ∃ z, nth a j = z := ⟨_, rfl⟩
          rw [hz] at l1 hlk hzz HAT HBD
          rw [HT.out] at hlk
          clear hz
          cases hc : b.contains z with
          | true =>
            have hlk2 : (Instr.lookup 63 (.map (some w.heap.size)) (.int .i64 z) false).run Tryz.prog wo = .ok (.bool true) wo := by rw [hlk]; show Result.ok (Value.bool (b.contains z)) wo = _; rw [hc]
            have HN := Lib.hid (show (a.take (j + 1)).all (fun x => b.contains x) = true by rw [HAT.out, HJ.out, hc]; rfl)
            clear hlk hc
            go_wp2_with fail
            go_roundw
            case rel => exact ⟨j + 1, by go_num, by omega, HN, by first | trivial | rfl⟩
            case measure => (simp [intOf] <;> omega)
          | false =>
            have hlk2 : (Instr.lookup 63 (.map (some w.heap.size)) (.int .i64 z) false).run Tryz.prog wo = .ok (.bool false) wo := by rw [hlk]; show Result.ok (Value.bool (b.contains z)) wo = _; rw [hc]
            have HF := Lib.hid (show witI a b = false by unfold witI; exact HBD.out hc)
            clear hlk hc
            go_wp2_with fail
            go_ret
            exact ⟨by rw [HF.out]; rfl, HBL.out⟩
        · obtain rfl : j = n := by omega
          have HF := Lib.hid (show witI a b = true by unfold witI; have h := HJ.out; rw [List.take_of_length_le (by rw [HLA.out]; exact Nat.le_refl _)] at h; exact h)
          go_wp2_with fail
          go_ret
          exact ⟨by rw [HF.out]; rfl, HBL.out⟩
end Go.Proofs.YtobdkfhmmpigiaaGreat
