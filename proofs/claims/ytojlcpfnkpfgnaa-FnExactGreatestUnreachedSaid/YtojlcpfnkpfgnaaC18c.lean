/- Chapter 18: the walks of Unreached and GreatestUnreached. -/
import Derived.Test.YtojlcpfnkpfgnaaC18b
namespace Go.Proofs.Ytojlcpfnkpfgnaa
open Go.RowKit Go.Deep
set_option linter.unusedVariables false

theorem unrV_yes {a b : Nat} (h1 : 1 ≤ a) (h2 : a ≤ 9) (h3 : 1 ≤ b) (h4 : b ≤ 9) (hg : Nat.gcd a b = 1) : unrV a b = unrTo a b (a * b) := by
  rw [unrV, if_pos ⟨by unfold okAB; omega, by rw [Int.toNat_natCast, Int.toNat_natCast]; exact hg⟩, Int.toNat_natCast, Int.toNat_natCast]
theorem unrV_no {a b : Int} (h : ¬ okAB a b) : unrV a b = [] := if_neg (fun x => h x.1)
theorem unrV_gcd {a b : Nat} (h : Nat.gcd a b ≠ 1) : unrV a b = [] := if_neg (fun x => h (by have := x.2; rwa [Int.toNat_natCast, Int.toNat_natCast] at this))
theorem mul_cast {x y p : Nat} (h : x * y = p) : (x : Int) * (y : Int) = (p : Int) := by rw [← h]; simp

theorem own_empty_at (w : World) (e : TypeId) (s : Nat) (h : w.heap.size = s) : Own (w.alloc (.cells #[] e)) s e (some ⟨s, 0, none⟩) 0 0 [] := by subst h; exact own_empty w e
/-- 'append(s, x)' of one element, the new block's number given. -/
theorem wpL_append1_at {P : Program} (w : World) {ops : Array Oper} {rest : List Oper} {o : Oper} {a : Act} {Q : Exit → Act → World → Prop} (hgd : o.guard = none) (s x : Operand) (t : TypeId)
    (ho : o.op = .call { callee := .builtin .append, args := #[s, x], argTypes := #[t, t] })
    (base : Nat) (e : TypeId) (z : Value) (bytes : Nat) (ht : P.underlying t = some (.slice e)) (hinfo : (P.info? e).map (fun i => (i.zero, i.size, i.bytes)) = some (some z, 1, bytes)) (hzs : z.cells.size = 1)
    (A : Option Addr) (n c : Nat) (xs : List Value) (hs : a.eval s = .slice A n c) (hown : Own w base e A n c xs)
    (u : Value) (sz : Nat) (hsz : w.heap.size = sz) (hx : a.eval x = .slice (some ⟨sz, 0, none⟩) 1 1) (h1 : u.oneCell' = true)
    (h63 : n + 1 ≤ maxLen) (hbytes : (n + 1) * bytes ≤ 140737488355328) (hbase : base ≤ w.heap.size)
    (h : ∀ A' c' w', Own w' base e A' (n + 1) c' (xs ++ [u]) → w.grownBy w' (blk A) → (blk A' = blk A ∨ blk A' = some (w.heap.size + 1)) → wpList P ops Q rest (a.put o.dst (.slice A' (n + 1) c')) w') : wpList P ops Q (o :: rest) a (w.alloc (.cells #[u] e)) := by
  subst hsz
  exact wpL_append1 w hgd s x t ho base e z bytes ht hinfo hzs A n c xs hs hown u hx h1 h63 hbytes hbase h
theorem sep_append {wr : World} {B k : Nat} {e : TypeId} {A1 A2 A4 : Option Addr} {n c : Nat} {xs : List Value} (ho : Own wr B e A1 n c xs) (hsep : ∀ g, blk A1 = some g → blk A2 = some g → False) (hat : blk A4 = blk A2 ∨ blk A4 = some (wr.heap.size + k)) :
    ∀ g, blk A1 = some g → blk A4 = some g → False := fun g h1 h2 => by
  rcases hat with h | h
  · rw [h] at h2; exact hsep g h1 h2
  · rw [h] at h2; injection h2 with h2; have := (ho.blk_ g h1).2; omega

set_option maxHeartbeats 4000000 in
theorem implUnr (a b : Int) (w : World) :
    Calls Try.prog 18 #[.int .i64 a, .int .i64 b] w fun e w' => ∃ A' n' c', e = .returned (.slice A' n' c') ∧ OwnI w' w.heap.size 3 A' n' c' (unrV a b) ∧ Below w.heap.size w w' := by
  by_cases h1 : 1 ≤ a
  · by_cases h2 : a ≤ 9
    · by_cases h3 : 1 ≤ b
      · by_cases h4 : b ≤ 9
        · obtain ⟨x, rfl⟩ := Int.eq_ofNat_of_zero_le (show 0 ≤ a by omega)
          obtain ⟨y, rfl⟩ := Int.eq_ofNat_of_zero_le (show 0 ≤ b by omega)
          have hx1 : 1 ≤ x := by omega
          have hx9 : x ≤ 9 := by omega
          have hy1 : 1 ≤ y := by omega
          have hy9 : y ≤ 9 := by omega
          have C := Lib.hid (implGcd x y w hx9 hy9)
          clear h1 h2 h3 h4
          by_cases hg : Nat.gcd x y = 1
          · have HV := Lib.hid (unrV_yes hx1 hx9 hy1 hy9 hg)
            have e1 : ((Nat.gcd x y : Int) != 1) = false := by simp [hg]
            obtain ⟨p, hp⟩ : ∃ p, x * y = p := ⟨_, rfl⟩
            have hp1 : 1 ≤ p := by rw [← hp]; exact Nat.mul_pos hx1 hy1
            have hp81 : p ≤ 81 := by rw [← hp]; exact Nat.mul_le_mul (show x ≤ 9 by omega) (show y ≤ 9 by omega)
            have hmul := mul_cast hp
            rw [hp] at HV
            clear hg hp
            go_enter Try.func18, Try.ntmps18
            go_wp2_with fail
            refine C.out.mono ?_
            rintro e w1 ⟨rfl, hb1⟩
            go_wp2_with (at_make; refine wpL_make _ rfl _ _ 39 rfl 4 (.bool false) 1 Try.underlying39 boolInfo rfl _ _ _ _ p rfl rfl rfl rfl (by omega) (by unfold maxLen; omega) ?_)
            intro w2 hown hbl0 hsz0
            rw [reach_zero x y p] at hown
            obtain ⟨g, u, hgA, _, _, hu, h2, h3⟩ := hown.at_ hp1
            injection hgA with hgA
            injection hgA with hgA
            subst hgA
            have hown1 := hown.set_ (Value.bool true) hp1
            rw [show (Value.bool true) = .bool (isSum x y 0) by rw [isSum_zero], reach_set hp1] at hown1
            have hs1 := hb1.size
            have hb2 := (hb1.trans (hbl0.mono hs1)).setCell (p := ⟨w1.heap.size, 0, none⟩) hs1 (.bool true)
            rw [show (isSum x y 0) = true from isSum_zero x y] at hown1
            clear hown hu
            obtain ⟨g0, hg0e⟩ : ∃ g0, w1.heap.size = g0 := ⟨_, rfl⟩
            rw [hg0e] at hs1 h2 h3 hown1 hb2
            have hs2 : w2.heap.size = g0 + 1 := by omega
            have HG := Lib.hid hg0e
            rw [hg0e]
            clear hg0e hsz0
            go_wp2_with fail
            go_loopw [6, 7] (fun v i wr => ∃ k q : Nat, ∃ A2 c2 acc, 1 ≤ k ∧ k ≤ p ∧ q ≤ k ∧ i = .int .i64 k ∧ v = .slice A2 q c2 ∧ OwnI wr w.heap.size 3 A2 q c2 acc ∧ Own wr g0 4 (some ⟨g0, 0, none⟩) p p (reachL x y p k) ∧ (∀ g, blk (some ⟨g0, 0, none⟩) = some g → blk A2 = some g → False) ∧ Below w.heap.size w wr ∧ acc = unrTo x y k) (fun _ i _ => p - (intOf i).toNat)
            case atStart =>
              refine ⟨1, 0, _, _, [], by omega, hp1, by omega, rfl, rfl, ?_, ?_, ?_, hb2.alloc (by simp [World.setCell]; omega) _, (unr_one x y).symm⟩
              · exact ((own_empty_at (w2.setCell ⟨g0, 0, none⟩ (.bool true)) 3 (g0 + 1) (by simp [World.setCell]; omega)).more (b2 := w.heap.size) (by omega) : Own _ _ _ _ _ _ ([].map (Value.int .i64)))
              · exact hown1.alloc _
              · intro g e1 e2
                simp [blk] at e1 e2
                omega
            case round =>
              clear hown1 hb2 hs2 h2 h3
              obtain ⟨k, q, A2, c2, acc, hk1, hk, hq, rfl, rfl, ho2, hown, hsep, hbl, hacc⟩ := hrel
              have HSEP := Lib.hid hsep
              have HACC := Lib.hid hacc
              have hg0 : w.heap.size ≤ g0 := hs1
              clear hsep hacc
              by_cases hlt : k < p
              · have hstep := isSum_step (n := k) hx1 hy1 hk1
                obtain ⟨gk, uk, hgk, _, _, _, hck, hfk⟩ := hown.at_ hlt
                injection hgk with hgk
                injection hgk with hgk
                subst hgk
                by_cases hA : x ≤ k
                · obtain ⟨gA, uA, hgA, _, _, huA, hcA, _⟩ := hown.at_ (show k - x < p by omega)
                  injection hgA with hgA
                  injection hgA with hgA
                  subst hgA
                  rw [reach_get (show k - x < p by omega), decide_eq_true (show k - x < k by omega), Bool.true_and] at huA
                  injection huA with huA
                  subst huA
                  cases hva : isSum x y (k - x) with
                  | true =>
                    have hr : isSum x y k = true := by rw [hstep, decide_eq_true hA, hva]; rfl
                    rw [hva] at hcA
                    clear hva hstep
                    have HR := Lib.hid hr
                    have hown2 := hown.set_ (Value.bool true) hlt
                    rw [show Value.bool true = .bool (isSum x y k) by rw [hr], reach_set hlt] at hown2
                    rw [hr] at hown2
                    have ho2' := ho2.setOther (p := ⟨g0, k, none⟩) (fun g h1 e => HSEP.out g0 rfl (by rw [h1, e])) (.bool true)
                    have hb2 := hbl.setCell (p := ⟨g0, k, none⟩) hg0 (.bool true)
                    have hsz2 := hb2.size
                    clear hr hown ho2 hbl
                    have H2 := Lib.hid (unr_no (a := x) (b := y) (n := k) HR.out)
                    go_wp2
                    go_roundw
                    case rel => exact ⟨k + 1, q, A2, c2, acc, by omega, by omega, by omega, by go_num, rfl, ho2', hown2, HSEP.out, hb2, by rw [H2.out]; exact HACC.out⟩
                    case measure => (simp [intOf] <;> omega)
                  | false =>
                    rw [hva] at hcA
                    by_cases hB : y ≤ k
                    · obtain ⟨gB, uB, hgB, _, _, huB, hcB, _⟩ := hown.at_ (show k - y < p by omega)
                      injection hgB with hgB
                      injection hgB with hgB
                      subst hgB
                      rw [reach_get (show k - y < p by omega), decide_eq_true (show k - y < k by omega), Bool.true_and] at huB
                      injection huB with huB
                      subst huB
                      cases hvb : isSum x y (k - y) with
                      | true =>
                        have hr : isSum x y k = true := by rw [hstep, decide_eq_true hA, hva, decide_eq_true hB, hvb]; rfl
                        rw [hvb] at hcB
                        clear hvb hstep hva
                        have HR := Lib.hid hr
                        have hown2 := hown.set_ (Value.bool true) hlt
                        rw [show Value.bool true = .bool (isSum x y k) by rw [hr], reach_set hlt] at hown2
                        rw [hr] at hown2
                        have ho2' := ho2.setOther (p := ⟨g0, k, none⟩) (fun g h1 e => HSEP.out g0 rfl (by rw [h1, e])) (.bool true)
                        have hb2 := hbl.setCell (p := ⟨g0, k, none⟩) hg0 (.bool true)
                        have hsz2 := hb2.size
                        clear hr hown ho2 hbl
                        have H2 := Lib.hid (unr_no (a := x) (b := y) (n := k) HR.out)
                        go_wp2
                        go_roundw
                        case rel => exact ⟨k + 1, q, A2, c2, acc, by omega, by omega, by omega, by go_num, rfl, ho2', hown2, HSEP.out, hb2, by rw [H2.out]; exact HACC.out⟩
                        case measure => (simp [intOf] <;> omega)
                      | false =>
                        have hr : isSum x y k = false := by rw [hstep, decide_eq_true hA, hva, decide_eq_true hB, hvb]; rfl
                        rw [hvb] at hcB
                        clear hvb hstep hva
                        have HR := Lib.hid hr
                        have hown2 := hown.set_ (Value.bool false) hlt
                        rw [show Value.bool false = .bool (isSum x y k) by rw [hr], reach_set hlt] at hown2
                        rw [hr] at hown2
                        have ho2' := ho2.setOther (p := ⟨g0, k, none⟩) (fun g h1 e => HSEP.out g0 rfl (by rw [h1, e])) (.bool false)
                        have hb2 := hbl.setCell (p := ⟨g0, k, none⟩) hg0 (.bool false)
                        have hsz2 := hb2.size
                        clear hr hown ho2 hbl
                        have H2 := Lib.hid (unr_yes (a := x) (b := y) (n := k) hk1 HR.out)
                        go_wp2_with (at_builtin; refine wpL_append1_at _ rfl _ _ _ rfl w.heap.size 3 (.int .i64 0) 8 Try.underlying22 intInfo rfl _ q _ _ rfl ho2' _ wr.heap.size (by simp [World.setCell]) rfl rfl (by unfold maxLen; omega) (by omega) hsz2 ?_)
                        intro A3 c3 w3 ho3 hg3 hat3
                        have hb3 := own_below ho2' hb2 hsz2 hg3
                        have hown3 := hown2.kept hg3 (fun g h1 h2 => HSEP.out g h1 h2.symm)
                        have HS3 := Lib.hid (sep_append (k := 1) (A4 := A3) hown2 HSEP.out (by simpa [World.setCell] using hat3))
                        go_wp2
                        go_roundw
                        case rel => exact ⟨k + 1, q + 1, A3, c3, acc ++ [(k : Int)], by omega, by omega, by omega, by go_num, rfl, by rw [OwnI, List.map_append]; simpa using ho3, hown3, HS3.out, hb3, by rw [H2.out, HACC.out]⟩
                        case measure => (simp [intOf] <;> omega)
                    · have hr : isSum x y k = false := by rw [hstep, decide_eq_true hA, hva, decide_eq_false hB]; rfl
                      clear hstep hva
                      have HR := Lib.hid hr
                      have hown2 := hown.set_ (Value.bool false) hlt
                      rw [show Value.bool false = .bool (isSum x y k) by rw [hr], reach_set hlt] at hown2
                      rw [hr] at hown2
                      have ho2' := ho2.setOther (p := ⟨g0, k, none⟩) (fun g h1 e => HSEP.out g0 rfl (by rw [h1, e])) (.bool false)
                      have hb2 := hbl.setCell (p := ⟨g0, k, none⟩) hg0 (.bool false)
                      have hsz2 := hb2.size
                      clear hr hown ho2 hbl
                      have H2 := Lib.hid (unr_yes (a := x) (b := y) (n := k) hk1 HR.out)
                      go_wp2_with (at_builtin; refine wpL_append1_at _ rfl _ _ _ rfl w.heap.size 3 (.int .i64 0) 8 Try.underlying22 intInfo rfl _ q _ _ rfl ho2' _ wr.heap.size (by simp [World.setCell]) rfl rfl (by unfold maxLen; omega) (by omega) hsz2 ?_)
                      intro A3 c3 w3 ho3 hg3 hat3
                      have hb3 := own_below ho2' hb2 hsz2 hg3
                      have hown3 := hown2.kept hg3 (fun g h1 h2 => HSEP.out g h1 h2.symm)
                      have HS3 := Lib.hid (sep_append (k := 1) (A4 := A3) hown2 HSEP.out (by simpa [World.setCell] using hat3))
                      go_wp2
                      go_roundw
                      case rel => exact ⟨k + 1, q + 1, A3, c3, acc ++ [(k : Int)], by omega, by omega, by omega, by go_num, rfl, by rw [OwnI, List.map_append]; simpa using ho3, hown3, HS3.out, hb3, by rw [H2.out, HACC.out]⟩
                      case measure => (simp [intOf] <;> omega)
                · by_cases hB : y ≤ k
                  · obtain ⟨gB, uB, hgB, _, _, huB, hcB, _⟩ := hown.at_ (show k - y < p by omega)
                    injection hgB with hgB
                    injection hgB with hgB
                    subst hgB
                    rw [reach_get (show k - y < p by omega), decide_eq_true (show k - y < k by omega), Bool.true_and] at huB
                    injection huB with huB
                    subst huB
                    cases hvb : isSum x y (k - y) with
                    | true =>
                      have hr : isSum x y k = true := by rw [hstep, decide_eq_false hA, decide_eq_true hB, hvb]; rfl
                      rw [hvb] at hcB
                      clear hvb hstep 
                      have HR := Lib.hid hr
                      have hown2 := hown.set_ (Value.bool true) hlt
                      rw [show Value.bool true = .bool (isSum x y k) by rw [hr], reach_set hlt] at hown2
                      rw [hr] at hown2
                      have ho2' := ho2.setOther (p := ⟨g0, k, none⟩) (fun g h1 e => HSEP.out g0 rfl (by rw [h1, e])) (.bool true)
                      have hb2 := hbl.setCell (p := ⟨g0, k, none⟩) hg0 (.bool true)
                      have hsz2 := hb2.size
                      clear hr hown ho2 hbl
                      have H2 := Lib.hid (unr_no (a := x) (b := y) (n := k) HR.out)
                      go_wp2
                      go_roundw
                      case rel => exact ⟨k + 1, q, A2, c2, acc, by omega, by omega, by omega, by go_num, rfl, ho2', hown2, HSEP.out, hb2, by rw [H2.out]; exact HACC.out⟩
                      case measure => (simp [intOf] <;> omega)
                    | false =>
                      have hr : isSum x y k = false := by rw [hstep, decide_eq_false hA, decide_eq_true hB, hvb]; rfl
                      rw [hvb] at hcB
                      clear hvb hstep 
                      have HR := Lib.hid hr
                      have hown2 := hown.set_ (Value.bool false) hlt
                      rw [show Value.bool false = .bool (isSum x y k) by rw [hr], reach_set hlt] at hown2
                      rw [hr] at hown2
                      have ho2' := ho2.setOther (p := ⟨g0, k, none⟩) (fun g h1 e => HSEP.out g0 rfl (by rw [h1, e])) (.bool false)
                      have hb2 := hbl.setCell (p := ⟨g0, k, none⟩) hg0 (.bool false)
                      have hsz2 := hb2.size
                      clear hr hown ho2 hbl
                      have H2 := Lib.hid (unr_yes (a := x) (b := y) (n := k) hk1 HR.out)
                      go_wp2_with (at_builtin; refine wpL_append1_at _ rfl _ _ _ rfl w.heap.size 3 (.int .i64 0) 8 Try.underlying22 intInfo rfl _ q _ _ rfl ho2' _ wr.heap.size (by simp [World.setCell]) rfl rfl (by unfold maxLen; omega) (by omega) hsz2 ?_)
                      intro A3 c3 w3 ho3 hg3 hat3
                      have hb3 := own_below ho2' hb2 hsz2 hg3
                      have hown3 := hown2.kept hg3 (fun g h1 h2 => HSEP.out g h1 h2.symm)
                      have HS3 := Lib.hid (sep_append (k := 1) (A4 := A3) hown2 HSEP.out (by simpa [World.setCell] using hat3))
                      go_wp2
                      go_roundw
                      case rel => exact ⟨k + 1, q + 1, A3, c3, acc ++ [(k : Int)], by omega, by omega, by omega, by go_num, rfl, by rw [OwnI, List.map_append]; simpa using ho3, hown3, HS3.out, hb3, by rw [H2.out, HACC.out]⟩
                      case measure => (simp [intOf] <;> omega)
                  · have hr : isSum x y k = false := by rw [hstep, decide_eq_false hA, decide_eq_false hB]; rfl
                    clear hstep 
                    have HR := Lib.hid hr
                    have hown2 := hown.set_ (Value.bool false) hlt
                    rw [show Value.bool false = .bool (isSum x y k) by rw [hr], reach_set hlt] at hown2
                    rw [hr] at hown2
                    have ho2' := ho2.setOther (p := ⟨g0, k, none⟩) (fun g h1 e => HSEP.out g0 rfl (by rw [h1, e])) (.bool false)
                    have hb2 := hbl.setCell (p := ⟨g0, k, none⟩) hg0 (.bool false)
                    have hsz2 := hb2.size
                    clear hr hown ho2 hbl
                    have H2 := Lib.hid (unr_yes (a := x) (b := y) (n := k) hk1 HR.out)
                    go_wp2_with (at_builtin; refine wpL_append1_at _ rfl _ _ _ rfl w.heap.size 3 (.int .i64 0) 8 Try.underlying22 intInfo rfl _ q _ _ rfl ho2' _ wr.heap.size (by simp [World.setCell]) rfl rfl (by unfold maxLen; omega) (by omega) hsz2 ?_)
                    intro A3 c3 w3 ho3 hg3 hat3
                    have hb3 := own_below ho2' hb2 hsz2 hg3
                    have hown3 := hown2.kept hg3 (fun g h1 h2 => HSEP.out g h1 h2.symm)
                    have HS3 := Lib.hid (sep_append (k := 1) (A4 := A3) hown2 HSEP.out (by simpa [World.setCell] using hat3))
                    go_wp2
                    go_roundw
                    case rel => exact ⟨k + 1, q + 1, A3, c3, acc ++ [(k : Int)], by omega, by omega, by omega, by go_num, rfl, by rw [OwnI, List.map_append]; simpa using ho3, hown3, HS3.out, hb3, by rw [H2.out, HACC.out]⟩
                    case measure => (simp [intOf] <;> omega)
              · obtain rfl : k = p := by omega
                go_wp2
                go_ret
                exact ⟨_, _, _, rfl, by rw [HV.out, ← HACC.out]; exact ho2, hbl⟩
          · have HV := Lib.hid (unrV_gcd hg)
            have e1 : ((Nat.gcd x y : Int) != 1) = true := by simp [bne]; omega
            clear hg
            go_enter Try.func18, Try.ntmps18
            go_wp2_with fail
            refine C.out.mono ?_
            rintro e w1 ⟨rfl, hb1⟩
            go_wp2_with fail
            go_ret
            exact ⟨_, _, _, rfl, by rw [HV.out]; exact Own.nil_ _ _ _, hb1⟩
        · have HV := Lib.hid (unrV_no (a := a) (b := b) (fun h => h4 h.2.2))
          go_enter Try.func18, Try.ntmps18
          go_wp2
          go_ret
          exact ⟨_, _, _, rfl, by rw [HV.out]; exact Own.nil_ _ _ _, Below.refl _ _⟩
      · have HV := Lib.hid (unrV_no (a := a) (b := b) (fun h => h3 h.2.1))
        go_enter Try.func18, Try.ntmps18
        go_wp2
        go_ret
        exact ⟨_, _, _, rfl, by rw [HV.out]; exact Own.nil_ _ _ _, Below.refl _ _⟩
    · have HV := Lib.hid (unrV_no (a := a) (b := b) (fun h => h2 h.1.2))
      go_enter Try.func18, Try.ntmps18
      go_wp2
      go_ret
      exact ⟨_, _, _, rfl, by rw [HV.out]; exact Own.nil_ _ _ _, Below.refl _ _⟩
  · have HV := Lib.hid (unrV_no (a := a) (b := b) (fun h => h1 h.1.1))
    go_enter Try.func18, Try.ntmps18
    go_wp2
    go_ret
    exact ⟨_, _, _, rfl, by rw [HV.out]; exact Own.nil_ _ _ _, Below.refl _ _⟩

set_option maxHeartbeats 4000000 in
theorem specUnr (a b : Int) (w : World) :
    Calls Try.prog 17 #[.int .i64 a, .int .i64 b] w fun e w' => ∃ A' n' c', e = .returned (.slice A' n' c') ∧ OwnI w' w.heap.size 3 A' n' c' (unrV a b) ∧ Below w.heap.size w w' := by
  by_cases h1 : 1 ≤ a ∧ a ≤ 9
  · by_cases h3 : 1 ≤ b ∧ b ≤ 9
    · obtain ⟨x, rfl⟩ := Int.eq_ofNat_of_zero_le (show 0 ≤ a by omega)
      obtain ⟨y, rfl⟩ := Int.eq_ofNat_of_zero_le (show 0 ≤ b by omega)
      have hx1 : 1 ≤ x := by omega
      have hx9 : x ≤ 9 := by omega
      have hy1 : 1 ≤ y := by omega
      have hy9 : y ≤ 9 := by omega
      have C1 := Lib.hid (fun W => l01In_yes (x : Int) 1 9 W h1)
      have C2 := Lib.hid (fun W => l01In_yes (y : Int) 1 9 W h3)
      obtain ⟨p, hp⟩ : ∃ p, x * y = p := ⟨_, rfl⟩
      have hp1 : 1 ≤ p := by rw [← hp]; exact Nat.mul_pos hx1 hy1
      have hp81 : p ≤ 81 := by rw [← hp]; exact Nat.mul_le_mul (show x ≤ 9 by omega) (show y ≤ 9 by omega)
      have hmul := mul_cast hp
      have HP := Lib.hid hp
      clear h1 h3 hp
      go_enter Try.func17, Try.ntmps17
      go_wp2_with fail
      refine (C1.out _).mono ?_
      rintro e w' ⟨rfl, rfl⟩
      go_wp2_with fail
      refine (C2.out _).mono ?_
      rintro e w' ⟨rfl, rfl⟩
      go_wp2_with fail
      go_loop [5] (fun i => ∃ d : Nat, 2 ≤ d ∧ d ≤ x + 2 ∧ i = .int .i64 d ∧ NoDiv x y d) (fun i => x + 3 - (intOf i).toNat)
      case atStart => exact ⟨2, by omega, by omega, rfl, NoDiv.two _ _⟩
      case round =>
        obtain ⟨d, hd2, hdx, rfl, hnd⟩ := hrel
        have HND := Lib.hid hnd
        clear hnd
        by_cases hdle : d ≤ x
        · by_cases hm1 : x % d = 0
          · have e1 : ((x : Int) % (d : Int) == 0) = true := by rw [show (x : Int) % (d : Int) = ((x % d : Nat) : Int) by simp, hm1]; rfl
            by_cases hm2 : y % d = 0
            · have e2 : ((y : Int) % (d : Int) == 0) = true := by rw [show (y : Int) % (d : Int) = ((y % d : Nat) : Int) by simp, hm2]; rfl
              have HV := Lib.hid (unrV_gcd (div_no hd2 hm1 hm2))
              clear hm1 hm2
              go_wp2_with fail
              go_ret
              exact ⟨_, _, _, rfl, by rw [HV.out]; exact Own.nil_ _ _ _, Below.refl _ _⟩
            · have e2 : ((y : Int) % (d : Int) == 0) = false := by rw [show (y : Int) % (d : Int) = ((y % d : Nat) : Int) by simp]; simp; omega
              have H := Lib.hid (HND.out.succ (fun h => hm2 h.2))
              clear hm1 hm2
              go_wp2_with fail
              go_round
              case rel => exact ⟨d + 1, by omega, by omega, by go_num, H.out⟩
              case measure => (simp [intOf] <;> omega)
          · have e1 : ((x : Int) % (d : Int) == 0) = false := by rw [show (x : Int) % (d : Int) = ((x % d : Nat) : Int) by simp]; simp; omega
            have H := Lib.hid (HND.out.succ (fun h => hm1 h.1))
            clear hm1
            go_wp2_with fail
            go_round
            case rel => exact ⟨d + 1, by omega, by omega, by go_num, H.out⟩
            case measure => (simp [intOf] <;> omega)
        · have hnd : NoDiv x y (x + 1) := fun k h1 h2 => HND.out k h1 (by omega)
          have HV := Lib.hid (unrV_yes hx1 hx9 hy1 hy9 (nodiv_gcd hx1 hnd))
          rw [HP.out] at HV
          clear hnd
          go_wp2_with fail
          go_loopw [6, 7] (fun v i wr => ∃ k q : Nat, ∃ A2 c2 acc, 1 ≤ k ∧ k ≤ p ∧ q ≤ k ∧ i = .int .i64 k ∧ v = .slice A2 q c2 ∧ OwnI wr w.heap.size 3 A2 q c2 acc ∧ Below w.heap.size w wr ∧ acc = unrTo x y k) (fun _ i _ => p - (intOf i).toNat)
          case atStart => exact ⟨1, 0, _, _, [], by omega, hp1, by omega, rfl, rfl, own_empty w _, below_alloc w _, (unr_one x y).symm⟩
          case round =>
            obtain ⟨k, q, A2, c2, acc, hk1, hk, hq, rfl, rfl, ho2, hbl, hacc⟩ := hrel
            have HACC := Lib.hid hacc
            clear hacc
            have hsz2 := hbl.size
            by_cases hlt : k < p
            · go_wp2_with fail
              go_loopw [8, 9] (fun v i wr' => ∃ j z : Nat, i = .int .i64 z ∧ z = j * x ∧ j ≤ k + 1 ∧ z ≤ k + x ∧ v = .bool (foundTo x y k j) ∧ wr = wr') (fun _ i _ => k + x + 1 - (intOf i).toNat)
              case atStart => exact ⟨0, 0, rfl, by simp, by omega, by omega, by rw [foundTo], rfl⟩
              case round =>
                obtain ⟨j, z, rfl, hz, hj, hzk, rfl, rfl⟩ := hrel
                have HZ := Lib.hid hz
                clear hz
                by_cases hzle : z ≤ k
                · have hjk : j + 1 ≤ k + 1 := by
                    have h1 := HZ.out
                    have h2 : j ≤ j * x := Nat.le_mul_of_pos_right _ (by omega)
                    omega
                  have HZ2 := Lib.hid (show z + x = (j + 1) * x by rw [HZ.out, Nat.succ_mul])
                  have HFS := Lib.hid (show foundTo x y k (j + 1) = (foundTo x y k j || (k - z) % y == 0) by rw [foundTo, ← HZ.out, decide_eq_true hzle, Bool.true_and])
                  have hcast := Lib.hid (show ((k : Int) - (z : Int)) % (y : Int) = (((k - z) % y : Nat) : Int) by rw [Int.natCast_emod, Int.ofNat_sub hzle])
                  cases hf : foundTo x y k j with
                  | true =>
                    have H := Lib.hid (show true = foundTo x y k (j + 1) by rw [HFS.out, hf]; rfl)
                    clear hf
                    go_wp2_with fail
                    go_roundw
                    case rel => exact ⟨j + 1, z + x, by go_num, HZ2.out, hjk, by omega, by rw [← H.out], (by first | rfl | trivial)⟩
                    case measure => (simp [intOf] <;> omega)
                  | false =>
                    by_cases hm : (k - z) % y = 0
                    · have e1 : (((k : Int) - (z : Int)) % (y : Int) == 0) = true := by rw [hcast.out, hm]; rfl
                      have H := Lib.hid (show true = foundTo x y k (j + 1) by rw [HFS.out, hf, hm]; rfl)
                      clear hf hm
                      go_wp2_with fail
                      go_roundw
                      case rel => exact ⟨j + 1, z + x, by go_num, HZ2.out, hjk, by omega, by rw [← H.out], (by first | rfl | trivial)⟩
                      case measure => (simp [intOf] <;> omega)
                    · have e1 : (((k : Int) - (z : Int)) % (y : Int) == 0) = false := by rw [hcast.out]; simp; omega
                      have H := Lib.hid (show false = foundTo x y k (j + 1) by rw [HFS.out, hf]; simp [hm])
                      clear hf hm
                      go_wp2_with fail
                      go_roundw
                      case rel => exact ⟨j + 1, z + x, by go_num, HZ2.out, hjk, by omega, by rw [← H.out], (by first | rfl | trivial)⟩
                      case measure => (simp [intOf] <;> omega)
                · have HE := Lib.hid (found_end (a := x) (b := y) (n := k) (k := j) (by have := HZ.out; omega) hj)
                  cases hf : foundTo x y k j with
                  | true =>
                    have H2 := Lib.hid (unr_no (a := x) (b := y) (n := k) (by rw [HE.out, hf]))
                    clear hf
                    go_wp2_with fail
                    go_roundw
                    case rel => exact ⟨k + 1, q, A2, c2, acc, by omega, by omega, by omega, by go_num, rfl, ho2, hbl, by rw [H2.out]; exact HACC.out⟩
                    case measure => (simp [intOf] <;> omega)
                  | false =>
                    have H2 := Lib.hid (unr_yes (a := x) (b := y) (n := k) hk1 (by rw [HE.out, hf]))
                    clear hf
                    go_wp2_with (at_builtin; refine wpL_append1 _ rfl _ _ _ rfl w.heap.size 3 (.int .i64 0) 8 Try.underlying22 intInfo rfl _ q _ _ rfl ho2 _ rfl rfl (by unfold maxLen; omega) (by omega) hsz2 ?_)
                    intro A3 c3 w3 ho3 hg3 hat3
                    have hb3 := own_below ho2 hbl hsz2 hg3
                    go_wp2_with fail
                    go_roundw
                    case rel => exact ⟨k + 1, q + 1, A3, c3, acc ++ [(k : Int)], by omega, by omega, by omega, by go_num, rfl, by rw [OwnI, List.map_append]; simpa using ho3, hb3, by rw [H2.out, HACC.out]⟩
                    case measure => (simp [intOf] <;> omega)
            · obtain rfl : k = p := by omega
              go_wp2_with fail
              go_ret
              exact ⟨_, _, _, rfl, by rw [HV.out, ← HACC.out]; exact ho2, hbl⟩
    · have HV := Lib.hid (unrV_no (a := a) (b := b) (fun h => h3 h.2))
      have C1 := Lib.hid (fun W => l01In_yes a 1 9 W h1)
      have C2 := Lib.hid (fun W => l01In_no b 1 9 W h3)
      clear h1 h3
      go_enter Try.func17, Try.ntmps17
      go_wp2_with fail
      refine (C1.out _).mono ?_
      rintro e w' ⟨rfl, rfl⟩
      go_wp2_with fail
      refine (C2.out _).mono ?_
      rintro e w' ⟨rfl, rfl⟩
      go_wp2_with fail
      go_ret
      exact ⟨_, _, _, rfl, by rw [HV.out]; exact Own.nil_ _ _ _, Below.refl _ _⟩
  · have HV := Lib.hid (unrV_no (a := a) (b := b) (fun h => h1 h.1))
    have C1 := Lib.hid (fun W => l01In_no a 1 9 W h1)
    clear h1
    go_enter Try.func17, Try.ntmps17
    go_wp2_with fail
    refine (C1.out _).mono ?_
    rintro e w' ⟨rfl, rfl⟩
    go_wp2_with fail
    go_ret
    exact ⟨_, _, _, rfl, by rw [HV.out]; exact Own.nil_ _ _ _, Below.refl _ _⟩

set_option maxHeartbeats 2000000 in
theorem lawUnreached (w : World) (x0 : Int) (x1 : Int) (_g0 : In64 x0) (_g1 : In64 x1) :
    Calls Try.prog 6 #[.int .i64 x0, .int .i64 x1] w fun e w' => e = .returned (.bool true) ∧ Below w.heap.size w w' := by
  have hB0 : Below w.heap.size w w := Below.refl _ _
  go_enter Try.func6, Try.ntmps6
  go_wp2_with fail
  refine (specUnr x0 x1 w  ).mono ?_
  rintro e w1 ⟨AW0, nW0, cW0, rfl, oW0, hb1⟩
  have hs1 := hb1.size
  have hB1 := hB0.trans (hb1.mono hB0.size)
  have iW0 := oW0.blk_
  go_wp2_with fail
  refine (implUnr x0 x1 w1  ).mono ?_
  rintro e w2 ⟨AG0, nG0, cG0, rfl, oG0, hb2⟩
  have hs2 := hb2.size
  have hB2 := hB1.trans (hb2.mono hB1.size)
  replace oW0 := oW0.below hb2
  have iG0 := oG0.blk_
  obtain rfl : nW0 = nG0 := by rw [← oW0.lenI, oG0.lenI]
  have hl0 : nW0 ≤ 1048576 := by rw [← oW0.lenI]; exact Nat.le_trans (unrV_len _ _) (by omega)
  go_wp2_with fail
  refine (eqIntS_yes AG0 AW0 nW0 cG0 cW0 _ w2 oG0.rd oW0.rd (by unfold maxLen; omega)).mono ?_
  rintro e w3 ⟨rfl, hb3⟩
  have hs3 := hb3.size
  have hB3 := hB2.trans (hb3.mono hB2.size)
  replace oW0 := oW0.below hb3
  replace oG0 := oG0.below hb3
  go_wp2_with fail
  refine (markIntS_any AG0 nW0 cG0 _ _ (1) w3 oG0 (by omega) (by omega) (by omega)).mono ?_
  rintro e w4 ⟨rfl, oN, hg4⟩
  have hs4 := hg4.size
  have hB4 := below_of_grown hB3 hg4 hB3.size (fun g e => by have := iG0 g e; omega)
  replace oW0 := oW0.kept hg4 (fun g e1 e2 => by have := iW0 g e1; have := iG0 g e2.symm; omega)
  clear oG0
  have oG0 := oN
  clear oN
  go_wp2_with fail
  refine (heldIntS_any AG0 nW0 cG0 (1) w4 oG0.rd (by omega) (by omega) (by omega)).mono ?_
  rintro e w5 ⟨rfl, hb5⟩
  have hs5 := hb5.size
  have hB5 := hB4.trans (hb5.mono hB4.size)
  replace oW0 := oW0.below hb5
  replace oG0 := oG0.below hb5
  go_wp2_with fail
  refine (implUnr x0 x1 w5  ).mono ?_
  rintro e w6 ⟨AK0, nK0, cK0, rfl, oK0, hb6⟩
  have hs6 := hb6.size
  have hB6 := hB5.trans (hb6.mono hB5.size)
  replace oW0 := oW0.below hb6
  replace oG0 := oG0.below hb6
  have iK0 := oK0.blk_
  obtain rfl : nK0 = nW0 := by rw [← oK0.lenI, oW0.lenI]
  go_wp2_with fail
  refine (eqIntS_yes AK0 AW0 nK0 cK0 cW0 _ w6 oK0.rd oW0.rd (by unfold maxLen; omega)).mono ?_
  rintro e w7 ⟨rfl, hb7⟩
  have hs7 := hb7.size
  have hB7 := hB6.trans (hb7.mono hB6.size)
  replace oW0 := oW0.below hb7
  replace oG0 := oG0.below hb7
  replace oK0 := oK0.below hb7
  go_wp2_with fail
  refine (heldIntS_any AG0 nK0 cG0 (1) w7 oG0.rd (by omega) (by omega) (by omega)).mono ?_
  rintro e w8 ⟨rfl, hb8⟩
  have hs8 := hb8.size
  have hB8 := hB7.trans (hb8.mono hB7.size)
  replace oW0 := oW0.below hb8
  replace oG0 := oG0.below hb8
  replace oK0 := oK0.below hb8
  go_wp2_with fail
  go_ret
  exact ⟨rfl, hB8⟩
end Go.Proofs.Ytojlcpfnkpfgnaa
