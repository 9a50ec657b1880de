/- Chapter 16: leading inputs to different outputs, the least ones first: the reference's and the program's recursions. -/
import Derived.Test.YthaggobbcgjfkaaC16f
namespace Go.Proofs.Ythaggobbcgjfkaa
open Go.RowKit Go.Deep
set_option linter.unusedVariables false
attribute [local go_sem] bits_and_one

/-- From output k on (f are left): the first one that serves. -/
def leadStep (p left : Nat) (sub : Nat → Option (List Int)) : Nat → Nat → Option (List Int)
  | 0, _ => none
  | f + 1, k => if bitAt (p &&& left) k = true then (match sub (clr left k) with | some r => some ((k : Int) :: r) | none => leadStep p left sub f (k + 1)) else leadStep p left sub f (k + 1)
/-- The last m inputs of a set led to outputs that are left. -/
def lead (zs : List Int) (s : Nat) : Nat → Nat → Option (List Int)
  | 0, _ => some []
  | m + 1, left => if bitAt s (zs.length - (m + 1)) = true then leadStep (nth zs (zs.length - (m + 1))).toNat left (lead zs s m) 6 0 else (lead zs s m left).map (fun r => (-1 : Int) :: r)
theorem lead_zero (zs : List Int) (s l : Nat) : lead zs s 0 l = some [] := rfl
theorem lead_off {zs : List Int} {s m a : Nat} (l : Nat) (h : zs.length - (m + 1) = a) (hb : bitAt s a = false) : lead zs s (m + 1) l = (lead zs s m l).map (fun r => (-1 : Int) :: r) := by
  rw [lead, h, if_neg (by simp [hb])]
theorem lead_on {zs : List Int} {s m a p : Nat} (l : Nat) (h : zs.length - (m + 1) = a) (hb : bitAt s a = true) (hp : nth zs a = p) : lead zs s (m + 1) l = leadStep p l (lead zs s m) 6 0 := by
  rw [lead, h, if_pos hb, hp, Int.toNat_natCast]
theorem lstep_end (p l k : Nat) (sub : Nat → Option (List Int)) : leadStep p l sub 0 k = none := rfl
theorem lstep_hit {p l k f : Nat} {sub : Nat → Option (List Int)} {r : List Int} (hb : bitAt (p &&& l) k = true) (hs : sub (clr l k) = some r) : leadStep p l sub (f + 1) k = some ((k : Int) :: r) := by
  rw [leadStep, if_pos hb, hs]
theorem lstep_miss {p l k f : Nat} {sub : Nat → Option (List Int)} (hb : bitAt (p &&& l) k = true) (hs : sub (clr l k) = none) : leadStep p l sub (f + 1) k = leadStep p l sub f (k + 1) := by
  rw [leadStep, if_pos hb, hs]
theorem lstep_off {p l k f : Nat} {sub : Nat → Option (List Int)} (hb : bitAt (p &&& l) k = false) : leadStep p l sub (f + 1) k = leadStep p l sub f (k + 1) := by
  rw [leadStep, if_neg (by simp [hb])]
attribute [irreducible] lead leadStep

/-- What a recursion hands back. -/
def LeadPost (w : World) (m : Nat) (r : Option (List Int)) (e : Ending) (w' : World) : Prop :=
  ∃ A' n' c' ys, e = .returned (.tuple #[.slice A' n' c', .bool r.isSome]) ∧ OwnI w' w.heap.size 3 A' n' c' ys ∧ (∀ l, r = some l → ys = l) ∧ n' ≤ m ∧ Below w.heap.size w w'

theorem below_app {w w2 w3 : World} {o : Obj} (hb : Below w.heap.size w w2) (hg : (w2.alloc o).grownBy w3 (blk (some ⟨w2.heap.size, 0, none⟩))) : Below w.heap.size w w3 := by
  have hs := hb.size
  refine (hb.alloc hs o).grown hg (by simp; omega) (fun g e => ?_)
  have h1 : w2.heap.size = g := by simpa [blk] using e
  omega
theorem own_lit1 (w : World) (e : TypeId) (v : Value) : Own (w.alloc (.cells #[v] e)) w.heap.size e (some ⟨w.heap.size, 0, none⟩) 1 1 [v] :=
  World.ownsRow_lit (base := w.heap.size) (e := e) (size := 1) w #[v] 1 (Nat.le_refl _) (by unfold maxLen; omega) rfl

set_option maxHeartbeats 2000000 in
theorem implLed (A : Option Addr) (n c : Nat) (zs : List Int) (s : Nat) (hp : planOk zs = true) (hs : s < 64) : ∀ (m a l : Nat) (w : World), a + m = n → l < 64 → RdI w A n zs →
    Calls Try.prog 49 #[.slice A n c, .int .i64 s, .int .i64 a, .int .i64 l] w (LeadPost w m (lead zs s m l)) := by
  intro m
  induction m with
  | zero =>
    intro a l w ham hlt ha
    have hn : n ≤ 6 := by have := (planOk_out hp).2.1; have := ha.lenI; omega
    obtain rfl : a = n := by omega
    clear hp
    go_enter Try.func49, Try.ntmps49
    go_wp2_with fail
    go_ret2
    exact ⟨none, 0, 0, [], by rw [lead_zero]; rfl, Own.nil_ _ _ _, fun l h => by rw [lead_zero] at h; injection h, Nat.le_refl _, Below.refl _ _⟩
  | succ m ih =>
    intro a l w ham hlt ha
    have hpo := planOk_out hp
    have hl := Lib.hid ha.lenI
    have hn : n ≤ 6 := by have := hl.out; omega
    have HP := Lib.hid hpo.2.2
    have hac : ((a : Int) == (n : Int)) = false := by simp; omega
    have han : a < n := by omega
    have hidx := Lib.hid (show zs.length - (m + 1) = a by have := hl.out; omega)
    have IH := Lib.hid (fun (l : Nat) (w : World) (hl : l < 64) (ha : RdI w A n zs) => ih (a + 1) l w (by omega) hl ha)
    have HA := Lib.hid ha
    have hm6 : m < 6 := by omega
    clear hpo hp ih ham ha
    cases hsb : bitAt s a with
    | false =>
      have hb0 := (bit_off hsb).2
      have H := Lib.hid (lead_off l hidx.out hsb)
      clear hsb
      go_enter Try.func49, Try.ntmps49
      go_wp2_with fail
      refine (IH.out l w hlt HA.out).mono ?_
      rintro e w2 ⟨A2, n2, c2, ys2, rfl, ho2, hy2, hn2, hb2⟩
      have hs2 := hb2.size
      have HY := Lib.hid hy2
      clear hy2
      go_wp2_with (at_builtin; refine wpL_append _ rfl _ _ _ rfl w2.heap.size 3 (.int .i64 0) 8 Try.underlying22 intInfo rfl _ 1 1 [_] rfl (own_lit1 _ _ _) A2 n2 c2 (ys2.map (Value.int .i64)) rfl (ho2.rd.alloc _) (ints_one _) (by unfold maxLen; omega) (by omega) (by simp) ?_)
      intro A3 c3 w3 ho3 hg3 hat3
      have hb3 : Below w.heap.size w w3 := below_app hb2 hg3
      go_wp2
      go_ret2
      refine ⟨A3, _, c3, -1 :: ys2, by rw [H.out, Option.isSome_map]; rfl, ?_, ?_, by omega, hb3⟩
      · exact Own.more (b2 := w.heap.size) (by simpa using ho3) (by omega)
      · intro l hl2
        rw [H.out] at hl2
        obtain ⟨r, hr, rfl⟩ := Option.map_eq_some_iff.1 hl2
        rw [HY.out r hr]
    | true =>
      have hb0 := (bit_on hsb).2
      obtain ⟨a1, rfl, _, h1⟩ := HA.out.at_ han
      have hz := HP.out a (by have := hl.out; omega)
      obtain ⟨p, hpz⟩ := Int.eq_ofNat_of_zero_le hz.1
      have hp64 : p < 64 := by omega
      have HPZ := Lib.hid hpz
      have H1 := Lib.hid h1
      clear hpz hz h1
      have H := Lib.hid (lead_on l hidx.out hsb HPZ.out)
      clear hsb
      go_enter Try.func49, Try.ntmps49
      go_wp2_with fail
      go_loopw [37] (fun i wr => ∃ k f : Nat, k + f = 6 ∧ i = .int .i64 k ∧ Below w.heap.size w wr ∧ lead zs s (m + 1) l = leadStep p l (lead zs s m) f k) (fun i _ => 6 - (intOf i).toNat)
      case atStart => exact ⟨0, 6, by omega, rfl, Below.refl _ _, H.out⟩
      case round =>
        obtain ⟨k, f, hkf, rfl, hbl, hst⟩ := hrel
        have HST := Lib.hid hst
        have HKF := Lib.hid hkf
        have hk7 : k ≤ 6 := by omega
        have hsz := hbl.size
        clear hst hkf H
        by_cases hk6 : k < 6
        · obtain ⟨f, rfl⟩ : ∃ f', f = f' + 1 := ⟨f - 1, by have := HKF.out; omega⟩
          obtain ⟨a2, hA2, _, h1⟩ := (HA.out.below hbl).at_ han
          injection hA2 with hA2
          subst hA2
          rw [HPZ.out] at h1
          have hand := bits_and_small (a := (p : Int)) (b := (l : Int)) (by omega) (by omega) (by omega) (by omega)
          rw [Int.toNat_natCast, Int.toNat_natCast] at hand
          cases hb : bitAt (p &&& l) k with
          | true =>
            have hb1 := (bit_on hb).1
            have hcl := clr_spec hlt hk6
            have hc64 := Nat.lt_of_le_of_lt (clr_le l k) hlt
            cases hL : lead zs s m (clr l k) with
            | none =>
              have HST2 := Lib.hid (HST.out.trans (lstep_miss (f := f) hb hL))
              have C := IH.out (clr l k) wr hc64 (HA.out.below hbl)
              rw [hL] at C
              have CC := Lib.hid C
              clear C hb hL 
              go_wp2_with (go_at_call 49; refine CC.out.mono ?_; rintro e w2 ⟨A2, n2, c2, ys2, rfl, ho2, hy2, hn2, hb2⟩; clear hy2 ho2)
              go_roundw
              case rel => exact ⟨k + 1, f, by have := HKF.out; omega, by go_num, hbl.trans (hb2.mono hsz), HST2.out⟩
              case measure => simp [intOf]; omega
            | some r =>
              have HST2 := Lib.hid (HST.out.trans (lstep_hit (f := f) hb hL))
              have C := IH.out (clr l k) wr hc64 (HA.out.below hbl)
              rw [hL] at C
              have CC := Lib.hid C
              clear C hb hL 
              go_wp2_with fail
              refine CC.out.mono ?_
              rintro e w2 ⟨A2, n2, c2, ys2, rfl, ho2, hy2, hn2, hb2⟩
              obtain rfl := hy2 r rfl
              have hs2 := hb2.size
              clear hy2
              go_wp2_with (at_builtin; refine wpL_append _ rfl _ _ _ rfl w2.heap.size 3 (.int .i64 0) 8 Try.underlying22 intInfo rfl _ 1 1 [_] rfl (own_lit1 _ _ _) A2 n2 c2 (ys2.map (Value.int .i64)) rfl (ho2.rd.alloc _) (ints_one _) (by unfold maxLen; omega) (by omega) (by simp) ?_)
              intro A3 c3 w3 ho3 hg3 hat3
              have hb3 : Below w.heap.size w w3 := below_app (hbl.trans (hb2.mono hsz)) hg3
              go_wp2
              go_ret2
              refine ⟨A3, _, c3, (k : Int) :: ys2, by rw [HST2.out]; rfl, ?_, ?_, by omega, hb3⟩
              · exact Own.more (b2 := w.heap.size) (by simpa using ho3) (by omega)
              · intro l hl2
                rw [HST2.out] at hl2
                injection hl2
          | false =>
            have hb1 := (bit_off hb).1
            have HST2 := Lib.hid (HST.out.trans (lstep_off (f := f) hb))
            clear hb
            go_wp2
            go_roundw
            case rel => exact ⟨k + 1, f, by have := HKF.out; omega, by go_num, hbl, HST2.out⟩
            case measure => simp [intOf]; omega
        · have hk6' : k = 6 := by omega
          subst hk6'
          obtain rfl : f = 0 := by have := HKF.out; omega
          have H5 := Lib.hid (HST.out.trans (lstep_end _ _ _ _))
          go_wp2
          go_ret2
          exact ⟨none, 0, 0, [], by rw [H5.out]; rfl, Own.nil_ _ _ _, fun l h => (by rw [H5.out] at h; cases h), Nat.zero_le _, hbl⟩

set_option maxHeartbeats 2000000 in
theorem specLead (A : Option Addr) (n c : Nat) (zs : List Int) (s : Nat) (hp : planOk zs = true) (hs : s < 64) : ∀ (m a u : Nat) (w : World), a + m = n → u < 64 → RdI w A n zs →
    Calls Try.prog 48 #[.slice A n c, .int .i64 s, .int .i64 a, .int .i64 u] w (LeadPost w m (lead zs s m (63 - u))) := by
  intro m
  induction m with
  | zero =>
    intro a u w ham hlt ha
    have hn : n ≤ 6 := by have := (planOk_out hp).2.1; have := ha.lenI; omega
    obtain rfl : a = n := by omega
    clear hp
    go_enter Try.func48, Try.ntmps48
    go_wp2_with fail
    go_ret2
    exact ⟨_, 0, 0, [], by rw [lead_zero]; rfl, own_empty w _, fun l h => by rw [lead_zero] at h; injection h, Nat.le_refl _, below_alloc w _⟩
  | succ m ih =>
    intro a u w ham hlt ha
    have hpo := planOk_out hp
    have hl := Lib.hid ha.lenI
    have hn : n ≤ 6 := by have := hl.out; omega
    have HP := Lib.hid hpo.2.2
    have hac : ((a : Int) == (n : Int)) = false := by simp; omega
    have han : a < n := by omega
    have hidx := Lib.hid (show zs.length - (m + 1) = a by have := hl.out; omega)
    have IH := Lib.hid (fun (l : Nat) (w : World) (hl : l < 64) (ha : RdI w A n zs) => ih (a + 1) l w (by omega) hl ha)
    have HA := Lib.hid ha
    have hm6 : m < 6 := by omega
    clear hpo hp ih ham ha
    cases hsb : bitAt s a with
    | false =>
      have hb0 := (bit_off hsb).2
      have H := Lib.hid (lead_off (63 - u) hidx.out hsb)
      clear hsb
      go_enter Try.func48, Try.ntmps48
      go_wp2_with fail
      refine (IH.out u w hlt HA.out).mono ?_
      rintro e w2 ⟨A2, n2, c2, ys2, rfl, ho2, hy2, hn2, hb2⟩
      have hs2 := hb2.size
      have HY := Lib.hid hy2
      clear hy2
      go_wp2_with (at_builtin; refine wpL_append _ rfl _ _ _ rfl w2.heap.size 3 (.int .i64 0) 8 Try.underlying22 intInfo rfl _ 1 1 [_] rfl (own_lit1 _ _ _) A2 n2 c2 (ys2.map (Value.int .i64)) rfl (ho2.rd.alloc _) (ints_one _) (by unfold maxLen; omega) (by omega) (by simp) ?_)
      intro A3 c3 w3 ho3 hg3 hat3
      have hb3 : Below w.heap.size w w3 := below_app hb2 hg3
      go_wp2
      go_ret2
      refine ⟨A3, _, c3, -1 :: ys2, by rw [H.out, Option.isSome_map]; rfl, ?_, ?_, by omega, hb3⟩
      · exact Own.more (b2 := w.heap.size) (by simpa using ho3) (by omega)
      · intro l hl2
        rw [H.out] at hl2
        obtain ⟨r, hr, rfl⟩ := Option.map_eq_some_iff.1 hl2
        rw [HY.out r hr]
    | true =>
      have hb0 := (bit_on hsb).2
      obtain ⟨a1, rfl, _, h1⟩ := HA.out.at_ han
      have hz := HP.out a (by have := hl.out; omega)
      obtain ⟨p, hpz⟩ := Int.eq_ofNat_of_zero_le hz.1
      have hp64 : p < 64 := by omega
      have HPZ := Lib.hid hpz
      have H1 := Lib.hid h1
      clear hpz hz h1
      have H := Lib.hid (lead_on (63 - u) hidx.out hsb HPZ.out)
      clear hsb
      go_enter Try.func48, Try.ntmps48
      go_wp2_with fail
      go_loopw [12] (fun i wr => ∃ k f : Nat, k + f = 6 ∧ i = .int .i64 k ∧ Below w.heap.size w wr ∧ lead zs s (m + 1) (63 - u) = leadStep p (63 - u) (lead zs s m) f k) (fun i _ => 6 - (intOf i).toNat)
      case atStart => exact ⟨0, 6, by omega, rfl, Below.refl _ _, H.out⟩
      case round =>
        obtain ⟨k, f, hkf, rfl, hbl, hst⟩ := hrel
        have HST := Lib.hid hst
        have HKF := Lib.hid hkf
        have hk7 : k ≤ 6 := by omega
        have hsz := hbl.size
        clear hst hkf H
        by_cases hk6 : k < 6
        · obtain ⟨f, rfl⟩ : ∃ f', f = f' + 1 := ⟨f - 1, by have := HKF.out; omega⟩
          obtain ⟨a2, hA2, _, h1⟩ := (HA.out.below hbl).at_ han
          injection hA2 with hA2
          subst hA2
          rw [HPZ.out] at h1
          have hua := used_add u hlt k hk6
          have huf := Lib.hid (used_fact u hlt k hk6)
          cases hb : bitAt p k with
          | true =>
            have hb1 := (bit_on hb).1
            cases hb2 : bitAt u k with
            | false =>
              have hb3 := (bit_off hb2).2
              have hu2 := hua hb2
              obtain ⟨v, hv⟩ : ∃ v, u + 2 ^ k = v := ⟨_, rfl⟩
              rw [hv] at hu2
              have hc64 := hu2.1
              have hwu : wrap64 ((u : Int) + wrap64 (2 ^ k)) = (v : Int) := by
                rw [wrap_pow k (by omega)]
                generalize 2 ^ k = q at hv
                exact (IntWalk.wrap64_in _ (by omega)).trans (by omega)
              have hba : bitAt (p &&& (63 - u)) k = true := by rw [bitAt_and, hb, huf.out, hb2]; rfl
              cases hL : lead zs s m (63 - v) with
              | none =>
                have HST2 := Lib.hid (HST.out.trans (lstep_miss (f := f) hba (by rw [← hu2.2]; exact hL)))
                have C := IH.out v wr hc64 (HA.out.below hbl)
                rw [hL] at C
                have CC := Lib.hid C
                clear C hb hL hua hu2 hba hv hb2
                go_wp2_with (go_at_call 48; refine CC.out.mono ?_; rintro e w2 ⟨A2, n2, c2, ys2, rfl, ho2, hy2, hn2, hb2⟩; clear hy2 ho2)
                go_roundw
                case rel => exact ⟨k + 1, f, by have := HKF.out; omega, by go_num, hbl.trans (hb2.mono hsz), HST2.out⟩
                case measure => simp [intOf]; omega
              | some r =>
                have HST2 := Lib.hid (HST.out.trans (lstep_hit (f := f) hba (by rw [← hu2.2]; exact hL)))
                have C := IH.out v wr hc64 (HA.out.below hbl)
                rw [hL] at C
                have CC := Lib.hid C
                clear C hb hL hua hu2 hba hv hb2
                go_wp2_with fail
                refine CC.out.mono ?_
                rintro e w2 ⟨A2, n2, c2, ys2, rfl, ho2, hy2, hn2, hb2⟩
                obtain rfl := hy2 r rfl
                have hs2 := hb2.size
                clear hy2
                go_wp2_with (at_builtin; refine wpL_append _ rfl _ _ _ rfl w2.heap.size 3 (.int .i64 0) 8 Try.underlying22 intInfo rfl _ 1 1 [_] rfl (own_lit1 _ _ _) A2 n2 c2 (ys2.map (Value.int .i64)) rfl (ho2.rd.alloc _) (ints_one _) (by unfold maxLen; omega) (by omega) (by simp) ?_)
                intro A3 c3 w3 ho3 hg3 hat3
                have hb3 : Below w.heap.size w w3 := below_app (hbl.trans (hb2.mono hsz)) hg3
                go_wp2
                go_ret2
                refine ⟨A3, _, c3, (k : Int) :: ys2, by rw [HST2.out]; rfl, ?_, ?_, by omega, hb3⟩
                · exact Own.more (b2 := w.heap.size) (by simpa using ho3) (by omega)
                · intro l hl2
                  rw [HST2.out] at hl2
                  injection hl2
            | true =>
              have hb3 := (bit_on hb2).2
              have HST2 := Lib.hid (HST.out.trans (lstep_off (f := f) (show bitAt (p &&& (63 - u)) k = false by rw [bitAt_and, hb, huf.out, hb2]; rfl)))
              clear hb hua hb2
              go_wp2
              go_roundw
              case rel => exact ⟨k + 1, f, by have := HKF.out; omega, by go_num, hbl, HST2.out⟩
              case measure => simp [intOf]; omega
          | false =>
            have hb1 := (bit_off hb).1
            have HST2 := Lib.hid (HST.out.trans (lstep_off (f := f) (show bitAt (p &&& (63 - u)) k = false by rw [bitAt_and, hb]; rfl)))
            clear hb hua 
            go_wp2
            go_roundw
            case rel => exact ⟨k + 1, f, by have := HKF.out; omega, by go_num, hbl, HST2.out⟩
            case measure => simp [intOf]; omega
        · have hk6' : k = 6 := by omega
          subst hk6'
          obtain rfl : f = 0 := by have := HKF.out; omega
          have H5 := Lib.hid (HST.out.trans (lstep_end _ _ _ _))
          go_wp2
          go_ret2
          exact ⟨none, 0, 0, [], by rw [H5.out]; rfl, Own.nil_ _ _ _, fun l h => (by rw [H5.out] at h; cases h), Nat.zero_le _, hbl⟩

end Go.Proofs.Ythaggobbcgjfkaa
