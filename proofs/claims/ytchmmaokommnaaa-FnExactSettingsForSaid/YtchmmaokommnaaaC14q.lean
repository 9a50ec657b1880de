/- Chapter 14: SettingsFor, both sides. -/
import Derived.Test.YtchmmaokommnaaaC14p
namespace Go.Proofs.Ytchmmaokommnaaa
open Go.RowKit Go.Deep
set_option linter.unusedVariables false

def sfOut (zs : List Int) : List Int := if o14 zs then (if zs.length = 1 then sf1 zs else if zs.length = 2 then sf2 zs else if zs.length = 4 then sf4 zs else sf8 zs) else []
theorem sf_cases {Q : Nat → Nat → (List Int → List Int) → Prop} (h1 : Q 1 0 sf1) (h2 : Q 2 1 sf2) (h4 : Q 4 6 sf4) (h8 : Q 8 20 sf8) {zs : List Int} (h : o14 zs = true) :
    ∃ n m F, zs.length = n ∧ m ≤ 20 ∧ isOrd zs = true ∧ sfOut zs = F zs ∧ Q n m F := by
  have hO := h
  rw [o14, Bool.and_eq_true, decide_eq_true_eq] at h
  obtain ⟨hp, ho⟩ := h
  unfold sfOut
  rw [if_pos hO]
  unfold IsP at hp
  by_cases e1 : zs.length = 1
  · exact ⟨1, 0, sf1, e1, by omega, ho, by rw [if_pos e1], h1⟩
  by_cases e2 : zs.length = 2
  · exact ⟨2, 1, sf2, e2, by omega, ho, by rw [if_neg e1, if_pos e2], h2⟩
  by_cases e4 : zs.length = 4
  · exact ⟨4, 6, sf4, e4, by omega, ho, by rw [if_neg e1, if_neg e2, if_pos e4], h4⟩
  · exact ⟨8, 20, sf8, by omega, by omega, ho, by rw [if_neg e1, if_neg e2, if_neg e4], h8⟩
theorem forS_out {zs : List Int} (h : o14 zs = true) (A : Option Addr) (n c : Nat) (w : World) (ha : RdI w A n zs) : Calls Try.prog 50 #[.slice A n c] w fun e w' => ∃ A' m c', m ≤ 20 ∧ e = .returned (.slice A' m c') ∧ OwnI w' w.heap.size 3 A' m c' (sfOut zs) ∧ Below w.heap.size w w' := by
  obtain ⟨n', m, F, hl, hm, ho, hF, hC⟩ := sf_cases (Q := ForS) specFor1 specFor2 specFor4 specFor8 h
  obtain rfl : n = n' := by rw [← hl, ha.lenI]
  refine (hC A c zs w ha ho).mono ?_
  rintro e w' ⟨A', c', rfl, o, b⟩
  exact ⟨A', m, c', hm, rfl, by rw [hF]; exact o, b⟩
theorem forI_out {zs : List Int} (h : o14 zs = true) (A : Option Addr) (n c : Nat) (w : World) (ha : RdI w A n zs) : Calls Try.prog 52 #[.slice A n c] w fun e w' => ∃ A' m c', m ≤ 20 ∧ e = .returned (.slice A' m c') ∧ OwnI w' w.heap.size 3 A' m c' (sfOut zs) ∧ Below w.heap.size w w' := by
  obtain ⟨n', m, F, hl, hm, ho, hF, hC⟩ := sf_cases (Q := ForI) implFor1 implFor2 implFor4 implFor8 h
  obtain rfl : n = n' := by rw [← hl, ha.lenI]
  refine (hC A c zs w ha ho).mono ?_
  rintro e w' ⟨A', c', rfl, o, b⟩
  exact ⟨A', m, c', hm, rfl, by rw [hF]; exact o, b⟩
theorem sfN_len {h m : Nat} {F : List Int → List Int} (hF : ∀ zs : List Int, zs.length = h → isOrd zs = true → (F zs).length = m) {zs : List Int} (hl : zs.length = 2 * h) (ho : isOrd zs = true) : (sfN h F zs).length = h + m + m + h := by
  obtain ⟨h1, _, _, _, h5, h6⟩ := run_out (pq_of hl ho)
  unfold sfN
  rw [List.length_append, List.length_append, List.length_append, hF _ (upL_len _ _ _) h5, hF _ (loL_len _ _ _) h6, h1.1, h1.2.1]
theorem sf_len4 {zs : List Int} (hl : zs.length = 4) (ho : isOrd zs = true) : (sf4 zs).length = 6 := sfN_len (h := 2) (m := 1) (F := sf2) (fun zs _ _ => by simp [sf2]) hl ho
theorem sf_len8 {zs : List Int} (hl : zs.length = 8) (ho : isOrd zs = true) : (sf8 zs).length = 20 := sfN_len (h := 4) (m := 6) (F := sf4) (fun zs h1 h2 => sf_len4 h1 h2) hl ho
theorem sfOut_le {zs : List Int} : (sfOut zs).length ≤ 1048576 := by
  by_cases h : o14 zs = true
  · obtain ⟨n, m, F, hl, hm, ho, hF, hL⟩ := sf_cases (Q := fun n m F => ∀ zs : List Int, zs.length = n → isOrd zs = true → (F zs).length = m) (fun zs _ _ => by simp [sf1]) (fun zs _ _ => by simp [sf2]) (fun zs h1 h2 => sf_len4 h1 h2) (fun zs h1 h2 => sf_len8 h1 h2) h
    rw [hF, hL zs hl ho]; omega
  · unfold sfOut
    rw [if_neg h]
    simp
set_option maxHeartbeats 1000000 in
theorem specSettingsFor (A : Option Addr) (n c : Nat) (zs : List Int) (w : World) (ha : RdI w A n zs) (hn : n ≤ 1048576) :
    Calls Try.prog 28 #[.slice A n c] w fun e w' => ∃ A' n' c', e = .returned (.tuple #[.slice A' n' c', .bool (o14 zs)]) ∧ OwnI w' w.heap.size 3 A' n' c' (sfOut zs) ∧ Below w.heap.size w w' := by
  have CP := Lib.hid (specOrder14 A n c zs w ha hn)
  cases ho : o14 zs with
  | false =>
    have H := Lib.hid (show sfOut zs = [] by unfold sfOut; rw [ho]; rfl)
    rw [ho] at CP
    clear ho
    go_enter Try.func28, Try.ntmps28
    go_wp2_with fail
    refine CP.out.mono ?_
    rintro e w' ⟨rfl, hb⟩
    go_wp2_with fail
    go_ret2
    exact ⟨none, 0, 0, rfl, by rw [H.out]; exact Own.nil_ _ _ _, hb⟩
  | true =>
    have CF := Lib.hid (fun w' (hb : Below w.heap.size w w') => forS_out ho A n c w' (ha.below hb))
    rw [ho] at CP
    clear ho
    go_enter Try.func28, Try.ntmps28
    go_wp2_with fail
    refine CP.out.mono ?_
    rintro e w' ⟨rfl, hb⟩
    go_wp2_with fail
    refine (CF.out w' hb).mono ?_
    rintro e w2 ⟨A2, m2, c2, _, rfl, o2, hb2⟩
    go_wp2_with fail
    go_ret2
    exact ⟨A2, m2, c2, rfl, o2.more (b2 := w.heap.size) hb.size, hb.trans (hb2.mono hb.size)⟩
set_option maxHeartbeats 1000000 in
theorem implSettingsFor (A : Option Addr) (n c : Nat) (zs : List Int) (w : World) (ha : RdI w A n zs) (hn : n ≤ 1048576) :
    Calls Try.prog 29 #[.slice A n c] w fun e w' => ∃ A' n' c', e = .returned (.tuple #[.slice A' n' c', .bool (o14 zs)]) ∧ OwnI w' w.heap.size 3 A' n' c' (sfOut zs) ∧ Below w.heap.size w w' := by
  have hl := ha.lenI
  have CP := Lib.hid (implIsOrder A n c zs w ha hn)
  by_cases h : IsP n
  · have C1 := Lib.hid (implP_yes n w h)
    cases ho : isOrd zs with
    | false =>
      have HO := Lib.hid (show o14 zs = false by rw [o14, ho, Bool.and_false])
      have H := Lib.hid (show sfOut zs = [] by unfold sfOut; rw [HO.out]; rfl)
      rw [ho] at CP
      clear ho h hl
      go_enter Try.func29, Try.ntmps29
      go_wp2_with fail
      refine C1.out.mono ?_
      rintro e w' ⟨rfl, rfl⟩
      go_wp2_with fail
      refine CP.out.mono ?_
      rintro e w1 ⟨rfl, hb⟩
      go_wp2_with fail
      go_ret2
      exact ⟨none, 0, 0, by rw [HO.out]; rfl, by rw [H.out]; exact Own.nil_ _ _ _, hb⟩
    | true =>
      have HO := Lib.hid (show o14 zs = true by rw [o14, ho, hl, decide_eq_true h]; rfl)
      have CF := Lib.hid (fun w' (hb : Below w.heap.size w w') => forI_out HO.out A n c w' (ha.below hb))
      rw [ho] at CP
      clear ho h hl
      go_enter Try.func29, Try.ntmps29
      go_wp2_with fail
      refine C1.out.mono ?_
      rintro e w' ⟨rfl, rfl⟩
      go_wp2_with fail
      refine CP.out.mono ?_
      rintro e w1 ⟨rfl, hb⟩
      go_wp2_with fail
      refine (CF.out w1 hb).mono ?_
      rintro e w2 ⟨A2, m2, c2, _, rfl, o2, hb2⟩
      go_wp2_with fail
      go_ret2
      exact ⟨A2, m2, c2, by rw [HO.out]; rfl, o2.more (b2 := w.heap.size) hb.size, hb.trans (hb2.mono hb.size)⟩
  · have HO := Lib.hid (show o14 zs = false by rw [o14, hl, decide_eq_false h]; rfl)
    have H := Lib.hid (show sfOut zs = [] by unfold sfOut; rw [HO.out]; rfl)
    have C1 := Lib.hid (implP_no n w h)
    clear h hl
    go_enter Try.func29, Try.ntmps29
    go_wp2_with fail
    refine C1.out.mono ?_
    rintro e w' ⟨rfl, rfl⟩
    go_wp2_with fail
    go_ret2
    exact ⟨none, 0, 0, by rw [HO.out]; rfl, by rw [H.out]; exact Own.nil_ _ _ _, Below.refl _ _⟩
end Go.Proofs.Ytchmmaokommnaaa
