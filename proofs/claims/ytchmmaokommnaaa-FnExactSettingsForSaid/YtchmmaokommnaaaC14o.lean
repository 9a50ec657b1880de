/- Chapter 14: SettingsFor, the reference's side. -/
import Derived.Test.YtchmmaokommnaaaC14n
import Derived.Deep.LoopGhost
namespace Go.Proofs.Ytchmmaokommnaaa
open Go.RowKit Go.Deep
set_option linter.unusedVariables false

abbrev bV (v : List Bool) : List Value := v.map Value.bool
theorem bV_at {v : List Bool} {j : Nat} {u : Value} (h : (bV v)[j]? = some u) : u = .bool (bAt v j) := by
  rw [List.getElem?_map] at h
  cases hv : v[j]? with
  | none => rw [hv] at h; cases h
  | some b =>
    rw [hv] at h
    injection h with h
    rw [← h, bAt, List.getD, hv]; rfl
theorem own_bV {w : World} {g j n c base : Nat} {e : TypeId} {v : List Bool} (b : Bool) (h : Own w base e (some ⟨g, 0, none⟩) n c (bV v)) (hj : j < n) : Own (w.setCell ⟨g, j, none⟩ (.bool b)) base e (some ⟨g, 0, none⟩) n c (bV (v.set j b)) := by
  have h2 := h.set_ (Value.bool b) hj
  rwa [← List.map_set] at h2
/-- A cell of a row of ints that the call has made. -/
theorem own_int {w : World} {g j n c base : Nat} {e : TypeId} {zs : List Int} (h : OwnI w base e (some ⟨g, 0, none⟩) n c zs) (hj : j < n) : w.cell? ⟨g, j, none⟩ = some (.int .i64 (nth zs j)) ∧ w.frozen? ⟨g, j, none⟩ = false := by
  obtain ⟨g', u, hg, _, _, hu, hc, hf⟩ := h.at_ hj
  injection hg with hg
  injection hg with hg
  subst hg
  have hl := h.lenI
  rw [List.getElem?_map, List.getElem?_eq_getElem (show j < zs.length by omega)] at hu
  rw [nth_eq (show j < zs.length by omega)]
  have : u = .int .i64 zs[j] := by simpa using hu.symm
  exact ⟨this ▸ hc, hf⟩
theorem own_flag {w : World} {g j n c base : Nat} {e : TypeId} {d : List Bool} (h : Own w base e (some ⟨g, 0, none⟩) n c (bV d)) (hj : j < n) : w.cell? ⟨g, j, none⟩ = some (.bool (bAt d j)) ∧ w.frozen? ⟨g, j, none⟩ = false := by
  obtain ⟨g', u, hg, _, _, hu, hc, hf⟩ := h.at_ hj
  injection hg with hg
  injection hg with hg
  subst hg
  exact ⟨bV_at hu ▸ hc, hf⟩
theorem own_off {w : World} {g p n c base : Nat} {e : TypeId} {xs : List Value} (h : Own w base e (some ⟨g, 0, none⟩) n c xs) (hne : g ≠ p) (k : Nat) (u : Value) : Own (w.setCell ⟨p, k, none⟩ u) base e (some ⟨g, 0, none⟩) n c xs :=
  h.setOther (fun q hq => by have h3 : g = q := (by simpa [blk] using hq); show q ≠ p; omega) u
theorem OwnI_set {w : World} {g k n c base : Nat} {e : TypeId} {zs : List Int} {x : Int} (h : OwnI w base e (some ⟨g, 0, none⟩) n c zs) (hu : k < n) : OwnI (w.setCell ⟨g, k, none⟩ (.int .i64 x)) base e (some ⟨g, 0, none⟩) n c (zs.set k x) := h.setI hu
def sf1 (_ : List Int) : List Int := []
def sf2 (zs : List Int) : List Int := [nth zs 0]
def sfN (h : Nat) (F : List Int → List Int) (zs : List Int) : List Int :=
  (((sfRun zs h h).f ++ F (upL zs (sfRun zs h h).l h)) ++ F (loL zs (sfRun zs h h).l h)) ++ (sfRun zs h h).l
def sf4 : List Int → List Int := sfN 2 sf2
def sf8 : List Int → List Int := sfN 4 sf4
theorem take_up {ys zs : List Int} {k : Nat} {x : Int} (h1 : ys.take k = zs.take k) (hk : k < ys.length) (hz : k < zs.length) (hx : nth zs k = x) : (ys.set k x).take (k + 1) = zs.take (k + 1) := by
  rw [← hx]; exact take_set_nth h1 hk hz

def ForS (n m : Nat) (G : List Int → List Int) : Prop :=
  ∀ (A : Option Addr) (c : Nat) (zs : List Int) (w : World), RdI w A n zs → isOrd zs = true →
    Calls Try.prog 50 #[.slice A n c] w fun e w' => ∃ A' c', e = .returned (.slice A' m c') ∧ OwnI w' w.heap.size 3 A' m c' (G zs) ∧ Below w.heap.size w w'
theorem specFor1 : ForS 1 0 sf1 := by
  intro A c zs w ha _
  go_enter Try.func50, Try.ntmps50
  go_wp2
  go_ret
  exact ⟨_, _, rfl, own_empty w 3, below_alloc w _⟩
theorem specFor2 : ForS 2 1 sf2 := by
  intro A c zs w ha _
  obtain ⟨a1, rfl, _, h1⟩ := ha.at_ (show 0 < 2 by omega)
  replace h1 : w.cell? a1 = some (.int .i64 (nth zs 0)) := h1
  clear ha
  go_enter Try.func50, Try.ntmps50
  go_wp2
  go_ret
  exact ⟨_, _, rfl, World.ownsRow_lit (base := w.heap.size) (e := 3) (size := 1) w #[.int .i64 (nth zs 0)] 1 (Nat.le_refl _) (by unfold maxLen; omega) rfl, below_alloc w _⟩

set_option maxHeartbeats 8000000 in
set_option maxRecDepth 100000 in
theorem specForN (h : Nat) (hh : h = 2 ∨ h = 4) (m : Nat) (hm : m ≤ 6) (F : List Int → List Int) (hF : ForS h m F) : ForS (2 * h) (h + m + m + h) (sfN h F) := by
  intro A c zs w ha0 ho
  obtain ⟨n, hn⟩ : ∃ n, 2 * h = n := ⟨_, rfl⟩
  rw [hn] at ha0 ⊢
  have HPQ := Lib.hid (pq_of (show zs.length = 2 * h by rw [ha0.lenI, hn]) ho)
  have HO := Lib.hid ho
  have HN := Lib.hid hn
  have HL := Lib.hid ha0.lenI
  have HA := Lib.hid ha0
  have HF := Lib.hid hF
  have hn8 : n ≤ 8 := by omega
  have hn4 : 4 ≤ n := by omega
  have hh4 : h ≤ 4 := by omega
  have hh2 : 2 ≤ h := by omega
  have e1 : ((n : Int) == 1) = false := by rw [beq_eq_false_iff_ne]; omega
  have e2 : ((n : Int) == 2) = false := by rw [beq_eq_false_iff_ne]; omega
  have e3 : (n : Int) / 2 = (h : Int) := by omega
  have hlt0 : n ≤ 1048576 := by omega
  obtain ⟨a1, rfl, _, _⟩ := ha0.at_ (show 0 < n by omega)
  clear hn ho ha0 hF hh
  go_enter Try.func50, Try.ntmps50
  go_wp2_with fail
  refine (specInvRow (some a1) n c zs _ HA.out hlt0 HO).mono ?_
  rintro e w1 ⟨Ai, ni, ci, rfl, oi, hbi⟩
  obtain rfl : ni = n := by rw [← oi.lenI, inv_len, HL.out]
  have HIR := Lib.hid (show RdI w1 Ai ni (invTo zs zs.length) by rw [HL.out]; exact oi.rd)
  have HA1 := Lib.hid (HA.out.below hbi)
  have HB1 := Lib.hid hbi
  obtain ⟨ai, rfl, _, _⟩ := oi.rd.at_ (show 0 < ni by omega)
  clear oi hbi
  obtain ⟨g, hg⟩ : ∃ g, w1.heap.size = g := ⟨_, rfl⟩
  have HG := Lib.hid hg
  clear hg
  go_wp2_with (at_make; refine wpL_make _ rfl _ _ 24 rfl 3 (.int .i64 0) 8 Try.underlying24 intInfo rfl _ _ _ _ h rfl rfl rfl rfl (by omega) (by unfold maxLen; omega) ?_)
  intro w2 o1 hb2 hs2
  rw [HG.out] at o1 hb2 hs2 ⊢
  go_wp2_with (at_make; refine wpL_make _ rfl _ _ 24 rfl 3 (.int .i64 0) 8 Try.underlying24 intInfo rfl _ _ _ _ h rfl rfl rfl rfl (by omega) (by unfold maxLen; omega) ?_)
  intro w3 o2 hb3 hs3
  go_wp2_with (at_make; refine wpL_make _ rfl _ _ 48 rfl 4 (.bool false) 1 Try.underlying48 boolInfo rfl _ _ _ _ h rfl rfl rfl rfl (by omega) (by unfold maxLen; omega) ?_)
  intro w4 o3 hb4 hs4
  have P1 := Lib.hid (show OwnI w4 g 3 (some ⟨g, 0, none⟩) h h (sfInit h).f from (show OwnI w2 g 3 (some ⟨g, 0, none⟩) h h (List.replicate h 0) by rw [OwnI, List.map_replicate]; exact o1).below (by rw [hs2]; exact hb3) |>.below (by rw [hs3]; exact hb4))
  have P2 := Lib.hid (show OwnI w4 (g + 1) 3 (some ⟨g + 1, 0, none⟩) h h (sfInit h).l from (show OwnI w3 (g + 1) 3 (some ⟨g + 1, 0, none⟩) h h (List.replicate h 0) by rw [OwnI, List.map_replicate]; exact o2).below (by rw [hs3]; exact hb4))
  have P3 := Lib.hid (show Own w4 (g + 1 + 1) 4 (some ⟨g + 1 + 1, 0, none⟩) h h (bV (sfInit h).d) from (show Own w4 (g + 1 + 1) 4 (some ⟨g + 1 + 1, 0, none⟩) h h (bV (List.replicate h false)) by rw [bV, List.map_replicate]; exact o3))
  have P4 := Lib.hid (show Below g w1 w4 from (hb2.trans (hb3.mono (by omega))).trans (hb4.mono (by omega)))
  clear o1 o2 o3 hb2 hb3 hb4 hs2 hs3 hs4
  go_wp2_with fail
  go_loopw [9] (fun i wr => ∃ k : Nat, ∃ s : SfS, k ≤ h ∧ i = .int .i64 k ∧ Hid (sfRun zs h k = s) ∧ OwnI wr g 3 (some ⟨g, 0, none⟩) h h s.f ∧ OwnI wr (g + 1) 3 (some ⟨g + 1, 0, none⟩) h h s.l ∧ Own wr (g + 1 + 1) 4 (some ⟨g + 1 + 1, 0, none⟩) h h (bV s.d) ∧ Below g w1 wr) (fun i _ => h - (intOf i).toNat)
  case atStart => exact ⟨0, sfInit h, Nat.zero_le _, rfl, Lib.hid rfl, P1.out, P2.out, P3.out, P4.out⟩
  case round =>
    obtain ⟨k, s, hk, rfl, HS, q1, q2, q3, hbl⟩ := hrel
    by_cases hlt : k < h
    · have HSL := Lib.hid (show SfL h s by rw [← HS.out]; exact (run_rest HPQ.out k hk).1)
      obtain ⟨cd, fd⟩ := own_flag q3 hlt
      cases hd : bAt s.d k with
      | true =>
        have HN2 := Lib.hid (show sfRun zs h (k + 1) = s by rw [sfRun, HS.out]; exact sfLoop_done (by rw [show 2 * k / 2 = k by omega]; exact hd) h)
        rw [hd] at cd
        clear hd
        go_wp2_with fail
        go_roundw
        case rel => exact ⟨k + 1, s, by omega, by go_num, HN2, q1, q2, q3, hbl⟩
        case measure => (simp [intOf] <;> omega)
      | false =>
        rw [hd] at cd
        clear hd
        obtain ⟨R, hR⟩ : ∃ R, sfLoop zs h s (2 * k) = R := ⟨_, rfl⟩
        have HN2 := Lib.hid (show sfRun zs h (k + 1) = R by rw [sfRun, HS.out]; exact hR)
        have HR := Lib.hid hR
        clear hR
        go_wp2_with fail
        go_loopg [10] (h + 1) (fun gk ov wr => ∃ j o : Nat, ∃ s : SfS, ov = .int .i64 o ∧ Hid (gk = j + 1 ∧ und s.d ≤ j ∧ SfL h s ∧ sfLoop zs j s o = R) ∧ o < ni ∧ OwnI wr g 3 (some ⟨g, 0, none⟩) h h s.f ∧ OwnI wr (g + 1) 3 (some ⟨g + 1, 0, none⟩) h h s.l ∧ Own wr (g + 1 + 1) 4 (some ⟨g + 1 + 1, 0, none⟩) h h (bV s.d) ∧ Below g w1 wr)
        case atStart => exact ⟨h, 2 * k, s, int_eq (by omega), Lib.hid ⟨rfl, by have := und_le s.d; have := HSL.out.2.2.2.2; omega, HSL.out, HR.out⟩, by have := HN.out; omega, q1, q2, q3, hbl⟩
        case round =>
          clear q1 q2 q3 hbl cd fd
          obtain ⟨j, o, s, rfl, HJ, hon, q1, q2, q3, hbl⟩ := hrel
          obtain ⟨q, hq⟩ : ∃ q, o / 2 = q := ⟨_, rfl⟩
          have hqh : q < h := by have := HN.out; omega
          have eq1 : (o : Int) / 2 = (q : Int) := by omega
          have HQ := Lib.hid hq
          obtain ⟨cd, fd⟩ := own_flag q3 hqh
          clear hq
          cases hd : bAt s.d q with
          | true =>
            have HE := Lib.hid (show s = R by rw [← HJ.out.2.2.2]; exact (sfLoop_done (by rw [HQ.out]; exact hd) j).symm)
            rw [hd] at cd
            clear hd
            go_wp2_with fail
            go_roundw
            case rel => exact ⟨k + 1, s, by omega, by go_num, Lib.hid (by rw [HN2.out, HE.out]), q1, q2, q3, hbl⟩
            case measure => (simp [intOf] <;> omega)
          | false =>
            have hoh : o < 2 * h := by have := HN.out; omega
            have hu := und_set (k := q) (show q < s.d.length by rw [HJ.out.2.2.1.2.2.2.2]; exact hqh) hd
            have HJ2 := Lib.hid (show ∃ j', j = j' + 1 ∧ und (sfStep zs s o).d ≤ j' ∧ SfL h (sfStep zs s o) ∧ sfLoop zs j' (sfStep zs s o) (sg zs o) = R from by
              have h1 := HJ.out.2.1
              refine ⟨j - 1, by omega, ?_, sfL_step HJ.out.2.2.1, ?_⟩
              · show und (s.d.set (o / 2) true) ≤ j - 1
                rw [HQ.out]; omega
              · rw [← HJ.out.2.2.2, show j = (j - 1) + 1 by omega]
                exact (sfLoop_on (by rw [HQ.out]; exact hd)).symm)
            rw [hd] at cd
            -- the number that goes in, and where its partner stands
            obtain ⟨ca, hpl⟩ := HPQ.out.at_ o hoh
            obtain ⟨p, hp⟩ : ∃ p, pN zs o = p := ⟨_, rfl⟩
            obtain ⟨v, hv⟩ : ∃ v, fl p = v := ⟨_, rfl⟩
            have hvl : v < 2 * h := by rw [← hv, ← hp]; exact fl_lt hpl
            obtain ⟨ct, htl, _⟩ := HPQ.out.inv v hvl
            obtain ⟨t, ht⟩ : ∃ t, qN zs v = t := ⟨_, rfl⟩
            obtain ⟨o2, ho2⟩ : ∃ o2, fl t = o2 := ⟨_, rfl⟩
            have ho2l : o2 < ni := by have h5 := fl_lt (show t < 2 * h by rw [← ht]; exact htl); have := HN.out; omega
            have HSG := Lib.hid (show sg zs o = o2 by rw [sg, tau, hp, hv, ht, ho2])
            have x1 : bits .xor .i64 (p : Int) 1 = (v : Int) := by rw [← hv]; exact fl_xor p (by rw [← hp]; omega)
            have x2 : bits .xor .i64 (t : Int) 1 = (o2 : Int) := by rw [← ho2]; exact fl_xor t (by rw [← ht]; omega)
            obtain ⟨pq, hpq⟩ : ∃ pq, p / 2 = pq := ⟨_, rfl⟩
            obtain ⟨pr, hpr⟩ : ∃ pr, p % 2 = pr := ⟨_, rfl⟩
            obtain ⟨r, hr⟩ : ∃ r, o % 2 = r := ⟨_, rfl⟩
            have eq2 : (o : Int) % 2 = (r : Int) := by omega
            have eq3 : (p : Int) / 2 = (pq : Int) := by omega
            have eq4 : (p : Int) % 2 = (pr : Int) := by omega
            have hpqh : pq < h := by rw [hp] at hpl; omega
            have hpn : p < 8 := by rw [hp] at hpl; omega
            have hv8 : v < ni := by have := HN.out; omega
            have ht8 : t < 8 := by rw [ht] at htl; omega
            have hr2 : r < 2 := by omega
            have hpr2 : pr < 2 := by omega
            have HSF := Lib.hid (show (sfStep zs s o).f = s.f.set pq (pr : Int) by show s.f.set (pN zs o / 2) ((pN zs o % 2 : Nat) : Int) = _; rw [hp, hpq, hpr])
            have HSLt := Lib.hid (show (sfStep zs s o).l = s.l.set q (r : Int) by show s.l.set (o / 2) ((o % 2 : Nat) : Int) = _; rw [HQ.out, hr])
            have HSD := Lib.hid (show (sfStep zs s o).d = s.d.set q true by show s.d.set (o / 2) true = _; rw [HQ.out])
            -- the stores: last, done, first; the loads between them
            obtain ⟨c2, f2⟩ := own_int q2 hqh
            have r3 := own_off q3 (show g + 1 + 1 ≠ g + 1 by omega) q (.int .i64 (r : Int))
            obtain ⟨cd1, fd1⟩ := own_flag r3 hqh
            have hW2 := (hbl.setCell (p := ⟨g + 1, q, none⟩) (by show g ≤ g + 1; omega) (.int .i64 (r : Int))).setCell (p := ⟨g + 1 + 1, q, none⟩) (by show g ≤ g + 1 + 1; omega) (.bool true)
            obtain ⟨a1', ea1, _, h1⟩ := (HA1.out.below (by rw [HG.out]; exact hW2)).at_ hon
            injection ea1 with ea1
            subst ea1
            rw [ca, hp] at h1
            have r1 := (own_off (own_off q1 (show g ≠ g + 1 by omega) q (.int .i64 (r : Int))) (show g ≠ g + 1 + 1 by omega) q (.bool true))
            obtain ⟨c1, f1⟩ := own_int r1 hpqh
            have hb9 := hW2.setCell (p := ⟨g, pq, none⟩) (by show g ≤ g; omega) (.int .i64 (pr : Int))
            obtain ⟨ai', eai, _, h2⟩ := (HIR.out.below (by rw [HG.out]; exact hb9)).at_ hv8
            injection eai with eai
            subst eai
            rw [ct, ht] at h2
            have r1b := OwnI_set r1 (x := (pr : Int)) hpqh
            have r2 := ((q2.setI (x := (r : Int)) hqh))
            have r2b := own_off (own_off r2 (show g + 1 ≠ g + 1 + 1 by omega) q (.bool true)) (show g + 1 ≠ g by omega) pq (.int .i64 (pr : Int))
            have r3b := own_off (own_bV true r3 hqh) (show g + 1 + 1 ≠ g by omega) pq (.int .i64 (pr : Int))
            obtain ⟨y1, hy1⟩ : ∃ y, nth s.f pq = y := ⟨_, rfl⟩
            obtain ⟨y2, hy2⟩ : ∃ y, nth s.l q = y := ⟨_, rfl⟩
            rw [hy1] at c1
            rw [hy2] at c2
            rw [hd] at cd1
            obtain ⟨j', hj', HJ3⟩ := HJ2.out
            have HGK := Lib.hid (show gk = j' + 1 + 1 by have := HJ.out.1; omega)
            have HJ4 := Lib.hid HJ3
            clear hd hu q1 q2 q3 hbl ca hpl hp hv hvl ct htl ht ho2 hpq hpr hr hy1 hy2 r1 r2 r3 hW2 hj' HJ3 HJ2 HJ
            go_wp2_with fail
            go_roundg (j' + 1)
            case measure => rw [HGK.out]; omega
            case rel => exact ⟨j', o2, sfStep zs s o, rfl, Lib.hid ⟨rfl, HJ4.out.1, HJ4.out.2.1, by rw [← HSG.out]; exact HJ4.out.2.2⟩, ho2l, by rw [HSF.out]; exact r1b, by rw [HSLt.out]; exact r2b, by rw [HSD.out]; exact r3b, hb9⟩
    · obtain rfl : k = h := by omega
      have hro := run_out HPQ.out
      rw [HS.out] at hro
      have HRO := Lib.hid hro
      have HOUT := Lib.hid (show sfN k F zs = ((s.f ++ F (upL zs s.l k)) ++ F (loL zs s.l k)) ++ s.l by unfold sfN; rw [HS.out])
      obtain ⟨g4, hg4⟩ : ∃ g4, wr.heap.size = g4 := ⟨_, rfl⟩
      have HG4 := Lib.hid hg4
      have hgg4 : g + 1 + 1 < g4 := by rw [← hg4]; exact (q3.blk_ _ rfl).2
      have HRA := Lib.hid (HA1.out.below (by rw [HG.out]; exact hbl))
      have HQ1 := Lib.hid q1
      have HQ2 := Lib.hid q2
      have HBL := Lib.hid hbl
      clear hro q1 q2 q3 hbl hg4
      go_wp2_with (at_make; refine wpL_make _ rfl _ _ 24 rfl 3 (.int .i64 0) 8 Try.underlying24 intInfo rfl _ _ _ _ k rfl rfl rfl rfl (by omega) (by unfold maxLen; omega) ?_)
      intro w5 o5 hb5 hs5
      rw [HG4.out] at o5 hb5 hs5 ⊢
      go_wp2_with (at_make; refine wpL_make _ rfl _ _ 24 rfl 3 (.int .i64 0) 8 Try.underlying24 intInfo rfl _ _ _ _ k rfl rfl rfl rfl (by omega) (by unfold maxLen; omega) ?_)
      intro w6 o6 hb6 hs6
      have P5 := Lib.hid (show OwnI w6 g4 3 (some ⟨g4, 0, none⟩) k k (List.replicate k 0) from (show OwnI w5 g4 3 (some ⟨g4, 0, none⟩) k k (List.replicate k 0) by rw [OwnI, List.map_replicate]; exact o5).below (by rw [hs5]; exact hb6))
      have P6 := Lib.hid (show OwnI w6 (g4 + 1) 3 (some ⟨g4 + 1, 0, none⟩) k k (List.replicate k 0) by rw [OwnI, List.map_replicate]; exact o6)
      have P7 := Lib.hid (show Below g4 wr w6 from hb5.trans (hb6.mono (by omega)))
      clear o5 o6 hb5 hb6 hs5 hs6
      go_wp2_with fail
      go_loopw [14] (fun i wx => ∃ m : Nat, ∃ us ws : List Int, m ≤ k ∧ i = .int .i64 m ∧ OwnI wx g4 3 (some ⟨g4, 0, none⟩) k k us ∧ OwnI wx (g4 + 1) 3 (some ⟨g4 + 1, 0, none⟩) k k ws ∧ Hid (us.take m = (upL zs s.l k).take m ∧ ws.take m = (loL zs s.l k).take m) ∧ Below g4 wr wx) (fun i _ => k - (intOf i).toNat)
      case atStart => exact ⟨0, _, _, Nat.zero_le _, rfl, P5.out, P6.out, Lib.hid ⟨rfl, rfl⟩, P7.out⟩
      case round =>
        obtain ⟨m2, us, ws, hm2, rfl, p1, p2, HT, hbx⟩ := hrel
        by_cases hlt2 : m2 < k
        · obtain ⟨b, hb, hb1⟩ := HRO.out.2.1 m2 hlt2
          obtain ⟨z, hz⟩ : ∃ z, 2 * m2 = z := ⟨_, rfl⟩
          obtain ⟨x, hx⟩ : ∃ x, z + b = x := ⟨_, rfl⟩
          obtain ⟨y, hy⟩ : ∃ y, z + 1 - b = y := ⟨_, rfl⟩
          have hxn : x < ni := by have := HN.out; omega
          have hyn : y < ni := by have := HN.out; omega
          have cx := (HPQ.out.at_ x (by have := HN.out; omega)).1
          have cy := (HPQ.out.at_ y (by have := HN.out; omega)).1
          obtain ⟨px, hpx⟩ : ∃ p, pN zs x = p := ⟨_, rfl⟩
          obtain ⟨py, hpy⟩ : ∃ p, pN zs y = p := ⟨_, rfl⟩
          have hpx8 : px < 8 := by have := (HPQ.out.at_ x (by have := HN.out; omega)).2; omega
          have hpy8 : py < 8 := by have := (HPQ.out.at_ y (by have := HN.out; omega)).2; omega
          obtain ⟨qx, hqx⟩ : ∃ q, px / 2 = q := ⟨_, rfl⟩
          obtain ⟨qy, hqy⟩ : ∃ q, py / 2 = q := ⟨_, rfl⟩
          have ez : 2 * (m2 : Int) = (z : Int) := by omega
          have ex : (z : Int) + (b : Int) = (x : Int) := by omega
          have ey : (z : Int) + 1 - (b : Int) = (y : Int) := by omega
          have eqx : (px : Int) / 2 = (qx : Int) := by omega
          have eqy : (py : Int) / 2 = (qy : Int) := by omega
          have HU := Lib.hid (show nth (upL zs s.l k) m2 = (qx : Int) by rw [upL_nth hlt2, hb, Int.toNat_natCast, hz, hx, hpx, hqx])
          have HW := Lib.hid (show nth (loL zs s.l k) m2 = (qy : Int) by rw [loL_nth hlt2, hb, Int.toNat_natCast, hz, hy, hpy, hqy])
          obtain ⟨l1, _⟩ := own_int (HQ2.out.below (by rw [HG4.out]; exact hbx)) hlt2
          obtain ⟨aa, eaa, _, l2⟩ := (HRA.out.below (by rw [HG4.out]; exact hbx)).at_ hxn
          injection eaa with eaa
          subst eaa
          obtain ⟨c1, f1⟩ := own_int p1 hlt2
          have hbx1 := hbx.setCell (p := ⟨g4, m2, none⟩) (by show g4 ≤ g4; omega) (.int .i64 (qx : Int))
          obtain ⟨l3, _⟩ := own_int (HQ2.out.below (by rw [HG4.out]; exact hbx1)) hlt2
          obtain ⟨aa, eaa, _, l4⟩ := (HRA.out.below (by rw [HG4.out]; exact hbx1)).at_ hyn
          injection eaa with eaa
          subst eaa
          have s2 := own_off p2 (show g4 + 1 ≠ g4 by omega) m2 (.int .i64 (qx : Int))
          obtain ⟨c2, f2⟩ := own_int s2 hlt2
          have hbx2 := hbx1.setCell (p := ⟨g4 + 1, m2, none⟩) (by show g4 ≤ g4 + 1; omega) (.int .i64 (qy : Int))
          have s1b := own_off (p1.setI (x := (qx : Int)) hlt2) (show g4 ≠ g4 + 1 by omega) m2 (.int .i64 (qy : Int))
          have s2b := OwnI_set s2 (x := (qy : Int)) hlt2
          have HT2 := Lib.hid (show (us.set m2 (qx : Int)).take (m2 + 1) = (upL zs s.l k).take (m2 + 1) ∧ (ws.set m2 (qy : Int)).take (m2 + 1) = (loL zs s.l k).take (m2 + 1) from
            ⟨take_up HT.out.1 (by rw [p1.lenI]; exact hlt2) (by rw [upL_len]; exact hlt2) HU.out, take_up HT.out.2 (by rw [p2.lenI]; exact hlt2) (by rw [loL_len]; exact hlt2) HW.out⟩)
          rw [hb] at l1 l3
          rw [cx, hpx] at l2
          rw [cy, hpy] at l4
          obtain ⟨y1, hy1⟩ : ∃ y, nth us m2 = y := ⟨_, rfl⟩
          obtain ⟨y2, hy2⟩ : ∃ y, nth ws m2 = y := ⟨_, rfl⟩
          rw [hy1] at c1
          rw [hy2] at c2
          have hz8 : z < 8 := by omega
          clear hb hz hx hy cx cy hpx hpy hqx hqy p1 p2 hbx hbx1 s2 hy1 hy2
          go_wp2_with fail
          go_roundw
          case rel => exact ⟨m2 + 1, _, _, by omega, by go_num, s1b, s2b, HT2, hbx2⟩
          case measure => (simp [intOf] <;> omega)
        · obtain rfl : m2 = k := by omega
          have hus : us = upL zs s.l m2 := by
            have h5 := HT.out.1
            rwa [List.take_of_length_le (by rw [p1.lenI]; exact Nat.le_refl _), List.take_of_length_le (by rw [upL_len]; exact Nat.le_refl _)] at h5
          have hws : ws = loL zs s.l m2 := by
            have h5 := HT.out.2
            rwa [List.take_of_length_le (by rw [p2.lenI]; exact Nat.le_refl _), List.take_of_length_le (by rw [loL_len]; exact Nat.le_refl _)] at h5
          subst hus hws
          have q1 := HQ1.out.below (by rw [HG4.out]; exact hbx)
          have q2 := HQ2.out.below (by rw [HG4.out]; exact hbx)
          obtain ⟨Z, hZ⟩ : ∃ Z, wr.heap.size = Z := ⟨_, rfl⟩
          have hZ4 : g4 + 1 < Z := by rw [← hZ]; exact (p2.blk_ _ rfl).2
          have HZ := Lib.hid hZ
          have b7g := HBL.out.trans (hbx.mono (show g ≤ g4 by omega))
          have hE : Own (wr.alloc (.cells #[] 3)) Z 3 (some ⟨wr.heap.size, 0, none⟩) 0 0 [] := (own_empty wr 3).more (by omega)
          have hEb : Below Z wr (wr.alloc (.cells #[] 3)) := (Below.refl Z wr).alloc (by omega) _
          clear hbx hZ
          go_wp2_with (at_builtin; refine wpL_append _ rfl _ _ _ rfl Z 3 (.int .i64 0) 8 Try.underlying24 intInfo rfl _ 0 _ [] rfl hE (some ⟨g, 0, none⟩) m2 m2 (s.f.map (Value.int .i64)) rfl (q1.rd.alloc _) (ints_one _) (by unfold maxLen; omega) (by omega) (by have := HZ.out; simp; omega) ?_)
          intro A1 c1 w7 o1 hg1 hat1
          have b7 := own_below hE hEb (by have := HZ.out; simp; omega) hg1
          replace o1 : OwnI w7 Z 3 A1 m2 c1 s.f := by simpa [OwnI] using o1
          replace p1 := p1.below (by rw [HZ.out]; exact b7)
          replace p2 := p2.below (by rw [HZ.out]; exact b7)
          replace q2 := q2.below (by rw [HZ.out]; exact b7)
          have s7 := b7.size
          rw [HZ.out] at s7
          have b8g := b7g.trans (b7.mono (by omega))
          clear hE hEb hg1 hat1 b7 b7g q1
          go_wp2_with fail
          refine (HF.out (some ⟨g4, 0, none⟩) m2 (upL zs s.l m2) w7 p1.rd HRO.out.2.2.2.2.1).mono ?_
          rintro e w8 ⟨A2, c2, rfl, o2, b8⟩
          have s8 := b8.size
          replace o1 := o1.below b8
          replace p2 := p2.below b8
          replace q2 := q2.below b8
          have b9g := b8g.trans (b8.mono (by omega))
          clear p1 b8 b8g
          go_wp2_with (at_builtin; refine wpL_append _ rfl _ _ _ rfl Z 3 (.int .i64 0) 8 Try.underlying24 intInfo rfl _ m2 _ _ rfl o1 A2 m c2 ((F (upL zs s.l m2)).map (Value.int .i64)) rfl o2.rd (ints_one _) (by unfold maxLen; omega) (by omega) (by omega) ?_)
          intro A3 c3 w9 o3 hg3 hat3
          have b9 := own_below (o1.more (b2 := g) (by omega)) b9g (by omega) (by exact hg3)
          have hA1 := o1.blk_
          replace p2 := p2.kept hg3 (fun gg x y => by have h9 := hA1 gg y.symm; have h10 : g4 + 1 = gg := (by simpa [blk] using x); omega)
          replace q2 := q2.kept hg3 (fun gg x y => by have h9 := hA1 gg y.symm; have h10 : g + 1 = gg := (by simpa [blk] using x); omega)
          have s9 := hg3.size
          clear o1 o2 hg3 hat3 hA1 b9g
          go_wp2_with fail
          refine (HF.out (some ⟨g4 + 1, 0, none⟩) m2 (loL zs s.l m2) w9 p2.rd HRO.out.2.2.2.2.2).mono ?_
          rintro e w10 ⟨A4, c4, rfl, o4, b10⟩
          have s10 := b10.size
          replace o3 := o3.below b10
          replace q2 := q2.below b10
          have b10g := b9.trans (b10.mono (by omega))
          clear p2 b10 b9
          go_wp2_with (at_builtin; refine wpL_append _ rfl _ _ _ rfl Z 3 (.int .i64 0) 8 Try.underlying24 intInfo rfl _ (m2 + m) _ _ rfl o3 A4 m c4 ((F (loL zs s.l m2)).map (Value.int .i64)) rfl o4.rd (ints_one _) (by unfold maxLen; omega) (by omega) (by omega) ?_)
          intro A5 c5 w11 o5 hg5 hat5
          have b11 := own_below (o3.more (b2 := g) (by omega)) b10g (by omega) (by exact hg5)
          have hA3 := o3.blk_
          replace q2 := q2.kept hg5 (fun gg x y => by have h9 := hA3 gg y.symm; have h10 : g + 1 = gg := (by simpa [blk] using x); omega)
          have s11 := hg5.size
          clear o3 o4 hg5 hat5 hA3 b10g
          go_wp2_with (at_builtin; refine wpL_append _ rfl _ _ _ rfl Z 3 (.int .i64 0) 8 Try.underlying24 intInfo rfl _ (m2 + m + m) _ _ rfl o5 (some ⟨g + 1, 0, none⟩) m2 m2 (s.l.map (Value.int .i64)) rfl q2.rd (ints_one _) (by unfold maxLen; omega) (by omega) (by omega) ?_)
          intro A6 c6 w12 o6 hg6 hat6
          have b12 := own_below (o5.more (b2 := g) (by omega)) b11 (by omega) (by exact hg6)
          clear o5 hg6 hat6 b11
          have s1 := HB1.out.size
          rw [HG.out] at s1
          go_wp2_with fail
          go_ret
          exact ⟨A6, c6, rfl, by rw [OwnI, HOUT.out, List.map_append, List.map_append, List.map_append, List.append_assoc, List.append_assoc]; exact o6.more (b2 := w.heap.size) (by omega), HB1.out.trans (b12.mono (by omega))⟩

theorem specFor4 : ForS 4 6 sf4 := specForN 2 (.inl rfl) 1 (by omega) sf2 specFor2
theorem specFor8 : ForS 8 20 sf8 := specForN 4 (.inr rfl) 6 (by omega) sf4 specFor4

end Go.Proofs.Ytchmmaokommnaaa
