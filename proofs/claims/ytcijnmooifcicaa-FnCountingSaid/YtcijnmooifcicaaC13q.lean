/- Chapter 13: bitonic networks, as the program makes them. -/
import Derived.Test.YtcijnmooifcicaaC13m
namespace Go.Proofs.Ytcijnmooifcicaa
open Go.RowKit Go.Deep
set_option linter.unusedVariables false

def crL (a n i : Nat) : List (List Int) := (List.range i).map fun j => pr (a + j) (a + n - 1 - j)
def cmL (a h i : Nat) : List (List Int) := (List.range i).map fun j => pr (a + j) (a + j + h)
theorem crL_succ (a n i : Nat) : crL a n (i + 1) = crL a n i ++ [pr (a + i) (a + n - 1 - i)] := by simp [crL, List.range_succ]
theorem cmL_succ (a h i : Nat) : cmL a h (i + 1) = cmL a h i ++ [pr (a + i) (a + i + h)] := by simp [cmL, List.range_succ]
theorem crL_len (a n i : Nat) : (crL a n i).length = i := by simp [crL]
theorem cmL_len (a h i : Nat) : (cmL a h i).length = i := by simp [cmL]
def mgN (h : Nat) (F : Nat → List (List Int)) (a : Nat) : List (List Int) := cmL a h h ++ F a ++ F (a + h)
def biN (h n : Nat) (F G : Nat → List (List Int)) (a : Nat) : List (List Int) := F a ++ F (a + h) ++ crL a n h ++ G a ++ G (a + h)
def nilA (_ : Nat) : List (List Int) := []
def mgA2 : Nat → List (List Int) := mgN 1 nilA
def mgA4 : Nat → List (List Int) := mgN 2 mgA2
def biA2 : Nat → List (List Int) := biN 1 2 nilA nilA
def biA4 : Nat → List (List Int) := biN 2 4 biA2 mgA2
def biA8 : Nat → List (List Int) := biN 4 8 biA4 mgA4
theorem mgN_len {h l : Nat} {F : Nat → List (List Int)} (hF : ∀ a, (F a).length = l) (a : Nat) : (mgN h F a).length = h + l + l := by
  rw [mgN, List.length_append, List.length_append, cmL_len, hF, hF]
theorem biN_len {h n l m : Nat} {F G : Nat → List (List Int)} (hF : ∀ a, (F a).length = l) (hG : ∀ a, (G a).length = m) (a : Nat) : (biN h n F G a).length = l + l + h + m + m := by
  rw [biN, List.length_append, List.length_append, List.length_append, List.length_append, crL_len, hF, hF, hG, hG]
theorem nilA_len (a : Nat) : (nilA a).length = 0 := rfl
theorem mgA2_len (a : Nat) : (mgA2 a).length = 1 := mgN_len nilA_len a
theorem mgA4_len (a : Nat) : (mgA4 a).length = 4 := mgN_len mgA2_len a
theorem biA2_len (a : Nat) : (biA2 a).length = 1 := biN_len nilA_len nilA_len a
theorem biA4_len (a : Nat) : (biA4 a).length = 6 := biN_len biA2_len mgA2_len a
theorem biA8_len (a : Nat) : (biA8 a).length = 24 := biN_len biA4_len mgA4_len a

theorem row_left {a b : List (List Int)} {j : Nat} (h : j < a.length) : row (a ++ b) j = row a j := by
  simp only [row, List.getD, List.getElem?_append_left h]
theorem row_right {a b : List (List Int)} {n j : Nat} (h : a.length = n) (hj : n ≤ j) : row (a ++ b) j = row b (j - n) := by
  simp only [row, List.getD, List.getElem?_append_right (show a.length ≤ j by omega), h]
theorem slices_one {w : World} {lo hi n : Nat} {A : Option Addr} {f : Nat → List Int} {vs : List Value} (hl : vs.length = n) (h : RowsIn w lo hi A n f vs) : ∀ u ∈ vs, u.oneCell' = true := by
  intro u hu
  obtain ⟨j, hj, e⟩ := List.getElem_of_mem hu
  obtain ⟨B, m, d, hv, _⟩ := h j (by omega)
  rw [List.getElem?_eq_getElem hj] at hv
  injection hv with hv
  rw [← e, hv]
  rfl
/-- Two rows of rows, the second one appended to the first one. -/
theorem ownR_cat {w w3 : World} {B hi1 lo2 hi2 n1 n2 c1 c2 c3 : Nat} {A1 A2 A3 : Option Addr} {z1 z2 : List (List Int)} {vs1 vs2 : List Value}
    (h1 : z1.length = n1) (v1 : Own w B 22 A1 n1 c1 vs1) (a1 : ∀ g, blk A1 = some g → g < hi1) (r1 : RowsIn w B hi1 A1 n1 (row z1) vs1)
    (h2 : z2.length = n2) (v2 : Own w lo2 22 A2 n2 c2 vs2) (r2 : RowsIn w lo2 hi2 A2 n2 (row z2) vs2)
    (hd : hi1 ≤ lo2) (hB : B ≤ lo2) (hh1 : hi1 ≤ w.heap.size) (hh : hi2 ≤ w.heap.size) (ho : Own w3 B 22 A3 (n1 + n2) c3 (vs1 ++ vs2)) (hg : w.grownBy w3 (blk A1)) (hat : blk A3 = blk A1 ∨ ∃ k, blk A3 = some (w.heap.size + k)) :
    OwnR w3 B w3.heap.size A3 (n1 + n2) c3 (z1 ++ z2) := by
  have hs := hg.size
  have hl1 := v1.len
  have hl2 := v2.len
  have new : ∀ g, g < w.heap.size → blk A1 ≠ some g → blk A3 ≠ some g := fun g hg1 hne he => by
    rcases hat with e | ⟨k, e⟩
    · exact hne (e ▸ he)
    · rw [e] at he
      injection he with he
      omega
  refine ⟨by rw [List.length_append, h1, h2], vs1 ++ vs2, ho, fun g hg1 => (ho.blk_ g hg1).2, fun j hj => ?_⟩
  rcases Nat.lt_or_ge j n1 with e | e
  · obtain ⟨R, m, d, hv, hR, hd1⟩ := r1 j e
    refine ⟨R, m, d, by rw [List.getElem?_append_left (by omega)]; exact hv, by rw [row_left (by omega)]; exact hR.kept hg (fun g e1 e2 => (hd1 g e1).2.1 e2.symm), fun g hg1 => ⟨?_, new g (hR.blk_ g hg1).2 (hd1 g hg1).2.1, ?_⟩⟩
    · have := (hR.blk_ g hg1).2
      omega
    · intro i B' m' d' hi' hv' hb
      rw [List.getElem?_append_left (by omega)] at hv'
      exact (hd1 g hg1).2.2 i B' m' d' hi' hv' hb
  · obtain ⟨R, m, d, hv, hR, hd1⟩ := r2 (j - n1) (by omega)
    have hne : ∀ g, blk R = some g → blk A1 ≠ some g := fun g hg1 he => by
      have := (hR.blk_ g hg1).1
      have := a1 g he
      omega
    refine ⟨R, m, d, by rw [List.getElem?_append_right (by omega), hl1]; exact hv, by rw [row_right h1 e]; exact (hR.kept hg (fun g e1 e2 => hne g e1 e2.symm)).more hB, fun g hg1 => ⟨?_, new g (hR.blk_ g hg1).2 (hne g hg1), ?_⟩⟩
    · have := (hR.blk_ g hg1).2
      omega
    · intro i B' m' d' hi' hv' hb
      rcases Nat.lt_or_ge i n1 with e2 | e2
      · rw [List.getElem?_append_left (by omega)] at hv'
        obtain ⟨R2, m2, d2, hv2, _, hd2⟩ := r1 i e2
        rw [hv2] at hv'
        injection hv' with hv'
        injection hv' with hv1
        subst hv1
        have := (hd2 g hb).1
        have := (hR.blk_ g hg1).1
        omega
      · rw [List.getElem?_append_right (by omega), hl1] at hv'
        exact (hd1 g hg1).2.2 (i - n1) B' m' d' (by omega) hv' hb

/-- What a function that makes comparators gives. -/
def GiveL (F : FuncId) (n : Nat) (G : Nat → List (List Int)) : Prop :=
  ∀ (a : Nat) (w : World), a + n ≤ 8 → Calls Try.prog F #[.int .i64 a, .int .i64 n] w fun e w' => ∃ A m c, e = .returned (.slice A m c) ∧ OwnR w' w.heap.size w'.heap.size A m c (G a) ∧ Below w.heap.size w w'


theorem mergeOne : GiveL 74 1 nilA := by
  intro a w ha
  go_enter Try.func74, Try.ntmps74
  go_wp2_with fail
  go_ret
  exact ⟨_, _, _, rfl, ⟨rfl, [], own_empty w _, fun q hq => by have h3 : w.heap.size = q := (by simpa [blk] using hq); simp; omega, fun j hj => by omega⟩, below_alloc w _⟩
set_option maxHeartbeats 4000000 in
theorem mergeN (h n l : Nat) (hn : 2 * h = n) (h1 : 1 ≤ h) (h4 : h ≤ 4) (F : Nat → List (List Int)) (hF : ∀ a, (F a).length = l) (hl : l ≤ 6) (hC : GiveL 74 h F) : GiveL 74 n (mgN h F) := by
  intro a w ha
  · have ha4 : a + h + h ≤ 8 := by omega
    have e1 : ((n : Int) == 1) = false := by rw [beq_eq_false_iff_ne]; omega
    have e3 : (n : Int) / 2 = (h : Int) := by omega
    have eah : (a : Int) + (h : Int) = ((a + h : Nat) : Int) := by omega
    obtain ⟨b, hb⟩ : ∃ b, a + h = b := ⟨_, rfl⟩
    rw [hb] at eah ha4
    have HBE := Lib.hid hb
    have HC := Lib.hid hC
    have HF := Lib.hid hF
    have Q0 : OwnR (w.alloc (.cells #[] 22)) w.heap.size (w.alloc (.cells #[] 22)).heap.size (some ⟨w.heap.size, 0, none⟩) 0 0 [] := ⟨rfl, [], own_empty w _, fun q hq => by have h3 : w.heap.size = q := (by simpa [blk] using hq); simp; omega, fun j hj => by omega⟩
    have B0 := below_alloc w (.cells #[] 22)
    clear hb hC hF
    go_enter Try.func74, Try.ntmps74
    have HQ0 := Lib.hid Q0
    have HBB0 := Lib.hid B0
    clear Q0 B0
    go_wp2_with fail
    go_loopw [5, 13] (fun mv iv wr => ∃ i : Nat, ∃ A c z, mv = .slice A i c ∧ iv = .int .i64 i ∧ i ≤ h ∧ Hid (z = ([] : List (List Int)) ++ cmL a h i) ∧ OwnR wr w.heap.size wr.heap.size A i c z ∧ Below w.heap.size w wr) (fun _ iv _ => h - (intOf iv).toNat)
    case atStart => exact ⟨0, _, _, ([] : List (List Int)), rfl, rfl, Nat.zero_le _, Lib.hid (by simp [cmL]), HQ0.out, HBB0.out⟩
    case round =>
      obtain ⟨i, A, c, z, rfl, rfl, hi, HZ, hown, hbl⟩ := hrel
      have hsz := hbl.size
      by_cases hlt : i < h
      · obtain ⟨x, hx⟩ : ∃ x, a + i = x := ⟨_, rfl⟩
        have ex : (a : Int) + (i : Int) = (x : Int) := by omega
        obtain ⟨y, hy⟩ : ∃ y, a + i + h = y := ⟨_, rfl⟩
        have ey : (x : Int) + (h : Int) = (y : Int) := by omega
        have HX := Lib.hid hx
        have HY := Lib.hid hy
        obtain ⟨hl1, vs1, v1, a1, r1⟩ := hown
        have HRW := Lib.hid ((own_pair wr (x : Int) (y : Int)).more hsz)
        have HOW := Lib.hid (v1.alloc (.cells #[.int .i64 (x : Int), .int .i64 (y : Int)] 3))
        have HRS := Lib.hid (RowsIn.keep (w' := wr.alloc (.cells #[.int .i64 (x : Int), .int .i64 (y : Int)] 3)) r1 (fun q h1 h2 h3 => Below.heap_alloc wr _ q h3))
        have HBA := Lib.hid (hbl.alloc hsz (.cells #[.int .i64 (x : Int), .int .i64 (y : Int)] 3))
        clear hx hy v1 r1 hbl
        go_wp2_with (at_builtin; refine wpL_append1_at _ rfl _ _ _ rfl w.heap.size 22 (.slice none 0 0) 24 Try.underlying30 sliceInfo rfl _ i _ _ rfl HOW.out (.slice (some ⟨wr.heap.size, 0, none⟩) 2 2) (wr.heap.size + 1) (by simp) rfl rfl (by unfold maxLen; omega) (by omega) (by simp; omega) ?_)
        intro A6 c6 w6 ho6 hg6 hat6
        have hb6 := own_below HOW.out HBA.out (by simp; omega) hg6
        have hrs6 := rowsIn_push (f := row (z ++ [pr x y])) (cR := 2) HOW.out (HRS.out.congr fun j hj => row_snoc_lt (by rw [hl1]; exact hj)) a1 (by simp) (by rw [row_snoc_eq hl1]; exact HRW.out) (fun q hq => by have h3 : wr.heap.size = q := (by simpa [blk] using hq); omega) hg6 (by simpa using hat6)
        go_wp2_with fail
        go_roundw
        case rel => exact ⟨i + 1, A6, c6, z ++ [pr x y], rfl, by go_num, by omega, Lib.hid (by rw [HZ.out, cmL_succ, HY.out, HX.out, List.append_assoc]), ⟨by rw [List.length_append, hl1]; rfl, _, ho6, fun q hq => (ho6.blk_ q hq).2, hrs6⟩, hb6⟩
        case measure => (simp [intOf] <;> omega)
      · obtain rfl : i = h := by omega
        have HZ2 := Lib.hid HZ.out
        go_wp2_with fail
        refine (HC.out a _ (by omega)).mono ?_
        rintro e w1 ⟨AFa, nFa, cFa, rfl, oFa, hba⟩
        have oa := hown.below hba
        have hBa := hbl.trans (hba.mono hbl.size)
        obtain rfl : nFa = l := by rw [← oFa.1]; exact HF.out _
        obtain ⟨hla1, vsa1, va1, aa1, ra1⟩ := oa
        obtain ⟨hla2, vsa2, va2, aa2, ra2⟩ := oFa
        have onea := slices_one va2.len ra2
        have sza := hba.size
        have szBa := hbl.size
        go_wp2_with (at_builtin; refine wpL_append _ rfl _ _ _ rfl w.heap.size 22 (.slice none 0 0) 24 Try.underlying30 sliceInfo rfl _ i _ _ rfl va1 AFa nFa cFa vsa2 rfl va2.rd onea (by unfold maxLen; omega) (by omega) hBa.size ?_)
        intro Aa ca wax hoa hga hata
        have qa := ownR_cat (c3 := ca) hla1 va1 aa1 ra1 hla2 va2 ra2 (Nat.le_refl _) (by omega) (by omega) (Nat.le_refl _) hoa hga (by first | exact hata | (rcases hata with h | h; exact .inl h; exact .inr ⟨0, h⟩))
        have hBBa := own_below va1 hBa hBa.size hga
        clear hba hBa hla1 va1 aa1 ra1 hla2 va2 aa2 ra2 onea hoa hga hata sza szBa

        go_wp2_with fail
        refine (HC.out b _ (by omega)).mono ?_
        rintro e w2 ⟨AFb, nFb, cFb, rfl, oFb, hbb⟩
        have ob := qa.below hbb
        have hBb := hBBa.trans (hbb.mono hBBa.size)
        obtain rfl : nFb = nFa := by rw [← oFb.1]; exact HF.out _
        obtain ⟨hlb1, vsb1, vb1, ab1, rb1⟩ := ob
        obtain ⟨hlb2, vsb2, vb2, ab2, rb2⟩ := oFb
        have oneb := slices_one vb2.len rb2
        have szb := hbb.size
        have szBb := hBBa.size
        go_wp2_with (at_builtin; refine wpL_append _ rfl _ _ _ rfl w.heap.size 22 (.slice none 0 0) 24 Try.underlying30 sliceInfo rfl _ (i + nFb) _ _ rfl vb1 AFb nFb cFb vsb2 rfl vb2.rd oneb (by unfold maxLen; omega) (by omega) hBb.size ?_)
        intro Ab cb wbx hob hgb hatb
        have qb := ownR_cat (c3 := cb) hlb1 vb1 ab1 rb1 hlb2 vb2 rb2 (Nat.le_refl _) (by omega) (by omega) (Nat.le_refl _) hob hgb (by first | exact hatb | (rcases hatb with h | h; exact .inl h; exact .inr ⟨0, h⟩))
        have hBBb := own_below vb1 hBb hBb.size hgb
        clear hbb hBb hlb1 vb1 ab1 rb1 hlb2 vb2 ab2 rb2 oneb hob hgb hatb szb szBb

        go_wp2_with fail
        go_ret
        exact ⟨_, _, _, rfl, by rw [mgN, HBE.out]; have e := HZ2.out; rw [List.nil_append] at e; rw [← e]; exact qb, hBBb⟩

theorem biOne : GiveL 66 1 nilA := by
  intro a w ha
  go_enter Try.func66, Try.ntmps66
  go_wp2_with fail
  go_ret
  exact ⟨none, 0, 0, rfl, OwnR.nil_ _ _ _, Below.refl _ _⟩
set_option maxHeartbeats 4000000 in
theorem biNN (h n l m : Nat) (hn : 2 * h = n) (h1 : 1 ≤ h) (h4 : h ≤ 4) (F G : Nat → List (List Int)) (hF : ∀ a, (F a).length = l) (hl : l ≤ 6) (hC : GiveL 66 h F) (hG : ∀ a, (G a).length = m) (hm : m ≤ 6) (hD : GiveL 74 h G) : GiveL 66 n (biN h n F G) := by
  intro a w ha
  · have ha4 : a + h + h ≤ 8 := by omega
    have e1 : ((n : Int) == 1) = false := by rw [beq_eq_false_iff_ne]; omega
    have e3 : (n : Int) / 2 = (h : Int) := by omega
    obtain ⟨b, hb⟩ : ∃ b, a + h = b := ⟨_, rfl⟩
    have eah : (a : Int) + (h : Int) = (b : Int) := by omega
    rw [hb] at ha4
    have HBE := Lib.hid hb
    have HC := Lib.hid hC
    have HF := Lib.hid hF
    have HD := Lib.hid hD
    have HG := Lib.hid hG
    clear hb hC hF hD hG
    go_enter Try.func66, Try.ntmps66
    go_wp2_with fail
    refine (HC.out a _ (by omega)).mono ?_
    rintro e w1 ⟨A1, n1, c1, rfl, o1, hB1⟩
    obtain rfl : n1 = l := by rw [← o1.1]; exact HF.out _

    go_wp2_with fail
    refine (HC.out b _ (by omega)).mono ?_
    rintro e w2 ⟨AFa, nFa, cFa, rfl, oFa, hba⟩
    have oa := o1.below hba
    have hBa := hB1.trans (hba.mono hB1.size)
    obtain rfl : nFa = n1 := by rw [← oFa.1]; exact HF.out _
    obtain ⟨hla1, vsa1, va1, aa1, ra1⟩ := oa
    obtain ⟨hla2, vsa2, va2, aa2, ra2⟩ := oFa
    have onea := slices_one va2.len ra2
    have sza := hba.size
    have szBa := hB1.size
    go_wp2_with (at_builtin; refine wpL_append _ rfl _ _ _ rfl w.heap.size 22 (.slice none 0 0) 24 Try.underlying30 sliceInfo rfl _ nFa _ _ rfl va1 AFa nFa cFa vsa2 rfl va2.rd onea (by unfold maxLen; omega) (by omega) hBa.size ?_)
    intro Aa ca wax hoa hga hata
    have qa := ownR_cat (c3 := ca) hla1 va1 aa1 ra1 hla2 va2 ra2 (Nat.le_refl _) (by omega) (by omega) (Nat.le_refl _) hoa hga (by first | exact hata | (rcases hata with h | h; exact .inl h; exact .inr ⟨0, h⟩))
    have hBBa := own_below va1 hBa hBa.size hga
    clear hba hBa hla1 va1 aa1 ra1 hla2 va2 aa2 ra2 onea hoa hga hata sza szBa

    have HQ0 := Lib.hid qa
    have HBB0 := Lib.hid hBBa
    clear qa hBBa hB1 o1
    go_wp2_with fail
    go_loopw [5, 23] (fun mv iv wr => ∃ i : Nat, ∃ A c z, mv = .slice A (nFa + nFa + i) c ∧ iv = .int .i64 i ∧ i ≤ h ∧ Hid (z = (F a ++ F b) ++ crL a n i) ∧ OwnR wr w.heap.size wr.heap.size A (nFa + nFa + i) c z ∧ Below w.heap.size w wr) (fun _ iv _ => h - (intOf iv).toNat)
    case atStart => exact ⟨0, _, _, (F a ++ F b), rfl, rfl, Nat.zero_le _, Lib.hid (by simp [crL]), HQ0.out, HBB0.out⟩
    case round =>
      obtain ⟨i, A, c, z, rfl, rfl, hi, HZ, hown, hbl⟩ := hrel
      have hsz := hbl.size
      by_cases hlt : i < h
      · obtain ⟨x, hx⟩ : ∃ x, a + i = x := ⟨_, rfl⟩
        have ex : (a : Int) + (i : Int) = (x : Int) := by omega
        obtain ⟨y, hy⟩ : ∃ y, a + n - 1 - i = y := ⟨_, rfl⟩
        have ey : (a : Int) + (n : Int) - 1 - (i : Int) = (y : Int) := by omega
        have HX := Lib.hid hx
        have HY := Lib.hid hy
        obtain ⟨hl1, vs1, v1, a1, r1⟩ := hown
        have HRW := Lib.hid ((own_pair wr (x : Int) (y : Int)).more hsz)
        have HOW := Lib.hid (v1.alloc (.cells #[.int .i64 (x : Int), .int .i64 (y : Int)] 3))
        have HRS := Lib.hid (RowsIn.keep (w' := wr.alloc (.cells #[.int .i64 (x : Int), .int .i64 (y : Int)] 3)) r1 (fun q h1 h2 h3 => Below.heap_alloc wr _ q h3))
        have HBA := Lib.hid (hbl.alloc hsz (.cells #[.int .i64 (x : Int), .int .i64 (y : Int)] 3))
        clear hx hy v1 r1 hbl
        go_wp2_with (at_builtin; refine wpL_append1_at _ rfl _ _ _ rfl w.heap.size 22 (.slice none 0 0) 24 Try.underlying30 sliceInfo rfl _ (nFa + nFa + i) _ _ rfl HOW.out (.slice (some ⟨wr.heap.size, 0, none⟩) 2 2) (wr.heap.size + 1) (by simp) rfl rfl (by unfold maxLen; omega) (by omega) (by simp; omega) ?_)
        intro A6 c6 w6 ho6 hg6 hat6
        have hb6 := own_below HOW.out HBA.out (by simp; omega) hg6
        have hrs6 := rowsIn_push (f := row (z ++ [pr x y])) (cR := 2) HOW.out (HRS.out.congr fun j hj => row_snoc_lt (by rw [hl1]; exact hj)) a1 (by simp) (by rw [row_snoc_eq hl1]; exact HRW.out) (fun q hq => by have h3 : wr.heap.size = q := (by simpa [blk] using hq); omega) hg6 (by simpa using hat6)
        go_wp2_with fail
        go_roundw
        case rel => exact ⟨i + 1, A6, c6, z ++ [pr x y], rfl, by go_num, by omega, Lib.hid (by rw [HZ.out, crL_succ, HY.out, HX.out, List.append_assoc]), ⟨by rw [List.length_append, hl1]; rfl, _, ho6, fun q hq => (ho6.blk_ q hq).2, hrs6⟩, hb6⟩
        case measure => (simp [intOf] <;> omega)
      · obtain rfl : i = h := by omega
        have HZ2 := Lib.hid HZ.out
        go_wp2_with fail
        refine (HD.out a _ (by omega)).mono ?_
        rintro e w3 ⟨AFc, nFc, cFc, rfl, oFc, hbc⟩
        have oc := hown.below hbc
        have hBc := hbl.trans (hbc.mono hbl.size)
        obtain rfl : nFc = m := by rw [← oFc.1]; exact HG.out _
        obtain ⟨hlc1, vsc1, vc1, ac1, rc1⟩ := oc
        obtain ⟨hlc2, vsc2, vc2, ac2, rc2⟩ := oFc
        have onec := slices_one vc2.len rc2
        have szc := hbc.size
        have szBc := hbl.size
        go_wp2_with (at_builtin; refine wpL_append _ rfl _ _ _ rfl w.heap.size 22 (.slice none 0 0) 24 Try.underlying30 sliceInfo rfl _ (nFa + nFa + i) _ _ rfl vc1 AFc nFc cFc vsc2 rfl vc2.rd onec (by unfold maxLen; omega) (by omega) hBc.size ?_)
        intro Ac cc wcx hoc hgc hatc
        have qc := ownR_cat (c3 := cc) hlc1 vc1 ac1 rc1 hlc2 vc2 rc2 (Nat.le_refl _) (by omega) (by omega) (Nat.le_refl _) hoc hgc (by first | exact hatc | (rcases hatc with h | h; exact .inl h; exact .inr ⟨0, h⟩))
        have hBBc := own_below vc1 hBc hBc.size hgc
        clear hbc hBc hlc1 vc1 ac1 rc1 hlc2 vc2 ac2 rc2 onec hoc hgc hatc szc szBc

        go_wp2_with fail
        refine (HD.out b _ (by omega)).mono ?_
        rintro e w4 ⟨AFd, nFd, cFd, rfl, oFd, hbd⟩
        have od := qc.below hbd
        have hBd := hBBc.trans (hbd.mono hBBc.size)
        obtain rfl : nFd = nFc := by rw [← oFd.1]; exact HG.out _
        obtain ⟨hld1, vsd1, vd1, ad1, rd1⟩ := od
        obtain ⟨hld2, vsd2, vd2, ad2, rd2⟩ := oFd
        have oned := slices_one vd2.len rd2
        have szd := hbd.size
        have szBd := hBBc.size
        go_wp2_with (at_builtin; refine wpL_append _ rfl _ _ _ rfl w.heap.size 22 (.slice none 0 0) 24 Try.underlying30 sliceInfo rfl _ (nFa + nFa + i + nFd) _ _ rfl vd1 AFd nFd cFd vsd2 rfl vd2.rd oned (by unfold maxLen; omega) (by omega) hBd.size ?_)
        intro Ad cd wdx hod hgd hatd
        have qd := ownR_cat (c3 := cd) hld1 vd1 ad1 rd1 hld2 vd2 rd2 (Nat.le_refl _) (by omega) (by omega) (Nat.le_refl _) hod hgd (by first | exact hatd | (rcases hatd with h | h; exact .inl h; exact .inr ⟨0, h⟩))
        have hBBd := own_below vd1 hBd hBd.size hgd
        clear hbd hBd hld1 vd1 ad1 rd1 hld2 vd2 ad2 rd2 oned hod hgd hatd szd szBd

        go_wp2_with fail
        go_ret
        exact ⟨_, _, _, rfl, by rw [biN, HBE.out, ← HZ2.out]; exact qd, hBBd⟩

theorem mgTwo : GiveL 74 2 mgA2 := mergeN 1 2 0 rfl (by omega) (by omega) nilA nilA_len (by omega) mergeOne
theorem mgFour : GiveL 74 4 mgA4 := mergeN 2 4 1 rfl (by omega) (by omega) mgA2 mgA2_len (by omega) mgTwo
theorem biTwo : GiveL 66 2 biA2 := biNN 1 2 0 0 rfl (by omega) (by omega) nilA nilA nilA_len (by omega) biOne nilA_len (by omega) mergeOne
theorem biFour : GiveL 66 4 biA4 := biNN 2 4 1 1 rfl (by omega) (by omega) biA2 mgA2 biA2_len (by omega) biTwo mgA2_len (by omega) mgTwo
theorem biEight : GiveL 66 8 biA8 := biNN 4 8 6 4 rfl (by omega) (by omega) biA4 mgA4 biA4_len (by omega) biFour mgA4_len (by omega) mgFour
def biW (W : Nat) : Nat → List (List Int) := if W = 1 then nilA else if W = 2 then biA2 else if W = 4 then biA4 else biA8
theorem biW_give {W : Nat} (hW : W = 1 ∨ W = 2 ∨ W = 4 ∨ W = 8) : GiveL 66 W (biW W) := by
  rcases hW with rfl | rfl | rfl | rfl
  · exact biOne
  · exact biTwo
  · exact biFour
  · exact biEight
theorem biW_list {W : Nat} (hW : W = 1 ∨ W = 2 ∨ W = 4 ∨ W = 8) : biW W 0 = biL W := by
  rcases hW with rfl | rfl | rfl | rfl
  · decide +kernel
  · decide +kernel
  · decide +kernel
  · decide +kernel
set_option maxHeartbeats 1000000 in
theorem implPower (W : Nat) (w : World) (hW : W = 1 ∨ W = 2 ∨ W = 4 ∨ W = 8) : Calls Try.prog 65 #[.int .i64 W] w fun e w' => e = .returned (.bool true) ∧ w = w' := by
  rcases hW with rfl | rfl | rfl | rfl
  all_goals
    go_enter Try.func65, Try.ntmps65
    go_wp2_with fail
    go_ret
    exact ⟨rfl, rfl⟩
set_option maxHeartbeats 2000000 in
theorem implBitonic (W : Nat) (w : World) (hW : W = 1 ∨ W = 2 ∨ W = 4 ∨ W = 8) : Calls Try.prog 43 #[.int .i64 W] w fun e w' => ∃ A m c, e = .returned (.tuple #[.agg #[.int .i64 W, .slice A m c], .bool true]) ∧ (biL W).length = m ∧ RdM w' A m (biL W) ∧ Below w.heap.size w w' := by
  have HP := Lib.hid (fun w' => implPower W w' hW)
  have HG := Lib.hid (fun w' => biW_give hW 0 w' (by omega))
  have HL := Lib.hid (biW_list hW)
  have HX0 := Lib.hid (own_netbox w 0 none 0 0)
  have HAL := Lib.hid (below_alloc w (.cells #[.int .i64 0, .slice none 0 0] 35))
  have hW1 : 1 ≤ W := by omega
  have hW8 : W ≤ 8 := by omega
  clear hW
  go_enter Try.func43, Try.ntmps43
  go_wp2_with fail
  refine (HP.out _).mono ?_
  rintro e w' ⟨rfl, rfl⟩
  go_wp2_with fail
  refine (HG.out _).mono ?_
  rintro e w2 ⟨A', m, c', rfl, ho, hb2⟩
  rw [HL.out] at ho
  have hx2 := HX0.out.below hb2
  obtain ⟨b0, b1, b2, b3, b4⟩ := own_box hx2
  have hx4 := hx2.set_ (k := 0) (.int .i64 (W : Int)) (by omega)
  have hx5 := hx4.set_ (k := 1) (.slice A' m c') (by omega)
  obtain ⟨d0, d1, _, _, _⟩ := own_box hx5
  have hB2 := HAL.out.trans (hb2.mono HAL.out.size)
  have HBL := Lib.hid ((hB2.setCell (p := ⟨w.heap.size, 0, none⟩) (Nat.le_refl _) (.int .i64 (W : Int))).setCell (p := ⟨w.heap.size, 1, none⟩) (Nat.le_refl _) (.slice A' m c'))
  have HLN := Lib.hid ho.1
  have HM := Lib.hid (show RdM ((w2.setCell ⟨w.heap.size, 0, none⟩ (.int .i64 (W : Int))).setCell ⟨w.heap.size, 1, none⟩ (.slice A' m c')) A' m (biL W) from ((ho.keep (fun q h1 h2 h3 => (Below.heap_setCell _ _ _ q (by simp at h1; show q ≠ w.heap.size; omega)).trans (Below.heap_setCell _ _ _ q (by simp at h1; show q ≠ w.heap.size; omega)))).rd))
  clear hx2 hx4 hx5 hB2 hb2 ho
  go_wp2_with fail
  refine bodyPost_ret (v := .tuple #[.agg #[.int .i64 (W : Int), .slice A' m c'], .bool true]) (by simp [results, Try.results43, go_sem, d0, d1]) rfl ⟨A', m, c', rfl, HLN.out, HM.out, HBL.out⟩
end Go.Proofs.Ytcijnmooifcicaa
