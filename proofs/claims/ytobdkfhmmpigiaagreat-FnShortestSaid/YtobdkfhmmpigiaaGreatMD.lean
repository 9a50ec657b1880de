/- Chapter 12: spec.l03Ones, spec.l04Clusters. -/
import Derived.Test.YtobdkfhmmpigiaaGreatMC
import Derived.Deep.LoopGhost
namespace Go.Proofs.YtobdkfhmmpigiaaGreat
open Go.RowKit Go.Deep
set_option linter.unusedVariables false
attribute [local go_sem] bits_and_one


/-- How many of the first k masks have how many ones. -/
def cluTo (n : Nat) (set : List Int) : Nat → List Int
  | 0 => List.replicate (n + 1) 0
  | k + 1 => (cluTo n set k).set (pop (nth set k).toNat) (nth (cluTo n set k) (pop (nth set k).toNat) + 1)
def cluV (n : Nat) (set : List Int) : List Int := cluTo n set set.length
theorem cluTo_zero (n : Nat) (set : List Int) : cluTo n set 0 = List.replicate (n + 1) 0 := rfl
theorem cluTo_succ {n : Nat} {set : List Int} {k s p : Nat} (h : nth set k = s) (hp : pop s = p) : cluTo n set (k + 1) = (cluTo n set k).set p (nth (cluTo n set k) p + 1) := by
  subst hp
  rw [cluTo, h, Int.toNat_natCast]
theorem nth_set_ (l : List Int) (i : Nat) (v : Int) (p : Nat) : nth (l.set i v) p = nth l p ∨ nth (l.set i v) p = v := by
  unfold nth
  rw [List.getD_eq_getElem?_getD, List.getD_eq_getElem?_getD, List.getElem?_set]
  by_cases h : i = p
  · subst h
    by_cases h2 : i < l.length
    · right; simp [h2]
    · left; simp [h2]
  · left; simp [h]
theorem cluTo_bd (n : Nat) (set : List Int) : ∀ k p, 0 ≤ nth (cluTo n set k) p ∧ nth (cluTo n set k) p ≤ k := by
  intro k
  induction k with
  | zero =>
    intro p
    have : nth (cluTo n set 0) p = 0 := by
      rw [cluTo_zero]
      unfold nth
      rw [List.getD_eq_getElem?_getD, List.getElem?_replicate]
      split <;> rfl
    omega
  | succ k ih =>
    intro p
    have h1 := ih p
    have h2 := ih (pop (nth set k).toNat)
    rw [cluTo]
    rcases nth_set_ (cluTo n set k) (pop (nth set k).toNat) (nth (cluTo n set k) (pop (nth set k).toNat) + 1) p with h | h <;> rw [h] <;> omega
theorem cluTo_len (n : Nat) (set : List Int) : ∀ k, (cluTo n set k).length = n + 1 := by
  intro k
  induction k with
  | zero => simp [cluTo]
  | succ k ih => rw [cluTo, List.length_set, ih]
theorem cluV_bd (n : Nat) (set : List Int) (p : Nat) : 0 ≤ nth (cluV n set) p ∧ nth (cluV n set) p ≤ set.length := cluTo_bd n set _ p
theorem pop1_ : ∀ s : Nat, s < 2 → pop s ≤ 1 := by decide +kernel
theorem pop2_ : ∀ s : Nat, s < 4 → pop s ≤ 2 := by decide +kernel
theorem pop3_ : ∀ s : Nat, s < 8 → pop s ≤ 3 := by decide +kernel
theorem pop4_ : ∀ s : Nat, s < 16 → pop s ≤ 4 := by decide +kernel
theorem pop_below {n s : Nat} (h1 : 1 ≤ n) (h4 : n ≤ 4) (hs : s < 2 ^ n) : pop s < n + 1 := by
  have hc : n = 1 ∨ n = 2 ∨ n = 3 ∨ n = 4 := by omega
  rcases hc with rfl | rfl | rfl | rfl
  · have := pop1_ s hs; omega
  · have := pop2_ s hs; omega
  · have := pop3_ s hs; omega
  · have := pop4_ s hs; omega
attribute [irreducible] cluTo

end Go.Proofs.YtobdkfhmmpigiaaGreat

/- Chapter 12: spec.l04Next. -/
namespace Go.Proofs.YtobdkfhmmpigiaaGreat
open Go.RowKit Go.Deep
set_option linter.unusedVariables false

/-- Where the falling end of a list begins. -/
def pivT (zs : List Int) : Nat → Nat
  | 0 => 0
  | i + 1 => if nth zs (i + 1) < nth zs i then pivT zs i else i + 1
def kT (zs : List Int) (b : Int) : Nat → Nat
  | 0 => 0
  | k + 1 => if nth zs (k + 1) < b then kT zs b k else k + 1
def revTo (zs : List Int) (n : Nat) : Nat → List Int
  | 0 => []
  | t + 1 => revTo zs n t ++ [nth zs (n - 1 - t)]
def swpL (zs : List Int) (I k : Nat) : List Int := (zs.set I (nth zs k)).set k (nth zs I)
/-- The next order in lexicographic order. -/
def nxt (zs : List Int) : Option (List Int) :=
  let n := zs.length
  let i := pivT zs (n - 1)
  if i = 0 then none else
    let out := swpL zs (i - 1) (kT zs (nth zs (i - 1)) (n - 1))
    some (out.take i ++ revTo out n (n - i))
theorem pivT_on {zs : List Int} {i : Nat} (h : nth zs (i + 1) < nth zs i) : pivT zs (i + 1) = pivT zs i := by rw [pivT, if_pos h]
theorem pivT_off {zs : List Int} {i : Nat} (h : ¬ nth zs (i + 1) < nth zs i) : pivT zs (i + 1) = i + 1 := by rw [pivT, if_neg h]
theorem kT_on {zs : List Int} {b : Int} {k : Nat} (h : nth zs (k + 1) < b) : kT zs b (k + 1) = kT zs b k := by rw [kT, if_pos h]
theorem kT_off {zs : List Int} {b : Int} {k : Nat} (h : ¬ nth zs k < b) : kT zs b k = k := by
  cases k with
  | zero => rfl
  | succ k => rw [kT, if_neg h]
theorem revTo_zero (zs : List Int) (n : Nat) : revTo zs n 0 = [] := rfl
theorem revTo_succ {zs : List Int} {n t j : Nat} (h : j + t + 1 = n) : revTo zs n (t + 1) = revTo zs n t ++ [nth zs j] := by
  rw [revTo, show n - 1 - t = j by omega]
theorem revTo_len (zs : List Int) (n : Nat) : ∀ t, (revTo zs n t).length = t
  | 0 => rfl
  | t + 1 => by rw [revTo, List.length_append, revTo_len zs n t]; rfl
theorem nxt_none {zs : List Int} {n : Nat} (hl : zs.length = n) (h : pivT zs (n - 1) = 0) : nxt zs = none := by
  unfold nxt
  simp only [hl, h, if_true]
theorem nxt_some {zs out : List Int} {n I k : Nat} (hl : zs.length = n) (h : pivT zs (n - 1) = I + 1) (hk : kT zs (nth zs I) (n - 1) = k) (ho : swpL zs I k = out) : nxt zs = some (out.take (I + 1) ++ revTo out n (n - (I + 1))) := by
  unfold nxt
  simp only [hl, h, Nat.add_sub_cancel, hk, ho]
  rw [if_neg (by omega)]
theorem swp_len (zs : List Int) (I k : Nat) : (swpL zs I k).length = zs.length := by unfold swpL; rw [List.length_set, List.length_set]
theorem down1 {J I : Nat} (h1 : J ≤ I + 1) (h2 : I + 1 ≤ J) (h3 : J ≤ 1048576) : IntKind.i64.wrap ((J : Int) - 1) = (I : Int) := by rw [IntWalk.i64_in _ (by omega)]; omega
attribute [irreducible] pivT kT revTo

end Go.Proofs.YtobdkfhmmpigiaaGreat

/- Chapter 12: spec.l04Fits. -/
namespace Go.Proofs.YtobdkfhmmpigiaaGreat
open Go.RowKit Go.Deep
set_option linter.unusedVariables false


/-- The orders from one on. -/
def chainL : Nat → List Int → List (List Int)
  | 0, _ => []
  | f + 1, z => z :: (match nxt z with
    | none => []
    | some y => chainL f y)
def ordsL (n : Nat) : List (List Int) := chainL 24 (marks 0 n)
/-- What the reference asks of the orders: each one's next is the next one; each has n wires; masks stay masks. -/
def ordB (n : Nat) : Bool := (List.range (ordsL n).length).all fun j =>
  decide (nxt (row (ordsL n) j) = if j + 1 < (ordsL n).length then some (row (ordsL n) (j + 1)) else none) && decide ((row (ordsL n) j).length = n) &&
    ((List.range n).all fun i => decide (0 ≤ nth (row (ordsL n) j) i ∧ nth (row (ordsL n) j) i < 4)) && ((List.range (2 ^ n)).all fun s => decide (renM (row (ordsL n) j) s n < 2 ^ n))
theorem ordB_1 : ordB 1 = true := by decide +kernel
theorem ordB_2 : ordB 2 = true := by decide +kernel
theorem ordB_3 : ordB 3 = true := by decide +kernel
theorem ordB_4 : ordB 4 = true := by decide +kernel
theorem ords_pos (n : Nat) : 0 < (ordsL n).length := by unfold ordsL chainL; simp
theorem ords_first (n : Nat) : row (ordsL n) 0 = marks 0 n := by unfold ordsL chainL row; rfl
theorem ord_facts {n : Nat} (h1 : 1 ≤ n) (h4 : n ≤ 4) {j : Nat} (hj : j < (ordsL n).length) :
    nxt (row (ordsL n) j) = (if j + 1 < (ordsL n).length then some (row (ordsL n) (j + 1)) else none) ∧ (row (ordsL n) j).length = n ∧ MaskR 4 n (row (ordsL n) j) ∧ ∀ s, s < 2 ^ n → renM (row (ordsL n) j) s n < 2 ^ n := by
  have hB : ordB n = true := by
    have hc : n = 1 ∨ n = 2 ∨ n = 3 ∨ n = 4 := by omega
    rcases hc with rfl | rfl | rfl | rfl
    · exact ordB_1
    · exact ordB_2
    · exact ordB_3
    · exact ordB_4
  have h := List.all_eq_true.1 hB j (List.mem_range.2 hj)
  simp only [Bool.and_eq_true] at h
  obtain ⟨⟨⟨q1, q2⟩, q3⟩, q4⟩ := h
  refine ⟨of_decide_eq_true q1, of_decide_eq_true q2, fun i hi => ?_, fun s hs => of_decide_eq_true (List.all_eq_true.1 q4 s (List.mem_range.2 hs))⟩
  have := of_decide_eq_true (List.all_eq_true.1 q3 i (List.mem_range.2 hi))
  exact ⟨(nth (row (ordsL n) j) i).toNat, by omega, by omega⟩
/-- Is the first list of counts nowhere above the second, up to i? -/
def cluLe (x y : List Int) : Nat → Bool
  | 0 => true
  | i + 1 => cluLe x y i && decide (nth x i ≤ nth y i)
theorem cluLe_on {x y : List Int} {i : Nat} (h : cluLe x y i = true) (h2 : nth x i ≤ nth y i) : cluLe x y (i + 1) = true := by
  rw [cluLe, h, decide_eq_true h2]; rfl
theorem cluLe_off {x y : List Int} {i : Nat} (h2 : ¬ nth x i ≤ nth y i) : ∀ m, i < m → cluLe x y m = false := by
  intro m
  induction m with
  | zero => intro h; omega
  | succ m ih =>
    intro h
    rw [cluLe]
    by_cases e : i = m
    · subst e; rw [decide_eq_false h2]; simp
    · rw [ih (by omega)]; rfl
/-- Does one of the first j orders bring a set into another one? -/
def fitTo (n : Nat) (a b : List Int) : Nat → Bool
  | 0 => false
  | j + 1 => fitTo n a b j || witV (renV (row (ordsL n) j) n a (2 ^ n)) b
def fitV (n : Nat) (a b : List Int) : Bool := decide (a.length ≤ b.length) && cluLe (cluV n a) (cluV n b) (n + 1) && fitTo n a b (ordsL n).length
theorem fitTo_zero (n : Nat) (a b : List Int) : fitTo n a b 0 = false := rfl
theorem fitTo_off {n : Nat} {a b : List Int} {j : Nat} (h : fitTo n a b j = false) (h2 : witV (renV (row (ordsL n) j) n a (2 ^ n)) b = false) : fitTo n a b (j + 1) = false := by rw [fitTo, h, h2]; rfl
theorem fitTo_on {n : Nat} {a b : List Int} {j : Nat} (h2 : witV (renV (row (ordsL n) j) n a (2 ^ n)) b = true) : ∀ m, j < m → fitTo n a b m = true := by
  intro m
  induction m with
  | zero => intro h; omega
  | succ m ih =>
    intro h
    rw [fitTo]
    by_cases e : j = m
    · subst e; rw [h2]; simp
    · rw [ih (by omega)]; rfl
theorem ren_len (names : List Int) (n : Nat) (set : List Int) (N : Nat) : (renV names n set N).length ≤ N := selL_le _ _
theorem ren_sel (names : List Int) (n : Nat) (set : List Int) (N : Nat) : ∃ P, renV names n set N = selL P N := ⟨_, rfl⟩
attribute [irreducible] chainL cluLe fitTo

end Go.Proofs.YtobdkfhmmpigiaaGreat

/- Chapter 12: spec.ResultKinds. -/
namespace Go.Proofs.YtobdkfhmmpigiaaGreat
open Go.RowKit Go.Deep
set_option linter.unusedVariables false


/-- Is a set, by other names, one of the first i that are left? -/
def knT (n : Nat) (set : List Int) (left : List (List Int)) : Nat → Bool
  | 0 => false
  | i + 1 => knT n set left i || ((row left i).length == set.length && fitV n (row left i) set)
def kinTo (n : Nat) (S : List (List Int)) : Nat → List (List Int)
  | 0 => []
  | j + 1 => if knT n (row S j) (kinTo n S j) (kinTo n S j).length = true then kinTo n S j else kinTo n S j ++ [row S j]
/-- How many results there are that are no others by other names. -/
def kindsS (n K : Nat) : Nat := (kinTo n (lvl n K) (lvl n K).length).length
theorem knT_zero (n : Nat) (set : List Int) (left : List (List Int)) : knT n set left 0 = false := rfl
theorem knT_succ (n : Nat) (set : List Int) (left : List (List Int)) (i : Nat) : knT n set left (i + 1) = (knT n set left i || ((row left i).length == set.length && fitV n (row left i) set)) := rfl
theorem kinTo_zero (n : Nat) (S : List (List Int)) : kinTo n S 0 = [] := rfl
theorem kinTo_old {n : Nat} {S z : List (List Int)} {j k : Nat} (h : kinTo n S j = z) (hl : z.length = k) (hk : knT n (row S j) z k = true) : kinTo n S (j + 1) = z := by
  rw [kinTo, h, hl, if_pos hk]
theorem kinTo_new {n : Nat} {S z : List (List Int)} {j k : Nat} (h : kinTo n S j = z) (hl : z.length = k) (hk : knT n (row S j) z k = false) : kinTo n S (j + 1) = z ++ [row S j] := by
  rw [kinTo, h, hl, if_neg (by rw [hk]; simp)]
theorem pair_sets (n : Nat) (set : List Int) : ∀ (k : Nat) (z : List (List Int)), SetsR (2 ^ n) z → SetsR (2 ^ n) (pairTo n set z k) := by
  intro k
  induction k with
  | zero => intro z h; exact h
  | succ k ih =>
    intro z h
    rw [pairTo]
    obtain ⟨P, hP⟩ := all_set [row (stdL n) k] 1 set (2 ^ n)
    rw [hP]
    exact (ih z h).add P
theorem set_sets (n : Nat) (now : List (List Int)) : ∀ j, SetsR (2 ^ n) (setTo n now j) := by
  intro j
  induction j with
  | zero => exact SetsR.nil_ _
  | succ j ih => rw [setTo]; exact pair_sets _ _ _ _ ih
theorem lvl_sets (n : Nat) : ∀ i, SetsR (2 ^ n) (lvl n i) := by
  intro i
  cases i with
  | zero => intro x hx; simp [lvl] at hx; subst hx; exact ⟨_, marks_sel _⟩
  | succ i => rw [lvl_succ]; exact set_sets _ _ _
theorem SetsR.snoc {N : Nat} {z : List (List Int)} (h : SetsR N z) {x : List Int} (hx : ∃ P, x = selL P N) : SetsR N (z ++ [x]) := by
  intro y hy
  rcases List.mem_append.1 hy with hy | hy
  · exact h y hy
  · simp at hy; subst hy; exact hx
attribute [irreducible] knT kinTo

theorem OwnS.keep {w w' : World} {lo : Nat} {A : Option Addr} {n c : Nat} {zss : List (List Int)} (h : OwnS w lo A n c zss) (hk : ∀ g, lo ≤ g → g < w.heap.size → w'.heap[g]? = w.heap[g]?) : OwnS w' lo A n c zss := by
  obtain ⟨hl, vs, ho, hr⟩ := h
  exact ⟨hl, vs, ho.keepAt fun g hg => hk g (ho.blk_ g hg).1 (ho.blk_ g hg).2, hr.mono fun v z k => k.keep fun g h1 h2 hd => ⟨hk g h1 h2, hd⟩⟩
theorem OwnS.at_ {w : World} {lo : Nat} {A : Option Addr} {n c : Nat} {zss : List (List Int)} (h : OwnS w lo A n c zss) {j : Nat} (hj : j < n) : ∃ ad B m d, A = some ad ∧ w.cell? (ad.add j) = some (.slice B m d) ∧ OwnI w lo 3 B m d (row zss j) := by
  obtain ⟨hl, vs, ho, hr⟩ := h
  obtain ⟨v, hv, B, m, d, rfl, hB, _⟩ := hr.at_ j (by omega)
  obtain ⟨ad, hA, hlt, hc⟩ := ho.rd.atV hv
  exact ⟨ad, B, m, d, hA, hc, hB⟩
/-- The list that is kept: its headers in block b or in blocks behind w1, its rows in w1. -/
def LeftL (w1 wr : World) (b : Nat) (A : Option Addr) (k c : Nat) (zss : List (List Int)) : Prop :=
  zss.length = k ∧ (∀ g, blk A = some g → g = b ∨ w1.heap.size ≤ g) ∧ Chg b (b + 1) w1 wr ∧ ∃ vs, Own wr b 30 A k c vs ∧ All2 (Rw wr (b + 1) fun g => g < w1.heap.size) vs zss
section
variable {w1 wr wr' : World} {b k c : Nat} {A : Option Addr} {zss : List (List Int)}
theorem LeftL.rd (h : LeftL w1 wr b A k c zss) : RdM wr A k zss := by
  obtain ⟨hl, _, _, vs, ho, hr⟩ := h
  refine ⟨hl, fun j hj => ?_⟩
  obtain ⟨v, hv, B, m, d, rfl, hB, _⟩ := hr.at_ j (by omega)
  obtain ⟨ad, hA, hlt, hc⟩ := ho.rd.atV hv
  exact ⟨ad, B, m, d, hA, hlt, hc, hB.rd, hB.cap.1, hB.cap.2⟩
theorem LeftL.below (h : LeftL w1 wr b A k c zss) (hb : Below wr.heap.size wr wr') : LeftL w1 wr' b A k c zss := by
  obtain ⟨hl, hA, hc, vs, ho, hr⟩ := h
  exact ⟨hl, hA, hc.trans ⟨hb.os, hb.tape, hb.output, hb.size, fun g hg _ => hb.block g hg⟩, vs, ho.below hb, hr.mono fun v z k => k.keep fun g _ hg hd => ⟨hb.block g hg, hd⟩⟩
theorem LeftL.push {w6 : World} {A6 Bx : Option Addr} {c6 mx dx : Nat} {x : List Int} {vs : List Value} (h : LeftL w1 wr b A k c zss) (hv : Own wr b 30 A k c vs) (hr : All2 (Rw wr (b + 1) fun g => g < w1.heap.size) vs zss) (hx : OwnI w1 (b + 1) 3 Bx mx dx x)
    (ho : Own w6 b 30 A6 (k + 1) c6 (vs ++ [.slice Bx mx dx])) (hg : wr.grownBy w6 (blk A)) (hat : blk A6 = blk A ∨ blk A6 = some (wr.heap.size + 1)) : LeftL w1 w6 b A6 (k + 1) c6 (zss ++ [x]) := by
  obtain ⟨hl, hA, hc, _⟩ := h
  have hs := hc.size
  have hc6 : Chg b (b + 1) w1 w6 := by
    refine ⟨hg.os.trans hc.os, hg.tape.trans hc.tape, hg.output.trans hc.output, Nat.le_trans hc.size hg.size, fun g hg1 hd => ?_⟩
    rw [hg.block g (by omega) (fun e => by rcases hA g e.symm with h | h <;> omega)]
    exact hc.block g hg1 hd
  have hne : ∀ g, b + 1 ≤ g → g < w1.heap.size → some g ≠ blk A := fun g h1 h2 e => by rcases hA g e.symm with h | h <;> omega
  refine ⟨by simp [hl], fun g e => ?_, hc6, _, ho, (hr.mono fun v z q => q.keep fun g h1 h2 h3 => ⟨hg.block g h2 (hne g h1 h3), h3⟩).append (All2.one ⟨Bx, mx, dx, rfl, ?_, fun g hg1 => (hx.blk_ g hg1).2⟩)⟩
  · rcases hat with h | h
    · rw [h] at e; exact hA g e
    · rw [h] at e; injection e with e; right; omega
  · exact hx.keepAt fun g hg1 => hc6.block g (hx.blk_ g hg1).2 (.inr (hx.blk_ g hg1).1)
end


end Go.Proofs.YtobdkfhmmpigiaaGreat
