/- Slices of slices of ints: what is read of them (RdM), rows that a call has made (OwnM), and what the statements' own helpers do with them. -/
import Derived.Test.YtobdkfhmmpigiaaIntS
import Derived.Deep.Matrix
namespace Go.Proofs.Ytobdkfhmmpigiaa
open Go.RowKit Go.Deep
set_option linter.unusedVariables false

theorem sliceInfo : (Try.prog.info? 28).map (fun i => (i.zero, i.size, i.bytes)) = some (some (.slice none 0 0), 1, 24) := by kernel_rfl
/-- The j-th row of a list of rows. -/
def row (zss : List (List Int)) (j : Nat) : List Int := zss.getD j []
def RdM (w : World) (A : Option Addr) (n : Nat) (zss : List (List Int)) : Prop :=
  zss.length = n ∧ ∀ j, j < n → ∃ ad B m d, A = some ad ∧ ad.block < w.heap.size ∧ w.cell? (ad.add j) = some (.slice B m d) ∧ RdI w B m (row zss j) ∧ m ≤ d ∧ d ≤ maxLen
theorem RdM.below {w w' : World} {A : Option Addr} {n : Nat} {zss : List (List Int)} (h : RdM w A n zss) (hb : Below w.heap.size w w') : RdM w' A n zss := by
  refine ⟨h.1, fun j hj => ?_⟩
  obtain ⟨ad, B, m, d, hA, hlt, hc, hr, h1, h2⟩ := h.2 j hj
  refine ⟨ad, B, m, d, hA, Nat.lt_of_lt_of_le hlt hb.size, ?_, hr.below hb, h1, h2⟩
  rw [World.cell?_of_block (w := w) (by rw [block_of_add]; exact hb.block _ hlt)]
  exact hc
def RdArgM (w : World) (A : Option Addr) (n c : Nat) (zss : List (List Int)) : Prop := RdM w A n zss ∧ n ≤ c ∧ c ≤ maxLen
theorem rdArgM_of_open {H : Type} {enc : TypeId × Value → H} {P : Program} {w : World} {base : Nat} {held : Bool} {t e q : TypeId} {fuel : Nat} {a : Option Addr} {l c : Nat} {x : DataW H × List MemPlace}
    (ht : P.underlying t = some (.slice e)) (he : P.underlying e = some (.slice q)) (hq : P.underlying q = some (.int .i64)) (ce : P.cellsOf e = 1) (cq : P.cellsOf q = 1)
    (h : DataW.trod enc P w base (fun _ => true) held fuel t [.slice a l c] = some x) : ∃ zss, RdArgM w a l c zss := by
  rcases open_int_rows ht he hq ce cq h with ⟨hcs, _⟩ | ⟨ad, len, cap, AA, L, C, Z, hcs, _, hl, hm, _, hr⟩
  · simp at hcs
    obtain ⟨rfl, rfl, rfl⟩ := hcs
    exact ⟨[], ⟨rfl, fun j hj => by omega⟩, Nat.le_refl _, Nat.zero_le _⟩
  · simp at hcs
    obtain ⟨rfl, rfl, rfl⟩ := hcs
    refine ⟨(List.range l).map fun r => (Z r).take (L r), ⟨by simp, fun j hj => ?_⟩, hl, hm⟩
    obtain ⟨h1, h2, h3, h4, h5, h6, h7⟩ := hr j (by omega)
    refine ⟨ad, AA j, L j, C j, rfl, ?_, h1, ?_, h2, h3⟩
    · have := World.block_lt_of_cell? w _ h1
      rwa [block_of_add] at this
    · have hrow : row ((List.range l).map fun r => (Z r).take (L r)) j = (Z j).take (L j) := by simp [row, List.getD, hj]
      rw [hrow]
      cases hA : AA j with
      | none => have := h6 hA; exact ⟨by simp; omega, fun h => by omega⟩
      | some a' => exact (RdArg.of_open h2 h3 h4 (fun i hi => (h7 a' hA).2 i (by omega)) h5).1

theorem rdArgM_of_trod {H : Type} {enc : TypeId × Value → H} {P : Program} {w : World} {base : Nat} {held : Bool} {t e q : TypeId} {fuel : Nat} {v : Value} {x : DataW H × List MemPlace}
    (ht : P.underlying t = some (.slice e)) (he : P.underlying e = some (.slice q)) (hq : P.underlying q = some (.int .i64)) (ce : P.cellsOf e = 1) (cq : P.cellsOf q = 1)
    (h : DataW.trod enc P w base (fun _ => true) held fuel t [v] = some x) : ∃ a l c zss, v = .slice a l c ∧ RdArgM w a l c zss := by
  have hform : ∃ a l c, v = .slice a l c := by
    rcases open_int_rows ht he hq ce cq h with ⟨hcs, _⟩ | ⟨ad, len, cap, AA, L, C, Z, hcs, _⟩
    · exact ⟨none, 0, 0, by simpa using hcs⟩
    · exact ⟨some ad, len, cap, by simpa using hcs⟩
  obtain ⟨a, l, c, rfl⟩ := hform
  obtain ⟨z, g⟩ := rdArgM_of_open ht he hq ce cq h
  exact ⟨a, l, c, z, rfl, g⟩

def OwnM (w : World) (base : Nat) (A : Option Addr) (n c : Nat) (zss : List (List Int)) : Prop :=
  zss.length = n ∧ ∃ vs, Own w base 28 A n c vs ∧ ∀ j, j < n → ∃ B m d, vs[j]? = some (.slice B m d) ∧ OwnI w base 3 B m d (row zss j) ∧ ∀ g, blk B = some g → blk A ≠ some g
section
variable {w w' : World} {A : Option Addr} {n c base : Nat} {zss : List (List Int)}
theorem OwnM.rd (h : OwnM w base A n c zss) : RdM w A n zss := by
  obtain ⟨hl, vs, ho, hr⟩ := h
  refine ⟨hl, fun j hj => ?_⟩
  obtain ⟨B, m, d, hv, hB, _⟩ := hr j hj
  obtain ⟨ad, hA, hlt, hc⟩ := ho.rd.atV hv
  exact ⟨ad, B, m, d, hA, hlt, hc, hB.rd, hB.cap.1, hB.cap.2⟩
theorem OwnM.cap (h : OwnM w base A n c zss) : n ≤ c ∧ c ≤ maxLen := by
  obtain ⟨_, vs, ho, _⟩ := h
  exact ho.cap
theorem OwnM.below (h : OwnM w base A n c zss) (hb : Below w.heap.size w w') : OwnM w' base A n c zss := by
  obtain ⟨hl, vs, ho, hr⟩ := h
  refine ⟨hl, vs, ho.below hb, fun j hj => ?_⟩
  obtain ⟨B, m, d, hv, hB, hne⟩ := hr j hj
  exact ⟨B, m, d, hv, hB.below hb, hne⟩
end

/-- How many numbers the first k rows have. -/
def tot (zss : List (List Int)) : Nat → Nat
  | 0 => 0
  | k + 1 => tot zss k + (row zss k).length
theorem tot_zero (zss : List (List Int)) : tot zss 0 = 0 := rfl
theorem tot_succ (zss : List (List Int)) (k : Nat) : tot zss (k + 1) = tot zss k + (row zss k).length := rfl
theorem tot_row {zss : List (List Int)} {k : Nat} : ∀ n, k < n → (row zss k).length ≤ tot zss n := by
  intro n
  induction n with
  | zero => intro h; omega
  | succ n ih =>
    intro h
    rw [tot]
    by_cases e : k = n
    · subst e; omega
    · have := ih (by omega); omega
attribute [irreducible] tot row



theorem drewN_add (w : World) (a b : Nat) : (w.drewN a).drewN b = w.drewN (a + b) := by
  induction b with
  | zero => rfl
  | succ b ih => simp [World.drewN] at ih ⊢; try omega
theorem drewN_one (w : World) (a : Nat) : (w.drewN a).drew = w.drewN (a + 1) := rfl


theorem RdM.drewN {w : World} {A : Option Addr} {n : Nat} {zss : List (List Int)} (h : RdM w A n zss) (k : Nat) : RdM (w.drewN k) A n zss := h

theorem quiet_q {P : Program} {f : FuncId} {args : Array Value} {w : World} {n : Nat} {v : Value}
    (h : Calls P f args (w.drewN n) fun e w' => e = .returned v ∧ ∃ m, w' = (w.drewN n).drewN m) : Calls P f args (w.drewN n) fun e w'' => e = .returned v ∧ ∃ m, w'' = w.drewN m :=
  h.mono fun _ _ ⟨he, m, hm⟩ => ⟨he, n + m, by rw [hm, drewN_add]⟩



end Go.Proofs.Ytobdkfhmmpigiaa
