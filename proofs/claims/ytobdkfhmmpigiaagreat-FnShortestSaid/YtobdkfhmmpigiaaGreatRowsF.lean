/- Lists of slice headers with the rows that they stand for; rows may be shared (All2, OwnS). -/
import Derived.Test.YtobdkfhmmpigiaaGreatMA
namespace Go.Proofs.YtobdkfhmmpigiaaGreat
open Go.RowKit Go.Deep
set_option linter.unusedVariables false

/-- The headers vs stand for the rows zss, one by one. -/
def All2 (R : Value → List Int → Prop) : List Value → List (List Int) → Prop
  | [], [] => True
  | v :: vs, z :: zs => R v z ∧ All2 R vs zs
  | _, _ => False
section
variable {R R' : Value → List Int → Prop} {vs us : List Value} {zs ys : List (List Int)}
theorem All2.nil_ : All2 R [] [] := trivial
theorem All2.len : ∀ {vs : List Value} {zs : List (List Int)}, All2 R vs zs → vs.length = zs.length
  | [], [], _ => rfl
  | v :: vs, z :: zs, h => by have := All2.len h.2; simp [this]
  | [], _ :: _, h => h.elim
  | _ :: _, [], h => h.elim
theorem All2.mono (hR : ∀ v z, R v z → R' v z) : ∀ {vs : List Value} {zs : List (List Int)}, All2 R vs zs → All2 R' vs zs
  | [], [], _ => trivial
  | v :: vs, z :: zs, h => ⟨hR _ _ h.1, All2.mono hR h.2⟩
  | [], _ :: _, h => h.elim
  | _ :: _, [], h => h.elim
theorem All2.append : ∀ {vs : List Value} {zs : List (List Int)}, All2 R vs zs → All2 R us ys → All2 R (vs ++ us) (zs ++ ys)
  | [], [], _, k => k
  | v :: vs, z :: zs, h, k => ⟨h.1, All2.append h.2 k⟩
  | [], _ :: _, h, _ => h.elim
  | _ :: _, [], h, _ => h.elim
theorem All2.one {v : Value} {z : List Int} (h : R v z) : All2 R [v] [z] := ⟨h, trivial⟩
theorem All2.take : ∀ {vs : List Value} {zs : List (List Int)} (k : Nat), All2 R vs zs → All2 R (vs.take k) (zs.take k)
  | [], [], k, _ => by simp [All2]
  | v :: vs, z :: zs, 0, _ => by simp [All2]
  | v :: vs, z :: zs, k + 1, h => ⟨h.1, All2.take k h.2⟩
  | [], _ :: _, _, h => h.elim
  | _ :: _, [], _, h => h.elim
theorem All2.drop : ∀ {vs : List Value} {zs : List (List Int)} (k : Nat), All2 R vs zs → All2 R (vs.drop k) (zs.drop k)
  | [], [], k, _ => by simp [All2]
  | v :: vs, z :: zs, 0, h => h
  | v :: vs, z :: zs, k + 1, h => All2.drop k h.2
  | [], _ :: _, _, h => h.elim
  | _ :: _, [], _, h => h.elim
theorem All2.at_ : ∀ {vs : List Value} {zs : List (List Int)} (k : Nat), All2 R vs zs → k < zs.length → ∃ v, vs[k]? = some v ∧ R v (row zs k)
  | v :: vs, z :: zs, 0, h, _ => ⟨v, rfl, by simpa [row] using h.1⟩
  | v :: vs, z :: zs, k + 1, h, hk => by
    obtain ⟨u, h1, h2⟩ := All2.at_ k h.2 (by simpa using hk)
    exact ⟨u, by simpa using h1, by simpa [row] using h2⟩
  | [], [], _, _, hk => by simp at hk
  | [], _ :: _, _, h, _ => h.elim
  | _ :: _, [], _, h, _ => h.elim
theorem All2.of_at : ∀ {vs : List Value} {zs : List (List Int)}, vs.length = zs.length → (∀ k, k < zs.length → ∃ v, vs[k]? = some v ∧ R v (row zs k)) → All2 R vs zs
  | [], [], _, _ => trivial
  | v :: vs, z :: zs, hl, h => by
    refine ⟨?_, All2.of_at (by simpa using hl) fun k hk => ?_⟩
    · obtain ⟨u, h1, h2⟩ := h 0 (by simp)
      simp at h1
      subst h1
      simpa [row] using h2
    · obtain ⟨u, h1, h2⟩ := h (k + 1) (by simpa using hk)
      exact ⟨u, by simpa using h1, by simpa [row] using h2⟩
  | [], _ :: _, hl, _ => by simp at hl
  | _ :: _, [], hl, _ => by simp at hl
end

/-- A header whose row is of the call's own, its block where D says. -/
def Rw (w : World) (lo : Nat) (D : Nat → Prop) (v : Value) (z : List Int) : Prop := ∃ B m d, v = .slice B m d ∧ OwnI w lo 3 B m d z ∧ ∀ g, blk B = some g → D g
theorem Rw.keep {w w' : World} {lo : Nat} {D D' : Nat → Prop} {v : Value} {z : List Int} (h : Rw w lo D v z) (hk : ∀ g, lo ≤ g → g < w.heap.size → D g → w'.heap[g]? = w.heap[g]? ∧ D' g) : Rw w' lo D' v z := by
  obtain ⟨B, m, d, rfl, ho, hd⟩ := h
  exact ⟨B, m, d, rfl, ho.keepAt fun g hg => (hk g (ho.blk_ g hg).1 (ho.blk_ g hg).2 (hd g hg)).1, fun g hg => (hk g (ho.blk_ g hg).1 (ho.blk_ g hg).2 (hd g hg)).2⟩
theorem Rw.more {w : World} {lo lo2 : Nat} {D : Nat → Prop} {v : Value} {z : List Int} (h : Rw w lo D v z) (hl : lo2 ≤ lo) : Rw w lo2 D v z := by
  obtain ⟨B, m, d, rfl, ho, hd⟩ := h
  exact ⟨B, m, d, rfl, ho.more hl, hd⟩
theorem Rw.one {w : World} {lo : Nat} {D : Nat → Prop} {v : Value} {z : List Int} (h : Rw w lo D v z) : v.oneCell' = true := by
  obtain ⟨B, m, d, rfl, ho, hd⟩ := h
  rfl
/-- A row of rows: the headers are the call's own, the rows too, but rows may be shared with others. -/
def OwnS (w : World) (lo : Nat) (A : Option Addr) (n c : Nat) (zss : List (List Int)) : Prop :=
  zss.length = n ∧ ∃ vs, Own w lo 30 A n c vs ∧ All2 (Rw w lo fun g => blk A ≠ some g) vs zss
section
variable {w w' : World} {A : Option Addr} {n c lo lo2 : Nat} {zss : List (List Int)}
theorem OwnS.rd (h : OwnS w lo A n c zss) : RdM w A n zss := by
  obtain ⟨hl, vs, ho, hr⟩ := h
  refine ⟨hl, fun j hj => ?_⟩
  obtain ⟨v, hv, B, m, d, rfl, hB, _⟩ := hr.at_ j (by omega)
  obtain ⟨ad, hA, hlt, hc⟩ := ho.rd.atV hv
  exact ⟨ad, B, m, d, hA, hlt, hc, hB.rd, hB.cap.1, hB.cap.2⟩
theorem OwnS.cap (h : OwnS w lo A n c zss) : n ≤ c ∧ c ≤ maxLen := by
  obtain ⟨_, vs, ho, _⟩ := h
  exact ho.cap
theorem OwnS.below (h : OwnS w lo A n c zss) (hb : Below w.heap.size w w') : OwnS w' lo A n c zss := by
  obtain ⟨hl, vs, ho, hr⟩ := h
  exact ⟨hl, vs, ho.below hb, hr.mono fun v z k => k.keep fun g _ hg hd => ⟨hb.block g hg, hd⟩⟩
theorem OwnS.more (h : OwnS w lo A n c zss) (hl : lo2 ≤ lo) : OwnS w lo2 A n c zss := by
  obtain ⟨h1, vs, ho, hr⟩ := h
  exact ⟨h1, vs, ho.more hl, hr.mono fun v z k => k.more hl⟩
theorem OwnS.nil_ (w : World) (lo : Nat) : OwnS w lo none 0 0 [] := ⟨rfl, [], Own.nil_ _ _ _, trivial⟩
theorem OwnR.s {hi : Nat} (h : OwnR w lo hi A n c zss) : OwnS w lo A n c zss := by
  obtain ⟨hl, vs, ho, _, hr⟩ := h
  have hlen := ho.len
  refine ⟨hl, vs, ho, All2.of_at (by omega) fun j hj => ?_⟩
  obtain ⟨B, m, d, hv, hB, hd⟩ := hr j (by omega)
  exact ⟨_, hv, B, m, d, rfl, hB, fun g hg => (hd g hg).2.1⟩
end
end Go.Proofs.YtobdkfhmmpigiaaGreat
