/- Words of this work: slices of ints that are read (RdI) and slices of ints that a call has made (OwnI), over any program. -/
import Derived.WalkKit
import Derived.WalkSpells
import Derived.WalkLawsBesides
import Derived.BigQuiet
import Derived.Deep.QuietTactic
import Derived.Deep.AppendLies
import Derived.Deep.Draws
import Derived.Deep.OwnRows
import Derived.Maps.AppendAt
import Derived.Lib.Hide
import Derived.SizedLaws
import Derived.ProofKit
import Derived.Test.YtobdkfhmmpigiaaGreatRows
import Derived.Deep.Matrix
namespace Go.Proofs.YtobdkfhmmpigiaaGreat
open Go.RowKit Go.Deep

theorem block_of_add (a : Addr) (n : Nat) : (a.add n).block = a.block := by unfold Addr.add; split <;> rfl
theorem add_of_add (a : Addr) (i j : Nat) : (a.add i).add j = a.add (i + j) := by
  unfold Addr.add
  by_cases hi : i = 0 <;> by_cases hj : j = 0 <;> simp [hi, hj, Nat.add_assoc]

/-- The k-th number of a list, 0 behind its end. -/
def nth (zs : List Int) (k : Nat) : Int := zs.getD k 0

theorem nth_eq {zs : List Int} {k : Nat} (h : k < zs.length) : nth zs k = zs[k] := by
  simp [nth, List.getD, List.getElem?_eq_getElem h]
theorem take_nth {zs : List Int} {k : Nat} (h : k < zs.length) : zs.take (k + 1) = zs.take k ++ [nth zs k] := by
  rw [nth_eq h, List.take_succ_eq_append_getElem h]
theorem drop_nth {zs : List Int} {k : Nat} (h : k < zs.length) : zs.drop k = nth zs k :: zs.drop (k + 1) := by
  rw [nth_eq h, List.drop_eq_getElem_cons h]
theorem nth_mem {zs : List Int} {k : Nat} (h : k < zs.length) : nth zs k ∈ zs := by
  rw [nth_eq h]; exact List.getElem_mem h

theorem take_set_nth {ys zs : List Int} {k : Nat} (h1 : ys.take k = zs.take k) (hk : k < ys.length) (hz : k < zs.length) : (ys.set k (nth zs k)).take (k + 1) = zs.take (k + 1) := by
  rw [take_nth (zs := ys.set k (nth zs k)) (by simpa using hk), take_nth hz, List.take_set_of_le (Nat.le_refl _), h1, nth_eq (zs := ys.set k (nth zs k)) (by simpa using hk)]
  simp

/-- The slice value '.slice A n c' reads as the values xs (elements of one cell). -/
def Rd (w : World) (A : Option Addr) (n : Nat) (xs : List Value) : Prop :=
  xs.length = n ∧ (0 < n → ∃ ad, A = some ad ∧ ad.block < w.heap.size ∧ ∀ j u, xs[j]? = some u → w.cell? (ad.add j) = some u)
/-- The slice value '.slice A n c' owns a row from block 'base' on, which reads as the values xs. -/
def Own (w : World) (base : Nat) (e : TypeId) (A : Option Addr) (n c : Nat) (xs : List Value) : Prop := w.ownsRow base e 1 (.slice A n c) n xs

abbrev RdI (w : World) (A : Option Addr) (n : Nat) (zs : List Int) : Prop := Rd w A n (zs.map (Value.int .i64))
abbrev OwnI (w : World) (base : Nat) (e : TypeId) (A : Option Addr) (n c : Nat) (zs : List Int) : Prop := Own w base e A n c (zs.map (Value.int .i64))
/-- The block of a slice's array. -/
def blk (A : Option Addr) : Option Nat := A.map (·.block)
theorem ownBlock_slice (A : Option Addr) (n c : Nat) : Value.ownBlock (.slice A n c) = blk A := by cases A <;> rfl

section
variable {w w' : World} {A : Option Addr} {n c base : Nat} {e : TypeId} {xs : List Value} {zs : List Int}
theorem Rd.nil_ : Rd w A 0 [] := ⟨rfl, fun h => absurd h (by omega)⟩
theorem Rd.keep (h : Rd w A n xs) (hs : w.heap.size ≤ w'.heap.size) (hk : ∀ g, blk A = some g → g < w.heap.size → w'.heap[g]? = w.heap[g]?) : Rd w' A n xs :=
  ⟨h.1, fun hn => by
    obtain ⟨ad, rfl, hbk, hc⟩ := h.2 hn
    exact ⟨ad, rfl, Nat.lt_of_lt_of_le hbk hs, fun j u hu => (World.cell?_of_block (w := w) (by rw [block_of_add]; exact hk _ rfl hbk)).trans (hc j u hu)⟩⟩
theorem Rd.below (h : Rd w A n xs) (hb : Below w.heap.size w w') : Rd w' A n xs := h.keep hb.size fun _ _ hg => hb.block _ hg
theorem Rd.grown {row : Option Nat} (h : Rd w A n xs) (hg : w.grownBy w' row) (hne : ∀ g, blk A = some g → some g ≠ row) : Rd w' A n xs :=
  h.keep hg.size fun g hA hlt => hg.block g hlt (hne g hA)
theorem Rd.drew (h : Rd w A n xs) : Rd w.drew A n xs := h
theorem Rd.drewN (h : Rd w A n xs) (k : Nat) : Rd (w.drewN k) A n xs := h
theorem Rd.alloc (h : Rd w A n xs) (o : Obj) : Rd (w.alloc o) A n xs := h.keep (by simp) fun g _ hg => Below.heap_alloc w o g hg
theorem Rd.setCell (h : Rd w A n xs) {p : Addr} (hp : ∀ g, blk A = some g → g ≠ p.block) (u : Value) : Rd (w.setCell p u) A n xs :=
  h.keep (by simp [World.setCell]) fun g hg _ => Below.heap_setCell w p u g (hp g hg)
theorem Rd.at_ {k : Nat} (h : RdI w A n zs) (hk : k < n) : ∃ ad, A = some ad ∧ ad.block < w.heap.size ∧ w.cell? (ad.add k) = some (.int .i64 (nth zs k)) := by
  obtain ⟨ad, e, hb, hc⟩ := h.2 (by omega)
  have hl : zs.length = n := by simpa using h.1
  refine ⟨ad, e, hb, hc k _ ?_⟩
  rw [List.getElem?_map, List.getElem?_eq_getElem (l := zs) (by omega), nth_eq (by omega)]; rfl
theorem Rd.atV {k : Nat} {u : Value} (h : Rd w A n xs) (hk : xs[k]? = some u) : ∃ ad, A = some ad ∧ ad.block < w.heap.size ∧ w.cell? (ad.add k) = some u := by
  have hl : k < xs.length := (List.getElem?_eq_some_iff.1 hk).1
  obtain ⟨ad, e, hb, hc⟩ := h.2 (by have := h.1; omega)
  exact ⟨ad, e, hb, hc k u hk⟩
theorem Rd.lenI (h : RdI w A n zs) : zs.length = n := by simpa using h.1

theorem Own.lenI (h : OwnI w base e A n c zs) : zs.length = n := by simpa using h.1
theorem Own.len (h : Own w base e A n c xs) : xs.length = n := by simpa using h.1
theorem Own.form (h : Own w base e A n c xs) : (A = none ∧ n = 0 ∧ c = 0 ∧ xs = []) ∨ ∃ g cur, A = some ⟨g, 0, none⟩ ∧ base ≤ g ∧ g < w.heap.size ∧ w.heap[g]? = some (.cells cur e (0, 0)) ∧ n ≤ c ∧ c ≤ maxLen ∧ cur.size = c ∧ cur.toList.take n = xs := by
  have hl := h.len
  rcases h.2 with ⟨hv, hn⟩ | ⟨g, cap, cur, hv, hg, hh, hn, hc, hs, ht⟩
  · left
    injection hv with h1 h2 h3
    subst h1 h2 h3
    exact ⟨rfl, rfl, rfl, List.eq_nil_of_length_eq_zero hl⟩
  · right
    injection hv with h1 h2 h3
    subst h1 h3
    refine ⟨g, cur, rfl, hg, ?_, hh, hn, hc, by simpa using hs, by simpa using ht⟩
    rcases Nat.lt_or_ge g w.heap.size with hlt | hge
    · exact hlt
    · rw [Array.getElem?_eq_none hge] at hh; cases hh
theorem Own.cap (h : Own w base e A n c xs) : n ≤ c ∧ c ≤ maxLen := by
  rcases h.form with ⟨_, rfl, rfl, _⟩ | ⟨_, _, _, _, _, _, h1, h2, _⟩
  · exact ⟨Nat.le_refl _, Nat.zero_le _⟩
  · exact ⟨h1, h2⟩
theorem Own.rd (h : Own w base e A n c xs) : Rd w A n xs := by
  refine ⟨h.len, fun hn => ?_⟩
  rcases h.form with ⟨_, h0, _⟩ | ⟨g, cur, rfl, hg, hlt, hh, hnc, _, hs, ht⟩
  · omega
  · refine ⟨_, rfl, hlt, fun j u hu => ?_⟩
    exact World.ownsRow.cells (v := .slice (some ⟨g, 0, none⟩) n c) h rfl j u hu
theorem Own.blk_ (h : Own w base e A n c xs) : ∀ g, blk A = some g → base ≤ g ∧ g < w.heap.size := by
  intro g hg
  rcases h.form with ⟨rfl, _⟩ | ⟨g', cur, rfl, hb, hlt, _⟩
  · simp [blk] at hg
  · simp [blk] at hg; subst hg; exact ⟨hb, hlt⟩
theorem Own.kept {row : Option Nat} (h : Own w base e A n c xs) (hg : w.grownBy w' row) (hne : ∀ g, blk A = some g → some g ≠ row) : Own w' base e A n c xs := by
  refine World.ownsRow.kept (w := w) (row := row) h hg ?_
  rw [ownBlock_slice]
  cases hA : blk A with
  | none => left; rfl
  | some a => right; exact hne a hA
theorem Own.below (h : Own w base e A n c xs) (hb : Below w.heap.size w w') : Own w' base e A n c xs :=
  h.kept (row := none) ⟨hb.os, hb.tape, hb.output, hb.size, fun k hk _ => hb.block k hk⟩ (fun g _ => by simp)
theorem Own.alloc (h : Own w base e A n c xs) (o : Obj) : Own (w.alloc o) base e A n c xs := World.ownsRow.alloc h o
theorem Own.drew (h : Own w base e A n c xs) : Own w.drew base e A n c xs := h
theorem Own.drewN (h : Own w base e A n c xs) (k : Nat) : Own (w.drewN k) base e A n c xs := h
theorem Own.setOther (h : Own w base e A n c xs) {p : Addr} (hp : ∀ g, blk A = some g → g ≠ p.block) (u : Value) : Own (w.setCell p u) base e A n c xs := by
  refine ownsRow_setCell_other h ?_ u
  rw [ownBlock_slice]
  intro he
  exact hp _ he rfl
theorem Own.more {b2 : Nat} (h : Own w base e A n c xs) (hb : b2 ≤ base) : Own w b2 e A n c xs := by
  obtain ⟨h1, h2⟩ := h
  refine ⟨h1, ?_⟩
  rcases h2 with h2 | ⟨g, cap, cur, hv, hg, r⟩
  · exact .inl h2
  · exact .inr ⟨g, cap, cur, hv, by omega, r⟩
theorem Own.nil_ (w : World) (base : Nat) (e : TypeId) : Own w base e none 0 0 [] := ⟨by simp, .inl ⟨rfl, rfl⟩⟩
/-- What a store into an owned row wants to know, and what it leaves. -/
theorem Own.at_ {k : Nat} (h : Own w base e A n c xs) (hk : k < n) : ∃ g u, A = some ⟨g, 0, none⟩ ∧ base ≤ g ∧ g < w.heap.size ∧ xs[k]? = some u ∧ w.cell? ⟨g, k, none⟩ = some u ∧ w.frozen? ⟨g, k, none⟩ = false := by
  rcases h.form with ⟨_, h0, _⟩ | ⟨g, cur, rfl, hg, hlt, hh, hnc, _, hs, ht⟩
  · omega
  · have hl := h.len
    refine ⟨g, xs[k], rfl, hg, hlt, List.getElem?_eq_getElem (by omega), ?_, ?_⟩
    · rw [World.ownsRow.cellAt (g := g) (cap := c) h k (by omega)]; exact List.getElem?_eq_getElem (by omega)
    · exact World.ownsRow.frozenAt (g := g) (cap := c) h k
theorem Own.set_ {g k : Nat} (h : Own w base e (some ⟨g, 0, none⟩) n c xs) (u : Value) (_hu : k < n) : Own (w.setCell ⟨g, k, none⟩ u) base e (some ⟨g, 0, none⟩) n c (xs.set k u) := by
  exact (World.ownsRow.stored (g := g) (cap := c) h k u).1
theorem Own.setI {g k : Nat} {x : Int} (h : OwnI w base e (some ⟨g, 0, none⟩) n c zs) (hu : k < n) : OwnI (w.setCell ⟨g, k, none⟩ (.int .i64 x)) base e (some ⟨g, 0, none⟩) n c (zs.set k x) := by
  have := h.set_ (Value.int .i64 x) hu
  rwa [← List.map_set] at this
/-- What a law that ends in 'ownsRow' leaves, as a slice value written out. -/
theorem own_out {v : Value} (h : w.ownsRow base e 1 v n xs) : ∃ A c, v = .slice A n c ∧ Own w base e A n c xs := by
  have h' := h
  rcases h.2 with ⟨hv, hn⟩ | ⟨g, cap, cur, hv, _⟩
  · subst hv hn; exact ⟨_, _, rfl, h'⟩
  · subst hv; exact ⟨_, _, rfl, h'⟩
theorem below_drewN {B : Nat} {a : World} (h : Below B a w) (k : Nat) : Below B a (w.drewN k) := ⟨h.os, h.tape, h.output, h.size, h.block⟩
theorem below_of_grown {row : Option Nat} {B : Nat} {a : World} (h : Below B a w) (hg : w.grownBy w' row) (hB : B ≤ w.heap.size) (hr : ∀ g, row = some g → B ≤ g) : Below B a w' := h.grown hg hB hr
end

section
variable {P : Program} (w : World)

theorem run_append_of_nil (base : Nat) (t ty e : TypeId) (i : TypeInfo) (size : Nat) (ht : P.underlying t = some (.slice e)) (hi : P.info? e = some i)
    (v : Value) (n : Nat) (xs : List Value) (hown : w.ownsRow base e size v n xs) (c : Nat) : (Builtin.append_ #[t, t] ty #[v, .slice none 0 c]).run P w = .ok v w := by
  rcases hown.2 with ⟨rfl, rfl⟩ | ⟨g, cap, cur, rfl, _, _, hnc, _⟩
  · simp [Builtin.append_, run_underlying ht, sizeOf, typeInfo, hi, Builtin.lenOf, Builtin.firstCells]
  · simp [Builtin.append_, run_underlying ht, sizeOf, typeInfo, hi, Builtin.lenOf, Builtin.firstCells, hnc, storeCells]

theorem run_append_any (base : Nat) (t ty e : TypeId) (i : TypeInfo) (z : Value) (bytes : Nat) (ht : P.underlying t = some (.slice e)) (hi : P.info? e = some i) (hz : i.zero = some z)
    (hsize : i.size = 1) (hby : i.bytes = bytes) (hzs : z.cells.size = 1)
    (A : Option Addr) (n c : Nat) (xs : List Value) (hown : Own w base e A n c xs)
    (B : Option Addr) (m d : Nat) (news : List Value) (hr : Rd w B m news) (h1 : ∀ u ∈ news, u.oneCell' = true)
    (h63 : n + m ≤ maxLen) (hbytes : (n + m) * bytes ≤ 140737488355328) (hbase : base ≤ w.heap.size) :
    ∃ A' c' w', (Builtin.append_ #[t, t] ty #[.slice A n c, .slice B m d]).run P w = .ok (.slice A' (n + m) c') w' ∧ Own w' base e A' (n + m) c' (xs ++ news) ∧ w.grownBy w' (blk A) ∧
      (blk A' = blk A ∨ blk A' = some w.heap.size) := by
  rcases B with _ | ad
  · have hm : m = 0 := by
      rcases Nat.eq_zero_or_pos m with h0 | h0
      · exact h0
      · obtain ⟨ad, h, _⟩ := hr.2 h0
        cases h
    subst hm
    have hn : news = [] := List.eq_nil_of_length_eq_zero (by simpa using hr.1)
    subst hn
    exact ⟨A, c, w, run_append_of_nil w base t ty e i 1 ht hi _ n xs hown d, by simpa using hown, World.grownBy.refl w _, .inl rfl⟩
  · have hcells : ∀ j u, news[j]? = some u → w.cell? (ad.add j) = some u := by
      intro j u hu
      rcases Nat.eq_zero_or_pos m with h0 | h0
      · subst h0
        have hn : news = [] := List.eq_nil_of_length_eq_zero (by simpa using hr.1)
        subst hn
        simp at hu
      · obtain ⟨ad', h, _, hc⟩ := hr.2 h0
        injection h with h
        subst h
        exact hc j u hu
    obtain ⟨v', w', hrun, h2, h3, _, h5⟩ := run_append_own_at (P := P) w base t ty e i z 1 bytes ht hi hz hsize hby hzs (by omega) (.slice A n c) n xs hown ad m d news (by simpa using hr.1) hcells h1 h63 hbytes hbase
    obtain ⟨A', c', rfl, h2'⟩ := own_out h2
    rw [ownBlock_slice] at h3 h5
    rw [ownBlock_slice] at h5
    exact ⟨A', c', w', hrun, h2', h3, h5⟩

theorem wp_append_any {o : Oper} {a : Act} {K : Act → World → Prop} {Q : Exit → Act → World → Prop} (s x : Operand) (t : TypeId)
    (ho : o.op = .call { callee := .builtin .append, args := #[s, x], argTypes := #[t, t] })
    (base : Nat) (e : TypeId) (z : Value) (bytes : Nat) (ht : P.underlying t = some (.slice e)) (hinfo : (P.info? e).map (fun i => (i.zero, i.size, i.bytes)) = some (some z, 1, bytes)) (hzs : z.cells.size = 1)
    (A : Option Addr) (n c : Nat) (xs : List Value) (hs : a.eval s = .slice A n c) (hown : Own w base e A n c xs)
    (B : Option Addr) (m d : Nat) (news : List Value) (hx : a.eval x = .slice B m d) (hr : Rd w B m news) (h1 : ∀ u ∈ news, u.oneCell' = true)
    (h63 : n + m ≤ maxLen) (hbytes : (n + m) * bytes ≤ 140737488355328) (hbase : base ≤ w.heap.size)
    (h : ∀ A' c' w', Own w' base e A' (n + m) c' (xs ++ news) → w.grownBy w' (blk A) → (blk A' = blk A ∨ blk A' = some w.heap.size) → K (a.put o.dst (.slice A' (n + m) c')) w') : o.wp P a w K Q := by
  obtain ⟨i, hi, hz, hsize, hby⟩ := info_parts hinfo
  obtain ⟨A', c', w', hrun, h2, h3, h4⟩ := run_append_any (P := P) w base t o.type e i z bytes ht hi hz hsize hby hzs A n c xs hown B m d news hr h1 h63 hbytes hbase
  unfold Oper.wp execOp
  simp only [ho, resolve, invoke, builtin, Sem.run_bind, Sem.run_pure, Result.andThen_ok, List.map_toArray, List.map_cons, List.map_nil, hs, hx, hrun]
  exact h A' c' w' h2 h3 h4

/-- 'append(s, x...)': s a row of the call's own, x whatever reads. -/
theorem wpL_append {ops : Array Oper} {rest : List Oper} {o : Oper} {a : Act} {Q : Exit → Act → World → Prop} (hgd : o.guard = none) (s x : Operand) (t : TypeId)
    (ho : o.op = .call { callee := .builtin .append, args := #[s, x], argTypes := #[t, t] })
    (base : Nat) (e : TypeId) (z : Value) (bytes : Nat) (ht : P.underlying t = some (.slice e)) (hinfo : (P.info? e).map (fun i => (i.zero, i.size, i.bytes)) = some (some z, 1, bytes)) (hzs : z.cells.size = 1)
    (A : Option Addr) (n c : Nat) (xs : List Value) (hs : a.eval s = .slice A n c) (hown : Own w base e A n c xs)
    (B : Option Addr) (m d : Nat) (news : List Value) (hx : a.eval x = .slice B m d) (hr : Rd w B m news) (h1 : ∀ u ∈ news, u.oneCell' = true)
    (h63 : n + m ≤ maxLen) (hbytes : (n + m) * bytes ≤ 140737488355328) (hbase : base ≤ w.heap.size)
    (h : ∀ A' c' w', Own w' base e A' (n + m) c' (xs ++ news) → w.grownBy w' (blk A) → (blk A' = blk A ∨ blk A' = some w.heap.size) → wpList P ops Q rest (a.put o.dst (.slice A' (n + m) c')) w') : wpList P ops Q (o :: rest) a w :=
  wpList_plain hgd fun _ hK => wp_append_any w s x t ho base e z bytes ht hinfo hzs A n c xs hs hown B m d news hx hr h1 h63 hbytes hbase fun A' c' w' h2 h3 h4 => hK _ _ (h A' c' w' h2 h3 h4)

theorem rd_one (u : Value) (e : TypeId) : Rd (w.alloc (.cells #[u] e)) (some ⟨w.heap.size, 0, none⟩) 1 [u] :=
  ⟨rfl, fun _ => ⟨_, rfl, by simp, cell_one_new w u e⟩⟩

/-- 'append(s, x)' of one element: its block has just been laid. -/
theorem wpL_append1 {ops : Array Oper} {rest : List Oper} {o : Oper} {a : Act} {Q : Exit → Act → World → Prop} (hgd : o.guard = none) (s x : Operand) (t : TypeId)
    (ho : o.op = .call { callee := .builtin .append, args := #[s, x], argTypes := #[t, t] })
    (base : Nat) (e : TypeId) (z : Value) (bytes : Nat) (ht : P.underlying t = some (.slice e)) (hinfo : (P.info? e).map (fun i => (i.zero, i.size, i.bytes)) = some (some z, 1, bytes)) (hzs : z.cells.size = 1)
    (A : Option Addr) (n c : Nat) (xs : List Value) (hs : a.eval s = .slice A n c) (hown : Own w base e A n c xs)
    (u : Value) (hx : a.eval x = .slice (some ⟨w.heap.size, 0, none⟩) 1 1) (h1 : u.oneCell' = true)
    (h63 : n + 1 ≤ maxLen) (hbytes : (n + 1) * bytes ≤ 140737488355328) (hbase : base ≤ w.heap.size)
    (h : ∀ A' c' w', Own w' base e A' (n + 1) c' (xs ++ [u]) → w.grownBy w' (blk A) → (blk A' = blk A ∨ blk A' = some (w.heap.size + 1)) → wpList P ops Q rest (a.put o.dst (.slice A' (n + 1) c')) w') : wpList P ops Q (o :: rest) a (w.alloc (.cells #[u] e)) := by
  refine wpL_append (w.alloc (.cells #[u] e)) hgd s x t ho base e z bytes ht hinfo hzs A n c xs hs (hown.alloc _) _ 1 1 [u] hx (rd_one w u e) (by simpa using h1) h63 hbytes (by simp; omega) ?_
  intro A' c' w' g1 g2 g3
  refine h A' c' w' g1 ((World.grownBy_alloc w _ _).trans g2) ?_
  simpa using g3

/-- 'make([]T, n)'. -/
theorem wpL_make {ops : Array Oper} {rest : List Oper} {o : Oper} {a : Act} {Q : Exit → Act → World → Prop}
    (hg : o.guard = none) (l c : Operand) (t : TypeId) (hop : o.op = Op.makeSlice t l c)
    (e : TypeId) (z : Value) (bytes : Nat) (h1 : P.underlying t = some (.slice e)) (hinfo : (P.info? e).map (fun i => (i.zero, i.size, i.bytes)) = some (some z, 1, bytes)) (hz1 : z.cells = #[z])
    (kl kc : IntKind) (L C : Int) (n : Nat) (hl : a.eval l = .int kl L) (hc : a.eval c = .int kc C) (hL : L = (n : Int)) (hC : C = (n : Int)) (b2 : bytes * n ≤ 281474976710656) (b3 : n ≤ maxLen)
    (hK : ∀ w', Own w' w.heap.size e (some ⟨w.heap.size, 0, none⟩) n n (List.replicate n z) → Below w.heap.size w w' → w'.heap.size = w.heap.size + 1 → wpList P ops Q rest (a.put o.dst (.slice (some ⟨w.heap.size, 0, none⟩) n n)) w') :
    wpList P ops Q (o :: rest) a w := by
  refine wpList_plain hg fun K hK' => ?_
  have hrun := run_make_row' (P := P) t e z bytes h1 hinfo hz1 kl kc n b2 (by unfold maxLen at b3; omega) w
  subst hL
  subst hC
  unfold Oper.wp
  simp [execOp, hop, hl, hc, hrun, Result.andThen]
  refine hK' _ _ (hK _ ?_ ((Below.refl _ _).alloc (Nat.le_refl _) _) (by simp))
  have := World.ownsRow_lit (base := w.heap.size) (e := e) (size := 1) w (madeCells #[z] n) n (Nat.le_refl _) b3 (by simp [size_madeCells])
  rw [toList_madeCells_one] at this
  exact this
end

theorem grownBy_set {w w' : World} {row : Option Nat} (h : w.grownBy w' row) {p : Addr} (hp : some p.block = row) (u : Value) : w.grownBy (w'.setCell p u) row :=
  ⟨h.os, h.tape, h.output, by simpa [World.setCell] using h.size, fun i hi hne => (Below.heap_setCell w' p u i (fun e => hne (by rw [e]; exact hp))).trans (h.block i hi hne)⟩
theorem grownBy_drew {w w' : World} {row : Option Nat} (h : w.grownBy w' row) : w.grownBy w'.drew row := ⟨h.os, h.tape, h.output, h.size, h.block⟩
theorem below_of_grownBy {w w' : World} {row : Option Nat} (h : w.grownBy w' row) (B : Nat) (hB : B ≤ w.heap.size) (hr : ∀ g, row = some g → B ≤ g) : Below B w w' := (Below.refl B w).grown h hB hr

theorem int_eq {k : IntKind} {a b : Int} (h : a = b) : Value.int k a = Value.int k b := by rw [h]
theorem ret_bool {a b : Bool} (h : a = b) : Ending.returned (.bool a) = .returned (.bool b) := by rw [h]
theorem ret_sb {A : Option Addr} {n c : Nat} {a b : Bool} (h : a = b) : Ending.returned (.tuple #[.slice A n c, .bool a]) = .returned (.tuple #[.slice A n c, .bool b]) := by rw [h]
theorem ret_int {a b : Int} (h : a = b) : Ending.returned (.int .i64 a) = .returned (.int .i64 b) := by rw [h]

/-- A number that an int can be. -/
def In64 (x : Int) : Prop := -9223372036854775808 ≤ x ∧ x ≤ 9223372036854775807
theorem in64_of_wf {x : Int} (h : (Lit.int .i64 x).wf = true) : In64 x := by
  have h1 : IntKind.i64.min = -9223372036854775808 := rfl
  have h2 : IntKind.i64.max = 9223372036854775807 := rfl
  simp only [Lit.wf, Bool.and_eq_true, decide_eq_true_eq] at h
  unfold In64
  omega
/-- What is known of an argument that is a slice of ints. -/
def RdArg (w : World) (A : Option Addr) (n c : Nat) (zs : List Int) : Prop := RdI w A n zs ∧ n ≤ c ∧ c ≤ maxLen ∧ ∀ z ∈ zs, In64 z
theorem RdArg.nil_ (w : World) : RdArg w none 0 0 [] := ⟨Rd.nil_, Nat.le_refl _, Nat.zero_le _, by simp⟩
theorem RdArg.of_open {w : World} {x : Addr} {n c : Nat} {zs : List Int} (hl : n ≤ c) (hm : c ≤ maxLen) (hz : zs.length = c)
    (hcell : ∀ i, i < zs.length → w.cell? (x.add i) = some (.int .i64 (zs.getD i 0))) (hwz : ∀ n ∈ zs, (Lit.int .i64 n).wf = true) : RdArg w (some x) n c (zs.take n) := by
  refine ⟨⟨by simp; omega, fun hn => ⟨x, rfl, ?_, ?_⟩⟩, hl, hm, fun z h => in64_of_wf (hwz z (List.mem_of_mem_take h))⟩
  · have := World.block_lt_of_cell? w _ (hcell 0 (by omega))
    rwa [block_of_add] at this
  · intro j u hu
    have hj : j < n := by
      have := (List.getElem?_eq_some_iff.1 hu).1
      simp at this; omega
    rw [hcell j (by omega)]
    rw [List.getElem?_map, List.getElem?_take, if_pos hj, List.getElem?_eq_getElem (l := zs) (by omega)] at hu
    rw [List.getD, List.getElem?_eq_getElem (l := zs) (by omega)]
    exact hu

/-! Bits of small numbers. -/
theorem bits_and_one (x : Int) : bits .and .i64 x 1 = x % 2 := by
  show IntKind.i64.wrap ((BitVec.ofInt 64 x &&& BitVec.ofInt 64 1).toNat : Int) = _
  have h : (BitVec.ofInt 64 x &&& BitVec.ofInt 64 1).toNat = (BitVec.ofInt 64 x).toNat % 2 := by
    rw [BitVec.toNat_and]
    exact Nat.and_two_pow_sub_one_eq_mod _ 1
  rw [h, IntKind.wrap_i64, BitVec.toNat_ofInt]
  omega
/-- Is there a 1 at place k? -/
def bitAt (s k : Nat) : Bool := s / 2 ^ k % 2 == 1
theorem bit_cast (s k : Nat) : (s : Int) / 2 ^ k % 2 = ((s / 2 ^ k % 2 : Nat) : Int) := by simp
theorem bit_on {s k : Nat} (h : bitAt s k = true) : ((s : Int) / 2 ^ k % 2 == 1) = true ∧ ((s : Int) / 2 ^ k % 2 == 0) = false := by
  simp only [bitAt, beq_iff_eq] at h
  rw [bit_cast, h]; exact ⟨rfl, rfl⟩
theorem bit_off {s k : Nat} (h : bitAt s k = false) : ((s : Int) / 2 ^ k % 2 == 1) = false ∧ ((s : Int) / 2 ^ k % 2 == 0) = true := by
  have h0 : s / 2 ^ k % 2 = 0 := by
    simp only [bitAt, beq_eq_false_iff_ne] at h
    omega
  rw [bit_cast, h0]; exact ⟨rfl, rfl⟩
/-- l without the 1 at place k. -/
def clr (l k : Nat) : Nat := if bitAt l k then l - 2 ^ k else l
theorem clr_le (l k : Nat) : clr l k ≤ l := by unfold clr; split; exact Nat.sub_le _ _; exact Nat.le_refl _
theorem clr_fact : ∀ l : Fin 64, ∀ k : Fin 6, bits .andNot .i64 (l.val : Int) (RowKit.wrap64 (2 ^ k.val)) = (clr l.val k.val : Int) := by decide +kernel
theorem clr_spec {l k : Nat} (hl : l < 64) (hk : k < 6) : bits .andNot .i64 (l : Int) (RowKit.wrap64 (2 ^ k)) = (clr l k : Int) := clr_fact ⟨l, hl⟩ ⟨k, hk⟩

/-- '[]T{}': an empty row of the call's own. -/
theorem own_empty (w : World) (e : TypeId) : Own (w.alloc (.cells #[] e)) w.heap.size e (some ⟨w.heap.size, 0, none⟩) 0 0 [] :=
  World.ownsRow_lit (base := w.heap.size) (e := e) (size := 1) w #[] 0 (Nat.le_refl _) (Nat.zero_le _) rfl
theorem below_alloc (w : World) (o : Obj) : Below w.heap.size w (w.alloc o) := (Below.refl _ _).alloc (Nat.le_refl _) o
theorem own_below {w a w' : World} {B : Nat} {e : TypeId} {A : Option Addr} {n c : Nat} {xs : List Value} (ho : Own w B e A n c xs) (hb : Below B a w) (hB : B ≤ w.heap.size) (hg : w.grownBy w' (blk A)) : Below B a w' :=
  hb.grown hg hB fun g hg => (ho.blk_ g hg).1

theorem wrap_pow (n : Nat) (h : n ≤ 62) : wrap64 (2 ^ n) = ((2 ^ n : Nat) : Int) := by
  have h1 : 2 ^ n ≤ 2 ^ 62 := Nat.pow_le_pow_right (by omega) h
  have h2 : ((2 : Int) ^ n) = ((2 ^ n : Nat) : Int) := by simp
  rw [h2]
  generalize 2 ^ n = q at h1
  exact IntWalk.wrap64_in _ (by omega)
theorem pow6 {n : Nat} (h : n ≤ 6) : 1 ≤ ((2 ^ n : Nat) : Int) ∧ ((2 ^ n : Nat) : Int) ≤ 64 := by
  have h1 : 2 ^ n ≤ 2 ^ 6 := Nat.pow_le_pow_right (by omega) h
  have h2 : 0 < 2 ^ n := Nat.pow_pos (by omega)
  generalize 2 ^ n = q at h1 h2
  omega
theorem bits_or_small {a b : Int} (h1 : 0 ≤ a) (h2 : a < 9223372036854775808) (h3 : 0 ≤ b) (h4 : b < 9223372036854775808) : bits .or .i64 a b = ((a.toNat ||| b.toNat : Nat) : Int) := by
  obtain ⟨x, rfl⟩ := Int.eq_ofNat_of_zero_le h1
  obtain ⟨y, rfl⟩ := Int.eq_ofNat_of_zero_le h3
  have hx : x ||| y < 2 ^ 63 := Nat.or_lt_two_pow (by omega) (by omega)
  show IntKind.i64.wrap ((BitVec.ofInt 64 (x : Int) ||| BitVec.ofInt 64 (y : Int)).toNat : Int) = _
  rw [BitVec.toNat_or, BitVec.ofInt_natCast, BitVec.ofInt_natCast, BitVec.toNat_ofNat, BitVec.toNat_ofNat, Nat.mod_eq_of_lt (by omega), Nat.mod_eq_of_lt (by omega), IntKind.wrap_i64, Int.toNat_natCast, Int.toNat_natCast]
  omega
theorem bits_and_small {a b : Int} (h1 : 0 ≤ a) (h2 : a < 9223372036854775808) (h3 : 0 ≤ b) (h4 : b < 9223372036854775808) : bits .and .i64 a b = ((a.toNat &&& b.toNat : Nat) : Int) := by
  obtain ⟨x, rfl⟩ := Int.eq_ofNat_of_zero_le h1
  obtain ⟨y, rfl⟩ := Int.eq_ofNat_of_zero_le h3
  have hx : x &&& y < 2 ^ 63 := Nat.and_lt_two_pow _ (by omega)
  show IntKind.i64.wrap ((BitVec.ofInt 64 (x : Int) &&& BitVec.ofInt 64 (y : Int)).toNat : Int) = _
  rw [BitVec.toNat_and, BitVec.ofInt_natCast, BitVec.ofInt_natCast, BitVec.toNat_ofNat, BitVec.toNat_ofNat, Nat.mod_eq_of_lt (by omega), Nat.mod_eq_of_lt (by omega), IntKind.wrap_i64, Int.toNat_natCast, Int.toNat_natCast]
  omega

theorem ints_one (zs : List Int) : ∀ u ∈ zs.map (Value.int .i64), u.oneCell' = true := ints_oneCell .i64 zs

end Go.Proofs.YtobdkfhmmpigiaaGreat

/- What the statements' own helpers do: toIntS copies, eqIntS compares, markIntS and heldIntS write and read marks; spec.l01In. -/
namespace Go.Proofs.YtobdkfhmmpigiaaGreat
open Go.RowKit
set_option linter.unusedVariables false

theorem intInfo : (Tryz.prog.info? 3).map (fun i => (i.zero, i.size, i.bytes)) = some (some (.int .i64 0), 1, 8) := by kernel_rfl

theorem l01In_any (n lo hi : Int) (w : World) : Calls Tryz.prog 67 #[.int .i64 n, .int .i64 lo, .int .i64 hi] w fun e w' => e = .returned (.bool (decide (lo ≤ n ∧ n ≤ hi))) ∧ w = w' := by
  by_cases h1 : lo ≤ n <;> by_cases h2 : n ≤ hi
  all_goals
    go_enter Tryz.func67, Tryz.ntmps67
    go_wp2
    go_ret
    exact ⟨by simp [h1, h2], rfl⟩



/-- The numbers k, k + 1, .. n of them. -/
def marks (k : Int) : Nat → List Int
  | 0 => []
  | n + 1 => marks k n ++ [k + n]
theorem marks_len (k : Int) (n : Nat) : (marks k n).length = n := by
  induction n with
  | zero => rfl
  | succ n ih => simp [marks, ih]
theorem marks_take (k : Int) (n j : Nat) (h : j ≤ n) : (marks k n).take j = marks k j := by
  induction n with
  | zero => have : j = 0 := by omega
            subst this; rfl
  | succ n ih =>
    by_cases hj : j = n + 1
    · subst hj; rw [List.take_of_length_le (by rw [marks_len]; omega)]
    · rw [marks, List.take_append_of_le_length (by rw [marks_len]; omega), ih (by omega)]
theorem marks_nth (k : Int) (n j : Nat) (h : j < n) : nth (marks k n) j = k + j := by
  have h1 := marks_take k n (j + 1) (by omega)
  rw [take_nth (by rw [marks_len]; omega), marks_take k n j (by omega)] at h1
  simpa [marks] using h1

theorem mark_step {ys : List Int} {m : Int} {k : Nat} (h1 : ys.take k = marks m k) (hk : k < ys.length) : (ys.set k (m + k)).take (k + 1) = marks m (k + 1) := by
  rw [take_nth (zs := ys.set k (m + k)) (by simpa using hk), List.take_set_of_le (Nat.le_refl _), h1, nth_eq (zs := ys.set k (m + k)) (by simpa using hk)]
  simp [marks]



end Go.Proofs.YtobdkfhmmpigiaaGreat

/- Slices of slices of ints: what is read of them (RdM), rows that a call has made (OwnM), and what the statements' own helpers do with them. -/
namespace Go.Proofs.YtobdkfhmmpigiaaGreat
open Go.RowKit Go.Deep
set_option linter.unusedVariables false

theorem sliceInfo : (Tryz.prog.info? 30).map (fun i => (i.zero, i.size, i.bytes)) = some (some (.slice none 0 0), 1, 24) := by kernel_rfl
/-- The j-th row of a list of rows. -/
def row (zss : List (List Int)) (j : Nat) : List Int := zss.getD j []
def RdM (w : World) (A : Option Addr) (n : Nat) (zss : List (List Int)) : Prop :=
  zss.length = n ∧ ∀ j, j < n → ∃ ad B m d, A = some ad ∧ ad.block < w.heap.size ∧ w.cell? (ad.add j) = some (.slice B m d) ∧ RdI w B m (row zss j) ∧ m ≤ d ∧ d ≤ maxLen
theorem RdM.below {w w' : World} {A : Option Addr} {n : Nat} {zss : List (List Int)} (h : RdM w A n zss) (hb : Below w.heap.size w w') : RdM w' A n zss := by
  refine ⟨h.1, fun j hj => ?_⟩
  obtain ⟨ad, B, m, d, hA, hlt, hc, hr, h1, h2⟩ := h.2 j hj
  refine ⟨ad, B, m, d, hA, Nat.lt_of_lt_of_le hlt hb.size, ?_, hr.below hb, h1, h2⟩
  rw [World.cell?_of_block (w := w) (by rw [block_of_add]; exact hb.block _ hlt)]
  exact hc
def RdArgM (w : World) (A : Option Addr) (n c : Nat) (zss : List (List Int)) : Prop := RdM w A n zss ∧ n ≤ c ∧ c ≤ maxLen
theorem rdArgM_of_open {H : Type} {enc : TypeId × Value → H} {P : Program} {w : World} {base : Nat} {held : Bool} {t e q : TypeId} {fuel : Nat} {a : Option Addr} {l c : Nat} {x : DataW H × List MemPlace}
    (ht : P.underlying t = some (.slice e)) (he : P.underlying e = some (.slice q)) (hq : P.underlying q = some (.int .i64)) (ce : P.cellsOf e = 1) (cq : P.cellsOf q = 1)
    (h : DataW.trod enc P w base (fun _ => true) held fuel t [.slice a l c] = some x) : ∃ zss, RdArgM w a l c zss := by
  rcases open_int_rows ht he hq ce cq h with ⟨hcs, _⟩ | ⟨ad, len, cap, AA, L, C, Z, hcs, _, hl, hm, _, hr⟩
  · simp at hcs
    obtain ⟨rfl, rfl, rfl⟩ := hcs
    exact ⟨[], ⟨rfl, fun j hj => by omega⟩, Nat.le_refl _, Nat.zero_le _⟩
  · simp at hcs
    obtain ⟨rfl, rfl, rfl⟩ := hcs
    refine ⟨(List.range l).map fun r => (Z r).take (L r), ⟨by simp, fun j hj => ?_⟩, hl, hm⟩
    obtain ⟨h1, h2, h3, h4, h5, h6, h7⟩ := hr j (by omega)
    refine ⟨ad, AA j, L j, C j, rfl, ?_, h1, ?_, h2, h3⟩
    · have := World.block_lt_of_cell? w _ h1
      rwa [block_of_add] at this
    · have hrow : row ((List.range l).map fun r => (Z r).take (L r)) j = (Z j).take (L j) := by simp [row, List.getD, hj]
      rw [hrow]
      cases hA : AA j with
      | none => have := h6 hA; exact ⟨by simp; omega, fun h => by omega⟩
      | some a' => exact (RdArg.of_open h2 h3 h4 (fun i hi => (h7 a' hA).2 i (by omega)) h5).1

theorem rdArgM_of_trod {H : Type} {enc : TypeId × Value → H} {P : Program} {w : World} {base : Nat} {held : Bool} {t e q : TypeId} {fuel : Nat} {v : Value} {x : DataW H × List MemPlace}
    (ht : P.underlying t = some (.slice e)) (he : P.underlying e = some (.slice q)) (hq : P.underlying q = some (.int .i64)) (ce : P.cellsOf e = 1) (cq : P.cellsOf q = 1)
    (h : DataW.trod enc P w base (fun _ => true) held fuel t [v] = some x) : ∃ a l c zss, v = .slice a l c ∧ RdArgM w a l c zss := by
  have hform : ∃ a l c, v = .slice a l c := by
    rcases open_int_rows ht he hq ce cq h with ⟨hcs, _⟩ | ⟨ad, len, cap, AA, L, C, Z, hcs, _⟩
    · exact ⟨none, 0, 0, by simpa using hcs⟩
    · exact ⟨some ad, len, cap, by simpa using hcs⟩
  obtain ⟨a, l, c, rfl⟩ := hform
  obtain ⟨z, g⟩ := rdArgM_of_open ht he hq ce cq h
  exact ⟨a, l, c, z, rfl, g⟩

def OwnM (w : World) (base : Nat) (A : Option Addr) (n c : Nat) (zss : List (List Int)) : Prop :=
  zss.length = n ∧ ∃ vs, Own w base 30 A n c vs ∧ ∀ j, j < n → ∃ B m d, vs[j]? = some (.slice B m d) ∧ OwnI w base 3 B m d (row zss j) ∧ ∀ g, blk B = some g → blk A ≠ some g
section
variable {w w' : World} {A : Option Addr} {n c base : Nat} {zss : List (List Int)}
theorem OwnM.rd (h : OwnM w base A n c zss) : RdM w A n zss := by
  obtain ⟨hl, vs, ho, hr⟩ := h
  refine ⟨hl, fun j hj => ?_⟩
  obtain ⟨B, m, d, hv, hB, _⟩ := hr j hj
  obtain ⟨ad, hA, hlt, hc⟩ := ho.rd.atV hv
  exact ⟨ad, B, m, d, hA, hlt, hc, hB.rd, hB.cap.1, hB.cap.2⟩
theorem OwnM.cap (h : OwnM w base A n c zss) : n ≤ c ∧ c ≤ maxLen := by
  obtain ⟨_, vs, ho, _⟩ := h
  exact ho.cap
theorem OwnM.below (h : OwnM w base A n c zss) (hb : Below w.heap.size w w') : OwnM w' base A n c zss := by
  obtain ⟨hl, vs, ho, hr⟩ := h
  refine ⟨hl, vs, ho.below hb, fun j hj => ?_⟩
  obtain ⟨B, m, d, hv, hB, hne⟩ := hr j hj
  exact ⟨B, m, d, hv, hB.below hb, hne⟩
end

/-- How many numbers the first k rows have. -/
def tot (zss : List (List Int)) : Nat → Nat
  | 0 => 0
  | k + 1 => tot zss k + (row zss k).length
theorem tot_zero (zss : List (List Int)) : tot zss 0 = 0 := rfl
theorem tot_succ (zss : List (List Int)) (k : Nat) : tot zss (k + 1) = tot zss k + (row zss k).length := rfl
theorem tot_row {zss : List (List Int)} {k : Nat} : ∀ n, k < n → (row zss k).length ≤ tot zss n := by
  intro n
  induction n with
  | zero => intro h; omega
  | succ n ih =>
    intro h
    rw [tot]
    by_cases e : k = n
    · subst e; omega
    · have := ih (by omega); omega
attribute [irreducible] tot row



theorem drewN_add (w : World) (a b : Nat) : (w.drewN a).drewN b = w.drewN (a + b) := by
  induction b with
  | zero => rfl
  | succ b ih => simp [World.drewN] at ih ⊢; try omega
theorem drewN_one (w : World) (a : Nat) : (w.drewN a).drew = w.drewN (a + 1) := rfl


theorem RdM.drewN {w : World} {A : Option Addr} {n : Nat} {zss : List (List Int)} (h : RdM w A n zss) (k : Nat) : RdM (w.drewN k) A n zss := h

theorem quiet_q {P : Program} {f : FuncId} {args : Array Value} {w : World} {n : Nat} {v : Value}
    (h : Calls P f args (w.drewN n) fun e w' => e = .returned v ∧ ∃ m, w' = (w.drewN n).drewN m) : Calls P f args (w.drewN n) fun e w'' => e = .returned v ∧ ∃ m, w'' = w.drewN m :=
  h.mono fun _ _ ⟨he, m, hm⟩ => ⟨he, n + m, by rw [hm, drewN_add]⟩



end Go.Proofs.YtobdkfhmmpigiaaGreat

/- Slices of slices of ints that a call has made, with all blocks in an interval and no block twice (OwnR): made by toIntSS, marked by markIntSS. -/
namespace Go.Proofs.YtobdkfhmmpigiaaGreat
open Go.RowKit Go.Deep
set_option linter.unusedVariables false

theorem Own.keepAt {w w' : World} {base : Nat} {e : TypeId} {A : Option Addr} {n c : Nat} {xs : List Value} (h : Own w base e A n c xs) (hk : ∀ g, blk A = some g → w'.heap[g]? = w.heap[g]?) : Own w' base e A n c xs := by
  refine ⟨h.1, ?_⟩
  rcases h.2 with hn | ⟨g, cap, cur, hv, hb, hgg, rest⟩
  · exact .inl hn
  · refine .inr ⟨g, cap, cur, hv, hb, ?_, rest⟩
    rw [hk g (by injection hv with hA; rw [hA]; rfl)]
    exact hgg

/-- From w to w' only blocks in [lo, hi) have changed. -/
structure Chg (lo hi : Nat) (w w' : World) : Prop where
  os : w'.os = w.os
  tape : w'.tape = w.tape
  output : w'.output = w.output
  size : w.heap.size ≤ w'.heap.size
  block : ∀ g, g < w.heap.size → (g < lo ∨ hi ≤ g) → w'.heap[g]? = w.heap[g]?
theorem Chg.refl (lo hi : Nat) (w : World) : Chg lo hi w w := ⟨rfl, rfl, rfl, Nat.le_refl _, fun _ _ _ => rfl⟩
theorem Chg.trans {lo hi : Nat} {a b c : World} (h : Chg lo hi a b) (k : Chg lo hi b c) : Chg lo hi a c :=
  ⟨k.os.trans h.os, k.tape.trans h.tape, k.output.trans h.output, Nat.le_trans h.size k.size, fun g hg hd => (k.block g (Nat.lt_of_lt_of_le hg h.size) hd).trans (h.block g hg hd)⟩
theorem Chg.of_grown {lo hi : Nat} {w w' : World} {r : Option Nat} (h : w.grownBy w' r) (hr : ∀ g, r = some g → lo ≤ g ∧ g < hi) : Chg lo hi w w' :=
  ⟨h.os, h.tape, h.output, h.size, fun g hg hd => h.block g hg (fun he => by have := hr g he.symm; omega)⟩
theorem Chg.below {lo hi : Nat} {w w' : World} (h : Chg lo hi w w') {B : Nat} (h1 : B ≤ lo) (h2 : B ≤ w.heap.size) : Below B w w' :=
  ⟨h.os, h.tape, h.output, h.size, fun k hk => h.block k (by omega) (.inl (by omega))⟩
theorem Own.chg {lo hi : Nat} {w w' : World} {base : Nat} {e : TypeId} {A : Option Addr} {n c : Nat} {xs : List Value} (h : Own w base e A n c xs) (hc : Chg lo hi w w') (hd : ∀ g, blk A = some g → g < lo ∨ hi ≤ g) : Own w' base e A n c xs :=
  h.keepAt fun g hg => hc.block g (h.blk_ g hg).2 (hd g hg)

def RowsIn (w : World) (lo hi : Nat) (A : Option Addr) (n : Nat) (f : Nat → List Int) (vs : List Value) : Prop :=
  ∀ j, j < n → ∃ B m d, vs[j]? = some (.slice B m d) ∧ OwnI w lo 3 B m d (f j) ∧ ∀ g, blk B = some g → g < hi ∧ blk A ≠ some g ∧ ∀ i B' m' d', i < j → vs[i]? = some (.slice B' m' d') → blk B' ≠ some g
def OwnR (w : World) (lo hi : Nat) (A : Option Addr) (n c : Nat) (zss : List (List Int)) : Prop :=
  zss.length = n ∧ ∃ vs, Own w lo 30 A n c vs ∧ (∀ g, blk A = some g → g < hi) ∧ RowsIn w lo hi A n (row zss) vs
section
variable {w w' : World} {A : Option Addr} {n c lo hi lo2 hi2 : Nat} {zss : List (List Int)} {f : Nat → List Int} {vs : List Value}
theorem OwnR.own (h : OwnR w lo hi A n c zss) : OwnM w lo A n c zss := by
  obtain ⟨hl, vs, ho, _, hr⟩ := h
  refine ⟨hl, vs, ho, fun j hj => ?_⟩
  obtain ⟨B, m, d, hv, hB, hd⟩ := hr j hj
  exact ⟨B, m, d, hv, hB, fun g hg => (hd g hg).2.1⟩
theorem OwnR.rd (h : OwnR w lo hi A n c zss) : RdM w A n zss := h.own.rd
theorem OwnR.cap (h : OwnR w lo hi A n c zss) : n ≤ c ∧ c ≤ maxLen := h.own.cap
theorem RowsIn.keep (h : RowsIn w lo hi A n f vs) (hk : ∀ g, lo ≤ g → g < hi → g < w.heap.size → w'.heap[g]? = w.heap[g]?) : RowsIn w' lo hi A n f vs := by
  intro j hj
  obtain ⟨B, m, d, hv, hB, hd⟩ := h j hj
  exact ⟨B, m, d, hv, hB.keepAt fun g hg => hk g (hB.blk_ g hg).1 (hd g hg).1 (hB.blk_ g hg).2, hd⟩
theorem OwnR.keep (h : OwnR w lo hi A n c zss) (hk : ∀ g, lo ≤ g → g < hi → g < w.heap.size → w'.heap[g]? = w.heap[g]?) : OwnR w' lo hi A n c zss := by
  obtain ⟨hl, vs, ho, hA, hr⟩ := h
  exact ⟨hl, vs, ho.keepAt fun g hg => hk g (ho.blk_ g hg).1 (hA g hg) (ho.blk_ g hg).2, hA, hr.keep hk⟩
theorem OwnR.below (h : OwnR w lo hi A n c zss) (hb : Below w.heap.size w w') : OwnR w' lo hi A n c zss := h.keep fun g _ _ hg => hb.block g hg
theorem OwnR.chg (h : OwnR w lo hi A n c zss) (hc : Chg lo2 hi2 w w') (hd : hi ≤ lo2 ∨ hi2 ≤ lo) : OwnR w' lo hi A n c zss := h.keep fun g h1 h2 hg => hc.block g hg (by omega)
theorem OwnR.grown {r : Option Nat} (h : OwnR w lo hi A n c zss) (hc : w.grownBy w' r) (hd : ∀ g, r = some g → g < lo ∨ hi ≤ g) : OwnR w' lo hi A n c zss :=
  h.keep fun g h1 h2 hg => hc.block g hg (fun he => by have := hd g he.symm; omega)
end


def marksM (m : Int) (zss : List (List Int)) : List (List Int) := (List.range zss.length).map fun j => marks (m + tot zss j) (row zss j).length
theorem marksM_row {m : Int} {zss : List (List Int)} {n j : Nat} (hl : zss.length = n) (h : j < n) : row (marksM m zss) j = marks (m + tot zss j) (row zss j).length := by
  unfold row marksM
  simp [List.getD, hl, h, row]

/-- The rows of which the first k have been marked. -/
def mixed (m : Int) (zss : List (List Int)) (k j : Nat) : List Int := if j < k then marks (m + tot zss j) (row zss j).length else row zss j


end Go.Proofs.YtobdkfhmmpigiaaGreat

/- Slices of slices of ints: heldIntSS; a row appended to a row of rows. -/
namespace Go.Proofs.YtobdkfhmmpigiaaGreat
open Go.RowKit Go.Deep
set_option linter.unusedVariables false

theorem OwnR.nil_ (w : World) (lo hi : Nat) : OwnR w lo hi none 0 0 [] := ⟨rfl, [], Own.nil_ _ _ _, by simp [blk], fun j hj => by omega⟩

theorem OwnR.more {w : World} {A : Option Addr} {n c lo hi lo2 : Nat} {zss : List (List Int)} (h : OwnR w lo hi A n c zss) (hl : lo2 ≤ lo) : OwnR w lo2 hi A n c zss := by
  obtain ⟨h1, vs, ho, hA, hr⟩ := h
  refine ⟨h1, vs, ho.more hl, hA, fun j hj => ?_⟩
  obtain ⟨B, m, d, hv, hB, hd⟩ := hr j hj
  exact ⟨B, m, d, hv, hB.more hl, hd⟩
theorem OwnR.keepHi {w : World} {A : Option Addr} {n c lo hi hi2 : Nat} {zss : List (List Int)} (h : OwnR w lo hi A n c zss) (hl : hi ≤ hi2) : OwnR w lo hi2 A n c zss := by
  obtain ⟨h1, vs, ho, hA, hr⟩ := h
  refine ⟨h1, vs, ho, fun g hg => Nat.lt_of_lt_of_le (hA g hg) hl, fun j hj => ?_⟩
  obtain ⟨B, m, d, hv, hB, hd⟩ := hr j hj
  exact ⟨B, m, d, hv, hB, fun g hg => ⟨Nat.lt_of_lt_of_le (hd g hg).1 hl, (hd g hg).2⟩⟩


theorem rowsIn_push {w1 w2 : World} {lo hi k c m cR : Nat} {A A2 R : Option Addr} {f : Nat → List Int} {vs : List Value}
    (ho : Own w1 lo 30 A k c vs) (hr : RowsIn w1 lo hi A k f vs) (hA : ∀ g, blk A = some g → g < hi) (hhi : hi ≤ w1.heap.size)
    (hR : OwnI w1 lo 3 R m cR (f k)) (hR2 : ∀ g, blk R = some g → hi ≤ g) (hg : w1.grownBy w2 (blk A)) (hat : blk A2 = blk A ∨ blk A2 = some (w1.heap.size + 1)) :
    RowsIn w2 lo w2.heap.size A2 (k + 1) f (vs ++ [.slice R m cR]) := by
  have hs := hg.size
  have hlen := ho.len
  intro j hj
  by_cases e : j = k
  · subst e
    refine ⟨R, m, cR, by rw [List.getElem?_append_right (by omega), hlen]; simp, hR.kept hg (fun g e1 e2 => ?_), fun g hg1 => ⟨?_, ?_, ?_⟩⟩
    · have := hR2 g e1
      have := hA g e2.symm
      omega
    · have := (hR.blk_ g hg1).2
      omega
    · have h3 := (hR.blk_ g hg1).2
      have h4 := hR2 g hg1
      rcases hat with hat | hat
      · rw [hat]
        intro h5
        have := hA g h5
        omega
      · rw [hat]
        intro h5
        injection h5 with h5
        omega
    · intro i B' m' d' hi' hv hb
      rw [List.getElem?_append_left (by omega)] at hv
      obtain ⟨B3, m3, d3, hv3, _, hd3⟩ := hr i hi'
      rw [hv3] at hv
      injection hv with hv
      injection hv with e1
      subst e1
      have := (hd3 g hb).1
      have := hR2 g hg1
      omega
  · obtain ⟨B, m3, d3, hv, hB, hd⟩ := hr j (by omega)
    refine ⟨B, m3, d3, by rw [List.getElem?_append_left (by omega)]; exact hv, hB.kept hg (fun g e1 e2 => (hd g e1).2.1 e2.symm), fun g hg1 => ⟨?_, ?_, ?_⟩⟩
    · have := (hB.blk_ g hg1).2
      omega
    · have h3 := (hB.blk_ g hg1).2
      rcases hat with hat | hat
      · rw [hat]; exact (hd g hg1).2.1
      · rw [hat]
        intro h5
        injection h5 with h5
        omega
    · intro i B' m' d' hi' hv' hb
      rw [List.getElem?_append_left (by omega)] at hv'
      exact (hd g hg1).2.2 i B' m' d' hi' hv' hb

end Go.Proofs.YtobdkfhmmpigiaaGreat
