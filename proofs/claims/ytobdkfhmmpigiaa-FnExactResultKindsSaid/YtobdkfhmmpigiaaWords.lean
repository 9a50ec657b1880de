/- Words of this work: slices of ints that are read (RdI) and slices of ints that a call has made (OwnI), over any program. -/
import Derived.WalkKit
import Derived.WalkSpells
import Derived.WalkLawsBesides
import Derived.BigQuiet
import Derived.Deep.QuietTactic
import Derived.Deep.AppendLies
import Derived.Deep.Draws
import Derived.Deep.OwnRows
import Derived.Maps.AppendAt
import Derived.Lib.Hide
import Derived.SizedLaws
import Derived.ProofKit
namespace Go.Proofs.Ytobdkfhmmpigiaa
open Go.RowKit Go.Deep

theorem block_of_add (a : Addr) (n : Nat) : (a.add n).block = a.block := by unfold Addr.add; split <;> rfl
theorem add_of_add (a : Addr) (i j : Nat) : (a.add i).add j = a.add (i + j) := by
  unfold Addr.add
  by_cases hi : i = 0 <;> by_cases hj : j = 0 <;> simp [hi, hj, Nat.add_assoc]

/-- The k-th number of a list, 0 behind its end. -/
def nth (zs : List Int) (k : Nat) : Int := zs.getD k 0

theorem nth_eq {zs : List Int} {k : Nat} (h : k < zs.length) : nth zs k = zs[k] := by
  simp [nth, List.getD, List.getElem?_eq_getElem h]
theorem take_nth {zs : List Int} {k : Nat} (h : k < zs.length) : zs.take (k + 1) = zs.take k ++ [nth zs k] := by
  rw [nth_eq h, List.take_succ_eq_append_getElem h]
theorem drop_nth {zs : List Int} {k : Nat} (h : k < zs.length) : zs.drop k = nth zs k :: zs.drop (k + 1) := by
  rw [nth_eq h, List.drop_eq_getElem_cons h]
theorem nth_mem {zs : List Int} {k : Nat} (h : k < zs.length) : nth zs k ∈ zs := by
  rw [nth_eq h]; exact List.getElem_mem h

theorem take_set_nth {ys zs : List Int} {k : Nat} (h1 : ys.take k = zs.take k) (hk : k < ys.length) (hz : k < zs.length) : (ys.set k (nth zs k)).take (k + 1) = zs.take (k + 1) := by
  rw [take_nth (zs := ys.set k (nth zs k)) (by simpa using hk), take_nth hz, List.take_set_of_le (Nat.le_refl _), h1, nth_eq (zs := ys.set k (nth zs k)) (by simpa using hk)]
  simp

/-- The slice value '.slice A n c' reads as the values xs (elements of one cell). -/
def Rd (w : World) (A : Option Addr) (n : Nat) (xs : List Value) : Prop :=
  xs.length = n ∧ (0 < n → ∃ ad, A = some ad ∧ ad.block < w.heap.size ∧ ∀ j u, xs[j]? = some u → w.cell? (ad.add j) = some u)
/-- The slice value '.slice A n c' owns a row from block 'base' on, which reads as the values xs. -/
def Own (w : World) (base : Nat) (e : TypeId) (A : Option Addr) (n c : Nat) (xs : List Value) : Prop := w.ownsRow base e 1 (.slice A n c) n xs

abbrev RdI (w : World) (A : Option Addr) (n : Nat) (zs : List Int) : Prop := Rd w A n (zs.map (Value.int .i64))
abbrev OwnI (w : World) (base : Nat) (e : TypeId) (A : Option Addr) (n c : Nat) (zs : List Int) : Prop := Own w base e A n c (zs.map (Value.int .i64))
/-- The block of a slice's array. -/
def blk (A : Option Addr) : Option Nat := A.map (·.block)
theorem ownBlock_slice (A : Option Addr) (n c : Nat) : Value.ownBlock (.slice A n c) = blk A := by cases A <;> rfl

section
variable {w w' : World} {A : Option Addr} {n c base : Nat} {e : TypeId} {xs : List Value} {zs : List Int}
theorem Rd.nil_ : Rd w A 0 [] := ⟨rfl, fun h => absurd h (by omega)⟩
theorem Rd.keep (h : Rd w A n xs) (hs : w.heap.size ≤ w'.heap.size) (hk : ∀ g, blk A = some g → g < w.heap.size → w'.heap[g]? = w.heap[g]?) : Rd w' A n xs :=
  ⟨h.1, fun hn => by
    obtain ⟨ad, rfl, hbk, hc⟩ := h.2 hn
    exact ⟨ad, rfl, Nat.lt_of_lt_of_le hbk hs, fun j u hu => (World.cell?_of_block (w := w) (by rw [block_of_add]; exact hk _ rfl hbk)).trans (hc j u hu)⟩⟩
theorem Rd.below (h : Rd w A n xs) (hb : Below w.heap.size w w') : Rd w' A n xs := h.keep hb.size fun _ _ hg => hb.block _ hg
theorem Rd.grown {row : Option Nat} (h : Rd w A n xs) (hg : w.grownBy w' row) (hne : ∀ g, blk A = some g → some g ≠ row) : Rd w' A n xs :=
  h.keep hg.size fun g hA hlt => hg.block g hlt (hne g hA)
theorem Rd.drew (h : Rd w A n xs) : Rd w.drew A n xs := h
theorem Rd.drewN (h : Rd w A n xs) (k : Nat) : Rd (w.drewN k) A n xs := h
theorem Rd.alloc (h : Rd w A n xs) (o : Obj) : Rd (w.alloc o) A n xs := h.keep (by simp) fun g _ hg => Below.heap_alloc w o g hg
theorem Rd.setCell (h : Rd w A n xs) {p : Addr} (hp : ∀ g, blk A = some g → g ≠ p.block) (u : Value) : Rd (w.setCell p u) A n xs :=
  h.keep (by simp [World.setCell]) fun g hg _ => Below.heap_setCell w p u g (hp g hg)
theorem Rd.at_ {k : Nat} (h : RdI w A n zs) (hk : k < n) : ∃ ad, A = some ad ∧ ad.block < w.heap.size ∧ w.cell? (ad.add k) = some (.int .i64 (nth zs k)) := by
  obtain ⟨ad, e, hb, hc⟩ := h.2 (by omega)
  have hl : zs.length = n := by simpa using h.1
  refine ⟨ad, e, hb, hc k _ ?_⟩
  rw [List.getElem?_map, List.getElem?_eq_getElem (l := zs) (by omega), nth_eq (by omega)]; rfl
theorem Rd.atV {k : Nat} {u : Value} (h : Rd w A n xs) (hk : xs[k]? = some u) : ∃ ad, A = some ad ∧ ad.block < w.heap.size ∧ w.cell? (ad.add k) = some u := by
  have hl : k < xs.length := (List.getElem?_eq_some_iff.1 hk).1
  obtain ⟨ad, e, hb, hc⟩ := h.2 (by have := h.1; omega)
  exact ⟨ad, e, hb, hc k u hk⟩
theorem Rd.lenI (h : RdI w A n zs) : zs.length = n := by simpa using h.1

theorem Own.lenI (h : OwnI w base e A n c zs) : zs.length = n := by simpa using h.1
theorem Own.len (h : Own w base e A n c xs) : xs.length = n := by simpa using h.1
theorem Own.form (h : Own w base e A n c xs) : (A = none ∧ n = 0 ∧ c = 0 ∧ xs = []) ∨ ∃ g cur, A = some ⟨g, 0, none⟩ ∧ base ≤ g ∧ g < w.heap.size ∧ w.heap[g]? = some (.cells cur e (0, 0)) ∧ n ≤ c ∧ c ≤ maxLen ∧ cur.size = c ∧ cur.toList.take n = xs := by
  have hl := h.len
  rcases h.2 with ⟨hv, hn⟩ | ⟨g, cap, cur, hv, hg, hh, hn, hc, hs, ht⟩
  · left
    injection hv with h1 h2 h3
    subst h1 h2 h3
    exact ⟨rfl, rfl, rfl, List.eq_nil_of_length_eq_zero hl⟩
  · right
    injection hv with h1 h2 h3
    subst h1 h3
    refine ⟨g, cur, rfl, hg, ?_, hh, hn, hc, by simpa using hs, by simpa using ht⟩
    rcases Nat.lt_or_ge g w.heap.size with hlt | hge
    · exact hlt
    · rw [Array.getElem?_eq_none hge] at hh; cases hh
theorem Own.cap (h : Own w base e A n c xs) : n ≤ c ∧ c ≤ maxLen := by
  rcases h.form with ⟨_, rfl, rfl, _⟩ | ⟨_, _, _, _, _, _, h1, h2, _⟩
  · exact ⟨Nat.le_refl _, Nat.zero_le _⟩
  · exact ⟨h1, h2⟩
theorem Own.rd (h : Own w base e A n c xs) : Rd w A n xs := by
  refine ⟨h.len, fun hn => ?_⟩
  rcases h.form with ⟨_, h0, _⟩ | ⟨g, cur, rfl, hg, hlt, hh, hnc, _, hs, ht⟩
  · omega
  · refine ⟨_, rfl, hlt, fun j u hu => ?_⟩
    exact World.ownsRow.cells (v := .slice (some ⟨g, 0, none⟩) n c) h rfl j u hu
theorem Own.blk_ (h : Own w base e A n c xs) : ∀ g, blk A = some g → base ≤ g ∧ g < w.heap.size := by
  intro g hg
  rcases h.form with ⟨rfl, _⟩ | ⟨g', cur, rfl, hb, hlt, _⟩
  · simp [blk] at hg
  · simp [blk] at hg; subst hg; exact ⟨hb, hlt⟩
theorem Own.kept {row : Option Nat} (h : Own w base e A n c xs) (hg : w.grownBy w' row) (hne : ∀ g, blk A = some g → some g ≠ row) : Own w' base e A n c xs := by
  refine World.ownsRow.kept (w := w) (row := row) h hg ?_
  rw [ownBlock_slice]
  cases hA : blk A with
  | none => left; rfl
  | some a => right; exact hne a hA
theorem Own.below (h : Own w base e A n c xs) (hb : Below w.heap.size w w') : Own w' base e A n c xs :=
  h.kept (row := none) ⟨hb.os, hb.tape, hb.output, hb.size, fun k hk _ => hb.block k hk⟩ (fun g _ => by simp)
theorem Own.alloc (h : Own w base e A n c xs) (o : Obj) : Own (w.alloc o) base e A n c xs := World.ownsRow.alloc h o
theorem Own.drew (h : Own w base e A n c xs) : Own w.drew base e A n c xs := h
theorem Own.drewN (h : Own w base e A n c xs) (k : Nat) : Own (w.drewN k) base e A n c xs := h
theorem Own.setOther (h : Own w base e A n c xs) {p : Addr} (hp : ∀ g, blk A = some g → g ≠ p.block) (u : Value) : Own (w.setCell p u) base e A n c xs := by
  refine ownsRow_setCell_other h ?_ u
  rw [ownBlock_slice]
  intro he
  exact hp _ he rfl
theorem Own.more {b2 : Nat} (h : Own w base e A n c xs) (hb : b2 ≤ base) : Own w b2 e A n c xs := by
  obtain ⟨h1, h2⟩ := h
  refine ⟨h1, ?_⟩
  rcases h2 with h2 | ⟨g, cap, cur, hv, hg, r⟩
  · exact .inl h2
  · exact .inr ⟨g, cap, cur, hv, by omega, r⟩
theorem Own.nil_ (w : World) (base : Nat) (e : TypeId) : Own w base e none 0 0 [] := ⟨by simp, .inl ⟨rfl, rfl⟩⟩
/-- What a store into an owned row wants to know, and what it leaves. -/
theorem Own.at_ {k : Nat} (h : Own w base e A n c xs) (hk : k < n) : ∃ g u, A = some ⟨g, 0, none⟩ ∧ base ≤ g ∧ g < w.heap.size ∧ xs[k]? = some u ∧ w.cell? ⟨g, k, none⟩ = some u ∧ w.frozen? ⟨g, k, none⟩ = false := by
  rcases h.form with ⟨_, h0, _⟩ | ⟨g, cur, rfl, hg, hlt, hh, hnc, _, hs, ht⟩
  · omega
  · have hl := h.len
    refine ⟨g, xs[k], rfl, hg, hlt, List.getElem?_eq_getElem (by omega), ?_, ?_⟩
    · rw [World.ownsRow.cellAt (g := g) (cap := c) h k (by omega)]; exact List.getElem?_eq_getElem (by omega)
    · exact World.ownsRow.frozenAt (g := g) (cap := c) h k
theorem Own.set_ {g k : Nat} (h : Own w base e (some ⟨g, 0, none⟩) n c xs) (u : Value) (_hu : k < n) : Own (w.setCell ⟨g, k, none⟩ u) base e (some ⟨g, 0, none⟩) n c (xs.set k u) := by
  exact (World.ownsRow.stored (g := g) (cap := c) h k u).1
theorem Own.setI {g k : Nat} {x : Int} (h : OwnI w base e (some ⟨g, 0, none⟩) n c zs) (hu : k < n) : OwnI (w.setCell ⟨g, k, none⟩ (.int .i64 x)) base e (some ⟨g, 0, none⟩) n c (zs.set k x) := by
  have := h.set_ (Value.int .i64 x) hu
  rwa [← List.map_set] at this
/-- What a law that ends in 'ownsRow' leaves, as a slice value written out. -/
theorem own_out {v : Value} (h : w.ownsRow base e 1 v n xs) : ∃ A c, v = .slice A n c ∧ Own w base e A n c xs := by
  have h' := h
  rcases h.2 with ⟨hv, hn⟩ | ⟨g, cap, cur, hv, _⟩
  · subst hv hn; exact ⟨_, _, rfl, h'⟩
  · subst hv; exact ⟨_, _, rfl, h'⟩
theorem below_drewN {B : Nat} {a : World} (h : Below B a w) (k : Nat) : Below B a (w.drewN k) := ⟨h.os, h.tape, h.output, h.size, h.block⟩
theorem below_of_grown {row : Option Nat} {B : Nat} {a : World} (h : Below B a w) (hg : w.grownBy w' row) (hB : B ≤ w.heap.size) (hr : ∀ g, row = some g → B ≤ g) : Below B a w' := h.grown hg hB hr
end

section
variable {P : Program} (w : World)

theorem run_append_of_nil (base : Nat) (t ty e : TypeId) (i : TypeInfo) (size : Nat) (ht : P.underlying t = some (.slice e)) (hi : P.info? e = some i)
    (v : Value) (n : Nat) (xs : List Value) (hown : w.ownsRow base e size v n xs) (c : Nat) : (Builtin.append_ #[t, t] ty #[v, .slice none 0 c]).run P w = .ok v w := by
  rcases hown.2 with ⟨rfl, rfl⟩ | ⟨g, cap, cur, rfl, _, _, hnc, _⟩
  · simp [Builtin.append_, run_underlying ht, sizeOf, typeInfo, hi, Builtin.lenOf, Builtin.firstCells]
  · simp [Builtin.append_, run_underlying ht, sizeOf, typeInfo, hi, Builtin.lenOf, Builtin.firstCells, hnc, storeCells]

theorem run_append_any (base : Nat) (t ty e : TypeId) (i : TypeInfo) (z : Value) (bytes : Nat) (ht : P.underlying t = some (.slice e)) (hi : P.info? e = some i) (hz : i.zero = some z)
    (hsize : i.size = 1) (hby : i.bytes = bytes) (hzs : z.cells.size = 1)
    (A : Option Addr) (n c : Nat) (xs : List Value) (hown : Own w base e A n c xs)
    (B : Option Addr) (m d : Nat) (news : List Value) (hr : Rd w B m news) (h1 : ∀ u ∈ news, u.oneCell' = true)
    (h63 : n + m ≤ maxLen) (hbytes : (n + m) * bytes ≤ 140737488355328) (hbase : base ≤ w.heap.size) :
    ∃ A' c' w', (Builtin.append_ #[t, t] ty #[.slice A n c, .slice B m d]).run P w = .ok (.slice A' (n + m) c') w' ∧ Own w' base e A' (n + m) c' (xs ++ news) ∧ w.grownBy w' (blk A) ∧
      (blk A' = blk A ∨ blk A' = some w.heap.size) := by
  rcases B with _ | ad
  · have hm : m = 0 := by
      rcases Nat.eq_zero_or_pos m with h0 | h0
      · exact h0
      · obtain ⟨ad, h, _⟩ := hr.2 h0
        cases h
    subst hm
    have hn : news = [] := List.eq_nil_of_length_eq_zero (by simpa using hr.1)
    subst hn
    exact ⟨A, c, w, run_append_of_nil w base t ty e i 1 ht hi _ n xs hown d, by simpa using hown, World.grownBy.refl w _, .inl rfl⟩
  · have hcells : ∀ j u, news[j]? = some u → w.cell? (ad.add j) = some u := by
      intro j u hu
      rcases Nat.eq_zero_or_pos m with h0 | h0
      · subst h0
        have hn : news = [] := List.eq_nil_of_length_eq_zero (by simpa using hr.1)
        subst hn
        simp at hu
      · obtain ⟨ad', h, _, hc⟩ := hr.2 h0
        injection h with h
        subst h
        exact hc j u hu
    obtain ⟨v', w', hrun, h2, h3, _, h5⟩ := run_append_own_at (P := P) w base t ty e i z 1 bytes ht hi hz hsize hby hzs (by omega) (.slice A n c) n xs hown ad m d news (by simpa using hr.1) hcells h1 h63 hbytes hbase
    obtain ⟨A', c', rfl, h2'⟩ := own_out h2
    rw [ownBlock_slice] at h3 h5
    rw [ownBlock_slice] at h5
    exact ⟨A', c', w', hrun, h2', h3, h5⟩

theorem wp_append_any {o : Oper} {a : Act} {K : Act → World → Prop} {Q : Exit → Act → World → Prop} (s x : Operand) (t : TypeId)
    (ho : o.op = .call { callee := .builtin .append, args := #[s, x], argTypes := #[t, t] })
    (base : Nat) (e : TypeId) (z : Value) (bytes : Nat) (ht : P.underlying t = some (.slice e)) (hinfo : (P.info? e).map (fun i => (i.zero, i.size, i.bytes)) = some (some z, 1, bytes)) (hzs : z.cells.size = 1)
    (A : Option Addr) (n c : Nat) (xs : List Value) (hs : a.eval s = .slice A n c) (hown : Own w base e A n c xs)
    (B : Option Addr) (m d : Nat) (news : List Value) (hx : a.eval x = .slice B m d) (hr : Rd w B m news) (h1 : ∀ u ∈ news, u.oneCell' = true)
    (h63 : n + m ≤ maxLen) (hbytes : (n + m) * bytes ≤ 140737488355328) (hbase : base ≤ w.heap.size)
    (h : ∀ A' c' w', Own w' base e A' (n + m) c' (xs ++ news) → w.grownBy w' (blk A) → (blk A' = blk A ∨ blk A' = some w.heap.size) → K (a.put o.dst (.slice A' (n + m) c')) w') : o.wp P a w K Q := by
  obtain ⟨i, hi, hz, hsize, hby⟩ := info_parts hinfo
  obtain ⟨A', c', w', hrun, h2, h3, h4⟩ := run_append_any (P := P) w base t o.type e i z bytes ht hi hz hsize hby hzs A n c xs hown B m d news hr h1 h63 hbytes hbase
  unfold Oper.wp execOp
  simp only [ho, resolve, invoke, builtin, Sem.run_bind, Sem.run_pure, Result.andThen_ok, List.map_toArray, List.map_cons, List.map_nil, hs, hx, hrun]
  exact h A' c' w' h2 h3 h4

/-- 'append(s, x...)': s a row of the call's own, x whatever reads. -/
theorem wpL_append {ops : Array Oper} {rest : List Oper} {o : Oper} {a : Act} {Q : Exit → Act → World → Prop} (hgd : o.guard = none) (s x : Operand) (t : TypeId)
    (ho : o.op = .call { callee := .builtin .append, args := #[s, x], argTypes := #[t, t] })
    (base : Nat) (e : TypeId) (z : Value) (bytes : Nat) (ht : P.underlying t = some (.slice e)) (hinfo : (P.info? e).map (fun i => (i.zero, i.size, i.bytes)) = some (some z, 1, bytes)) (hzs : z.cells.size = 1)
    (A : Option Addr) (n c : Nat) (xs : List Value) (hs : a.eval s = .slice A n c) (hown : Own w base e A n c xs)
    (B : Option Addr) (m d : Nat) (news : List Value) (hx : a.eval x = .slice B m d) (hr : Rd w B m news) (h1 : ∀ u ∈ news, u.oneCell' = true)
    (h63 : n + m ≤ maxLen) (hbytes : (n + m) * bytes ≤ 140737488355328) (hbase : base ≤ w.heap.size)
    (h : ∀ A' c' w', Own w' base e A' (n + m) c' (xs ++ news) → w.grownBy w' (blk A) → (blk A' = blk A ∨ blk A' = some w.heap.size) → wpList P ops Q rest (a.put o.dst (.slice A' (n + m) c')) w') : wpList P ops Q (o :: rest) a w :=
  wpList_plain hgd fun _ hK => wp_append_any w s x t ho base e z bytes ht hinfo hzs A n c xs hs hown B m d news hx hr h1 h63 hbytes hbase fun A' c' w' h2 h3 h4 => hK _ _ (h A' c' w' h2 h3 h4)

theorem rd_one (u : Value) (e : TypeId) : Rd (w.alloc (.cells #[u] e)) (some ⟨w.heap.size, 0, none⟩) 1 [u] :=
  ⟨rfl, fun _ => ⟨_, rfl, by simp, cell_one_new w u e⟩⟩

/-- 'append(s, x)' of one element: its block has just been laid. -/
theorem wpL_append1 {ops : Array Oper} {rest : List Oper} {o : Oper} {a : Act} {Q : Exit → Act → World → Prop} (hgd : o.guard = none) (s x : Operand) (t : TypeId)
    (ho : o.op = .call { callee := .builtin .append, args := #[s, x], argTypes := #[t, t] })
    (base : Nat) (e : TypeId) (z : Value) (bytes : Nat) (ht : P.underlying t = some (.slice e)) (hinfo : (P.info? e).map (fun i => (i.zero, i.size, i.bytes)) = some (some z, 1, bytes)) (hzs : z.cells.size = 1)
    (A : Option Addr) (n c : Nat) (xs : List Value) (hs : a.eval s = .slice A n c) (hown : Own w base e A n c xs)
    (u : Value) (hx : a.eval x = .slice (some ⟨w.heap.size, 0, none⟩) 1 1) (h1 : u.oneCell' = true)
    (h63 : n + 1 ≤ maxLen) (hbytes : (n + 1) * bytes ≤ 140737488355328) (hbase : base ≤ w.heap.size)
    (h : ∀ A' c' w', Own w' base e A' (n + 1) c' (xs ++ [u]) → w.grownBy w' (blk A) → (blk A' = blk A ∨ blk A' = some (w.heap.size + 1)) → wpList P ops Q rest (a.put o.dst (.slice A' (n + 1) c')) w') : wpList P ops Q (o :: rest) a (w.alloc (.cells #[u] e)) := by
  refine wpL_append (w.alloc (.cells #[u] e)) hgd s x t ho base e z bytes ht hinfo hzs A n c xs hs (hown.alloc _) _ 1 1 [u] hx (rd_one w u e) (by simpa using h1) h63 hbytes (by simp; omega) ?_
  intro A' c' w' g1 g2 g3
  refine h A' c' w' g1 ((World.grownBy_alloc w _ _).trans g2) ?_
  simpa using g3

/-- 'make([]T, n)'. -/
theorem wpL_make {ops : Array Oper} {rest : List Oper} {o : Oper} {a : Act} {Q : Exit → Act → World → Prop}
    (hg : o.guard = none) (l c : Operand) (t : TypeId) (hop : o.op = Op.makeSlice t l c)
    (e : TypeId) (z : Value) (bytes : Nat) (h1 : P.underlying t = some (.slice e)) (hinfo : (P.info? e).map (fun i => (i.zero, i.size, i.bytes)) = some (some z, 1, bytes)) (hz1 : z.cells = #[z])
    (kl kc : IntKind) (L C : Int) (n : Nat) (hl : a.eval l = .int kl L) (hc : a.eval c = .int kc C) (hL : L = (n : Int)) (hC : C = (n : Int)) (b2 : bytes * n ≤ 281474976710656) (b3 : n ≤ maxLen)
    (hK : ∀ w', Own w' w.heap.size e (some ⟨w.heap.size, 0, none⟩) n n (List.replicate n z) → Below w.heap.size w w' → w'.heap.size = w.heap.size + 1 → wpList P ops Q rest (a.put o.dst (.slice (some ⟨w.heap.size, 0, none⟩) n n)) w') :
    wpList P ops Q (o :: rest) a w := by
  refine wpList_plain hg fun K hK' => ?_
  have hrun := run_make_row' (P := P) t e z bytes h1 hinfo hz1 kl kc n b2 (by unfold maxLen at b3; omega) w
  subst hL
  subst hC
  unfold Oper.wp
  simp [execOp, hop, hl, hc, hrun, Result.andThen]
  refine hK' _ _ (hK _ ?_ ((Below.refl _ _).alloc (Nat.le_refl _) _) (by simp))
  have := World.ownsRow_lit (base := w.heap.size) (e := e) (size := 1) w (madeCells #[z] n) n (Nat.le_refl _) b3 (by simp [size_madeCells])
  rw [toList_madeCells_one] at this
  exact this
end

theorem grownBy_set {w w' : World} {row : Option Nat} (h : w.grownBy w' row) {p : Addr} (hp : some p.block = row) (u : Value) : w.grownBy (w'.setCell p u) row :=
  ⟨h.os, h.tape, h.output, by simpa [World.setCell] using h.size, fun i hi hne => (Below.heap_setCell w' p u i (fun e => hne (by rw [e]; exact hp))).trans (h.block i hi hne)⟩
theorem grownBy_drew {w w' : World} {row : Option Nat} (h : w.grownBy w' row) : w.grownBy w'.drew row := ⟨h.os, h.tape, h.output, h.size, h.block⟩
theorem below_of_grownBy {w w' : World} {row : Option Nat} (h : w.grownBy w' row) (B : Nat) (hB : B ≤ w.heap.size) (hr : ∀ g, row = some g → B ≤ g) : Below B w w' := (Below.refl B w).grown h hB hr

theorem int_eq {k : IntKind} {a b : Int} (h : a = b) : Value.int k a = Value.int k b := by rw [h]
theorem ret_bool {a b : Bool} (h : a = b) : Ending.returned (.bool a) = .returned (.bool b) := by rw [h]
theorem ret_sb {A : Option Addr} {n c : Nat} {a b : Bool} (h : a = b) : Ending.returned (.tuple #[.slice A n c, .bool a]) = .returned (.tuple #[.slice A n c, .bool b]) := by rw [h]
theorem ret_int {a b : Int} (h : a = b) : Ending.returned (.int .i64 a) = .returned (.int .i64 b) := by rw [h]

/-- A number that an int can be. -/
def In64 (x : Int) : Prop := -9223372036854775808 ≤ x ∧ x ≤ 9223372036854775807
theorem in64_of_wf {x : Int} (h : (Lit.int .i64 x).wf = true) : In64 x := by
  have h1 : IntKind.i64.min = -9223372036854775808 := rfl
  have h2 : IntKind.i64.max = 9223372036854775807 := rfl
  simp only [Lit.wf, Bool.and_eq_true, decide_eq_true_eq] at h
  unfold In64
  omega
/-- What is known of an argument that is a slice of ints. -/
def RdArg (w : World) (A : Option Addr) (n c : Nat) (zs : List Int) : Prop := RdI w A n zs ∧ n ≤ c ∧ c ≤ maxLen ∧ ∀ z ∈ zs, In64 z
theorem RdArg.nil_ (w : World) : RdArg w none 0 0 [] := ⟨Rd.nil_, Nat.le_refl _, Nat.zero_le _, by simp⟩
theorem RdArg.of_open {w : World} {x : Addr} {n c : Nat} {zs : List Int} (hl : n ≤ c) (hm : c ≤ maxLen) (hz : zs.length = c)
    (hcell : ∀ i, i < zs.length → w.cell? (x.add i) = some (.int .i64 (zs.getD i 0))) (hwz : ∀ n ∈ zs, (Lit.int .i64 n).wf = true) : RdArg w (some x) n c (zs.take n) := by
  refine ⟨⟨by simp; omega, fun hn => ⟨x, rfl, ?_, ?_⟩⟩, hl, hm, fun z h => in64_of_wf (hwz z (List.mem_of_mem_take h))⟩
  · have := World.block_lt_of_cell? w _ (hcell 0 (by omega))
    rwa [block_of_add] at this
  · intro j u hu
    have hj : j < n := by
      have := (List.getElem?_eq_some_iff.1 hu).1
      simp at this; omega
    rw [hcell j (by omega)]
    rw [List.getElem?_map, List.getElem?_take, if_pos hj, List.getElem?_eq_getElem (l := zs) (by omega)] at hu
    rw [List.getD, List.getElem?_eq_getElem (l := zs) (by omega)]
    exact hu

/-! Bits of small numbers. -/
theorem bits_and_one (x : Int) : bits .and .i64 x 1 = x % 2 := by
  show IntKind.i64.wrap ((BitVec.ofInt 64 x &&& BitVec.ofInt 64 1).toNat : Int) = _
  have h : (BitVec.ofInt 64 x &&& BitVec.ofInt 64 1).toNat = (BitVec.ofInt 64 x).toNat % 2 := by
    rw [BitVec.toNat_and]
    exact Nat.and_two_pow_sub_one_eq_mod _ 1
  rw [h, IntKind.wrap_i64, BitVec.toNat_ofInt]
  omega
/-- Is there a 1 at place k? -/
def bitAt (s k : Nat) : Bool := s / 2 ^ k % 2 == 1
theorem bit_cast (s k : Nat) : (s : Int) / 2 ^ k % 2 = ((s / 2 ^ k % 2 : Nat) : Int) := by simp
theorem bit_on {s k : Nat} (h : bitAt s k = true) : ((s : Int) / 2 ^ k % 2 == 1) = true ∧ ((s : Int) / 2 ^ k % 2 == 0) = false := by
  simp only [bitAt, beq_iff_eq] at h
  rw [bit_cast, h]; exact ⟨rfl, rfl⟩
theorem bit_off {s k : Nat} (h : bitAt s k = false) : ((s : Int) / 2 ^ k % 2 == 1) = false ∧ ((s : Int) / 2 ^ k % 2 == 0) = true := by
  have h0 : s / 2 ^ k % 2 = 0 := by
    simp only [bitAt, beq_eq_false_iff_ne] at h
    omega
  rw [bit_cast, h0]; exact ⟨rfl, rfl⟩
/-- l without the 1 at place k. -/
def clr (l k : Nat) : Nat := if bitAt l k then l - 2 ^ k else l
theorem clr_le (l k : Nat) : clr l k ≤ l := by unfold clr; split; exact Nat.sub_le _ _; exact Nat.le_refl _
theorem clr_fact : ∀ l : Fin 64, ∀ k : Fin 6, bits .andNot .i64 (l.val : Int) (RowKit.wrap64 (2 ^ k.val)) = (clr l.val k.val : Int) := by decide +kernel
theorem clr_spec {l k : Nat} (hl : l < 64) (hk : k < 6) : bits .andNot .i64 (l : Int) (RowKit.wrap64 (2 ^ k)) = (clr l k : Int) := clr_fact ⟨l, hl⟩ ⟨k, hk⟩

/-- '[]T{}': an empty row of the call's own. -/
theorem own_empty (w : World) (e : TypeId) : Own (w.alloc (.cells #[] e)) w.heap.size e (some ⟨w.heap.size, 0, none⟩) 0 0 [] :=
  World.ownsRow_lit (base := w.heap.size) (e := e) (size := 1) w #[] 0 (Nat.le_refl _) (Nat.zero_le _) rfl
theorem below_alloc (w : World) (o : Obj) : Below w.heap.size w (w.alloc o) := (Below.refl _ _).alloc (Nat.le_refl _) o
theorem own_below {w a w' : World} {B : Nat} {e : TypeId} {A : Option Addr} {n c : Nat} {xs : List Value} (ho : Own w B e A n c xs) (hb : Below B a w) (hB : B ≤ w.heap.size) (hg : w.grownBy w' (blk A)) : Below B a w' :=
  hb.grown hg hB fun g hg => (ho.blk_ g hg).1

theorem wrap_pow (n : Nat) (h : n ≤ 62) : wrap64 (2 ^ n) = ((2 ^ n : Nat) : Int) := by
  have h1 : 2 ^ n ≤ 2 ^ 62 := Nat.pow_le_pow_right (by omega) h
  have h2 : ((2 : Int) ^ n) = ((2 ^ n : Nat) : Int) := by simp
  rw [h2]
  generalize 2 ^ n = q at h1
  exact IntWalk.wrap64_in _ (by omega)
theorem pow6 {n : Nat} (h : n ≤ 6) : 1 ≤ ((2 ^ n : Nat) : Int) ∧ ((2 ^ n : Nat) : Int) ≤ 64 := by
  have h1 : 2 ^ n ≤ 2 ^ 6 := Nat.pow_le_pow_right (by omega) h
  have h2 : 0 < 2 ^ n := Nat.pow_pos (by omega)
  generalize 2 ^ n = q at h1 h2
  omega
theorem bits_or_small {a b : Int} (h1 : 0 ≤ a) (h2 : a < 9223372036854775808) (h3 : 0 ≤ b) (h4 : b < 9223372036854775808) : bits .or .i64 a b = ((a.toNat ||| b.toNat : Nat) : Int) := by
  obtain ⟨x, rfl⟩ := Int.eq_ofNat_of_zero_le h1
  obtain ⟨y, rfl⟩ := Int.eq_ofNat_of_zero_le h3
  have hx : x ||| y < 2 ^ 63 := Nat.or_lt_two_pow (by omega) (by omega)
  show IntKind.i64.wrap ((BitVec.ofInt 64 (x : Int) ||| BitVec.ofInt 64 (y : Int)).toNat : Int) = _
  rw [BitVec.toNat_or, BitVec.ofInt_natCast, BitVec.ofInt_natCast, BitVec.toNat_ofNat, BitVec.toNat_ofNat, Nat.mod_eq_of_lt (by omega), Nat.mod_eq_of_lt (by omega), IntKind.wrap_i64, Int.toNat_natCast, Int.toNat_natCast]
  omega
theorem bits_and_small {a b : Int} (h1 : 0 ≤ a) (h2 : a < 9223372036854775808) (h3 : 0 ≤ b) (h4 : b < 9223372036854775808) : bits .and .i64 a b = ((a.toNat &&& b.toNat : Nat) : Int) := by
  obtain ⟨x, rfl⟩ := Int.eq_ofNat_of_zero_le h1
  obtain ⟨y, rfl⟩ := Int.eq_ofNat_of_zero_le h3
  have hx : x &&& y < 2 ^ 63 := Nat.and_lt_two_pow _ (by omega)
  show IntKind.i64.wrap ((BitVec.ofInt 64 (x : Int) &&& BitVec.ofInt 64 (y : Int)).toNat : Int) = _
  rw [BitVec.toNat_and, BitVec.ofInt_natCast, BitVec.ofInt_natCast, BitVec.toNat_ofNat, BitVec.toNat_ofNat, Nat.mod_eq_of_lt (by omega), Nat.mod_eq_of_lt (by omega), IntKind.wrap_i64, Int.toNat_natCast, Int.toNat_natCast]
  omega

theorem ints_one (zs : List Int) : ∀ u ∈ zs.map (Value.int .i64), u.oneCell' = true := ints_oneCell .i64 zs

end Go.Proofs.Ytobdkfhmmpigiaa
