/- Chapter 12: the closure of impl.resultSets. -/
import Derived.Test.YtobdkfhmmpigiaaGreatC12r2
namespace Go.Proofs.YtobdkfhmmpigiaaGreat
open Go.RowKit Go.Deep Go.Maps
set_option linter.unusedVariables false
attribute [local go_sem] bits_and_one

/-- A set of masks as one number. -/
def keyTo (set : List Int) : Nat → Nat
  | 0 => 0
  | k + 1 => keyTo set k ||| 2 ^ (nth set k).toNat
def keyC (set : List Int) : Nat := keyTo set set.length
theorem keyTo_zero (set : List Int) : keyTo set 0 = 0 := rfl
theorem keyTo_succ {set : List Int} {k s x y : Nat} (h : nth set k = s) (hx : keyTo set k = x) (hy : x ||| 2 ^ s = y) : keyTo set (k + 1) = y := by
  rw [keyTo, h, hx, Int.toNat_natCast, hy]
theorem or_pow16 {x s y : Nat} (hx : x < 65536) (hs : s < 16) (hy : x ||| 2 ^ s = y) : y < 65536 ∧ bits .or .i64 (x : Int) ((2 ^ s : Nat) : Int) = (y : Int) := by
  have h2 : 2 ^ s < 2 ^ 16 := Nat.pow_lt_pow_right (by omega) hs
  have h1 : x ||| 2 ^ s < 2 ^ 16 := Nat.or_lt_two_pow (by omega) h2
  refine ⟨by omega, ?_⟩
  generalize 2 ^ s = z at *
  rw [bits_or_small (by omega) (by omega) (by omega) (by omega), Int.toNat_natCast, Int.toNat_natCast, hy]
theorem keyTo_lt {m : Nat} {set : List Int} (h : MaskR 16 m set) : ∀ k, k ≤ m → keyTo set k < 65536 := by
  intro k
  induction k with
  | zero => intro _; rw [keyTo_zero]; omega
  | succ k ih =>
    intro hk
    obtain ⟨s, hs, hs16⟩ := h k (by omega)
    rw [keyTo_succ hs rfl rfl]
    exact (or_pow16 (ih (by omega)) hs16 rfl).1
/-- Different numbers below N are at most N. -/
theorem pigeon : ∀ (N : Nat) (l : List Nat), l.Nodup → (∀ x ∈ l, x < N) → l.length ≤ N := by
  intro N
  induction N with
  | zero =>
    intro l _ h
    cases l with
    | nil => exact Nat.le_refl _
    | cons a l => have := h a (by simp); omega
  | succ N ih =>
    intro l hn h
    by_cases hm : N ∈ l
    · have h1 := ih (l.erase N) (hn.erase N) (fun x hx => by
        have h2 := (List.Nodup.mem_erase_iff hn).1 hx
        have := h x h2.2
        have := h2.1
        omega)
      rw [List.length_erase_of_mem hm] at h1
      omega
    · exact Nat.le_succ_of_le (ih l hn (fun x hx => by
        have := h x hx
        have : x ≠ N := fun e => hm (e ▸ hx)
        omega))
/-- Is a set known? -/
def knownC (out : List (List Int)) (key : Nat) : Bool := out.any fun x => keyC x == key
def seeS (zss : List (List Int)) (set : List Int) (out : List (List Int)) : List (List Int) × Bool := (if knownC out (keyC set) = true then out else out ++ [set], false)
theorem see_old {zss : List (List Int)} {set : List Int} {out : List (List Int)} (h : knownC out (keyC set) = true) : seeS zss set out = (out, false) := by rw [seeS, if_pos h]
theorem see_new {zss : List (List Int)} {set : List Int} {out : List (List Int)} (h : knownC out (keyC set) = false) : seeS zss set out = (out ++ [set], false) := by rw [seeS, if_neg (by rw [h]; simp)]
/-- What the closure holds: the list, the map of its keys, in their boxes. -/
structure StB (lo bo bs bm : Nat) (out : List (List Int)) (D : Nat → Prop) (w : World) (A : Option Addr) (m c : Nat) (vs : List Value) : Prop where
  ho : w.heap[bo]? = some (.cells #[.slice A m c] 25 (0, 0))
  hs : w.heap[bs]? = some (.cells #[.map (some bm)] 63 (0, 0))
  hm : MapB w bm m (fun y => out.any fun x => (keyC x : Int) == y)
  hl : out.length = m
  ha : ∃ g, A = some ⟨g, 0, none⟩
  hv : Own w lo 30 A m c vs
  hr : All2 (Rw w lo fun g => ¬ D g) vs out
  d1 : bo ≠ bs
  d2 : bo ≠ bm
  d3 : bs ≠ bm
  d4 : ∀ g, blk A = some g → g ≠ bo ∧ g ≠ bs ∧ g ≠ bm
  hD : D = fun g => g = bo ∨ g = bm ∨ blk A = some g
  hn : (out.map keyC).Nodup
  hk : ∀ x ∈ out, keyC x < 65536
def StS (lo bo bs bm : Nat) (out : List (List Int)) (D : Nat → Prop) (w : World) : Prop := ∃ A m c vs, StB lo bo bs bm out D w A m c vs
theorem lt_heap {w : World} {g : Nat} {o : Obj} (h : w.heap[g]? = some o) : g < w.heap.size := (Array.getElem?_eq_some_iff.1 h).1
theorem StS.lt {lo bo bs bm : Nat} {out : List (List Int)} {D : Nat → Prop} {w : World} (h : StS lo bo bs bm out D w) : ∀ g, D g → g < w.heap.size := by
  obtain ⟨A, m, c, vs, h⟩ := h
  intro g hg
  rw [h.hD] at hg
  rcases hg with rfl | rfl | hg
  · exact lt_heap h.ho
  · exact h.hm.lt
  · exact (h.hv.blk_ g hg).2
theorem StS.below {lo bo bs bm : Nat} {out : List (List Int)} {D : Nat → Prop} {w w' : World} (h : StS lo bo bs bm out D w) (hb : Below w.heap.size w w') : StS lo bo bs bm out D w' := by
  obtain ⟨A, m, c, vs, h⟩ := h
  exact ⟨A, m, c, vs, { h with
    ho := by rw [hb.block _ (lt_heap h.ho)]; exact h.ho
    hs := by rw [hb.block _ (lt_heap h.hs)]; exact h.hs
    hm := h.hm.keep (hb.block _ h.hm.lt)
    hv := h.hv.below hb
    hr := h.hr.mono fun v z k => k.keep fun g _ hg hd => ⟨hb.block g hg, hd⟩ }⟩
theorem StB.len_le {lo bo bs bm m c : Nat} {out : List (List Int)} {D : Nat → Prop} {w : World} {A : Option Addr} {vs : List Value} (h : StB lo bo bs bm out D w A m c vs) : m ≤ 65536 := by
  have := pigeon 65536 (out.map keyC) h.hn (fun x hx => by
    obtain ⟨y, hy, rfl⟩ := List.mem_map.1 hx
    exact h.hk y hy)
  rw [List.length_map, h.hl] at this
  exact this
theorem any_cast (out : List (List Int)) (key : Nat) : (out.any fun x => (keyC x : Int) == (key : Int)) = knownC out key := by
  have h : ∀ x : List Int, ((keyC x : Int) == (key : Int)) = (keyC x == key) := fun x => by
    rw [Bool.eq_iff_iff, beq_iff_eq, beq_iff_eq]
    omega
  unfold knownC
  exact congrArg out.any (funext h)
/-- A new set: the map, the list and its box are written. -/
theorem sts_new {lo bo bs bm m c mB dB c3 : Nat} {out : List (List Int)} {D : Nat → Prop} {w w1 w3 : World} {A A3 B : Option Addr} {vs : List Value} {set : List Int} (h : StB lo bo bs bm out D w A m c vs)
    (hB : OwnI w lo 3 B mB dB set) (hBD : ∀ g, blk B = some g → ¬ D g) (hkn : knownC out (keyC set) = false) (hk6 : keyC set < 65536)
    (hm1 : MapB w1 bm (m + 1) (fun y => (out.any fun x => (keyC x : Int) == y) || y == (keyC set : Int))) (hg1 : w.grownBy w1 (some bm))
    (ho3 : Own w3 lo 30 A3 (m + 1) c3 (vs ++ [.slice B mB dB])) (hg3 : w1.grownBy w3 (blk A)) (hat : blk A3 = blk A ∨ blk A3 = some (w1.heap.size + 1)) :
    ∃ D', StS lo bo bs bm (out ++ [set]) D' (w3.setCell ⟨bo, 0, none⟩ (.slice A3 (m + 1) c3)) ∧ Fr D D' w (w3.setCell ⟨bo, 0, none⟩ (.slice A3 (m + 1) c3)) := by
  have hs1 := hg1.size
  have hs3 := hg3.size
  have lo1 := lt_heap h.ho
  have ls1 := lt_heap h.hs
  have lm1 := h.hm.lt
  have hD := h.hD
  have e3 : ∀ g, g < w.heap.size → ¬ D g → (w3.setCell ⟨bo, 0, none⟩ (.slice A3 (m + 1) c3)).heap[g]? = w.heap[g]? := by
    intro g hg hd
    rw [hD] at hd
    rw [Below.heap_setCell w3 ⟨bo, 0, none⟩ _ g (fun e => hd (.inl e)), hg3.block g (by omega) (fun e => hd (.inr (.inr e.symm))), hg1.block g hg (fun e => hd (.inr (.inl (by injection e))))]
  have hA3 : ∀ g, blk A3 = some g → blk A = some g ∨ g = w1.heap.size + 1 := by
    intro g hg
    rcases hat with h2 | h2
    · rw [h2] at hg; exact .inl hg
    · rw [h2] at hg; injection hg with hg; exact .inr hg.symm
  have hback : ∀ g, g < w.heap.size → (g = bo ∨ g = bm ∨ blk A3 = some g) → D g := by
    intro g hg hd
    rw [hD]
    rcases hd with hd | hd | hd
    · exact .inl hd
    · exact .inr (.inl hd)
    · rcases hA3 g hd with h2 | h2
      · exact .inr (.inr h2)
      · omega
  have hbo3 : w3.heap[bo]? = w.heap[bo]? := by
    rw [hg3.block bo (by omega) (fun e => (h.d4 bo e.symm).1 rfl), hg1.block bo lo1 (fun e => h.d2 (by injection e))]
  have hbs : (w3.setCell ⟨bo, 0, none⟩ (.slice A3 (m + 1) c3)).heap[bs]? = w.heap[bs]? := by
    rw [Below.heap_setCell w3 ⟨bo, 0, none⟩ _ bs (fun e => h.d1 e.symm), hg3.block bs (by omega) (fun e => (h.d4 bs e.symm).2.1 rfl), hg1.block bs ls1 (fun e => h.d3 (by injection e))]
  have hbm : (w3.setCell ⟨bo, 0, none⟩ (.slice A3 (m + 1) c3)).heap[bm]? = w1.heap[bm]? := by
    rw [Below.heap_setCell w3 ⟨bo, 0, none⟩ _ bm (fun e => h.d2 e.symm), hg3.block bm (by omega) (fun e => (h.d4 bm e.symm).2.2 rfl)]
  refine ⟨fun g => g = bo ∨ g = bm ∨ blk A3 = some g, ⟨A3, m + 1, c3, vs ++ [.slice B mB dB], ?_⟩, ?_⟩
  · refine ⟨?_, ?_, ?_, by simp [h.hl], own_some_ ho3 (by omega), ?_, ?_, h.d1, h.d2, h.d3, fun g hg => ?_, rfl, ?_, ?_⟩
    · exact one_setCell (by rw [hbo3]; exact h.ho)
    · rw [hbs]; exact h.hs
    · have h4 := hm1.keep hbm
      have h5 : (fun y : Int => (out.any fun x => (keyC x : Int) == y) || y == (keyC set : Int)) = fun y => (out ++ [set]).any fun x => (keyC x : Int) == y := by
        funext y
        rw [List.any_append]
        congr 1
        simp only [List.any_cons, List.any_nil, Bool.or_false]
        rw [Bool.eq_iff_iff, beq_iff_eq, beq_iff_eq]
        exact ⟨fun e => e.symm, fun e => e.symm⟩
      rw [h5] at h4
      exact h4
    · refine ho3.setOther (fun g hg => ?_) _
      rcases hA3 g hg with h2 | h2
      · exact (h.d4 g h2).1
      · show g ≠ bo; omega
    · refine (h.hr.mono fun v z k => k.keep fun g h1 h2 h3 => ⟨e3 g h2 h3, fun e => h3 (hback g h2 e)⟩).append (All2.one ⟨B, mB, dB, rfl, hB.keepAt fun g hg => e3 g (hB.blk_ g hg).2 (hBD g hg), fun g hg e => hBD g hg (hback g (hB.blk_ g hg).2 e)⟩)
    · rcases hA3 g hg with h2 | h2
      · exact h.d4 g h2
      · exact ⟨by omega, by omega, by omega⟩
    · rw [List.map_append, List.nodup_append]
      refine ⟨h.hn, by simp, fun a ha b hb e => ?_⟩
      obtain ⟨y, hy, rfl⟩ := List.mem_map.1 ha
      simp at hb
      subst hb
      have : knownC out (keyC set) = true := List.any_eq_true.2 ⟨y, hy, by simp [e]⟩
      rw [hkn] at this
      cases this
    · intro x hx
      rcases List.mem_append.1 hx with hx | hx
      · exact h.hk x hx
      · simp at hx; subst hx; exact hk6
  · exact ⟨hg3.os.trans hg1.os, hg3.tape.trans hg1.tape, hg3.output.trans hg1.output, by show _ ≤ (w3.setCell _ _).heap.size; simp [World.setCell]; omega, e3, hback⟩
attribute [irreducible] keyTo

set_option maxHeartbeats 4000000 in
theorem implSee (lo bo bs bm : Nat) (out : List (List Int)) (D : Nat → Prop) (w : World) (A : Option Addr) (l c : Nat) (zss : List (List Int)) (B : Option Addr) (m d : Nat) (set : List Int)
    (hI : StS lo bo bs bm out D w) (hlo : lo ≤ w.heap.size) (hB : OwnI w lo 3 B m d set) (hBD : ∀ g, blk B = some g → ¬ D g) (hG : Good m set) :
    Calls Tryz.prog 53 #[.slice A l c, .slice B m d, .pointer (some ⟨bs, 0, none⟩), .pointer (some ⟨bo, 0, none⟩)] w fun e w' => e = .returned (.bool (seeS zss set out).2) ∧ ∃ D', StS lo bo bs bm (seeS zss set out).1 D' w' ∧ Fr D D' w w' := by
  have HI := Lib.hid hI
  obtain ⟨A0, m0, c0, vs, hS⟩ := hI
  have HST := Lib.hid hS
  have HG := Lib.hid hG
  have HB := Lib.hid hB
  have HBD := Lib.hid hBD
  have HK := Lib.hid (keyTo_lt hG.1)
  have hm16 := hG.2.2
  have hm0 := hS.len_le
  have HR0 := Lib.hid (keyTo_zero set)
  clear hS hG hB hBD
  go_enter Tryz.func53, Tryz.ntmps53
  go_wp2_with fail
  go_loopw [7, 12] (fun xv jv wr => ∃ j x : Nat, j ≤ m ∧ jv = .int .i64 (j : Nat) ∧ xv = .int .i64 (x : Nat) ∧ x < 65536 ∧ Hid (keyTo set j = x) ∧ w = wr) (fun _ jv _ => m - (intOf jv).toNat)
  case atStart => exact ⟨0, 0, Nat.zero_le _, rfl, rfl, by omega, HR0, rfl⟩
  case round =>
    obtain ⟨j, x, hj, rfl, rfl, hx, HX, hww⟩ := hrel
    obtain rfl := hww
    by_cases hlt : j < m
    · obtain ⟨a1, rfl, _, l1⟩ := HB.out.rd.at_ hlt
      obtain ⟨s, hs, hs16⟩ := HG.out.1 j hlt
      rw [hs] at l1
      have hj1 : j + 1 ≤ m := hlt
      have hl1 := less1 hlt
      have hws := wrap_pow s (by omega)
      obtain ⟨p, hp⟩ : ∃ p, 2 ^ s = p := ⟨_, rfl⟩
      obtain ⟨y, hy⟩ : ∃ y, x ||| 2 ^ s = y := ⟨_, rfl⟩
      obtain ⟨hy16, hor⟩ := or_pow16 hx hs16 hy
      have HNX := Lib.hid (keyTo_succ hs HX.out hy)
      have HY16 := Lib.hid hy16
      rw [hp] at hws hor
      clear hs hp hy hx hy16
      go_wp2_with fail
      go_roundw
      case rel => exact ⟨j + 1, y, hj1, rfl, rfl, HY16.out, HNX, by first | trivial | rfl⟩
      case measure => simpa [intOf] using hl1
    · obtain rfl : j = m := by omega
      have HKC := Lib.hid (show keyC set = x by unfold keyC; rw [HG.out.2.1]; exact HX.out)
      have cbs : w.cell? ⟨bs, 0, none⟩ = some (.map (some bm)) := cell_of_one HST.out.hs
      have hlk := HST.out.hm.look (x := (x : Int)) (by omega)
      rw [any_cast out x] at hlk
      cases hkn : knownC out x with
      | true =>
        rw [hkn] at hlk
        have HE := Lib.hid (show seeS zss set out = (out, false) from see_old (by rw [HKC.out]; exact hkn))
        clear hkn
        go_wp2_with fail
        go_ret
        exact ⟨by rw [HE.out]; rfl, D, by rw [HE.out]; exact HI.out, Fr.refl _ _⟩
      | false =>
        rw [hkn] at hlk
        have HKN := Lib.hid (show knownC out (keyC set) = false by rw [HKC.out]; exact hkn)
        have HE := Lib.hid (show seeS zss set out = (out ++ [set], false) from see_new HKN.out)
        clear hkn
        go_wp2_with (at_mapUpdate; refine wpL_mapset _ rfl _ _ _ rfl bm m0 _ rfl HST.out.hm (by omega) (x : Int) rfl rfl (by omega) ?_)
        intro w1 hm1 hg1
        have hbo1 : w1.heap[bo]? = some (.cells #[.slice A0 m0 c0] 25 (0, 0)) := by rw [hg1.block bo (lt_heap HST.out.ho) (fun e => HST.out.d2 (by injection e))]; exact HST.out.ho
        have cbo : w1.cell? ⟨bo, 0, none⟩ = some (.slice A0 m0 c0) := cell_of_one hbo1
        have HV1 := Lib.hid (HST.out.hv.kept hg1 (fun g hg e => (HST.out.d4 g hg).2.2 (by injection e)))
        have hlo1 : lo ≤ w1.heap.size := by have := hg1.size; omega
        have HM1 := Lib.hid hm1
        have HG1 := Lib.hid hg1
        have HBO1 := Lib.hid hbo1
        clear hm1 hg1 hbo1
        go_wp2_with (at_builtin; refine wpL_append1 _ rfl _ _ _ rfl lo 30 (.slice none 0 0) 24 Tryz.underlying25 sliceInfo rfl _ m0 _ _ rfl HV1.out (.slice B j d) rfl rfl (by unfold maxLen; omega) (by omega) hlo1 ?_)
        intro A3 c3 w3 ho3 hg3 hat3
        have hbo3 : w3.heap[bo]? = some (.cells #[.slice A0 m0 c0] 25 (0, 0)) := by rw [hg3.block bo (lt_heap HBO1.out) (fun e => (HST.out.d4 bo e.symm).1 rfl)]; exact HBO1.out
        have cbo3 : w3.cell? ⟨bo, 0, none⟩ = some (.slice A0 m0 c0) := cell_of_one hbo3
        have fbo3 : w3.frozen? ⟨bo, 0, none⟩ = false := free_of_one hbo3
        have HNW := Lib.hid (sts_new HST.out HB.out HBD.out HKN.out (by rw [HKC.out]; exact hx) (by rw [HKC.out]; exact HM1.out) HG1.out ho3 hg3 hat3)
        clear ho3 hg3 hat3 hbo3
        go_wp2_with fail
        go_ret
        obtain ⟨D', q1, q2⟩ := HNW.out
        exact ⟨by rw [HE.out]; rfl, D', by rw [HE.out]; exact q1, q2⟩
end Go.Proofs.YtobdkfhmmpigiaaGreat
