/- Chapter 13: what the law of counting asks, in plain words. -/
import Derived.Test.YtcijnmooifcicaaC13n
import Derived.Test.YtcijnmooifcicaaC13e
import Derived.Test.YtcijnmooifcicaaC13i
namespace Go.Proofs.Ytcijnmooifcicaa
open Go.RowKit Go.Deep
set_option linter.unusedVariables false

theorem toks_all {ts : List Int} : ∀ k, (∀ j, j < k → 0 ≤ nth ts j ∧ nth ts j ≤ 1000) → toksTo ts k = true := by
  intro k
  induction k with
  | zero => intro _; exact toks_zero _
  | succ k ih => intro h; exact toks_on (ih (fun j hj => h j (by omega))) (h k (by omega))
theorem tok_yes {W : Nat} {zss : List (List Int)} {ts : List Int} (h : netV (W : Int) zss = true) (hl : ts.length = W) (hb : ∀ j, j < W → 0 ≤ nth ts j ∧ nth ts j ≤ 1000) : tokB (W : Int) zss ts = true := by
  rw [tokB, h, hl, toks_all W hb]; simp
theorem ctOut_yes {W m : Nat} {zss : List (List Int)} {ts : List Int} (hz : zss.length = m) (h : tokB (W : Int) zss ts = true) : ctOut (W : Int) zss ts = ctTo ts zss m := by rw [ctOut, h, hz]; rfl
theorem wi_all {W : Nat} {es : List Int} : ∀ k, (∀ j, j < k → ∃ x : Nat, nth es j = x ∧ x < W) → wiTo (W : Int) es k = true := by
  intro k
  induction k with
  | zero => intro _; exact wiTo_zero _ _
  | succ k ih =>
    intro h
    obtain ⟨x, hx, hxW⟩ := h k (by omega)
    exact wiTo_on (ih (fun j hj => h j (by omega))) (by rw [inW, decide_eq_true_eq]; omega)
theorem tt_yes {W k : Nat} {zss : List (List Int)} {es : List Int} (h : netV (W : Int) zss = true) (he : Nums W k es) (hk : k ≤ 60) : ttB (W : Int) zss es = true := by
  rw [ttB, h, he.1, wi_all k he.2, decide_eq_true hk]; rfl
theorem pq_net {W m : Nat} {zss : List (List Int)} (hz : zss.length = m) (h : netV (W : Int) zss = true) : PqW W m zss := by
  obtain ⟨W', hW, _, _, _, hrow⟩ := net_out hz h
  have e : W' = W := by omega
  subst e
  intro k hk
  obtain ⟨_, p, q, h1, h2, h3, h4, h5⟩ := hrow k hk
  exact ⟨p, q, h1, h2, h3, h4, h5⟩
/-- What entries give. -/
structure EntL (W m k : Nat) (zss : List (List Int)) (es o1 : List Int) : Prop where
  ok : ttB (W : Int) zss es = true
  out : ttOut (W : Int) zss es = o1
  len : o1.length = k
  mem : ∀ j, j < k → ∃ b : Nat, nth o1 j = b ∧ b < W
  tok : tokB (W : Int) zss (cntL W es k) = true
  run : ctOut (W : Int) zss (cntL W es k) = cntL W o1 k
  nums : cfOut (W : Int) zss es = cfTo (W : Int) o1 k
theorem ent_law {W m k : Nat} {zss : List (List Int)} {es : List Int} (hz : zss.length = m) (h : netV (W : Int) zss = true) (he : Nums W k es) (hk : k ≤ 60) : ∃ out, EntL W m k zss es out := by
  have hP := pq_net hz h
  obtain ⟨v, out, h1, h2, h3, h4, h5⟩ := tt_law hP he.2 k (Nat.le_refl _)
  have hB := tt_yes h he hk
  have ho : ttOut (W : Int) zss es = out := ttOut_yes hB hz he.1 h1
  have htk : tokB (W : Int) zss (cntL W es k) = true := tok_yes h (cntL_len _ _ _) fun j hj => by
    rw [cntL_nth hj]
    have := cnt_le es k j
    omega
  exact ⟨out, ⟨hB, ho, h2, h5, htk, by rw [ctOut_yes hz htk, h4], cfOut_yes hB ho he.1⟩⟩
/-- What tokens give. -/
structure TokL (W m : Nat) (zss : List (List Int)) (ts o1 : List Int) : Prop where
  ok : tokB (W : Int) zss ts = true
  out : ctOut (W : Int) zss ts = o1
  len : o1.length = W
  sum : o1.sum = ts.sum
  small : ∀ x ∈ o1, 0 ≤ x ∧ x ≤ 1000
theorem tok_law {W m : Nat} {zss : List (List Int)} {ts : List Int} (hz : zss.length = m) (h : netV (W : Int) zss = true) (ht : Nums 7 W ts) : ∃ out, TokL W m zss ts out := by
  have hok := tok_yes h ht.1 (fun j hj => by obtain ⟨x, hx, hx7⟩ := ht.2 j hj; omega)
  have hP := pq_net hz h
  obtain ⟨_, _, hbd⟩ := tok_out ht.1 hok
  have hct : BdT (ctTo ts zss m) := bdT_ct ht.1 hbd (fun k hk => by
    obtain ⟨p, q, a1, a2, a3, a4, _⟩ := hP k hk
    exact ⟨p, q, a1, a2, a3, a4⟩) m (Nat.le_refl _)
  exact ⟨ctTo ts zss m, ⟨hok, ctOut_yes hz hok, by rw [ct_len, ht.1], sum_ct hP ht.1 m (Nat.le_refl _), hct⟩⟩
/-- What a bitonic network makes of tokens and of entries. -/
structure BitL (V : Nat) (ts o1 : List Int) (q : Nat) : Prop where
  sum : ts.sum = (q : Int)
  q49 : q < 49
  out : o1 = stepTo V q V
  step : stepB o1 = true
  bal : balV o1 ≤ 1
  stepOf : stepV (V : Int) (q : Int) = o1
theorem bit_law {V m : Nat} (hV : V = 1 ∨ V = 2 ∨ V = 4 ∨ V = 8) {ts out : List Int} (ht : Nums 7 V ts) (hz : (biL V).length = m) (hT : TokL V m (biL V) ts out) : ∃ q, BitL V ts out q := by
  have hmem := nums_mem ht
  obtain ⟨q, h1, h2⟩ := bi_law hV ht.1 (fun x hx => (hmem x hx).1) (.inr (fun x hx => by have := (hmem x hx).2; omega))
  have ho : out = stepTo V q V := by rw [← hT.out, ctOut_yes rfl hT.ok, h2]
  have hq : q < 49 := by
    have h3 := (sum_le (b := 6) ts (fun x hx => by have := hmem x hx; omega)).2
    rw [h1, ht.1] at h3
    have : (V : Int) ≤ 8 := by omega
    omega
  have hs := step_hs hV hq
  exact ⟨q, ⟨h1, hq, ho, by rw [ho]; exact hs.1, by rw [ho]; exact hs.2, by rw [ho]; exact stepV_yes (by omega) (by omega) (by omega)⟩⟩
theorem from_law {V m k : Nat} (hV : V = 1 ∨ V = 2 ∨ V = 4 ∨ V = 8) {es out : List Int} (he : Nums V k es) (hk : k ≤ 12) (hz : (biL V).length = m) (hE : EntL V m k (biL V) es out) : insTo (cfTo (V : Int) out k) k = marks 0 k := by
  have hsum := sum_cnt he.2 k (Nat.le_refl _)
  have h0 : ∀ x ∈ cntL V es k, 0 ≤ x := fun x hx => by
    obtain ⟨i, hi, e⟩ := List.getElem_of_mem hx
    rw [cntL_len] at hi
    have := cntL_nth (l := es) (k := k) hi
    rw [nth_eq (by rw [cntL_len]; exact hi), e] at this
    omega
  obtain ⟨q, h1, h2⟩ := bi_law hV (cntL_len V es k) h0 (.inl (by rw [hsum]; omega))
  have hq : q = k := by omega
  subst hq
  have hrun := hE.run
  rw [ctOut_yes rfl hE.tok, h2] at hrun
  refine cf_law hE.mem fun j hj => ?_
  have e1 := cntL_nth (l := out) (k := q) hj
  rw [← hrun, stepTo_nth V j hj, stepE] at e1
  omega
/-- Networks of few wires: counting ones and zeros, and sorting. -/
theorem few_law {W m : Nat} {zss : List (List Int)} (hR : NetR W m zss) (h1 : 1 ≤ W) (h4 : W ≤ 4) (hm : m ≤ 60) : ∃ b c : Bool, icV (W : Int) zss 1 = b ∧ sortB zss m W = b ∧ icV (W : Int) zss 2 = c ∧ (c = true → b = true) := by
  have hn := netR_ok hR h1 (by omega) hm
  have e1 : icV (W : Int) zss 1 = icTo zss 2 W (2 ^ W) := icV_is (t := 1) hn h4 (by omega) (by omega)
  have e2 : icV (W : Int) zss 2 = icTo zss 3 W (3 ^ W) := icV_is (t := 2) hn h4 (by omega) (by omega)
  exact ⟨_, _, e1, (sort_count hR.1 (netR_pq hR) h1 h4).symm, e2, three_two h1 h4⟩
end Go.Proofs.Ytcijnmooifcicaa
