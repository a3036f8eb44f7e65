/- The effects of deeds. Own work; no program in sight. -/
import Derived.Test.YthofjabphcheeaaDoorDo
set_option linter.unusedVariables false
namespace Go.Proofs.YthofjabphcheeaaDoor
open Go Go.RowKit
abbrev EE := List Int × Int × List HTab
section
variable {it : List HItem} {pr st : List Int} {cash : Int} {tb : List HTab}
theorem houseB_stock (h : houseB it pr st cash tb = true) : st.length = it.length ∧ ∀ x ∈ st, 0 ≤ x ∧ x ≤ 50 := by
  unfold houseB at h
  simp only [Bool.and_eq_true] at h
  exact amounts_len h.1.1.2
theorem houseB_big {x : Int} (hx : x ∈ st) (h : 50 < x) : houseB it pr st cash tb = false := by
  rw [Bool.eq_false_iff]
  intro hv
  have := (houseB_stock hv).2 x hx
  omega
theorem houseB_poor (h : ¬(0 ≤ cash ∧ cash ≤ 99999)) : houseB it pr st cash tb = false := by
  rw [Bool.eq_false_iff]
  intro hv
  exact h (houseB_cash hv)
theorem mul_small {c p : Int} (hc : 1 ≤ c ∧ c ≤ 50) (hp : 0 ≤ p ∧ p ≤ 20) : 0 ≤ c * p ∧ c * p ≤ 1000 := by
  refine ⟨Int.mul_nonneg (by omega) hp.1, ?_⟩
  have h1 : c * p ≤ 50 * p := Int.mul_le_mul_of_nonneg_right hc.2 hp.1
  omega
def SpecOk (it : List HItem) (pr st : List Int) (cash : Int) (tb : List HTab) (e : Option EE) (x : HH × Bool) : Prop :=
  (∃ f, e = some f ∧ x = ((it, pr, f.1, f.2.1, f.2.2), true)) ∨ (x.2 = false ∧ ∀ f, e = some f → houseB it pr f.1 f.2.1 f.2.2 = false)
/-! ### buy -/
def buyE (it : List HItem) (pr st : List Int) (cash : Int) (tb : List HTab) (b c : Int) : Option EE := match geti it b, geti st b, geti pr b with
  | some i, some s, some p => if ¬ i.1 > 0 ∧ 1 ≤ c ∧ c ≤ 50 then some (st.set b.toNat (s + c), cash - c * p, tb) else none
  | _, _, _ => none
theorem specBuy_eq (hv : houseB it pr st cash tb = true) (b c : Int) : ∃ x, spec_l7BuyS it pr st cash tb b c = some x ∧ SpecOk it pr st cash tb (buyE it pr st cash tb b c) x := by
  obtain ⟨hs, hsr⟩ := houseB_stock hv
  obtain ⟨hp, hpr⟩ := houseB_prices hv
  have hcash := houseB_cash hv
  have hn := itemsB_len (houseB_items hv)
  unfold spec_l7BuyS buyE
  rw [l1In_idx b it.length (by omega), Option.bind_some]
  by_cases hb : 0 ≤ b ∧ b < (it.length : Int)
  · obtain ⟨k, rfl, hk⟩ := in_nat hb
    have hks : k < st.length := by omega
    have hkp : k < pr.length := by omega
    rw [geti_lt' hk, geti_lt' hks, geti_lt' hkp, decide_eq_true hb]
    simp only [Option.bind_some, Bool.not_true, Bool.false_eq_true, if_false]
    by_cases hi : it[k].1 > 0
    · rw [decide_eq_true hi, if_pos rfl, Option.bind_some, if_pos rfl, Option.bind_some, if_pos rfl, Option.bind_some, if_pos rfl, if_neg (by omega)]
      exact ⟨_, rfl, .inr ⟨rfl, fun f hf => by cases hf⟩⟩
    · rw [decide_eq_false hi, if_neg (by simp), l1In_eq, Option.bind_some, Option.bind_some]
      by_cases hc : 1 ≤ c ∧ c ≤ 50
      · have h1 := hsr _ (List.getElem_mem hks)
        have h2 := hpr _ (List.getElem_mem hkp)
        have h3 := mul_small hc h2
        rw [decide_eq_true hc]
        simp only [Bool.not_true, Bool.false_eq_true, if_false, Option.bind_some]
        rw [if_pos (show ¬ it[k].1 > 0 ∧ 1 ≤ c ∧ c ≤ 50 from ⟨hi, hc⟩), wr (x := st[k] + c) ⟨by omega, by omega⟩, wr (x := c * pr[k]) ⟨by omega, by omega⟩, wr (x := cash - c * pr[k]) ⟨by omega, by omega⟩]
        by_cases hst : st[k] + c > 50
        · rw [decide_eq_true hst, if_pos rfl, Option.bind_some, if_pos rfl]
          refine ⟨_, rfl, .inr ⟨rfl, fun f hf => ?_⟩⟩
          obtain rfl := Option.some.inj hf
          exact houseB_big (x := st[k] + c) (List.mem_of_getElem? (i := k) (by simp [hks])) hst
        · rw [decide_eq_false hst, if_neg (by simp), Option.bind_some]
          by_cases hca : c * pr[k] > cash
          · rw [decide_eq_true hca, if_pos rfl]
            refine ⟨_, rfl, .inr ⟨rfl, fun f hf => ?_⟩⟩
            obtain rfl := Option.some.inj hf
            exact houseB_poor (cash := cash - c * pr[k]) (by omega)
          · rw [decide_eq_false hca, if_neg (by simp)]
            exact ⟨_, rfl, .inl ⟨_, rfl, rfl⟩⟩
      · rw [decide_eq_false hc, Bool.not_false, if_pos rfl, Option.bind_some, if_pos rfl, Option.bind_some, if_pos rfl, if_neg (by omega)]
        exact ⟨_, rfl, .inr ⟨rfl, fun f hf => by cases hf⟩⟩
  · rw [decide_eq_false hb, geti_out hb]
    simp only [Option.bind_some, Bool.not_false, if_true]
    exact ⟨_, rfl, .inr ⟨rfl, fun f hf => by cases hf⟩⟩
/-! ### make -/
noncomputable def runZ (it : List HItem) (st : List Int) (b c : Int) : List Int × Bool := (spec_MakeRunS it st ((List.replicate it.length (0 : Int)).set b.toNat c) []).getD ([], false)
noncomputable def makeE (it : List HItem) (pr st : List Int) (cash : Int) (tb : List HTab) (b c : Int) : Option EE := match geti it b with
  | some i => if i.1 > 0 ∧ 1 ≤ c ∧ c ≤ 50 then (if (runZ it st b c).2 = true then some ((runZ it st b c).1, cash, tb) else none) else none
  | none => none
theorem run_eq (h : ItemsL it) (hv : houseB it pr st cash tb = true) {k : Nat} (hk : k < it.length) {c : Int} (hc : 1 ≤ c ∧ c ≤ 50) :
    spec_MakeRunS it st ((List.replicate it.length (0 : Int)).set k c) [] = some (runZ it st (k : Int) c) ∧ True ∧ ((runZ it st (k : Int) c).2 = true → (runZ it st (k : Int) c).1.length = it.length) := by
  obtain ⟨hs, hsr⟩ := houseB_stock hv
  obtain ⟨r, h1, h3⟩ := makeRun_eq (st := st) (plan := (List.replicate it.length (0 : Int)).set k c) h (houseB_items hv) (amounts_of hs hsr) (amounts_of (by simp) fun x hx => by
    rcases List.mem_or_eq_of_mem_set hx with h | rfl
    · rw [List.mem_replicate] at h; omega
    · omega)
  have he : runZ it st (k : Int) c = r := by unfold runZ; rw [show Int.toNat (k : Int) = k from rfl, h1]; rfl
  rw [he]
  exact ⟨h1, trivial, h3⟩
theorem specMake_eq (h : ItemsL it) (hv : houseB it pr st cash tb = true) (b c : Int) : ∃ x, spec_l7MakeS it pr st cash tb b c = some x ∧ SpecOk it pr st cash tb (makeE it pr st cash tb b c) x := by
  have hn := itemsB_len (houseB_items hv)
  unfold spec_l7MakeS makeE
  rw [l1In_idx b it.length (by omega), Option.bind_some]
  by_cases hb : 0 ≤ b ∧ b < (it.length : Int)
  · obtain ⟨k, rfl, hk⟩ := in_nat hb
    have hmin : 0 ≤ it[k].1 := by
      have := itemsB_at (houseB_items hv) hk
      unfold itemB at this
      simp only [Bool.and_eq_true, decide_eq_true_eq] at this
      exact this.1.1.1.1.1
    rw [geti_lt' hk, decide_eq_true hb]
    simp only [Option.bind_some, Bool.not_true, Bool.false_eq_true, if_false]
    by_cases hi : it[k].1 > 0
    · rw [if_neg (by simp; omega), l1In_eq, Option.bind_some, Option.bind_some]
      by_cases hc : 1 ≤ c ∧ c ≤ 50
      · obtain ⟨h1, h2, h3⟩ := run_eq h hv hk hc
        rw [decide_eq_true hc, if_neg (by simp), if_pos ⟨hi, hc⟩, mkO_nat _ (by omega), Option.bind_some, geti_lt' (show k < (List.replicate it.length (0 : Int)).length by simpa using hk), Option.bind_some, show Int.toNat (k : Int) = k from rfl, h1, Option.bind_some]
        cases hr : (runZ it st (k : Int) c).2 with
        | false =>
          simp only [Bool.not_false, if_true, Option.bind_some, Bool.false_eq_true, if_false]
          exact ⟨_, rfl, .inr ⟨rfl, fun f hf => by cases hf⟩⟩
        | true =>
          have hl := h3 hr
          have hkr : k < (runZ it st (k : Int) c).1.length := by omega
          simp only [Bool.not_true, Bool.false_eq_true, if_false, if_true]
          rw [geti_lt' hkr, Option.bind_some, Option.bind_some]
          by_cases hx : (runZ it st (k : Int) c).1[k] > 50
          · rw [decide_eq_true hx, if_pos rfl]
            refine ⟨_, rfl, .inr ⟨rfl, fun f hf => ?_⟩⟩
            obtain rfl := Option.some.inj hf
            exact houseB_big (List.getElem_mem hkr) hx
          · rw [decide_eq_false hx, if_neg (by simp)]
            exact ⟨_, rfl, .inl ⟨_, rfl, rfl⟩⟩
      · rw [decide_eq_false hc, Bool.not_false, if_pos rfl, if_neg (by omega)]
        exact ⟨_, rfl, .inr ⟨rfl, fun f hf => by cases hf⟩⟩
    · rw [if_pos (by simp; omega), Option.bind_some, if_pos rfl, if_neg (by omega)]
      exact ⟨_, rfl, .inr ⟨rfl, fun f hf => by cases hf⟩⟩
  · rw [decide_eq_false hb, geti_out hb]
    simp only [Option.bind_some, Bool.not_false, if_true]
    exact ⟨_, rfl, .inr ⟨rfl, fun f hf => by cases hf⟩⟩
/-! ### order -/
def orderE (it : List HItem) (pr st : List Int) (cash : Int) (tb : List HTab) (b c d : Int) : Option EE := match geti tb b, geti st c with
  | some t, some s => if c ∈ free it t.1 ∧ 1 ≤ s then some (st.set c.toNat (s - 1), cash, tb.set b.toNat (t.1, t.2.1 ++ [(d, 0)], t.2.2 ++ [c])) else none
  | _, _ => none
theorem free_idx {a c : Int} (h : c ∈ free it a) : 0 ≤ c ∧ c < (it.length : Int) := by
  obtain ⟨_, _, k, hk, rfl, _⟩ := mem_free h
  omega
theorem ticket_false {t : HTab} (ht : t ∈ tb) (h : ticketB t.2.1 = false) : houseB it pr st cash tb = false := by
  rw [Bool.eq_false_iff]
  intro hv
  have := (tableB_true.1 ((houseB_tables hv).2 t ht)).2.1
  rw [h] at this; cases this
theorem specOrder_eq (h : HouseL it pr st tb) (hv : houseB it pr st cash tb = true) (b c d : Int) : ∃ x, spec_l7OrderS it pr st cash tb b c d = some x ∧ SpecOk it pr st cash tb (orderE it pr st cash tb b c d) x := by
  obtain ⟨hs, hsr⟩ := houseB_stock hv
  have hn := itemsB_len (houseB_items hv)
  have htl := (houseB_tables hv).1
  unfold spec_l7OrderS orderE
  rw [l1In_idx b tb.length (by omega), l1In_idx c it.length (by omega), Option.bind_some]
  by_cases hb : 0 ≤ b ∧ b < (tb.length : Int)
  · obtain ⟨k, rfl, hk⟩ := in_nat hb
    have hlt := h.2.2.2.2 _ (List.getElem_mem hk)
    rw [decide_eq_true hb, geti_lt' hk]
    simp only [Bool.not_true, Bool.false_eq_true, if_false, Option.bind_some]
    by_cases hc : 0 ≤ c ∧ c < (it.length : Int)
    · obtain ⟨q, rfl, hq⟩ := in_nat hc
      have hqs : q < st.length := by omega
      have hsq := hsr _ (List.getElem_mem hqs)
      rw [decide_eq_true hc, geti_lt' hqs]
      simp only [Bool.not_true, Bool.false_eq_true, if_false, Option.bind_some]
      by_cases h1 : 1 ≤ st[q]
      · rw [decide_eq_false (show ¬ st[q] < 1 by omega)]
        simp only [Bool.false_eq_true, if_false]
        rw [specFree_eq h.1, Option.bind_some, specHas_eq _ _ (by have := free_len it tb[k].1; omega), Option.bind_some, Option.bind_some]
        by_cases hf : (q : Int) ∈ free it tb[k].1
        · rw [decide_eq_true hf, if_neg (by simp), if_pos ⟨hf, h1⟩, appO_le (by simp; omega), Option.bind_some, List.nil_append, appO_le (by simp; omega), Option.bind_some, appO_le (by simp; omega), Option.bind_some, List.nil_append, appO_le (by simp; omega), Option.bind_some, specTicket_eq _ (by simp; omega), Option.bind_some]
          cases hT : ticketB (tb[k].2.1 ++ [(d, 0)]) with
          | false =>
            simp only [Bool.not_false, if_true]
            refine ⟨_, rfl, .inr ⟨rfl, fun f hf' => ?_⟩⟩
            obtain rfl := Option.some.inj hf'
            exact ticket_false (t := (tb[k].1, tb[k].2.1 ++ [(d, 0)], tb[k].2.2 ++ [(q : Int)])) (List.mem_of_getElem? (i := k) (by simp [hk])) hT
          | true =>
            simp only [Bool.not_true, Bool.false_eq_true, if_false]
            rw [wr ⟨by omega, by omega⟩]
            exact ⟨_, rfl, .inl ⟨_, rfl, rfl⟩⟩
        · rw [decide_eq_false hf, if_pos (by simp), if_neg (fun h => hf h.1)]
          exact ⟨_, rfl, .inr ⟨rfl, fun f hf => by cases hf⟩⟩
      · rw [decide_eq_true (show st[q] < 1 by omega)]
        simp only [if_true, Option.bind_some]
        rw [if_neg (by omega)]
        exact ⟨_, rfl, .inr ⟨rfl, fun f hf => by cases hf⟩⟩
    · rw [decide_eq_false hc]
      simp only [Bool.not_false, if_true, Option.bind_some]
      refine ⟨_, rfl, .inr ⟨rfl, fun f hf => ?_⟩⟩
      cases hg : geti st c with
      | none => rw [hg] at hf; cases hf
      | some s =>
        rw [hg] at hf
        dsimp only at hf
        rw [if_neg (fun h => hc (free_idx h.1))] at hf
        cases hf
  · rw [decide_eq_false hb, geti_out hb]
    simp only [Option.bind_some, Bool.not_false, if_true]
    exact ⟨_, rfl, .inr ⟨rfl, fun f hf => by cases hf⟩⟩
/-! ### work -/
def putTo (tb : List HTab) (ks : List Tick) : Nat → List HTab
  | 0 => tb
  | k + 1 => match tb[k]?, ks[k]? with
    | some t, some u => (putTo tb ks k).set k (t.1, u, t.2.2)
    | _, _ => putTo tb ks k
theorem putTo_len (tb : List HTab) (ks : List Tick) : ∀ k, (putTo tb ks k).length = tb.length
  | 0 => rfl
  | k + 1 => by
    unfold putTo
    split
    · rw [List.length_set, putTo_len tb ks k]
    · exact putTo_len tb ks k
theorem putTo_get (tb : List HTab) (ks : List Tick) : ∀ k j, k ≤ j → (putTo tb ks k)[j]? = tb[j]?
  | 0, j, _ => rfl
  | k + 1, j, hj => by
    unfold putTo
    split
    · rw [List.getElem?_set_ne (by omega), putTo_get tb ks k j (by omega)]
    · exact putTo_get tb ks k j (by omega)
theorem putTo_step {tb : List HTab} {ks : List Tick} {k : Nat} (h1 : k < tb.length) (h2 : k < ks.length) : putTo tb ks (k + 1) = (putTo tb ks k).set k (tb[k].1, ks[k], tb[k].2.2) := by
  simp only [putTo, List.getElem?_eq_getElem h1, List.getElem?_eq_getElem h2]
theorem geti_put {tb : List HTab} {ks : List Tick} {k : Nat} (h1 : k < tb.length) : geti (putTo tb ks k) (k : Int) = some tb[k] := by
  rw [geti_nat, putTo_get tb ks k k (Nat.le_refl _), List.getElem?_eq_getElem h1]
theorem putTo_L {tb : List HTab} {ks : List Tick} (h : TabsL tb) (hk : SmallK ks) : ∀ k, TabsL (putTo tb ks k)
  | 0 => h
  | k + 1 => by
    have ih := putTo_L h hk k
    unfold putTo
    split
    · rename_i t u h1 h2
      refine ⟨by rw [List.length_set]; exact ih.1, fun x hx => ?_⟩
      rcases List.mem_or_eq_of_mem_set hx with h3 | rfl
      · exact ih.2 x h3
      · exact ⟨hk.2 u (List.mem_of_getElem? h2), (h.2 t (List.mem_of_getElem? h1)).2⟩
    · exact ih
def workE (pr st : List Int) (cash : Int) (tb : List HTab) : Option EE := if (stepK (ticksOf tb)).2 = true then some (st, cash, putTo tb (stepK (ticksOf tb)).1 tb.length) else none
theorem specWork_eq (h : HouseL it pr st tb) : ∃ x, spec_l7WorkS it pr st cash tb = some x ∧ SpecOk it pr st cash tb (workE pr st cash tb) x := by
  have ht := h.2.2.2
  have htl := ht.1
  unfold spec_l7WorkS workE
  rw [specTicks_eq cash ht, Option.bind_some, specStep_eq ht.ticks, Option.bind_some]
  cases hk : (stepK (ticksOf tb)).2 with
  | false => exact ⟨_, rfl, .inr ⟨rfl, fun f hf => by cases hf⟩⟩
  | true =>
    have hkl : (stepK (ticksOf tb)).1.length = tb.length := by rw [stepK_len hk]; simp [ticksOf]
    simp only [Bool.not_true, Bool.false_eq_true, if_false, if_true]
    rw [loopDet (s := ((0 : Int), tb)) (fun k => ((k : Int), putTo tb (stepK (ticksOf tb)).1 k)) tb.length (putTo tb (stepK (ticksOf tb)).1 tb.length) rfl]
    · exact ⟨_, rfl, .inl ⟨_, rfl, rfl⟩⟩
    · intro k hk
      have hks : k < (stepK (ticksOf tb)).1.length := by omega
      (try dsimp only)
      rw [putTo_len, if_pos (lt_dec hk), geti_lt' hks, Option.bind_some, geti_put hk, Option.bind_some, wr_succ (n := tb.length) (by omega) hk, putTo_step hk hks]
      rfl
    · (try dsimp only)
      rw [putTo_len, if_neg (by simp)]
/-! ### close -/
def closeE (it : List HItem) (pr st : List Int) (cash : Int) (tb : List HTab) (b : Int) : Option EE := match geti tb b with
  | some t => if doneB t.2.1 = true then some (st, cash + billZ it pr st cash tb b, tb.take b.toNat ++ tb.drop (b.toNat + 1)) else none
  | none => none
theorem bill_small (hv : houseB it pr st cash tb = true) {k : Nat} (hk : k < tb.length) : 0 ≤ billZ it pr st cash tb (k : Int) ∧ billZ it pr st cash tb (k : Int) ≤ 120 := by
  rw [billZ_at hv hk]; exact billOf_range hv k
theorem specClose_eq (h : HouseL it pr st tb) (hv : houseB it pr st cash tb = true) (b : Int) : ∃ x, spec_l7CloseS it pr st cash tb b = some x ∧ SpecOk it pr st cash tb (closeE it pr st cash tb b) x := by
  have hcash := houseB_cash hv
  have htl := (houseB_tables hv).1
  unfold spec_l7CloseS closeE
  rw [l1In_idx b tb.length (by omega), Option.bind_some]
  by_cases hb : 0 ≤ b ∧ b < (tb.length : Int)
  · obtain ⟨k, rfl, hk⟩ := in_nat hb
    have hlt := h.2.2.2.2 _ (List.getElem_mem hk)
    have hbill := bill_small hv hk
    rw [decide_eq_true hb, geti_lt' hk]
    simp only [Bool.not_true, Bool.false_eq_true, if_false, Option.bind_some]
    rw [specDone_eq _ hlt.1, Option.bind_some, Option.bind_some]
    cases hd : doneB tb[k].2.1 with
    | false =>
      simp only [Bool.not_false, if_true, Option.bind_some, Bool.false_eq_true, if_false]
      exact ⟨_, rfl, .inr ⟨rfl, fun f hf => by cases hf⟩⟩
    | true =>
      simp only [Bool.not_true, Bool.false_eq_true, if_false, if_true]
      rw [specBill_eq cash h, Option.bind_some, Option.bind_some, wr (x := cash + _) ⟨by omega, by omega⟩]
      by_cases hca : cash + billZ it pr st cash tb (k : Int) > 99999
      · rw [decide_eq_true hca, if_pos rfl]
        refine ⟨_, rfl, .inr ⟨rfl, fun f hf => ?_⟩⟩
        obtain rfl := Option.some.inj hf
        exact houseB_poor (cash := cash + billZ it pr st cash tb (k : Int)) (by omega)
      · have e1 : subO tb 0 (k : Int) = some (tb.take k) := by
          unfold subO; rw [if_pos (by simp; omega)]; simp
        have e2 : subO tb (((k + 1 : Nat) : Int)) (tb.length : Int) = some (tb.drop (k + 1)) := by
          unfold subO; rw [if_pos (by simp; omega)]; simp
        rw [decide_eq_false hca, if_neg (by simp), Option.bind_some, e1, Option.bind_some, appO_le (by simp; omega), Option.bind_some, wr_succ (n := tb.length) (by omega) hk, e2, Option.bind_some, appO_le (by simp; omega), Option.bind_some, List.nil_append, wr (x := cash + billZ it pr st cash tb (k : Int)) ⟨by omega, by omega⟩]
        exact ⟨_, rfl, .inl ⟨_, rfl, rfl⟩⟩
  · rw [decide_eq_false hb, geti_out hb]
    simp only [Option.bind_some, Bool.not_false, if_true]
    exact ⟨_, rfl, .inr ⟨rfl, fun f hf => by cases hf⟩⟩
end
end Go.Proofs.YthofjabphcheeaaDoor
