/- Houses: tables, the house, bills, its worth. Own work; no program in sight. -/
import Derived.Test.YthofjabphcheeaaDoorHouse2
set_option linter.unusedVariables false
namespace Go.Proofs.YthofjabphcheeaaDoor
open Go Go.RowKit
theorem free_len (xs : List HItem) (a : Int) : (free xs a).length ≤ xs.length := by
  unfold free
  split
  · exact freeTo_len _ _ _
  · simp
def TabsL (ts : List HTab) : Prop := ts.length ≤ 1048576 ∧ ∀ t ∈ ts, t.2.1.length ≤ 1048576 ∧ t.2.2.length ≤ 1048576
def tableB (xs : List HItem) (t : HTab) : Bool := (decide (0 ≤ t.1 ∧ t.1 ≤ 31) && ticketB t.2.1) && (decide (t.2.2.length = t.2.1.length) && t.2.2.all (fun v => decide (v ∈ free xs t.1)))
theorem ne_len (m n : Nat) : ((m : Int) != (n : Int)) = !decide (m = n) := by
  rw [Bool.eq_iff_iff, bne_iff_ne, Bool.not_eq_true', decide_eq_false_iff_not]; omega
theorem implTable_eq {xs : List HItem} (h : ItemsL xs) (a : Int) (os : List (Int × Int)) (ds : List Int) (ho : os.length ≤ 1048576) (hd : ds.length ≤ 1048576) : impl_tableValidS xs a os ds = some (tableB xs (a, os, ds)) := by
  unfold impl_tableValidS tableB
  rw [implTicket_eq os (by omega), Option.bind_some, ne_len]
  dsimp only
  by_cases ha : 0 ≤ a ∧ a ≤ 31
  · rw [if_neg (by simp only [Bool.or_eq_true, decide_eq_true_eq]; omega), decide_eq_true ha, Option.bind_some]
    cases ticketB os
    · rfl
    · cases hb : decide (ds.length = os.length)
      · rfl
      · rw [if_neg (by simp), implFree_eq h, Option.bind_some]
        rw [loopList ds (fun _ v => decide (v ∈ free xs a))]
        · rw [Option.bind_some, allI_all]
          cases (ds.all fun v => decide (v ∈ free xs a)) <;> rfl
        · intro k hk
          (try dsimp only)
          have hf := free_len xs a
          have hxl := h.1
          rw [if_pos (lt_dec hk), geti_lt' hk, Option.bind_some, contains_eq _ _ (by omega), Option.bind_some, wr_succ (n := ds.length) (by omega) hk]
          cases decide (ds[k] ∈ free xs a) <;> rfl
        · (try dsimp only)
          rw [if_neg (by simp)]
  · rw [if_pos (by simp only [Bool.or_eq_true, decide_eq_true_eq]; omega), decide_eq_false ha, Option.bind_some]; rfl
def houseB (it : List HItem) (pr st : List Int) (cash : Int) (tb : List HTab) : Bool := ((pricesB it pr && amountsB it 50 st) && decide (0 ≤ cash ∧ cash ≤ 99999)) && (decide (tb.length ≤ 4) && tb.all (tableB it))
def HouseL (it : List HItem) (pr st : List Int) (tb : List HTab) : Prop := ItemsL it ∧ pr.length ≤ 1048576 ∧ st.length ≤ 1048576 ∧ TabsL tb
theorem implHouse_eq {it : List HItem} {pr st : List Int} (cash : Int) {tb : List HTab} (h : HouseL it pr st tb) : impl_HouseValidS it pr st cash tb = some (houseB it pr st cash tb) := by
  obtain ⟨hi, hp, hs, ht⟩ := h
  unfold impl_HouseValidS houseB
  rw [implPrices_eq hi pr (by omega), Option.bind_some, implAmounts_eq it 50 st (by omega)]
  cases pricesB it pr
  · rfl
  · rw [if_neg (by simp), Option.bind_some, Option.bind_some]
    cases amountsB it 50 st
    · rfl
    · rw [if_neg (by simp)]
      by_cases hc : 0 ≤ cash ∧ cash ≤ 99999
      · rw [decide_eq_true hc]
        by_cases h4 : tb.length ≤ 4
        · rw [if_neg (by simp only [Bool.or_eq_true, decide_eq_true_eq]; omega), decide_eq_true h4]
          rw [loopList tb (fun _ t => tableB it t)]
          · rw [Option.bind_some, allI_all]
            generalize tb.all (tableB it) = b
            cases b <;> rfl
          · intro k hk
            have hm := ht.2 _ (List.getElem_mem hk)
            (try dsimp only)
            rw [if_pos (lt_dec hk), geti_lt' hk, Option.bind_some, implTable_eq hi _ _ _ hm.1 hm.2, Option.bind_some, wr_succ (n := tb.length) (by omega) hk]
            show (if (!tableB it tb[k]) = true then _ else _) = _
            cases tableB it tb[k] <;> rfl
          · (try dsimp only)
            rw [if_neg (by simp)]
        · rw [if_pos (by simp only [Bool.or_eq_true, decide_eq_true_eq]; omega), decide_eq_false h4]; rfl
      · rw [if_pos (by simp only [Bool.or_eq_true, decide_eq_true_eq]; omega), decide_eq_false hc]; rfl
theorem specHouse_eq {it : List HItem} {pr st : List Int} (cash : Int) {tb : List HTab} (h : HouseL it pr st tb) : spec_HouseValidS it pr st cash tb = some (houseB it pr st cash tb) := by
  obtain ⟨hi, hp, hs, ht⟩ := h
  unfold spec_HouseValidS houseB
  rw [specPrices_eq hi pr (by omega), Option.bind_some, specAmounts_eq it st (by omega), l1In_eq]
  cases pricesB it pr
  · rfl
  · rw [if_neg (by simp), Option.bind_some, Option.bind_some]
    cases amountsB it 50 st
    · rfl
    · rw [if_neg (by simp), Option.bind_some, Option.bind_some]
      by_cases hc : 0 ≤ cash ∧ cash ≤ 99999
      · rw [decide_eq_true hc]
        by_cases h4 : tb.length ≤ 4
        · rw [if_neg (by simp only [Bool.or_eq_true, decide_eq_true_eq, Bool.not_true]; simp; omega), decide_eq_true h4]
          rw [loopList tb (fun _ t => tableB it t)]
          · rw [Option.bind_some, allI_all]
            generalize tb.all (tableB it) = b
            cases b <;> rfl
          · intro k hk
            have hm := ht.2 _ (List.getElem_mem hk)
            (try dsimp only)
            rw [if_pos (lt_dec hk), geti_lt' hk, Option.bind_some, l1In_eq, Option.bind_some, specTicket_eq _ (by omega), Option.bind_some, ne_len, specFree_eq hi, wr_succ (n := tb.length) (by omega) hk]
            unfold tableB
            generalize hq : tb[k] = t at hm ⊢
            cases decide (0 ≤ t.1 ∧ t.1 ≤ 31)
            · rfl
            · rw [if_neg (by simp), Option.bind_some]
              cases ticketB t.2.1
              · rfl
              · cases decide (t.2.2.length = t.2.1.length)
                · rfl
                · rw [if_neg (by simp), Option.bind_some]
                  rw [loopList t.2.2 (fun _ v => decide (v ∈ free it t.1))]
                  · rw [Option.bind_some, allI_all]
                    cases (t.2.2.all fun v => decide (v ∈ free it t.1)) <;> rfl
                  · intro j hj
                    (try dsimp only)
                    have hf := free_len it t.1
                    have hxl := hi.1
                    rw [if_pos (lt_dec hj), geti_lt' hj, Option.bind_some, specHas_eq _ _ (by omega), Option.bind_some, wr_succ (n := t.2.2.length) (by omega) hj]
                    cases decide (t.2.2[j] ∈ free it t.1) <;> rfl
                  · (try dsimp only)
                    rw [if_neg (by simp)]
          · (try dsimp only)
            rw [if_neg (by simp)]
        · rw [if_pos (by simp; omega), decide_eq_false h4]; rfl
      · rw [decide_eq_false hc]; rfl
/-! ### what is known of a valid house -/
theorem houseB_items {it : List HItem} {pr st : List Int} {cash : Int} {tb : List HTab} (h : houseB it pr st cash tb = true) : itemsB it = true := by
  unfold houseB pricesB at h
  simp only [Bool.and_eq_true] at h
  exact h.1.1.1.1
theorem houseB_prices {it : List HItem} {pr st : List Int} {cash : Int} {tb : List HTab} (h : houseB it pr st cash tb = true) : pr.length = it.length ∧ ∀ x ∈ pr, 0 ≤ x ∧ x ≤ 20 := by
  unfold houseB pricesB amountsB rangeB at h
  simp only [Bool.and_eq_true, decide_eq_true_eq, beq_iff_eq] at h
  exact ⟨by omega, h.1.1.1.2.1⟩
theorem houseB_cash {it : List HItem} {pr st : List Int} {cash : Int} {tb : List HTab} (h : houseB it pr st cash tb = true) : 0 ≤ cash ∧ cash ≤ 99999 := by
  unfold houseB at h
  simp only [Bool.and_eq_true] at h
  exact of_decide_eq_true h.1.2
theorem houseB_tables {it : List HItem} {pr st : List Int} {cash : Int} {tb : List HTab} (h : houseB it pr st cash tb = true) : tb.length ≤ 4 ∧ ∀ t ∈ tb, tableB it t = true := by
  unfold houseB at h
  simp only [Bool.and_eq_true] at h
  exact ⟨of_decide_eq_true h.2.1, List.all_eq_true.1 h.2.2⟩
theorem tableB_true {it : List HItem} {t : HTab} : tableB it t = true ↔ (0 ≤ t.1 ∧ t.1 ≤ 31) ∧ ticketB t.2.1 = true ∧ t.2.2.length = t.2.1.length ∧ ∀ v ∈ t.2.2, v ∈ free it t.1 := by
  unfold tableB
  simp only [Bool.and_eq_true, decide_eq_true_eq, List.all_eq_true]
  exact ⟨fun h => ⟨h.1.1, h.1.2, h.2.1, h.2.2⟩, fun h => ⟨⟨h.1, h.2.1⟩, h.2.2.1, h.2.2.2⟩⟩
theorem mem_free {it : List HItem} {a v : Int} (h : v ∈ free it a) : itemsB it = true ∧ (0 ≤ a ∧ a ≤ 31) ∧ ∃ k : Nat, k < it.length ∧ v = (k : Int) ∧ isFree it a.toNat k = true := by
  unfold free at h
  split at h
  · rename_i hv
    exact ⟨hv.1, hv.2, mem_freeTo.1 h⟩
  · cases h
/-! ### bills -/
def stateAt (t : HTab) (k : Nat) : Int := match t.2.1[k]? with | some o => o.2 | none => 0
theorem stateAt_lt {t : HTab} {k : Nat} (h : k < t.2.1.length) : stateAt t k = t.2.1[k].2 := by unfold stateAt; rw [List.getElem?_eq_getElem h]
def priceAt (pr : List Int) (t : HTab) (k : Nat) : Int := match t.2.2[k]? with | some d => pr.getD d.toNat 0 | none => 0
def billTo (pr : List Int) (t : HTab) : Nat → Int
  | 0 => 0
  | k + 1 => billTo pr t k + (if stateAt t k == 3 then priceAt pr t k else 0)
def billOf (pr : List Int) (tb : List HTab) (i : Nat) : Int := match tb[i]? with | some t => billTo pr t t.2.1.length | none => 0
theorem billOf_lt {pr : List Int} {tb : List HTab} {i : Nat} (h : i < tb.length) : billOf pr tb i = billTo pr tb[i] tb[i].2.1.length := by unfold billOf; rw [List.getElem?_eq_getElem h]
theorem getD_range {pr : List Int} (h : ∀ x ∈ pr, 0 ≤ x ∧ x ≤ 20) (i : Nat) : 0 ≤ pr.getD i 0 ∧ pr.getD i 0 ≤ 20 := by
  rcases Nat.lt_or_ge i pr.length with hi | hi
  · rw [getD_lt hi]; exact h _ (List.getElem_mem hi)
  · rw [List.getD_eq_getElem?_getD, List.getElem?_eq_none hi]; decide
theorem billTo_range {pr : List Int} (h : ∀ x ∈ pr, 0 ≤ x ∧ x ≤ 20) (t : HTab) : ∀ k : Nat, 0 ≤ billTo pr t k ∧ billTo pr t k ≤ 20 * k
  | 0 => by unfold billTo; omega
  | k + 1 => by
    have ih := billTo_range h t k
    unfold billTo
    have hp : 0 ≤ priceAt pr t k ∧ priceAt pr t k ≤ 20 := by
      unfold priceAt
      split
      · exact getD_range h _
      · decide
    split <;> omega
theorem ticket_len {ps : List (Int × Int)} (h : ticketB ps = true) : ps.length ≤ 6 := by
  unfold ticketB at h; rw [Bool.and_eq_true] at h; exact of_decide_eq_true h.1
theorem billOf_range {it : List HItem} {pr st : List Int} {cash : Int} {tb : List HTab} (h : houseB it pr st cash tb = true) (i : Nat) : 0 ≤ billOf pr tb i ∧ billOf pr tb i ≤ 120 := by
  rcases Nat.lt_or_ge i tb.length with hi | hi
  · rw [billOf_lt hi]
    have h1 := billTo_range (houseB_prices h).2 tb[i] tb[i].2.1.length
    have h2 := ticket_len (tableB_true.1 ((houseB_tables h).2 _ (List.getElem_mem hi))).2.1
    omega
  · unfold billOf; rw [List.getElem?_eq_none hi]; show (0 : Int) ≤ 0 ∧ (0 : Int) ≤ 120; omega
def billZ (it : List HItem) (pr st : List Int) (cash : Int) (tb : List HTab) (p : Int) : Int := if houseB it pr st cash tb = true ∧ 0 ≤ p ∧ p < tb.length then billOf pr tb p.toNat else -1
theorem dish_lt {it : List HItem} {pr st : List Int} {cash : Int} {tb : List HTab} (h : houseB it pr st cash tb = true) {t : HTab} (ht : t ∈ tb) {k : Nat} (hk : k < t.2.2.length) : ∃ d : Nat, t.2.2[k] = (d : Int) ∧ d < pr.length := by
  obtain ⟨_, _, d, h1, h2, _⟩ := mem_free ((tableB_true.1 ((houseB_tables h).2 _ ht)).2.2.2 _ (List.getElem_mem hk))
  exact ⟨d, h2, by rw [(houseB_prices h).1]; exact h1⟩
theorem implBill_eq {it : List HItem} {pr st : List Int} (cash : Int) {tb : List HTab} (h : HouseL it pr st tb) (p : Int) : impl_TableBillS it pr st cash tb p = some (billZ it pr st cash tb p) := by
  unfold impl_TableBillS billZ
  rw [implHouse_eq cash h, Option.bind_some]
  by_cases hv : houseB it pr st cash tb = true ∧ 0 ≤ p ∧ p < tb.length
  · obtain ⟨hH, h0, hp⟩ := hv
    obtain ⟨q, rfl⟩ : ∃ q : Nat, p = q := ⟨p.toNat, by omega⟩
    have hq : q < tb.length := by omega
    rw [hH, if_neg (by simp; omega), if_pos ⟨rfl, h0, hp⟩, geti_lt' hq, Option.bind_some, show ((q : Nat) : Int).toNat = q from rfl, billOf_lt hq]
    have htb := List.getElem_mem hq
    have ht := tableB_true.1 ((houseB_tables hH).2 _ htb)
    have h6 := ticket_len ht.2.1
    rw [loopDet (s := ((0 : Int), (0 : Int))) (fun k => (billTo pr tb[q] k, (k : Int))) tb[q].2.1.length (billTo pr tb[q] tb[q].2.1.length) rfl]
    · rfl
    · intro k hk
      have hkd : k < tb[q].2.2.length := by rw [ht.2.2.1]; exact hk
      obtain ⟨d, hd, hdl⟩ := dish_lt hH htb hkd
      have hr := billTo_range (houseB_prices hH).2 tb[q] (k + 1)
      have hstep : billTo pr tb[q] (k + 1) = billTo pr tb[q] k + (if stateAt tb[q] k == 3 then priceAt pr tb[q] k else 0) := rfl
      (try dsimp only)
      rw [if_pos (lt_dec hk), geti_lt' hk, Option.bind_some, Option.bind_some, geti_lt' hkd, Option.bind_some, hd, geti_getD hdl, Option.bind_some, wr_succ (n := tb[q].2.1.length) (by omega) hk]
      have hpa : priceAt pr tb[q] k = pr.getD d 0 := by
        unfold priceAt; rw [List.getElem?_eq_getElem hkd]; dsimp only; rw [hd]; rfl
      rw [hpa, stateAt_lt hk] at hstep
      cases hs : (tb[q].2.1[k].2 == 3)
      · rw [hs, if_neg (by simp)] at hstep
        rw [if_neg (by simp), hstep, Int.add_zero]
      · rw [hs, if_pos rfl] at hstep
        rw [if_pos rfl, wr (x := billTo pr tb[q] k + pr.getD d 0) ⟨by omega, by omega⟩, hstep]
    · (try dsimp only)
      rw [if_neg (by simp)]
  · rw [if_neg hv, if_pos]
    simp only [Bool.or_eq_true, Bool.not_eq_true', decide_eq_true_eq]
    by_cases hI : houseB it pr st cash tb = true
    · by_cases h0 : p < 0
      · exact .inl (.inr h0)
      · exact .inr (by have : ¬ p < tb.length := fun hp => hv ⟨hI, by omega, hp⟩
                       omega)
    · exact .inl (.inl (by simpa using hI))
theorem specBill_eq {it : List HItem} {pr st : List Int} (cash : Int) {tb : List HTab} (h : HouseL it pr st tb) (p : Int) : spec_TableBillS it pr st cash tb p = some (billZ it pr st cash tb p) := by
  have hlt := h.2.2.2.1
  unfold spec_TableBillS billZ
  rw [specHouse_eq cash h, Option.bind_some, wr (x := (tb.length : Int) - 1) ⟨by omega, by omega⟩, l1In_eq, Option.bind_some]
  by_cases hv : houseB it pr st cash tb = true ∧ 0 ≤ p ∧ p < tb.length
  · obtain ⟨hH, h0, hp⟩ := hv
    obtain ⟨q, rfl⟩ : ∃ q : Nat, p = q := ⟨p.toNat, by omega⟩
    have hq : q < tb.length := by omega
    rw [hH, if_neg (by simp), Option.bind_some, decide_eq_true (show 0 ≤ (q : Int) ∧ (q : Int) ≤ (tb.length : Int) - 1 by omega), if_neg (by simp), if_pos ⟨rfl, h0, hp⟩, show ((q : Nat) : Int).toNat = q from rfl, billOf_lt hq]
    have htb := List.getElem_mem hq
    have ht := tableB_true.1 ((houseB_tables hH).2 _ htb)
    have h6 := ticket_len ht.2.1
    rw [loopDet (s := ((0 : Int), (0 : Int))) (fun k => (billTo pr tb[q] k, (k : Int))) tb[q].2.1.length (billTo pr tb[q] tb[q].2.1.length) rfl]
    · rfl
    · intro k hk
      have hkd : k < tb[q].2.2.length := by rw [ht.2.2.1]; exact hk
      obtain ⟨d, hd, hdl⟩ := dish_lt hH htb hkd
      have hr := billTo_range (houseB_prices hH).2 tb[q] (k + 1)
      have hstep : billTo pr tb[q] (k + 1) = billTo pr tb[q] k + (if stateAt tb[q] k == 3 then priceAt pr tb[q] k else 0) := rfl
      (try dsimp only)
      rw [geti_lt' hq, Option.bind_some, if_pos (lt_dec hk), Option.bind_some, geti_lt' hk, Option.bind_some, Option.bind_some, geti_lt' hkd, Option.bind_some, hd, geti_getD hdl, Option.bind_some, wr_succ (n := tb[q].2.1.length) (by omega) hk]
      have hpa : priceAt pr tb[q] k = pr.getD d 0 := by
        unfold priceAt; rw [List.getElem?_eq_getElem hkd]; dsimp only; rw [hd]; rfl
      rw [hpa, stateAt_lt hk] at hstep
      cases hs : (tb[q].2.1[k].2 == 3)
      · rw [hs, if_neg (by simp)] at hstep
        rw [if_neg (by simp), hstep, Int.add_zero]
      · rw [hs, if_pos rfl] at hstep
        rw [if_pos rfl, wr (x := billTo pr tb[q] k + pr.getD d 0) ⟨by omega, by omega⟩, hstep]
    · (try dsimp only)
      rw [geti_lt' hq, Option.bind_some, if_neg (by simp)]
  · rw [if_neg hv]
    by_cases hI : houseB it pr st cash tb = true
    · rw [hI, if_neg (by simp), Option.bind_some, decide_eq_false (show ¬ (0 ≤ p ∧ p ≤ (tb.length : Int) - 1) from fun hp => hv ⟨hI, hp.1, by omega⟩)]; rfl
    · rw [Bool.not_eq_true] at hI
      rw [hI]; rfl
/-! ### what a house is worth -/
def worthTo (pr : List Int) (cash : Int) (tb : List HTab) : Nat → Int
  | 0 => cash
  | k + 1 => worthTo pr cash tb k + billOf pr tb k
theorem worthTo_range {it : List HItem} {pr st : List Int} {cash : Int} {tb : List HTab} (h : houseB it pr st cash tb = true) : ∀ k : Nat, cash ≤ worthTo pr cash tb k ∧ worthTo pr cash tb k ≤ cash + 120 * k
  | 0 => by unfold worthTo; omega
  | k + 1 => by
    have ih := worthTo_range h k
    have := billOf_range h k
    unfold worthTo; omega
def worthZ (it : List HItem) (pr st : List Int) (cash : Int) (tb : List HTab) : Int := if houseB it pr st cash tb = true then worthTo pr cash tb tb.length else -1
theorem billZ_at {it : List HItem} {pr st : List Int} {cash : Int} {tb : List HTab} (h : houseB it pr st cash tb = true) {k : Nat} (hk : k < tb.length) : billZ it pr st cash tb (k : Int) = billOf pr tb k := by
  unfold billZ; rw [if_pos ⟨h, by omega, by omega⟩]; rfl
theorem implWorth_eq {it : List HItem} {pr st : List Int} (cash : Int) {tb : List HTab} (h : HouseL it pr st tb) : impl_HouseWorthS it pr st cash tb = some (worthZ it pr st cash tb) := by
  have hlt := h.2.2.2.1
  unfold impl_HouseWorthS worthZ
  rw [implHouse_eq cash h, Option.bind_some]
  cases hH : houseB it pr st cash tb
  · rfl
  · rw [if_neg (by simp), if_pos rfl, loopDet (s := (cash, (0 : Int))) (fun k => (worthTo pr cash tb k, (k : Int))) tb.length (worthTo pr cash tb tb.length) rfl]
    · rfl
    · intro k hk
      have hr := worthTo_range hH (k + 1)
      have hc := houseB_cash hH
      have hstep : worthTo pr cash tb (k + 1) = worthTo pr cash tb k + billOf pr tb k := rfl
      (try dsimp only)
      rw [if_pos (lt_dec hk), implBill_eq cash h, Option.bind_some, billZ_at hH hk, wr (x := worthTo pr cash tb k + billOf pr tb k) ⟨by omega, by omega⟩, wr_succ (n := tb.length) (by omega) hk, hstep]
    · (try dsimp only)
      rw [if_neg (by simp)]
theorem specWorth_eq {it : List HItem} {pr st : List Int} (cash : Int) {tb : List HTab} (h : HouseL it pr st tb) : spec_HouseWorthS it pr st cash tb = some (worthZ it pr st cash tb) := by
  have hlt := h.2.2.2.1
  unfold spec_HouseWorthS worthZ
  rw [specHouse_eq cash h, Option.bind_some]
  cases hH : houseB it pr st cash tb
  · rfl
  · rw [if_neg (by simp), if_pos rfl, loopDet (s := (cash, (0 : Int))) (fun k => (worthTo pr cash tb k, (k : Int))) tb.length (worthTo pr cash tb tb.length) rfl]
    · rfl
    · intro k hk
      have hr := worthTo_range hH (k + 1)
      have hc := houseB_cash hH
      have hstep : worthTo pr cash tb (k + 1) = worthTo pr cash tb k + billOf pr tb k := rfl
      (try dsimp only)
      rw [if_pos (lt_dec hk), specBill_eq cash h, Option.bind_some, billZ_at hH hk, wr (x := worthTo pr cash tb k + billOf pr tb k) ⟨by omega, by omega⟩, wr_succ (n := tb.length) (by omega) hk, hstep]
    · (try dsimp only)
      rw [if_neg (by simp)]
end Go.Proofs.YthofjabphcheeaaDoor
