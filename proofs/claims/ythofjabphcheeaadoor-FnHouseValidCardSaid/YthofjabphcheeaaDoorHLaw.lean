/- The laws of valid houses, bills and worth, of a drawn house. Own work; no program in sight. -/
import Derived.Test.YthofjabphcheeaaDoorDrawH
set_option linter.unusedVariables false
namespace Go.Proofs.YthofjabphcheeaaDoor
open Go Go.RowKit
theorem apart {it : List HItem} {pr st : List Int} {cash : Int} {tb : List HTab} (hv : houseB it pr st cash tb = true) {t : HTab} (ht : t ∈ tb) {v : Int} (hvm : v ∈ t.2.2) : ∃ m a : Nat, marksZ it v = (m : Int) ∧ m < 9223372036854775808 ∧ t.1 = (a : Int) ∧ a < 32 ∧ m &&& a = 0 := by
  obtain ⟨h1, h2, h3, h4⟩ := tableB_true.1 ((houseB_tables hv).2 t ht)
  obtain ⟨hI, _, k, hk, rfl, hf⟩ := mem_free (h4 v hvm)
  unfold isFree at hf
  rw [Bool.and_eq_true, beq_iff_eq] at hf
  refine ⟨marksN it k, t.1.toNat, marksZ_at hI hk, ?_, by omega, by omega, by have := hf.2; omega⟩
  have := marksN_lt hI k
  omega
theorem house_bare {it : List HItem} {pr st : List Int} {cash : Int} {tb : List HTab} (hv : houseB it pr st cash tb = true) : houseB it pr st cash [] = true := by
  unfold houseB at hv ⊢
  rw [Bool.and_eq_true] at hv ⊢
  exact ⟨hv.1, rfl⟩
theorem drawn {x : List Int} (hw : ∀ n ∈ x, InK .u8 n) (n : Int) {β : Type} {f : Int × HH → Option β} {Q : β → Prop} (hf : ∀ r, 0 ≤ r.1 ∧ r.1 ≤ 1000 ∧ SmallH 100 r.2 → Ret (f r) Q) {g : List Int × Int → Option β} (hg : ∀ r : List Int × Int, By r.1 → r.2 = 0 → g r = (spec_l20HouseS r.1 r.2 n).bind f) : Ret ((spec_l20OpenS x).bind g) Q := by
  refine Ret.bind (open_spec x (u8_of hw)) (fun r hr => ?_)
  rw [hg r hr.1 hr.2]
  refine Ret.bind (house_ret hr.1 (by omega) (by omega)) (fun h hh => hf h ⟨by omega, by omega, hh.2.2⟩)
theorem pl_FnHouseValid (x : List Int) (hw : ∀ n ∈ x, InK .u8 n) : laws_FnHouseValidS x = some true := by
  unfold laws_FnHouseValidS
  by_cases hl : (x.length : Int) > 1048576
  · rw [if_pos (by simp; omega)]
  rw [if_neg (by simp; omega)]
  obtain ⟨h, hd, hs⟩ : ∃ h, spec_DrawHouseValidS x = some h ∧ SmallH 100 h := by
    unfold spec_DrawHouseValidS
    exact drawn hw 2 (fun r hr => Ret.pure hr.2.2) (fun r _ _ => rfl)
  obtain ⟨it, pr, st, cash, tb⟩ := h
  obtain ⟨hL, -, -, -, htl⟩ := hs
  replace hL : HouseL it pr st tb := hL
  replace htl : tb.length ≤ 100 := htl
  rw [hd, Option.bind_some]
  dsimp only
  rw [implHouse_eq cash hL, Option.bind_some, specHouse_eq cash hL, Option.bind_some, if_neg (by simp)]
  cases hv : houseB it pr st cash tb with
  | false => rfl
  | true =>
    rw [if_neg (by simp), loopList tb (fun _ _ => true)]
    · rw [show allI tb (fun _ _ => true) = true from allI_true.2 fun _ _ => rfl, if_pos rfl, Option.bind_some]
      dsimp only
      have hL0 : HouseL it pr st [] := ⟨hL.1, hL.2.1, hL.2.2.1, by simp, fun t ht => by cases ht⟩
      rw [implHouse_eq cash hL0, house_bare hv]; rfl
    · intro k hk
      have ht := List.getElem_mem hk
      have hlen := (hL.2.2.2.2 _ ht).2
      (try dsimp only)
      rw [if_pos (lt_dec hk), loopList tb[k].2.2 (fun _ _ => true)]
      · rw [show allI tb[k].2.2 (fun _ _ => true) = true from allI_true.2 fun _ _ => rfl, if_pos rfl, Option.bind_some]
        dsimp only
        rw [wr_succ (n := tb.length) (by omega) hk]; rfl
      · intro j hj
        obtain ⟨m, a, hm, hm63, ha, ha5, hma⟩ := apart hv ht (List.getElem_mem hj)
        (try dsimp only)
        rw [geti_lt' hk, Option.bind_some, if_pos (lt_dec hj), Option.bind_some, geti_lt' hj, Option.bind_some, implMarks_eq hL.1, Option.bind_some, hm, loopAllF (s := (0 : Int)) (fun i => (i : Int)) 5 (fun _ => true) rfl]
        · rw [if_pos (by decide), Option.bind_some]
          dsimp only
          rw [wr_succ (n := tb[k].2.2.length) (by omega) hj]; rfl
        · intro i hi _
          (try dsimp only)
          rw [if_pos (decide_eq_true (by omega)), if_neg (by simp), ishrO_nat hm63, Option.bind_some, shr_bit, wr_succ (n := 5) (by omega) hi]
          cases hb : m.testBit i with
          | false => rfl
          | true =>
            have h0 : (m &&& a).testBit i = false := by rw [hma]; simp
            rw [Nat.testBit_and, hb, Bool.true_and] at h0
            rw [if_pos rfl, Option.bind_some]
            (try dsimp only)
            rw [ha, ishrO_nat (by omega), Option.bind_some, shr_bit, h0]; rfl
        · intro _
          (try dsimp only)
          rw [if_neg (by simp)]
      · (try dsimp only)
        rw [geti_lt' hk, Option.bind_some, if_neg (by simp)]
    · (try dsimp only)
      rw [if_neg (by simp)]
/-! ### bills -/
def sumTo (pr : List Int) (t : HTab) : Nat → Int
  | 0 => 0
  | k + 1 => sumTo pr t k + priceAt pr t k
def someTo (t : HTab) : Nat → Bool
  | 0 => false
  | k + 1 => someTo t k || (stateAt t k == 3)
theorem priceAt_range {pr : List Int} (h : ∀ x ∈ pr, 0 ≤ x ∧ x ≤ 20) (t : HTab) (k : Nat) : 0 ≤ priceAt pr t k ∧ priceAt pr t k ≤ 20 := by
  unfold priceAt
  split
  · exact getD_range h _
  · decide
theorem sumTo_range {pr : List Int} (h : ∀ x ∈ pr, 0 ≤ x ∧ x ≤ 20) (t : HTab) : ∀ k : Nat, 0 ≤ sumTo pr t k ∧ sumTo pr t k ≤ 20 * k
  | 0 => by unfold sumTo; omega
  | k + 1 => by
    have := sumTo_range h t k
    have := priceAt_range h t k
    unfold sumTo; omega
theorem bill_le {pr : List Int} (h : ∀ x ∈ pr, 0 ≤ x ∧ x ≤ 20) (t : HTab) : ∀ k : Nat, billTo pr t k ≤ sumTo pr t k
  | 0 => by unfold billTo sumTo; omega
  | k + 1 => by
    have := bill_le h t k
    have := priceAt_range h t k
    unfold billTo sumTo
    split <;> omega
theorem bill_none (pr : List Int) (t : HTab) : ∀ k : Nat, someTo t k = false → billTo pr t k = 0
  | 0, _ => rfl
  | k + 1, h => by
    unfold someTo at h
    rw [Bool.or_eq_false_iff] at h
    unfold billTo
    rw [bill_none pr t k h.1, if_neg (by rw [h.2]; simp)]; rfl
theorem pl_FnTableBill (x : List Int) (hw : ∀ n ∈ x, InK .u8 n) : laws_FnTableBillS x = some true := by
  unfold laws_FnTableBillS
  by_cases hl : (x.length : Int) > 1048576
  · rw [if_pos (by simp; omega)]
  rw [if_neg (by simp; omega)]
  obtain ⟨⟨h, p⟩, hd, hs⟩ : ∃ h : HH × Int, spec_DrawTableBillS x = some h ∧ SmallH 100 h.1 := by
    unfold spec_DrawTableBillS
    refine Ret.bind (open_spec x (u8_of hw)) (fun r hr => ?_)
    refine Ret.bind (house_ret hr.1 (by omega) (by omega)) (fun h hh => ?_)
    refine Ret.bind (pick_ret hr.1 (by omega) (by omega)) (fun r2 hr2 => ?_)
    refine Ret.bind (pick_ret hr.1 (by omega) (by omega)) (fun r3 hr3 => ?_)
    exact Ret.pure hh.2.2
  obtain ⟨it, pr, st, cash, tb⟩ := h
  obtain ⟨hL, -, -, -, htl⟩ := hs
  replace hL : HouseL it pr st tb := hL
  rw [hd, Option.bind_some]
  dsimp only
  rw [implBill_eq cash hL, Option.bind_some, specBill_eq cash hL, Option.bind_some, if_neg (by simp)]
  by_cases hv : houseB it pr st cash tb = true ∧ 0 ≤ p ∧ p < tb.length
  · obtain ⟨hH, h0, hp⟩ := hv
    obtain ⟨q, rfl⟩ : ∃ q : Nat, p = q := ⟨p.toNat, by omega⟩
    have hq : q < tb.length := by omega
    have hb0 := billOf_range hH q
    rw [billZ_at hH hq, if_neg (by simp; omega), billOf_lt hq]
    have htb := List.getElem_mem hq
    have ht := tableB_true.1 ((houseB_tables hH).2 _ htb)
    have h6 := ticket_len ht.2.1
    have hpr := (houseB_prices hH).2
    rw [loopDet (s := ((0 : Int), false, (0 : Int))) (fun k => (sumTo pr tb[q] k, someTo tb[q] k, (k : Int))) tb[q].2.1.length (sumTo pr tb[q] tb[q].2.1.length, someTo tb[q] tb[q].2.1.length) rfl]
    · rw [Option.bind_some]
      dsimp only
      rw [decide_eq_true (bill_le hpr tb[q] _), Bool.true_and]
      cases hs : someTo tb[q] tb[q].2.1.length with
      | true => rfl
      | false => rw [bill_none pr tb[q] _ hs]; rfl
    · intro k hk
      have hkd : k < tb[q].2.2.length := by rw [ht.2.2.1]; exact hk
      obtain ⟨d, hdd, hdl⟩ := dish_lt hH htb hkd
      have hr := sumTo_range hpr tb[q] (k + 1)
      have hstep : sumTo pr tb[q] (k + 1) = sumTo pr tb[q] k + priceAt pr tb[q] k := rfl
      have hpa : priceAt pr tb[q] k = pr.getD d 0 := by
        unfold priceAt; rw [List.getElem?_eq_getElem hkd]; dsimp only; rw [hdd]; rfl
      have hsm : someTo tb[q] (k + 1) = (someTo tb[q] k || (tb[q].2.1[k].2 == 3)) := by
        show (someTo tb[q] k || (stateAt tb[q] k == 3)) = _
        rw [stateAt_lt hk]
      (try dsimp only)
      rw [geti_lt' hq, Option.bind_some, if_pos (lt_dec hk), Option.bind_some, geti_lt' hkd, Option.bind_some, hdd, geti_getD hdl, Option.bind_some, Option.bind_some, geti_lt' hk, Option.bind_some, wr_succ (n := tb[q].2.1.length) (by omega) hk, ← hpa, ← hstep, wr (x := sumTo pr tb[q] (k + 1)) ⟨by omega, by omega⟩, hsm]
      cases someTo tb[q] k <;> rfl
    · (try dsimp only)
      rw [geti_lt' hq, Option.bind_some, if_neg (by simp)]
  · have hz : billZ it pr st cash tb p = -1 := by unfold billZ; rw [if_neg hv]
    rw [hz]; rfl
theorem pl_FnHouseWorth (x : List Int) (hw : ∀ n ∈ x, InK .u8 n) : laws_FnHouseWorthS x = some true := by
  unfold laws_FnHouseWorthS
  by_cases hl : (x.length : Int) > 1048576
  · rw [if_pos (by simp; omega)]
  rw [if_neg (by simp; omega)]
  obtain ⟨h, hd, hs⟩ : ∃ h, spec_DrawHouseWorthS x = some h ∧ SmallH 100 h := by
    unfold spec_DrawHouseWorthS
    exact drawn hw 9 (fun r hr => Ret.pure hr.2.2) (fun r _ _ => rfl)
  obtain ⟨it, pr, st, cash, tb⟩ := h
  obtain ⟨hL, -, -, -, htl⟩ := hs
  replace hL : HouseL it pr st tb := hL
  rw [hd, Option.bind_some]
  dsimp only
  rw [implWorth_eq cash hL, Option.bind_some, specWorth_eq cash hL, Option.bind_some, if_neg (by simp), implHouse_eq cash hL]
  cases hv : houseB it pr st cash tb with
  | false =>
    have hz : worthZ it pr st cash tb = -1 := by unfold worthZ; rw [hv]; rfl
    rw [hz]; rfl
  | true =>
    have hz : worthZ it pr st cash tb = worthTo pr cash tb tb.length := by unfold worthZ; rw [if_pos hv]
    have hr := worthTo_range hv tb.length
    have hc := houseB_cash hv
    rw [hz, if_neg (by simp; omega), decide_eq_true (by omega), Bool.true_and]
    cases tb with
    | nil => simp [worthTo]
    | cons t ts => simp
end Go.Proofs.YthofjabphcheeaaDoor
