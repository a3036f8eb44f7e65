/- What a deed that is done changes, and what it keeps. Own work; no program in sight. -/
import Derived.Test.YtpabogkcmbkffaaGreatDoorMade
set_option linter.unusedVariables false
namespace Go.Proofs.YtpabogkcmbkffaaGreatDoor
open Go Go.RowKit
theorem set_ne {l : List Int} {i : Nat} {x : Int} (hi : i < l.length) (h : x ≠ l[i]) : l.set i x ≠ l := fun e => by
  have : (l.set i x)[i]'(by rw [List.length_set]; exact hi) = l[i] := by simp only [e]
  rw [List.getElem_set_self] at this
  exact h this
theorem setTk_ne {ks : List Tick} {i j : Nat} (hi : i < ks.length) (hj : j < ks[i].length) {s : Int} (h : ks[i][j].2 ≠ s) : setTk ks i j s ≠ ks := fun e => by
  rw [setTk_at hi hj] at e
  have h1 : (ks.set i (ks[i].set j (ks[i][j].1, s)))[i]'(by rw [List.length_set]; exact hi) = ks[i] := by simp only [e]
  rw [List.getElem_set_self] at h1
  have h2 : (ks[i].set j (ks[i][j].1, s))[j]'(by rw [List.length_set]; exact hj) = ks[i][j] := by simp only [h1]
  rw [List.getElem_set_self] at h2
  exact h (by rw [← h2])
theorem tdo_fire0 {t : Tick} {j : Nat} (hj : j < t.length) (h : (tdo t (j : Int) 0).2 = true) : t[j].2 = 0 := by
  unfold tdo at h
  split at h
  · rw [geti_lt' hj] at h
    dsimp only at h
    cases hn : nextS t[j].2 0 with
    | none => rw [hn] at h; cases h
    | some r =>
      unfold nextS at hn
      by_cases h0 : t[j].2 = 0
      · exact h0
      · simp [h0] at hn
  · cases h
theorem stepK_ne {ks : List Tick} (h : (stepK ks).2 = true) : (stepK ks).1 ≠ ks := by
  have hk := stepK_ok h
  unfold stepK at h ⊢
  rw [if_pos hk] at h ⊢
  cases h2 : kitF ks 2 with
  | some p =>
    obtain ⟨i, j⟩ := p
    obtain ⟨hi, hj, hs⟩ := kitF_some h2
    exact setTk_ne hi hj (by rw [hs]; decide)
  | none =>
    rw [h2] at h
    dsimp only at h ⊢
    cases h1 : kitF ks 1 with
    | some p =>
      obtain ⟨i, j⟩ := p
      obtain ⟨hi, hj, hs⟩ := kitF_some h1
      exact setTk_ne hi hj (by rw [hs]; decide)
    | none =>
      rw [h1] at h
      dsimp only at h ⊢
      by_cases hf : (fireZ ks).1 < 0
      · rw [if_pos hf] at h; cases h
      · rw [if_neg hf]
        obtain ⟨i, j, hi, hj, he, ht⟩ := fire_at hf
        have h0 := tdo_fire0 hj (by rw [ht])
        rw [he]
        exact setTk_ne hi hj (by rw [h0]; decide)
theorem putTo_ticks (tb : List HTab) (ks : List Tick) (hl : ks.length = tb.length) : ∀ k, k ≤ tb.length → ticksOf (putTo tb ks k) = ks.take k ++ (ticksOf tb).drop k
  | 0, _ => by simp [putTo]
  | k + 1, hk => by
    have ih := putTo_ticks tb ks hl k (by omega)
    have h1 : k < tb.length := by omega
    have h2 : k < ks.length := by omega
    unfold putTo
    rw [List.getElem?_eq_getElem h1, List.getElem?_eq_getElem h2]
    dsimp only
    have e : ticksOf ((putTo tb ks k).set k (tb[k].1, ks[k], tb[k].2.2)) = (ticksOf (putTo tb ks k)).set k ks[k] := by
      unfold ticksOf; rw [List.map_set]
    have hd : k < (ticksOf tb).length := by simp [ticksOf]; exact h1
    rw [e, ih, List.take_succ_eq_append_getElem h2, List.drop_eq_getElem_cons hd, List.set_append_right _ _ (by simp; omega), show k - (ks.take k).length = 0 by simp; omega, List.set_cons_zero, List.append_assoc]
    rfl
theorem putTo_all (tb : List HTab) (ks : List Tick) (hl : ks.length = tb.length) : ticksOf (putTo tb ks tb.length) = ks := by
  rw [putTo_ticks tb ks hl _ (Nat.le_refl _), List.take_of_length_le (by omega), List.drop_of_length_le (by simp [ticksOf])]; simp
theorem make_ne {it : List HItem} {st : List Int} (hI : itemsB it = true) (hs : st.length = it.length) {k : Nat} (hk : k < it.length) {c : Int} (hc : 1 ≤ c) (hy : it[k].1 > 0) : madeOf it st k c ≠ st := fun e => by
  have hpart := itemsB_part hI hk
  have hks : k < st.length := by omega
  rw [madeOf_lt hk, subP_keep c it[k].2.1 st k fun x hx => by have := hpart x hx; omega] at e
  have hl : k < (subP c it[k].2.1 st).length := by rw [subP_len]; exact hks
  have h1 : ((subP c it[k].2.1 st).set k (st.getD k 0 + c * it[k].1))[k]'(by rw [List.length_set]; exact hl) = st[k] := by simp only [e]
  rw [List.getElem_set_self, getD_lt hks] at h1
  have : 1 * 1 ≤ c * it[k].1 := Int.mul_le_mul hc (by omega) (by omega) (by omega)
  omega
/-! ### bills together -/
def billT (pr : List Int) (t : HTab) : Int := billTo pr t t.2.1.length
def billsOf (pr : List Int) : List HTab → Int
  | [] => 0
  | t :: ts => billT pr t + billsOf pr ts
theorem bills_app (pr : List Int) : ∀ a b : List HTab, billsOf pr (a ++ b) = billsOf pr a + billsOf pr b
  | [], b => by simp [billsOf]
  | t :: a, b => by
    show billT pr t + billsOf pr (a ++ b) = billT pr t + billsOf pr a + billsOf pr b
    rw [bills_app pr a b]; omega
theorem worthTo_eq (pr : List Int) (cash : Int) (tb : List HTab) : ∀ k, k ≤ tb.length → worthTo pr cash tb k = cash + billsOf pr (tb.take k)
  | 0, _ => by simp [worthTo, billsOf]
  | k + 1, hk => by
    have hk' : k < tb.length := by omega
    show worthTo pr cash tb k + billOf pr tb k = _
    rw [worthTo_eq pr cash tb k (by omega), List.take_succ_eq_append_getElem hk', bills_app, billOf_lt hk']
    show _ = cash + (_ + (billT pr tb[k] + 0))
    unfold billT; omega
theorem worth_all (pr : List Int) (cash : Int) (tb : List HTab) : worthTo pr cash tb tb.length = cash + billsOf pr tb := by
  rw [worthTo_eq pr cash tb _ (Nat.le_refl _), List.take_of_length_le (Nat.le_refl _)]
section
variable {it : List HItem} {pr st : List Int} {cash : Int} {tb : List HTab}
theorem close_at {b : Int} {e : EE} (h : closeE it pr st cash tb b = some e) : ∃ k : Nat, ∃ hk : k < tb.length, b = (k : Int) ∧ doneB tb[k].2.1 = true ∧ e = (st, cash + billZ it pr st cash tb (k : Int), tb.take k ++ tb.drop (k + 1)) := by
  unfold closeE at h
  by_cases hb : 0 ≤ b ∧ b < (tb.length : Int)
  · obtain ⟨k, hk, rfl, hg⟩ := geti_some hb
    rw [hg] at h
    dsimp only at h
    split at h
    · rename_i hd
      exact ⟨k, hk, rfl, hd, (Option.some.inj h).symm⟩
    · cases h
  · rw [geti_out hb] at h; cases h
theorem close_worth (hv : houseB it pr st cash tb = true) {b : Int} {e : EE} (h : closeE it pr st cash tb b = some e) : worthTo pr e.2.1 e.2.2 e.2.2.length = worthTo pr cash tb tb.length ∧ cash ≤ e.2.1 ∧ e.2.2.length + 1 = tb.length := by
  obtain ⟨k, hk, rfl, _, rfl⟩ := close_at h
  have h0 := (bill_small hv hk).1
  rw [billZ_at hv hk] at h0 ⊢
  have hs : tb = tb.take k ++ tb[k] :: tb.drop (k + 1) := by rw [← List.drop_eq_getElem_cons hk, List.take_append_drop]
  refine ⟨?_, by show cash ≤ cash + _; omega, by simp; omega⟩
  rw [worth_all, worth_all, bills_app]
  conv => rhs; rw [hs]
  rw [bills_app, billOf_lt hk]
  show cash + billTo pr tb[k] tb[k].2.1.length + _ = cash + (_ + (billT pr tb[k] + _))
  unfold billT; omega
theorem eff_other (hL : HouseL it pr st tb) (hv : houseB it pr st cash tb = true) {a b c d : Int} {e : EE} (he : effZ it pr st cash tb a b c d = some e) :
    (e.1, e.2.1, e.2.2) ≠ (st, cash, tb) ∧ (a = 0 ∨ cash ≤ e.2.1) ∧ (a = 5 → worthTo pr e.2.1 e.2.2 e.2.2.length = worthTo pr cash tb tb.length) := by
  have hI := houseB_items hv
  obtain ⟨hs, hsr⟩ := houseB_stock hv
  unfold effZ at he
  by_cases a0 : a = 0
  · rw [if_pos a0] at he
    refine ⟨fun h => ?_, .inl a0, fun h => by omega⟩
    unfold buyE at he
    by_cases hb : 0 ≤ b ∧ b < (it.length : Int)
    · obtain ⟨k, rfl, hk⟩ := in_nat hb
      have hks : k < st.length := by omega
      have hkp : k < pr.length := by rw [(houseB_prices hv).1]; exact hk
      rw [geti_lt' hk, geti_lt' hks, geti_lt' hkp] at he
      dsimp only at he
      split at he
      · rename_i hc
        obtain rfl := Option.some.inj he
        have h1 : st.set ((k : Int)).toNat (st[k] + c) = st := (Prod.mk.inj h).1
        exact set_ne hks (by omega) h1
      · cases he
    · rw [geti_out hb] at he; cases he
  rw [if_neg a0] at he
  by_cases a1 : a = 1
  · rw [if_pos a1] at he
    obtain ⟨e1, e2, hb, hc, hr, e3⟩ := makeE_some he
    refine ⟨fun h => ?_, .inr (by omega), fun h => by omega⟩
    obtain ⟨k, rfl, hk⟩ := in_nat hb
    have hy : it[k].1 > 0 := by
      unfold makeE at he
      rw [geti_lt' hk] at he
      dsimp only at he
      split at he
      · rename_i hh; exact hh.1
      · cases he
    obtain ⟨r, h1, h2⟩ := made_run (st := st) hL.1 hI (amounts_of hs hsr) hk hc hy
    have hz : runZ it st (k : Int) c = r := by unfold runZ; rw [show Int.toNat (k : Int) = k from rfl, h1]; rfl
    rw [hz] at hr e3
    have h3 := h2 hr
    have h4 : e.1 = st := (Prod.mk.inj h).1
    exact make_ne hI hs hk hc.1 hy (by rw [← h3, ← e3, h4])
  rw [if_neg a1] at he
  by_cases a2 : a = 2
  · rw [if_pos a2] at he
    obtain rfl := Option.some.inj he
    refine ⟨fun h => ?_, .inr (by show cash ≤ cash; omega), fun h => by omega⟩
    have h1 : tb ++ [(b, [], [])] = tb := (Prod.mk.inj (Prod.mk.inj h).2).2
    have := congrArg List.length h1
    simp at this
  rw [if_neg a2] at he
  by_cases a3 : a = 3
  · rw [if_pos a3] at he
    have e1 := (orderE_some he).1
    refine ⟨fun h => ?_, .inr (by omega), fun h => by omega⟩
    unfold orderE at he
    split at he
    · rename_i t s ht hst
      split at he
      · rename_i hc
        obtain rfl := Option.some.inj he
        have hci := free_idx hc.1
        obtain ⟨k, rfl, hk⟩ := in_nat hci
        have hks : k < st.length := by omega
        rw [geti_lt' hks] at hst
        have hss := Option.some.inj hst
        have h1 : st.set ((k : Int)).toNat (s - 1) = st := (Prod.mk.inj h).1
        exact set_ne hks (by omega) h1
      · cases he
    · cases he
  rw [if_neg a3] at he
  by_cases a4 : a = 4
  · rw [if_pos a4] at he
    have e1 := workE_some he
    have hk : (stepK (ticksOf tb)).2 = true := by
      unfold workE at he
      split at he
      · assumption
      · cases he
    subst e1
    refine ⟨fun h => ?_, .inr (by show cash ≤ cash; omega), fun h => by omega⟩
    have h1 : putTo tb (stepK (ticksOf tb)).1 tb.length = tb := (Prod.mk.inj (Prod.mk.inj h).2).2
    have h2 := putTo_all tb (stepK (ticksOf tb)).1 (by rw [stepK_len hk]; simp [ticksOf])
    rw [h1] at h2
    exact stepK_ne hk h2.symm
  rw [if_neg a4] at he
  by_cases a5 : a = 5
  · rw [if_pos a5] at he
    obtain ⟨h1, h2, h3⟩ := close_worth hv he
    refine ⟨fun h => ?_, .inr h2, fun _ => h1⟩
    have h4 : e.2.2 = tb := (Prod.mk.inj (Prod.mk.inj h).2).2
    rw [h4] at h3; omega
  · rw [if_neg a5] at he; cases he
end
end Go.Proofs.YtpabogkcmbkffaaGreatDoor
