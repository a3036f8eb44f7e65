/- The stock that deeds leave, and deeds in two parts. Own work; no program in sight. -/
import Derived.Test.YtpabogkcmbkffaaGreatDoorDoLaw
set_option linter.unusedVariables false
namespace Go.Proofs.YtpabogkcmbkffaaGreatDoor
open Go Go.RowKit
theorem subP_set (c : Int) (v : Int) {k : Nat} : ∀ (ps : List (Int × Int)) (l : List Int), (∀ p ∈ ps, p.1.toNat ≠ k) → subP c ps (l.set k v) = (subP c ps l).set k v
  | [], l, _ => rfl
  | p :: ps, l, h => by
    have hp := h p (by simp)
    have e : (l.set k v).set p.1.toNat ((l.set k v).getD p.1.toNat 0 - c * p.2) = (l.set p.1.toNat (l.getD p.1.toNat 0 - c * p.2)).set k v := by
      rw [List.getD_eq_getElem?_getD, List.getElem?_set_ne (Ne.symm hp), ← List.getD_eq_getElem?_getD, List.set_comm _ _ (Ne.symm hp)]
    show subP c ps ((l.set k v).set p.1.toNat ((l.set k v).getD p.1.toNat 0 - c * p.2)) = (subP c ps (l.set p.1.toNat (l.getD p.1.toNat 0 - c * p.2))).set k v
    rw [e, subP_set c v ps _ fun x hx => h x (by simp [hx])]
def stockOf (it : List HItem) (st : List Int) (a b c : Int) : List Int :=
  if a = 0 then st.set b.toNat (st.getD b.toNat 0 + c)
  else if a = 1 then (match it[b.toNat]? with | some x => subP c x.2.1 (st.set b.toNat (st.getD b.toNat 0 + c * x.1)) | none => st)
  else if a = 3 then st.set c.toNat (st.getD c.toNat 0 - 1) else st
section
variable {it : List HItem} {pr st : List Int} {cash : Int} {tb : List HTab}
theorem eff_stock (hL : HouseL it pr st tb) (hv : houseB it pr st cash tb = true) {a b c d : Int} {e : EE} (he : effZ it pr st cash tb a b c d = some e) :
    e.1 = stockOf it st a b c ∧ (a ≤ 1 → 0 ≤ b ∧ b < (it.length : Int)) ∧ (a = 3 → 0 ≤ c ∧ c < (it.length : Int)) ∧ (a = 0 ∨ a = 1 ∨ a = 2 ∨ a = 3 ∨ a = 4 ∨ a = 5) ∧ (a = 1 → 1 ≤ c ∧ c ≤ 50) := by
  have hI := houseB_items hv
  obtain ⟨hs, hsr⟩ := houseB_stock hv
  unfold effZ at he
  unfold stockOf
  by_cases a0 : a = 0
  · rw [if_pos a0] at he
    rw [if_pos a0]
    unfold buyE at he
    by_cases hb : 0 ≤ b ∧ b < (it.length : Int)
    · refine ⟨?_, fun _ => hb, fun h => by omega, .inl a0, fun h => by omega⟩
      obtain ⟨k, rfl, hk⟩ := in_nat hb
      have hks : k < st.length := by omega
      have hkp : k < pr.length := by rw [(houseB_prices hv).1]; exact hk
      rw [geti_lt' hk, geti_lt' hks, geti_lt' hkp] at he
      dsimp only at he
      split at he
      · obtain rfl := Option.some.inj he
        show st.set ((k : Int)).toNat (st[k] + c) = _
        rw [show ((k : Int)).toNat = k from rfl, getD_lt hks]
      · cases he
    · rw [geti_out hb] at he; cases he
  rw [if_neg a0] at he ⊢
  by_cases a1 : a = 1
  · rw [if_pos a1] at he
    rw [if_pos a1]
    obtain ⟨e1, e2, hb, hc, hr, e3⟩ := makeE_some he
    refine ⟨?_, fun _ => hb, fun h => by omega, .inr (.inl a1), fun _ => hc⟩
    obtain ⟨k, rfl, hk⟩ := in_nat hb
    have hy : it[k].1 > 0 := by
      unfold makeE at he
      rw [geti_lt' hk] at he
      dsimp only at he
      split at he
      · rename_i hh; exact hh.1
      · cases he
    obtain ⟨r, h1, h2⟩ := made_run (st := st) hL.1 hI (amounts_of hs hsr) hk hc hy
    have hz : runZ it st (k : Int) c = r := by unfold runZ; rw [show Int.toNat (k : Int) = k from rfl, h1]; rfl
    rw [hz] at hr e3
    have hpart := itemsB_part hI hk
    have hno : ∀ p ∈ it[k].2.1, p.1.toNat ≠ k := fun x hx => by have := hpart x hx; omega
    rw [e3, h2 hr, madeOf_lt hk, show ((k : Int)).toNat = k from rfl, List.getElem?_eq_getElem hk]
    dsimp only
    rw [subP_set c _ _ _ hno, subP_keep c it[k].2.1 st k hno]
  rw [if_neg a1] at he ⊢
  by_cases a2 : a = 2
  · rw [if_pos a2] at he
    rw [if_neg (by omega)]
    obtain rfl := Option.some.inj he
    exact ⟨rfl, fun h => by omega, fun h => by omega, .inr (.inr (.inl a2)), fun h => by omega⟩
  rw [if_neg a2] at he
  by_cases a3 : a = 3
  · rw [if_pos a3] at he
    rw [if_pos a3]
    unfold orderE at he
    split at he
    · rename_i t s ht hst
      split at he
      · rename_i hc
        obtain rfl := Option.some.inj he
        have hci := free_idx hc.1
        refine ⟨?_, fun h => by omega, fun _ => hci, .inr (.inr (.inr (.inl a3))), fun h => by omega⟩
        obtain ⟨k, rfl, hk⟩ := in_nat hci
        have hks : k < st.length := by omega
        rw [geti_lt' hks] at hst
        have hss := Option.some.inj hst
        show st.set ((k : Int)).toNat (s - 1) = _
        rw [show ((k : Int)).toNat = k from rfl, getD_lt hks, hss]
      · cases he
    · cases he
  rw [if_neg a3] at he ⊢
  by_cases a4 : a = 4
  · rw [if_pos a4] at he
    have e1 := workE_some he
    subst e1
    exact ⟨rfl, fun h => by omega, fun h => by omega, .inr (.inr (.inr (.inr (.inl a4)))), fun h => by omega⟩
  rw [if_neg a4] at he
  by_cases a5 : a = 5
  · rw [if_pos a5] at he
    have e1 := (closeE_some he).1
    exact ⟨e1, fun h => by omega, fun h => by omega, .inr (.inr (.inr (.inr (.inr a5)))), fun h => by omega⟩
  · rw [if_neg a5] at he; cases he
end
end Go.Proofs.YtpabogkcmbkffaaGreatDoor
