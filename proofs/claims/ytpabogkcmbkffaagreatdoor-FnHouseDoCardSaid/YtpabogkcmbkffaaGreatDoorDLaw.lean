/- FnHouseDo: deeds keep houses valid. Own work; no program in sight. -/
import Derived.Test.YtpabogkcmbkffaaGreatDoorDrawH
import Derived.Test.YtpabogkcmbkffaaGreatDoorDoLaw
import Derived.Test.YtpabogkcmbkffaaGreatDoorSameH
set_option linter.unusedVariables false
namespace Go.Proofs.YtpabogkcmbkffaaGreatDoor
open Go Go.RowKit
theorem doZ_cases {it : List HItem} {pr st : List Int} {cash : Int} {tb : List HTab} (hv : houseB it pr st cash tb = true) (a b c d : Int) : doZ it pr st cash tb a b c d = ((it, pr, st, cash, tb), false) ∨ ∃ e, effZ it pr st cash tb a b c d = some e ∧ houseB it pr e.1 e.2.1 e.2.2 = true ∧ doZ it pr st cash tb a b c d = ((it, pr, e.1, e.2.1, e.2.2), true) := by
  unfold doZ
  rw [if_pos hv]
  by_cases hn : namedB a b c d = true
  · rw [if_pos hn]
    unfold finZ
    cases he : effZ it pr st cash tb a b c d with
    | none => exact .inl rfl
    | some e =>
      dsimp only
      by_cases hB : houseB it pr e.1 e.2.1 e.2.2 = true
      · rw [if_pos hB]; exact .inr ⟨e, rfl, hB, rfl⟩
      · rw [if_neg hB]; exact .inl rfl
  · rw [if_neg hn]; exact .inl rfl
theorem same_self {it : List HItem} {pr st : List Int} {cash : Int} {tb : List HTab} (h : HouseL it pr st tb) : laws_sameHouseS it pr st cash tb it pr st cash tb = some true := by
  rw [sameHouse_eq h, sameHB_true.2 ⟨rfl, rfl, rfl, rfl, rfl⟩]
theorem pl_FnHouseDo (x : List Int) (hw : ∀ n ∈ x, InK .u8 n) : laws_FnHouseDoS x = some true := by
  unfold laws_FnHouseDoS
  by_cases hl : (x.length : Int) > 1048576
  · rw [if_pos (by simp; omega)]
  rw [if_neg (by simp; omega)]
  obtain ⟨⟨h, a, b, c, d⟩, hd, hs⟩ : ∃ r : HH × (Int × Int × Int × Int), spec_DrawHouseDoS x = some r ∧ SmallH 100 r.1 := by
    unfold spec_DrawHouseDoS
    refine Ret.bind (open_spec x (u8_of hw)) (fun r hr => ?_)
    refine Ret.bind (house_ret hr.1 (by omega) (by omega)) (fun h hh => ?_)
    exact Ret.bind (deed_ret hr.1 (by omega) (by omega) _ _ _ _ _) (fun e he => Ret.pure hh.2.2)
  obtain ⟨it, pr, st, cash, tb⟩ := h
  obtain ⟨hL, -⟩ := hs
  replace hL : HouseL it pr st tb := hL
  rw [hd, Option.bind_some]
  dsimp only
  rw [implDo_eq hL, Option.bind_some, specDo_eq hL, Option.bind_some]
  by_cases hv : houseB it pr st cash tb = true
  · rcases doZ_cases hv a b c d with hz | ⟨e, he, hB, hz⟩
    · rw [hz]
      dsimp only
      rw [same_self hL, Option.bind_some, if_neg (by simp), if_pos (by simp), Option.bind_some]; rfl
    · have hEL : HouseL it pr e.1 e.2.2 := effZ_L hL hv he
      obtain ⟨h1, h2, h3⟩ := eff_other hL hv he
      have hne : sameHB it pr e.1 e.2.1 e.2.2 it pr st cash tb = false := by
        rw [Bool.eq_false_iff]
        intro hT
        obtain ⟨_, _, e1, e2, e3⟩ := sameHB_true.1 hT
        exact h1 (by rw [e1, e2, e3])
      rw [hz]
      dsimp only
      rw [same_self hEL, Option.bind_some, if_neg (by simp), if_neg (by simp), implHouse_eq _ hEL, hB, Option.bind_some, sameHouse_eq hEL, hne]
      have hc : ((a == 0) || decide (e.2.1 ≥ cash)) = true := by
        rw [Bool.or_eq_true, beq_iff_eq, decide_eq_true_eq]
        rcases h2 with h | h
        · exact .inl h
        · exact .inr h
      rw [if_pos rfl, Option.bind_some, Option.bind_some, Bool.not_false, if_pos rfl, Option.bind_some, Option.bind_some, hc, if_pos (by rfl), implWorth_eq _ hEL, implWorth_eq cash hL]
      by_cases h5 : a = 5
      · have hw1 : worthZ it pr e.1 e.2.1 e.2.2 = worthZ it pr st cash tb := by
          unfold worthZ; rw [if_pos hB, if_pos hv]; exact h3 h5
        rw [if_neg (by simp [h5]), Option.bind_some, Option.bind_some, hw1]
        simp
      · rw [if_pos (by simpa using h5)]; rfl
  · have hz : doZ it pr st cash tb a b c d = (([], [], [], 0, []), false) := by unfold doZ; rw [if_neg hv]
    have h0 : HouseL [] [] [] [] := ⟨⟨by simp, fun x hx => by cases hx⟩, by simp, by simp, by simp, fun x hx => by cases hx⟩
    rw [hz]
    dsimp only
    rw [same_self h0, Option.bind_some, if_neg (by simp), if_pos (by simp), sameHouse_eq h0, Option.bind_some]
    cases sameHB [] [] [] 0 [] it pr st cash tb with
    | true => rfl
    | false =>
      rw [if_neg (by simp), implHouse_eq cash hL]
      rw [Bool.not_eq_true] at hv
      rw [hv]; rfl
end Go.Proofs.YtpabogkcmbkffaaGreatDoor
