/- The law of the deeds by which a house is closed. Own work; no program in sight. -/
import Derived.Test.YtcjkbcdlpfgbgaaMark
import Derived.Test.YtcjkbcdlpfgbgaaWork
import Derived.Test.YtcjkbcdlpfgbgaaDeeds
set_option linter.unusedVariables false
namespace Go.Proofs.Ytcjkbcdlpfgbgaa
open Go Go.RowKit
theorem endZ_len (it : List HItem) (pr st : List Int) (cash : Int) (tb : List HTab) : (endZ it pr st cash tb).length ≤ 100 := by
  unfold endZ
  split
  · rename_i h
    have h1 := kit_left (houseB_kit h)
    have h2 := (houseB_tables h).1
    unfold endDeeds
    simp; omega
  · simp
theorem pl_FnExactEndDeeds (it : List HItem) (pr st : List Int) (cash : Int) (tb : List HTab) (h : RHouse it pr st tb) : laws_FnExactEndDeedsS it pr st cash tb = some true := by
  unfold laws_FnExactEndDeedsS
  refine szHouse_cases cash h (fun hL r => ?_)
  have hl := endZ_len it pr st cash tb
  rw [toHouse_id cash hL, Option.bind_some]
  (try dsimp only)
  rw [specEnd_eq cash hL, Option.bind_some, Option.bind_some]
  (try dsimp only)
  rw [implEnd_eq cash hL, Option.bind_some, eqDeeds_self _ (by omega), Option.bind_some, if_neg (by simp), Option.bind_some]
  (try dsimp only)
  rw [eqHouse_self cash hL, Option.bind_some, if_neg (by simp), markHouse_eq cash hL, Option.bind_some]
  (try dsimp only)
  rw [if_neg (by simp), Option.bind_some, Option.bind_some]
  (try dsimp only)
  have e := implEnd_eq cash hL
  generalize endZ it pr st cash tb = L at hl e ⊢
  rw [if_neg (by simp), mark_eq L (by omega), Option.bind_some]
  (try dsimp only)
  rw [held_eq _ (by omega), Option.bind_some, if_neg (by simp; omega), if_neg (by simp), Option.bind_some]
  (try dsimp only)
  rw [e, Option.bind_some, eqDeeds_self _ (by omega), Option.bind_some, if_neg (by simp), Option.bind_some, if_neg (by simp; omega), if_neg (by simp)]
end Go.Proofs.Ytcjkbcdlpfgbgaa
