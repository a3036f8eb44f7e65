/- Lists of deeds: compared with themselves, marked, held. Own work; no program in sight. -/
import Derived.Test.YtcjkbcdlpfgbgaaGreatDoorMPl
set_option linter.unusedVariables false
namespace Go.Proofs.YtcjkbcdlpfgbgaaGreatDoor
open Go Go.RowKit
abbrev HDeed := Int × Int × Int × Int
theorem set_mid {α : Type} (l : List α) (x y : α) (r : List α) : (l ++ x :: r).set l.length y = l ++ y :: r := by
  rw [List.set_append_right _ _ (Nat.le_refl _)]; simp
theorem geti_mid {α : Type} (l : List α) (x : α) (r : List α) : geti (l ++ x :: r) (l.length : Int) = some x := by
  rw [geti_nat]; simp
end Go.Proofs.YtcjkbcdlpfgbgaaGreatDoor
