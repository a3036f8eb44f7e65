/- The laws' comparisons are equality. Own work; no program in sight. -/
import Derived.Test.YtpabogkcmbkffaaGreatDoorEqL
import Derived.Test.YtpabogkcmbkffaaGreatDoorMHs
set_option linter.unusedVariables false
namespace Go.Proofs.YtpabogkcmbkffaaGreatDoor
open Go Go.RowKit
theorem sameInts_eq (xs ys : List Int) (h : xs.length ≤ 4611686018427387904) : laws_sameIntsS xs ys = some (decide (xs = ys)) := by
  unfold laws_sameIntsS
  by_cases hl : xs.length = ys.length
  · rw [if_neg (by simp; omega), loopEq xs ys hl]
    · by_cases e : xs = ys
      · rw [if_pos e, decide_eq_true e]; rfl
      · rw [if_neg e, decide_eq_false e]; rfl
    · intro k hk hy
      (try dsimp only)
      rw [if_pos (lt_dec hk), geti_lt' hk, Option.bind_some, geti_lt' hy, Option.bind_some, wr_succ h hk]
      by_cases e : xs[k] = ys[k]
      · rw [if_neg (by simpa using e), if_pos e]
      · rw [if_pos (by simpa using e), if_neg e]
    · (try dsimp only)
      rw [if_neg (by simp)]
  · rw [if_pos (by simp; omega), decide_eq_false (fun e => hl (by rw [e]))]
end Go.Proofs.YtpabogkcmbkffaaGreatDoor
