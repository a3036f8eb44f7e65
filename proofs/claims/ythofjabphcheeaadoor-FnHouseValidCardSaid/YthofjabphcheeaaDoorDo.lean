/- What is done to a house. Own work; no program in sight. -/
import Derived.Test.YthofjabphcheeaaDoorMake
import Derived.Test.YthofjabphcheeaaDoorMark
set_option linter.unusedVariables false
namespace Go.Proofs.YthofjabphcheeaaDoor
open Go Go.RowKit
abbrev HH := List HItem × List Int × List Int × Int × List HTab
theorem specCopyH_id {it : List HItem} {pr st : List Int} (cash : Int) {tb : List HTab} (h : HouseL it pr st tb) : spec_l7CopyS it pr st cash tb = some (it, pr, st, cash, tb) := by
  obtain ⟨hi, hp, hs, ht⟩ := h
  have hil := hi.1
  have htl := ht.1
  unfold spec_l7CopyS
  rw [loopDet (s := (([] : List HItem), (0 : Int))) (fun k => (it.take k, (k : Int))) it.length it (by simp)]
  · rw [Option.bind_some, appO_le (by simp; omega), Option.bind_some, appO_le (by simp; omega), Option.bind_some, loopDet (s := ((0 : Int), ([] : List HTab))) (fun k => ((k : Int), tb.take k)) tb.length tb (by simp)]
    · rfl
    · intro k hk
      have h1 := ht.2 _ (List.getElem_mem hk)
      (try dsimp only)
      rw [if_pos (lt_dec hk), geti_lt' hk, Option.bind_some, appO_le (by simp; omega), Option.bind_some, appO_le (by simp; omega), Option.bind_some, appO_le (by simp; omega), Option.bind_some, wr_succ (n := tb.length) (by omega) hk, List.take_succ_eq_append_getElem hk]
      rfl
    · (try dsimp only)
      rw [if_neg (by simp), List.take_length]
  · intro k hk
    have h1 := hi.2 _ (List.getElem_mem hk)
    (try dsimp only)
    rw [if_pos (lt_dec hk), geti_lt' hk, Option.bind_some, Option.bind_some, appO_le (by simp; omega), Option.bind_some, Option.bind_some, appO_le (by simp; omega), Option.bind_some, wr_succ (n := it.length) (by omega) hk, List.take_succ_eq_append_getElem hk]
    rfl
  · (try dsimp only)
    rw [if_neg (by simp), List.take_length]
/-! ### the names of deeds -/
def namedB (a b c d : Int) : Bool := decide (0 ≤ a ∧ a ≤ 5) && !(((((a != 3) && (d != 0)) || ((decide (a ≥ 4)) && (c != 0))) || ((a == 4) && (b != 0))) || ((a == 2) && (c != 0)))
end Go.Proofs.YthofjabphcheeaaDoor
