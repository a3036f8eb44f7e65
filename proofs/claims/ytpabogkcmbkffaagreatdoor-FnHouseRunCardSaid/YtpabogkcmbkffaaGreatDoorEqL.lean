/- Loops that compare lists. Own work; no program in sight. -/
import Derived.Test.YtpabogkcmbkffaaGreatDoorMPl
set_option linter.unusedVariables false
namespace Go.Proofs.YtpabogkcmbkffaaGreatDoor
open Go Go.RowKit
theorem loopEq {α : Type} [DecidableEq α] (xs ys : List α) (hl : xs.length = ys.length) {step : Int → Option (Int ⊕ (Unit ⊕ Bool))}
    (h : ∀ k (hk : k < xs.length) (hy : k < ys.length), step (k : Int) = some (if xs[k] = ys[k] then .inl ((k + 1 : Nat) : Int) else .inr (.inr false))) (he : step (xs.length : Int) = some (.inr (.inl ()))) :
    loop (σ := Int) (ρ := Unit ⊕ Bool) step 0 = some (if xs = ys then .inl () else .inr false) := by
  rw [loopList xs (fun k x => decide (ys[k]? = some x))]
  · have e : (allI xs fun k x => decide (ys[k]? = some x)) = decide (xs = ys) := by
      rw [Bool.eq_iff_iff, allI_true, decide_eq_true_eq]
      constructor
      · intro h
        refine List.ext_getElem hl fun k h1 h2 => ?_
        have := of_decide_eq_true (h k h1)
        rw [List.getElem?_eq_getElem h2] at this
        exact (Option.some.inj this).symm
      · rintro rfl k hk
        exact decide_eq_true (List.getElem?_eq_getElem hk)
    rw [e]
    by_cases hx : xs = ys
    · rw [if_pos hx, if_pos (decide_eq_true hx)]
    · rw [if_neg hx, if_neg (by simpa using hx)]
  · intro k hk
    have hy : k < ys.length := by omega
    rw [h k hk hy, List.getElem?_eq_getElem hy]
    by_cases hx : xs[k] = ys[k]
    · rw [if_pos hx, if_pos (decide_eq_true (by rw [hx]))]
    · rw [if_neg hx, if_neg (by simpa using fun e => hx e.symm)]
  · exact he
end Go.Proofs.YtpabogkcmbkffaaGreatDoor
