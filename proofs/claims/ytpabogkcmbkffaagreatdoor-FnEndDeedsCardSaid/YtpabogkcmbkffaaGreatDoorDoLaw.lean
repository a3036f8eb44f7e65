/- What a deed that is done changes, and what it keeps. Own work; no program in sight. -/
import Derived.Test.YtpabogkcmbkffaaGreatDoorMade
set_option linter.unusedVariables false
namespace Go.Proofs.YtpabogkcmbkffaaGreatDoor
open Go Go.RowKit
theorem tdo_fire0 {t : Tick} {j : Nat} (hj : j < t.length) (h : (tdo t (j : Int) 0).2 = true) : t[j].2 = 0 := by
  unfold tdo at h
  split at h
  · rw [geti_lt' hj] at h
    dsimp only at h
    cases hn : nextS t[j].2 0 with
    | none => rw [hn] at h; cases h
    | some r =>
      unfold nextS at hn
      by_cases h0 : t[j].2 = 0
      · exact h0
      · simp [h0] at hn
  · cases h
theorem putTo_ticks (tb : List HTab) (ks : List Tick) (hl : ks.length = tb.length) : ∀ k, k ≤ tb.length → ticksOf (putTo tb ks k) = ks.take k ++ (ticksOf tb).drop k
  | 0, _ => by simp [putTo]
  | k + 1, hk => by
    have ih := putTo_ticks tb ks hl k (by omega)
    have h1 : k < tb.length := by omega
    have h2 : k < ks.length := by omega
    unfold putTo
    rw [List.getElem?_eq_getElem h1, List.getElem?_eq_getElem h2]
    dsimp only
    have e : ticksOf ((putTo tb ks k).set k (tb[k].1, ks[k], tb[k].2.2)) = (ticksOf (putTo tb ks k)).set k ks[k] := by
      unfold ticksOf; rw [List.map_set]
    have hd : k < (ticksOf tb).length := by simp [ticksOf]; exact h1
    rw [e, ih, List.take_succ_eq_append_getElem h2, List.drop_eq_getElem_cons hd, List.set_append_right _ _ (by simp; omega), show k - (ks.take k).length = 0 by simp; omega, List.set_cons_zero, List.append_assoc]
    rfl
theorem putTo_all (tb : List HTab) (ks : List Tick) (hl : ks.length = tb.length) : ticksOf (putTo tb ks tb.length) = ks := by
  rw [putTo_ticks tb ks hl _ (Nat.le_refl _), List.take_of_length_le (by omega), List.drop_of_length_le (by simp [ticksOf])]; simp
/-! ### bills together -/
def billT (pr : List Int) (t : HTab) : Int := billTo pr t t.2.1.length
end Go.Proofs.YtpabogkcmbkffaaGreatDoor
