/- What is done to a house. Own work; no program in sight. -/
import Derived.Test.YtcjkbcdlpfgbgaaGreatDoorMake
import Derived.Test.YtcjkbcdlpfgbgaaGreatDoorMark
set_option linter.unusedVariables false
namespace Go.Proofs.YtcjkbcdlpfgbgaaGreatDoor
open Go Go.RowKit
abbrev HH := List HItem × List Int × List Int × Int × List HTab
theorem specCopyH_id {it : List HItem} {pr st : List Int} (cash : Int) {tb : List HTab} (h : HouseL it pr st tb) : spec_l7CopyS it pr st cash tb = some (it, pr, st, cash, tb) := by
  obtain ⟨hi, hp, hs, ht⟩ := h
  have hil := hi.1
  have htl := ht.1
  unfold spec_l7CopyS
  rw [loopDet (s := (([] : List HItem), (0 : Int))) (fun k => (it.take k, (k : Int))) it.length it (by simp)]
  · rw [Option.bind_some, appO_le (by simp; omega), Option.bind_some, appO_le (by simp; omega), Option.bind_some, loopDet (s := ((0 : Int), ([] : List HTab))) (fun k => ((k : Int), tb.take k)) tb.length tb (by simp)]
    · rfl
    · intro k hk
      have h1 := ht.2 _ (List.getElem_mem hk)
      (try dsimp only)
      rw [if_pos (lt_dec hk), geti_lt' hk, Option.bind_some, appO_le (by simp; omega), Option.bind_some, appO_le (by simp; omega), Option.bind_some, appO_le (by simp; omega), Option.bind_some, wr_succ (n := tb.length) (by omega) hk, List.take_succ_eq_append_getElem hk]
      rfl
    · (try dsimp only)
      rw [if_neg (by simp), List.take_length]
  · intro k hk
    have h1 := hi.2 _ (List.getElem_mem hk)
    (try dsimp only)
    rw [if_pos (lt_dec hk), geti_lt' hk, Option.bind_some, Option.bind_some, appO_le (by simp; omega), Option.bind_some, Option.bind_some, appO_le (by simp; omega), Option.bind_some, wr_succ (n := it.length) (by omega) hk, List.take_succ_eq_append_getElem hk]
    rfl
  · (try dsimp only)
    rw [if_neg (by simp), List.take_length]
theorem copyItem_id (m : Int) (ps : List (Int × Int)) (g : Int) (h : ps.length ≤ 1048576) : impl_copyItemS m ps g = some (m, ps, g) := by
  unfold impl_copyItemS
  by_cases h0 : ps = []
  · subst h0; rfl
  · have hp : 0 < ps.length := List.length_pos_iff.2 h0
    simp [h0, hp, mkO_nat _ (show ps.length ≤ 1099511627776 by omega)]
theorem implCopyH_id {it : List HItem} {pr st : List Int} (cash : Int) {tb : List HTab} (h : HouseL it pr st tb) : impl_copyHouseS it pr st cash tb = some (it, pr, st, cash, tb) := by
  obtain ⟨hi, hp, hs, ht⟩ := h
  have hil := hi.1
  have htl := ht.1
  unfold impl_copyHouseS
  rw [copyInts_id _ hp, Option.bind_some, copyInts_id _ hs, Option.bind_some, loopDet (s := ((0 : Int), ([] : List HItem))) (fun k => ((k : Int), it.take k)) it.length it (by simp)]
  · rw [Option.bind_some, loopDet (s := ((0 : Int), ([] : List HTab))) (fun k => ((k : Int), tb.take k)) tb.length tb (by simp)]
    · rfl
    · intro k hk
      have h1 := ht.2 _ (List.getElem_mem hk)
      (try dsimp only)
      rw [if_pos (lt_dec hk), geti_lt' hk, Option.bind_some, copyTick_id _ h1.1, Option.bind_some, copyInts_id _ h1.2, Option.bind_some, appO_le (by simp; omega), Option.bind_some, wr_succ (n := tb.length) (by omega) hk, List.take_succ_eq_append_getElem hk]
    · (try dsimp only)
      rw [if_neg (by simp), List.take_length]
  · intro k hk
    have h1 := hi.2 _ (List.getElem_mem hk)
    (try dsimp only)
    rw [if_pos (lt_dec hk), geti_lt' hk, Option.bind_some, copyItem_id _ _ _ h1, Option.bind_some, appO_le (by simp; omega), Option.bind_some, wr_succ (n := it.length) (by omega) hk, List.take_succ_eq_append_getElem hk]
  · (try dsimp only)
    rw [if_neg (by simp), List.take_length]
/-! ### the names of deeds -/
def namedB (a b c d : Int) : Bool := decide (0 ≤ a ∧ a ≤ 5) && !(((((a != 3) && (d != 0)) || ((decide (a ≥ 4)) && (c != 0))) || ((a == 4) && (b != 0))) || ((a == 2) && (c != 0)))
theorem zeros_eq (xs : List Int) (h : xs.length ≤ 1048576) : ((loop (σ := Int) (ρ := (Unit) ⊕ (Bool)) (fun (s : Int) => match s with | s30 => (if (decide (s30 < (List.length xs : Int))) then ((geti xs s30).bind fun x32 => (if (x32 != 0) then (some (.inr (.inr false))) else (some (.inl (IntKind.wrap .i64 (s30 + 1)))))) else (some (.inr (.inl ()))))) 0).bind fun o => match o with | .inl _ => (some true) | .inr p42 => (some p42)) = some (xs.all (fun x => x == 0)) := by
  rw [loopList xs (fun _ x => x == 0)]
  · rw [Option.bind_some, allI_all]
    cases xs.all (fun x => x == 0) <;> rfl
  · intro k hk
    (try dsimp only)
    rw [if_pos (lt_dec hk), geti_lt' hk, Option.bind_some, wr_succ (n := xs.length) (by omega) hk]
    by_cases hx : xs[k] = 0
    · rw [if_neg (by simpa using hx), if_pos (by simpa using hx)]
    · rw [if_pos (by simpa using hx), if_neg (by simpa using hx)]
  · (try dsimp only)
    rw [if_neg (by simp)]
theorem onlyNamed_eq (a b c d : Int) : impl_onlyNamedS a b c d = some (namedB a b c d) := by
  unfold impl_onlyNamedS namedB
  by_cases ha : 0 ≤ a ∧ a ≤ 5
  · rw [if_neg (by simp; omega), decide_eq_true ha]
    have h6 : a = 0 ∨ a = 1 ∨ a = 2 ∨ a = 3 ∨ a = 4 ∨ a = 5 := by omega
    have key : ∀ (n : Int) (ys : List Int), geti deedNumbers a = some n → subO [b, c, d] n 3 = some ys → ys.length ≤ 3 → ((geti deedNumbers a).bind fun x19 => ((subO ([b, c, d] : List Int) x19 (List.length ([b, c, d] : List Int) : Int)).bind fun x28 => ((loop (σ := Int) (ρ := (Unit) ⊕ (Bool)) (fun (s : Int) => match s with | s30 => (if (decide (s30 < (List.length x28 : Int))) then ((geti x28 s30).bind fun x32 => (if (x32 != 0) then (some (.inr (.inr false))) else (some (.inl (IntKind.wrap .i64 (s30 + 1)))))) else (some (.inr (.inl ()))))) 0).bind fun o => match o with | .inl _ => (some true) | .inr p42 => (some p42)))) = some (ys.all (fun x => x == 0)) := by
      intro n ys h1 h2 h3
      rw [h1, Option.bind_some, show ((List.length ([b, c, d] : List Int) : Nat) : Int) = 3 from rfl, h2, Option.bind_some]
      exact zeros_eq ys (by omega)
    rcases h6 with rfl | rfl | rfl | rfl | rfl | rfl
    · refine (key 2 [d] rfl rfl (by simp)).trans ?_
      simp [bne]
    · refine (key 2 [d] rfl rfl (by simp)).trans ?_
      simp [bne]
    · refine (key 1 [c, d] rfl rfl (by simp)).trans ?_
      simp only [List.all_cons, List.all_nil, bne]
      cases (c == 0) <;> cases (d == 0) <;> rfl
    · refine (key 3 [] rfl rfl (by simp)).trans ?_
      simp
    · refine (key 0 [b, c, d] rfl rfl (by simp)).trans ?_
      simp only [List.all_cons, List.all_nil, bne]
      cases (b == 0) <;> cases (c == 0) <;> cases (d == 0) <;> rfl
    · refine (key 1 [c, d] rfl rfl (by simp)).trans ?_
      simp only [List.all_cons, List.all_nil, bne]
      cases (c == 0) <;> cases (d == 0) <;> rfl
  · rw [if_pos (by simp; omega), decide_eq_false ha, Bool.false_and]
end Go.Proofs.YtcjkbcdlpfgbgaaGreatDoor
