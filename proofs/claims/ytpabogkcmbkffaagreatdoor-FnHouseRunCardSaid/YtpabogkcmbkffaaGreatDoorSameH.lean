/- The laws' comparisons are equality. Own work; no program in sight. -/
import Derived.Test.YtpabogkcmbkffaaGreatDoorEqL
import Derived.Test.YtpabogkcmbkffaaGreatDoorMHs
set_option linter.unusedVariables false
namespace Go.Proofs.YtpabogkcmbkffaaGreatDoor
open Go Go.RowKit
theorem sameInts_eq (xs ys : List Int) (h : xs.length ≤ 4611686018427387904) : laws_sameIntsS xs ys = some (decide (xs = ys)) := by
  unfold laws_sameIntsS
  by_cases hl : xs.length = ys.length
  · rw [if_neg (by simp; omega), loopEq xs ys hl]
    · by_cases e : xs = ys
      · rw [if_pos e, decide_eq_true e]; rfl
      · rw [if_neg e, decide_eq_false e]; rfl
    · intro k hk hy
      (try dsimp only)
      rw [if_pos (lt_dec hk), geti_lt' hk, Option.bind_some, geti_lt' hy, Option.bind_some, wr_succ h hk]
      by_cases e : xs[k] = ys[k]
      · rw [if_neg (by simpa using e), if_pos e]
      · rw [if_pos (by simpa using e), if_neg e]
    · (try dsimp only)
      rw [if_neg (by simp)]
  · rw [if_pos (by simp; omega), decide_eq_false (fun e => hl (by rw [e]))]
theorem sameTicket_eq (xs ys : List (Int × Int)) (h : xs.length ≤ 4611686018427387904) : laws_sameTicketS xs ys = some (decide (xs = ys)) := by
  unfold laws_sameTicketS
  by_cases hl : xs.length = ys.length
  · rw [if_neg (by simp; omega), loopEq xs ys hl]
    · by_cases e : xs = ys
      · rw [if_pos e, decide_eq_true e]; rfl
      · rw [if_neg e, decide_eq_false e]; rfl
    · intro k hk hy
      (try dsimp only)
      rw [if_pos (lt_dec hk), geti_lt' hk, Option.bind_some, geti_lt' hy, Option.bind_some, wr_succ h hk]
      rw [show ((xs[k].1, xs[k].2) == (ys[k].1, ys[k].2)) = decide (xs[k] = ys[k]) from by rw [Bool.eq_iff_iff, beq_iff_eq, decide_eq_true_eq]]
      by_cases e : xs[k] = ys[k]
      · rw [decide_eq_true e, if_neg (by simp), if_pos e]
      · rw [decide_eq_false e, if_pos (by simp), if_neg e]
    · (try dsimp only)
      rw [if_neg (by simp)]
  · rw [if_pos (by simp; omega), decide_eq_false (fun e => hl (by rw [e]))]
theorem sameItem_eq (y : Int) (ps : List (Int × Int)) (m y' : Int) (ps' : List (Int × Int)) (m' : Int) (h : ps.length ≤ 4611686018427387904) : laws_sameItemS y ps m y' ps' m' = some (decide ((y, ps, m) = (y', ps', m'))) := by
  unfold laws_sameItemS
  by_cases h1 : y = y' ∧ m = m' ∧ ps.length = ps'.length
  · obtain ⟨rfl, rfl, hl⟩ := h1
    rw [if_neg (by simp; omega), loopEq ps ps' hl]
    · by_cases e : ps = ps'
      · rw [if_pos e, decide_eq_true (by rw [e])]; rfl
      · rw [if_neg e, decide_eq_false (fun e' => e (Prod.mk.inj (Prod.mk.inj e').2).1)]; rfl
    · intro k hk hy
      (try dsimp only)
      rw [if_pos (lt_dec hk), geti_lt' hk, Option.bind_some, geti_lt' hy, Option.bind_some, wr_succ h hk]
      rw [show ((ps[k].1, ps[k].2) == (ps'[k].1, ps'[k].2)) = decide (ps[k] = ps'[k]) from by rw [Bool.eq_iff_iff, beq_iff_eq, decide_eq_true_eq]]
      by_cases e : ps[k] = ps'[k]
      · rw [decide_eq_true e, if_neg (by simp), if_pos e]
      · rw [decide_eq_false e, if_pos (by simp), if_neg e]
    · (try dsimp only)
      rw [if_neg (by simp)]
  · have hb : (((y != y') || (m != m')) || ((ps.length : Int) != (ps'.length : Int))) = true := by
      rw [Bool.or_eq_true, Bool.or_eq_true, bne_iff_ne, bne_iff_ne, bne_iff_ne]
      by_cases a : y = y'
      · by_cases b : m = m'
        · exact .inr (fun c => h1 ⟨a, b, by omega⟩)
        · exact .inl (.inr b)
      · exact .inl (.inl a)
    rw [if_pos hb, decide_eq_false (fun e => h1 ⟨(Prod.mk.inj e).1, (Prod.mk.inj (Prod.mk.inj e).2).2, by rw [(Prod.mk.inj (Prod.mk.inj e).2).1]⟩)]
def sameHB (it : List HItem) (pr st : List Int) (cash : Int) (tb : List HTab) (it' : List HItem) (pr' st' : List Int) (cash' : Int) (tb' : List HTab) : Bool := decide (it = it') && (decide (pr = pr') && (decide (st = st') && (decide (cash = cash') && decide (tb = tb'))))
theorem sameHB_true {it it' : List HItem} {pr st pr' st' : List Int} {cash cash' : Int} {tb tb' : List HTab} : sameHB it pr st cash tb it' pr' st' cash' tb' = true ↔ it = it' ∧ pr = pr' ∧ st = st' ∧ cash = cash' ∧ tb = tb' := by
  unfold sameHB
  simp only [Bool.and_eq_true, decide_eq_true_eq]
theorem sameHouse_eq {it it' : List HItem} {pr st pr' st' : List Int} {cash cash' : Int} {tb tb' : List HTab} (h : HouseL it pr st tb) : laws_sameHouseS it pr st cash tb it' pr' st' cash' tb' = some (sameHB it pr st cash tb it' pr' st' cash' tb') := by
  obtain ⟨hi, hp, hs, ht⟩ := h
  have hil := hi.1
  have htl := ht.1
  unfold laws_sameHouseS sameHB
  by_cases h1 : it.length = it'.length
  rotate_left
  · rw [if_pos (by simp; omega), decide_eq_false (fun e => h1 (by rw [e]) : ¬ it = it')]; rfl
  rw [if_neg (by simp; omega), sameInts_eq pr pr' (by omega), Option.bind_some, Option.bind_some]
  by_cases h2 : pr = pr'
  rotate_left
  · rw [decide_eq_false h2, Bool.false_and, Bool.and_false]; rfl
  rw [decide_eq_true h2, Bool.not_true, if_neg (by simp), sameInts_eq st st' (by omega), Option.bind_some, Option.bind_some]
  by_cases h3 : st = st'
  rotate_left
  · rw [decide_eq_false h3, Bool.false_and, Bool.and_false, Bool.and_false]; rfl
  rw [decide_eq_true h3, Bool.not_true, Bool.false_or]
  by_cases h4 : cash = cash'
  rotate_left
  · rw [if_pos (by simp [h4]), decide_eq_false h4, Bool.false_and, Bool.and_false, Bool.and_false, Bool.and_false]
  by_cases h5 : tb.length = tb'.length
  rotate_left
  · rw [if_pos (by simp; omega), decide_eq_false (fun e => h5 (by rw [e]) : ¬ tb = tb'), Bool.and_false, Bool.and_false, Bool.and_false, Bool.and_false]
  rw [if_neg (by simp [h4]; omega), loopEq it it' h1]
  · by_cases h6 : it = it'
    rotate_left
    · rw [if_neg h6, decide_eq_false h6, Bool.false_and]; rfl
    rw [if_pos h6, Option.bind_some]
    dsimp only
    rw [loopEq tb tb' h5]
    · by_cases h7 : tb = tb'
      rotate_left
      · rw [if_neg h7, decide_eq_false h7, Bool.and_false, Bool.and_false, Bool.and_false, Bool.and_false]; rfl
      rw [if_pos h7, decide_eq_true h4, decide_eq_true h6, decide_eq_true h7]; rfl
    · intro k hk hy
      have hx := ht.2 _ (List.getElem_mem hk)
      (try dsimp only)
      rw [if_pos (lt_dec hk), geti_lt' hk, Option.bind_some, geti_lt' hy, Option.bind_some, wr_succ (n := tb.length) (by omega) hk]
      by_cases a : tb[k].1 = tb'[k].1
      rotate_left
      · rw [if_pos (by simpa using a), if_neg (show ¬ tb[k] = tb'[k] from fun e => a (by rw [e]))]; rfl
      rw [if_neg (by simpa using a), Option.bind_some, Option.bind_some, sameTicket_eq _ _ (by omega), Option.bind_some, Option.bind_some]
      by_cases b : tb[k].2.1 = tb'[k].2.1
      rotate_left
      · rw [decide_eq_false b, if_neg (show ¬ tb[k] = tb'[k] from fun e => b (by rw [e]))]; rfl
      rw [decide_eq_true b, Bool.not_true, if_neg (by simp), Option.bind_some, Option.bind_some, sameInts_eq _ _ (by omega), Option.bind_some, Option.bind_some]
      by_cases c : tb[k].2.2 = tb'[k].2.2
      rotate_left
      · rw [decide_eq_false c, if_neg (show ¬ tb[k] = tb'[k] from fun e => c (by rw [e]))]; rfl
      rw [decide_eq_true c, if_pos (Prod.ext a (Prod.ext b c))]; rfl
    · (try dsimp only)
      rw [if_neg (by simp)]
  · intro k hk hy
    have hx := hi.2 _ (List.getElem_mem hk)
    (try dsimp only)
    rw [if_pos (lt_dec hk), geti_lt' hk, Option.bind_some, geti_lt' hy, Option.bind_some, sameItem_eq _ _ _ _ _ _ (by omega), Option.bind_some, wr_succ (n := it.length) (by omega) hk]
    by_cases e : it[k] = it'[k]
    · rw [if_pos e, decide_eq_true (by rw [e]), if_neg (by simp)]
    · rw [if_neg e, decide_eq_false (fun e' => e e'), if_pos (by simp)]
  · (try dsimp only)
    rw [if_neg (by simp)]
end Go.Proofs.YtpabogkcmbkffaaGreatDoor
