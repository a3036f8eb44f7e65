import Derived.Test.YtkhnponakhabdaaGreatDoorMPl
import Derived.Test.YtkhnponakhabdaaGreatDoorMHs
import Derived.Test.YtkhnponakhabdaaGreatDoorDraw
import Derived.Test.YtkhnponakhabdaaGreatDoorMDo
import Derived.Test.YtkhnponakhabdaaGreatDoorMWk
set_option linter.unusedVariables false
namespace Go.Proofs.YtkhnponakhabdaaGreatDoor
open Go Go.RowKit
theorem loopEq {α : Type} [DecidableEq α] (xs ys : List α) (hl : xs.length = ys.length) {step : Int → Option (Int ⊕ (Unit ⊕ Bool))}
  (h : ∀ k (hk : k < xs.length) (hy : k < ys.length), step (k : Int) = some (if xs[k] = ys[k] then .inl ((k + 1 : Nat) : Int) else .inr (.inr false))) (he : step (xs.length : Int) = some (.inr (.inl ()))) :
  loop (σ := Int) (ρ := Unit ⊕ Bool) step 0 = some (if xs = ys then .inl () else .inr false) := by
 rw [loopList xs (fun k x => decide (ys[k]? = some x))]
 ·have e : (allI xs fun k x => decide (ys[k]? = some x)) = decide (xs = ys) := by
   rw [Bool.eq_iff_iff, allI_true, decide_eq_true_eq]
   constructor
   ·intro h
    refine List.ext_getElem hl fun k h1 h2 => ?_
    have := of_decide_eq_true (h k h1)
    rw [List.getElem?_eq_getElem h2] at this
    exact (Option.some.inj this).symm
   ·rintro rfl k hk
    exact decide_eq_true (List.getElem?_eq_getElem hk)
  rw [e]
  by_cases hx : xs = ys
  ·rw [if_pos hx, if_pos (decide_eq_true hx)]
  ·rw [if_neg hx, if_neg (by simpa using hx)]
 ·intro k hk
  have hy : k < ys.length := by omega
  rw [h k hk hy, List.getElem?_eq_getElem hy]
  by_cases hx : xs[k] = ys[k]
  ·rw [if_pos hx, if_pos (decide_eq_true (by rw [hx]))]
  ·rw [if_neg hx, if_neg (by simpa using fun e => hx e.symm)]
 ·exact he
end Go.Proofs.YtkhnponakhabdaaGreatDoor
set_option linter.unusedVariables false
namespace Go.Proofs.YtkhnponakhabdaaGreatDoor
open Go Go.RowKit
theorem sameInts_eq (xs ys : List Int) (h : xs.length ≤ 4611686018427387904) : laws_sameIntsS xs ys = some (decide (xs = ys)) := by
 unfold laws_sameIntsS
 by_cases hl : xs.length = ys.length
 ·rw [if_neg (by simp; omega), loopEq xs ys hl]
  ·by_cases e : xs = ys
   ·rw [if_pos e, decide_eq_true e]; rfl
   ·rw [if_neg e, decide_eq_false e]; rfl
  ·intro k hk hy
   (try dsimp only)
   rw [if_pos (lt_dec hk), geti_lt' hk, Option.bind_some, geti_lt' hy, Option.bind_some, wr_succ h hk]
   by_cases e : xs[k] = ys[k]
   ·rw [if_neg (by simpa using e), if_pos e]
   ·rw [if_pos (by simpa using e), if_neg e]
  ·(try dsimp only)
   rw [if_neg (by simp)]
 ·rw [if_pos (by simp; omega), decide_eq_false (fun e => hl (by rw [e]))]
theorem sameTicket_eq (xs ys : List (Int × Int)) (h : xs.length ≤ 4611686018427387904) : laws_sameTicketS xs ys = some (decide (xs = ys)) := by
 unfold laws_sameTicketS
 by_cases hl : xs.length = ys.length
 ·rw [if_neg (by simp; omega), loopEq xs ys hl]
  ·by_cases e : xs = ys
   ·rw [if_pos e, decide_eq_true e]; rfl
   ·rw [if_neg e, decide_eq_false e]; rfl
  ·intro k hk hy
   (try dsimp only)
   rw [if_pos (lt_dec hk), geti_lt' hk, Option.bind_some, geti_lt' hy, Option.bind_some, wr_succ h hk]
   rw [show ((xs[k].1, xs[k].2) == (ys[k].1, ys[k].2)) = decide (xs[k] = ys[k]) from by rw [Bool.eq_iff_iff, beq_iff_eq, decide_eq_true_eq]]
   by_cases e : xs[k] = ys[k]
   ·rw [decide_eq_true e, if_neg (by simp), if_pos e]
   ·rw [decide_eq_false e, if_pos (by simp), if_neg e]
  ·(try dsimp only)
   rw [if_neg (by simp)]
 ·rw [if_pos (by simp; omega), decide_eq_false (fun e => hl (by rw [e]))]
theorem sameItem_eq (y : Int) (ps : List (Int × Int)) (m y' : Int) (ps' : List (Int × Int)) (m' : Int) (h : ps.length ≤ 4611686018427387904) : laws_sameItemS y ps m y' ps' m' = some (decide ((y, ps, m) = (y', ps', m'))) := by
 unfold laws_sameItemS
 by_cases h1 : y = y' ∧ m = m' ∧ ps.length = ps'.length
 ·obtain ⟨rfl, rfl, hl⟩ := h1
  rw [if_neg (by simp; omega), loopEq ps ps' hl]
  ·by_cases e : ps = ps'
   ·rw [if_pos e, decide_eq_true (by rw [e])]; rfl
   ·rw [if_neg e, decide_eq_false (fun e' => e (Prod.mk.inj (Prod.mk.inj e').2).1)]; rfl
  ·intro k hk hy
   (try dsimp only)
   rw [if_pos (lt_dec hk), geti_lt' hk, Option.bind_some, geti_lt' hy, Option.bind_some, wr_succ h hk]
   rw [show ((ps[k].1, ps[k].2) == (ps'[k].1, ps'[k].2)) = decide (ps[k] = ps'[k]) from by rw [Bool.eq_iff_iff, beq_iff_eq, decide_eq_true_eq]]
   by_cases e : ps[k] = ps'[k]
   ·rw [decide_eq_true e, if_neg (by simp), if_pos e]
   ·rw [decide_eq_false e, if_pos (by simp), if_neg e]
  ·(try dsimp only)
   rw [if_neg (by simp)]
 ·have hb : (((y != y') || (m != m')) || ((ps.length : Int) != (ps'.length : Int))) = true := by
   rw [Bool.or_eq_true, Bool.or_eq_true, bne_iff_ne, bne_iff_ne, bne_iff_ne]
   by_cases a : y = y'
   ·by_cases b : m = m'
    ·exact .inr (fun c => h1 ⟨a, b, by omega⟩)
    ·exact .inl (.inr b)
   ·exact .inl (.inl a)
  rw [if_pos hb, decide_eq_false (fun e => h1 ⟨(Prod.mk.inj e).1, (Prod.mk.inj (Prod.mk.inj e).2).2, by rw [(Prod.mk.inj (Prod.mk.inj e).2).1]⟩)]
def sameHB (it : List HItem) (pr st : List Int) (cash : Int) (tb : List HTab) (it' : List HItem) (pr' st' : List Int) (cash' : Int) (tb' : List HTab) : Bool := decide (it = it') && (decide (pr = pr') && (decide (st = st') && (decide (cash = cash') && decide (tb = tb'))))
theorem sameHB_true {it it' : List HItem} {pr st pr' st' : List Int} {cash cash' : Int} {tb tb' : List HTab} : sameHB it pr st cash tb it' pr' st' cash' tb' = true ↔ it = it' ∧ pr = pr' ∧ st = st' ∧ cash = cash' ∧ tb = tb' := by
 unfold sameHB
 simp only [Bool.and_eq_true, decide_eq_true_eq]
theorem sameHouse_eq {it it' : List HItem} {pr st pr' st' : List Int} {cash cash' : Int} {tb tb' : List HTab} (h : HouseL it pr st tb) : laws_sameHouseS it pr st cash tb it' pr' st' cash' tb' = some (sameHB it pr st cash tb it' pr' st' cash' tb') := by
 obtain ⟨hi, hp, hs, ht⟩ := h
 have hil := hi.1
 have htl := ht.1
 unfold laws_sameHouseS sameHB
 by_cases h1 : it.length = it'.length
 rotate_left
 ·rw [if_pos (by simp; omega), decide_eq_false (fun e => h1 (by rw [e]) : ¬ it = it')]; rfl
 rw [if_neg (by simp; omega), sameInts_eq pr pr' (by omega), Option.bind_some, Option.bind_some]
 by_cases h2 : pr = pr'
 rotate_left
 ·rw [decide_eq_false h2, Bool.false_and, Bool.and_false]; rfl
 rw [decide_eq_true h2, Bool.not_true, if_neg (by simp), sameInts_eq st st' (by omega), Option.bind_some, Option.bind_some]
 by_cases h3 : st = st'
 rotate_left
 ·rw [decide_eq_false h3, Bool.false_and, Bool.and_false, Bool.and_false]; rfl
 rw [decide_eq_true h3, Bool.not_true, Bool.false_or]
 by_cases h4 : cash = cash'
 rotate_left
 ·rw [if_pos (by simp [h4]), decide_eq_false h4, Bool.false_and, Bool.and_false, Bool.and_false, Bool.and_false]
 by_cases h5 : tb.length = tb'.length
 rotate_left
 ·rw [if_pos (by simp; omega), decide_eq_false (fun e => h5 (by rw [e]) : ¬ tb = tb'), Bool.and_false, Bool.and_false, Bool.and_false, Bool.and_false]
 rw [if_neg (by simp [h4]; omega), loopEq it it' h1]
 ·by_cases h6 : it = it'
  rotate_left
  ·rw [if_neg h6, decide_eq_false h6, Bool.false_and]; rfl
  rw [if_pos h6, Option.bind_some]
  dsimp only
  rw [loopEq tb tb' h5]
  ·by_cases h7 : tb = tb'
   rotate_left
   ·rw [if_neg h7, decide_eq_false h7, Bool.and_false, Bool.and_false, Bool.and_false, Bool.and_false]; rfl
   rw [if_pos h7, decide_eq_true h4, decide_eq_true h6, decide_eq_true h7]; rfl
  ·intro k hk hy
   have hx := ht.2 _ (List.getElem_mem hk)
   (try dsimp only)
   rw [if_pos (lt_dec hk), geti_lt' hk, Option.bind_some, geti_lt' hy, Option.bind_some, wr_succ (n := tb.length) (by omega) hk]
   by_cases a : tb[k].1 = tb'[k].1
   rotate_left
   ·rw [if_pos (by simpa using a), if_neg (show ¬ tb[k] = tb'[k] from fun e => a (by rw [e]))]; rfl
   rw [if_neg (by simpa using a), Option.bind_some, Option.bind_some, sameTicket_eq _ _ (by omega), Option.bind_some, Option.bind_some]
   by_cases b : tb[k].2.1 = tb'[k].2.1
   rotate_left
   ·rw [decide_eq_false b, if_neg (show ¬ tb[k] = tb'[k] from fun e => b (by rw [e]))]; rfl
   rw [decide_eq_true b, Bool.not_true, if_neg (by simp), Option.bind_some, Option.bind_some, sameInts_eq _ _ (by omega), Option.bind_some, Option.bind_some]
   by_cases c : tb[k].2.2 = tb'[k].2.2
   rotate_left
   ·rw [decide_eq_false c, if_neg (show ¬ tb[k] = tb'[k] from fun e => c (by rw [e]))]; rfl
   rw [decide_eq_true c, if_pos (Prod.ext a (Prod.ext b c))]; rfl
  ·(try dsimp only)
   rw [if_neg (by simp)]
 ·intro k hk hy
  have hx := hi.2 _ (List.getElem_mem hk)
  (try dsimp only)
  rw [if_pos (lt_dec hk), geti_lt' hk, Option.bind_some, geti_lt' hy, Option.bind_some, sameItem_eq _ _ _ _ _ _ (by omega), Option.bind_some, wr_succ (n := it.length) (by omega) hk]
  by_cases e : it[k] = it'[k]
  ·rw [if_pos e, decide_eq_true (by rw [e]), if_neg (by simp)]
  ·rw [if_neg e, decide_eq_false (fun e' => e e'), if_pos (by simp)]
 ·(try dsimp only)
  rw [if_neg (by simp)]
end Go.Proofs.YtkhnponakhabdaaGreatDoor
set_option linter.unusedVariables false
namespace Go.Proofs.YtkhnponakhabdaaGreatDoor
open Go Go.RowKit
theorem odd0 (b : List Int) (p : Int) : spec_l20Rd__oddS b p 0 = some (p, false) := by
 unfold spec_l20Rd__oddS
 rw [if_neg (by simp)]; rfl
def FewParts (x : HItem) : Prop := x.2.1.length ≤ 3
theorem item_ret {b : List Int} {p i : Int} (hb : By b) (h0 : 0 ≤ p) (h1 : p ≤ 900000) (hi : 0 ≤ i) (hi2 : i ≤ 6) : Ret (spec_l20ItemS b p i 0) (fun r => p ≤ r.1 ∧ r.1 ≤ p + 16 ∧ FewParts r.2) := by
 unfold spec_l20ItemS
 refine Ret.bind (pick_ret hb h0 (by omega)) (fun r hr => ?_)
 refine Ret.bind (pick_ret hb (by omega) (by omega)) (fun r2 hr2 => ?_)
 refine Ret.bind (Q := fun o => p ≤ o.1 ∧ o.1 ≤ p + 3 ∧ (o.2 = true → 0 < i)) ?_ (fun o ho => ?_)
 ·refine Ret.ite (fun h => ?_) (fun h => Ret.pure ⟨by omega, by omega, fun h => by cases h⟩)
  have hi1 := of_decide_eq_true h
  refine Ret.bind (pick_ret hb (by omega) (by omega)) (fun r3 hr3 => Ret.pure ⟨?_, ?_, fun _ => hi1⟩)
  ·show p ≤ r3.1; omega
  ·show r3.1 ≤ p + 3; omega
 obtain ⟨g, bb⟩ := o
 obtain ⟨hg1, hg2, hbb⟩ := ho
 have hg1 : p ≤ g := hg1
 have hg2 : g ≤ p + 3 := hg2
 dsimp only
 refine Ret.bind (Q := fun o => p ≤ o.1 ∧ o.1 ≤ p + 16 ∧ o.2.2.length ≤ 3) ?_ (fun o ho => ?_)
 ·refine Ret.ite (fun h => ?_) (fun h => Ret.pure ⟨hg1, by show g ≤ p + 16; omega, by simp⟩)
  have hi1 := hbb h
  refine Ret.bind (pick_ret hb (by omega) (by omega)) (fun r4 hr4 => ?_)
  refine Ret.loopb (fun s => 0 ≤ s.1 ∧ s.1 ≤ i ∧ g + 1 ≤ s.2.1 ∧ s.2.1 ≤ g + 1 + 2 * s.1 ∧ s.2.2.length ≤ 3) (fun s => (i - s.1).toNat) (fun r => g + 1 ≤ r.1 ∧ r.1 ≤ g + 1 + 2 * i ∧ r.2.length ≤ 3) ⟨by show (0 : Int) ≤ 0; omega, by show (0 : Int) ≤ i; omega, by show g + 1 ≤ r4.1; omega, by show r4.1 ≤ g + 1 + 2 * 0; omega, by simp⟩ ?_ (fun r hr => ?_)
  ·rintro ⟨j, q, ps⟩ ⟨a1, a2, a3, a4, a5⟩
   dsimp only at a1 a2 a3 a4 a5 ⊢
   refine Ret.ite (fun h => ?_) (fun h => Ret.pure ⟨a3, by show q ≤ _; omega, a5⟩)
   rw [Bool.and_eq_true] at h
   have hj := of_decide_eq_true h.1
   have hl := of_decide_eq_true h.2
   have hw : IntKind.wrap .i64 (j + 1) = j + 1 := wr ⟨by omega, by omega⟩
   refine Ret.bind (pick_ret hb (by omega) (by omega)) (fun r5 hr5 => ?_)
   refine Ret.ite (fun h => ?_) (fun h => ?_)
   ·refine Ret.bind (pick_ret hb (by omega) (by omega)) (fun r6 hr6 => ?_)
    rw [appO_le (by simp; omega), Option.bind_some, hw]
    refine Ret.pure ⟨⟨by show 0 ≤ j + 1; omega, by show j + 1 ≤ i; omega, by show g + 1 ≤ r6.1; omega, by show r6.1 ≤ g + 1 + 2 * (j + 1); omega, by simp; omega⟩, by show (i - (j + 1)).toNat < (i - j).toNat; omega⟩
   ·rw [hw]
    refine Ret.pure ⟨⟨by show 0 ≤ j + 1; omega, by show j + 1 ≤ i; omega, by show g + 1 ≤ r5.1; omega, by show r5.1 ≤ g + 1 + 2 * (j + 1); omega, a5⟩, by show (i - (j + 1)).toNat < (i - j).toNat; omega⟩
  ·obtain ⟨q, ps⟩ := r
   exact Ret.pure ⟨by have := hr.1; show p ≤ q; have : g + 1 ≤ q := hr.1; omega, by have : q ≤ g + 1 + 2 * i := hr.2.1; show q ≤ p + 16; omega, hr.2.2⟩
 obtain ⟨g2, y, ps⟩ := o
 dsimp only
 rw [odd0, Option.bind_some]
 dsimp only
 rw [if_neg (by simp), Option.bind_some]
 exact Ret.pure ho
def ItemsS (xs : List HItem) : Prop := xs.length ≤ 6 ∧ ∀ x ∈ xs, FewParts x
theorem items_ret {b : List Int} {p : Int} (hb : By b) (h0 : 0 ≤ p) (h1 : p ≤ 800000) : Ret (spec_l20ItemsS b p 0) (fun r => p ≤ r.1 ∧ r.1 ≤ p + 100 ∧ ItemsS r.2) := by
 unfold spec_l20ItemsS
 refine Ret.bind (pick_ret hb h0 (by omega)) (fun r hr => ?_)
 have hr7 := hr.2.2 (by omega)
 refine Ret.loopb (fun s => 0 ≤ s.2.1 ∧ (s.1.length : Int) + s.2.1 ≤ 6 ∧ p + 1 ≤ s.2.2 ∧ s.2.2 ≤ p + 1 + 16 * s.1.length ∧ ∀ x ∈ s.1, FewParts x) (fun s => s.2.1.toNat) (fun o => p ≤ o.2 ∧ o.2 ≤ p + 100 ∧ ItemsS o.1) ⟨hr.2.1, by show ((0 : Nat) : Int) + r.2 ≤ 6; omega, by show p + 1 ≤ r.1; omega, by show r.1 ≤ p + 1 + 16 * ((0 : Nat) : Int); omega, by intro x hx; cases hx⟩ ?_ (fun o ho => ?_)
 ·rintro ⟨xs, k, q⟩ ⟨a1, a2, a3, a4, a5⟩
  dsimp only at a1 a2 a3 a4 a5 ⊢
  refine Ret.ite (fun h => ?_) (fun h => Ret.pure ⟨by show p ≤ q; omega, by show q ≤ p + 100; omega, by show xs.length ≤ 6; omega, a5⟩)
  have hk := of_decide_eq_true h
  refine Ret.bind (item_ret hb (by omega) (by omega) (i := (xs.length : Int)) (by omega) (by omega)) (fun r2 hr2 => ?_)
  rw [appO_le (by simp; omega), Option.bind_some, wr (x := k - 1) ⟨by omega, by omega⟩]
  refine Ret.pure ⟨⟨by show 0 ≤ k - 1; omega, by simp; omega, by show p + 1 ≤ r2.1; have := hr2.1; omega, by show r2.1 ≤ p + 1 + 16 * ((xs ++ [_]).length : Int); have := hr2.2.1; simp; omega, ?_⟩, by show (k - 1).toNat < k.toNat; omega⟩
  intro x hx
  rcases List.mem_append.1 hx with hx | hx
  ·exact a5 x hx
  ·rw [List.mem_singleton.1 hx]; exact hr2.2.2
 ·obtain ⟨xs, q⟩ := o
  dsimp only
  rw [odd0, Option.bind_some, if_neg (by simp)]
  exact Ret.pure ho
theorem prices_ret {b : List Int} {p : Int} (hb : By b) (h0 : 0 ≤ p) (h1 : p ≤ 800000) {xs : List HItem} (hx : xs.length ≤ 6) : Ret (spec_l20PricesS b p xs 0) (fun r => p ≤ r.1 ∧ r.1 ≤ p + 6 ∧ r.2.length ≤ 6) := by
 unfold spec_l20PricesS
 refine Ret.loopb (fun s => 0 ≤ s.2.1 ∧ s.2.1 ≤ (xs.length : Int) ∧ (s.1.length : Int) = s.2.1 ∧ p ≤ s.2.2 ∧ s.2.2 ≤ p + s.2.1) (fun s => ((xs.length : Int) - s.2.1).toNat) (fun o => p ≤ o.2 ∧ o.2 ≤ p + 6 ∧ o.1.length ≤ 6) ⟨by show (0 : Int) ≤ 0; omega, by show (0 : Int) ≤ _; omega, rfl, by show p ≤ p; omega, by show p ≤ p + 0; omega⟩ ?_ (fun o ho => ?_)
 ·rintro ⟨out, k, q⟩ ⟨a1, a2, a3, a4, a5⟩
  dsimp only at a1 a2 a3 a4 a5 ⊢
  refine Ret.ite (fun h => ?_) (fun h => Ret.pure ⟨a4, by show q ≤ p + 6; omega, by show out.length ≤ 6; omega⟩)
  have hk := of_decide_eq_true h
  refine Ret.bind (pick_ret hb (by omega) (by omega)) (fun r2 hr2 => ?_)
  rw [appO_le (by simp; omega), Option.bind_some, wr (x := k + 1) ⟨by omega, by omega⟩]
  exact Ret.pure ⟨⟨by show 0 ≤ k + 1; omega, by show k + 1 ≤ _; omega, by simp; omega, by show p ≤ r2.1; omega, by show r2.1 ≤ p + (k + 1); omega⟩, by show ((xs.length : Int) - (k + 1)).toNat < ((xs.length : Int) - k).toNat; omega⟩
 ·obtain ⟨out, q⟩ := o
  dsimp only
  rw [odd0, Option.bind_some, if_neg (by simp)]
  exact Ret.pure ho
theorem amounts_ret {b : List Int} {p : Int} (hb : By b) (h0 : 0 ≤ p) (h1 : p ≤ 800000) {xs : List HItem} (hx : xs.length ≤ 6) : Ret (spec_l20AmountsS b p xs 0) (fun r => p ≤ r.1 ∧ r.1 ≤ p + 12 ∧ r.2.length ≤ 6) := by
 unfold spec_l20AmountsS
 refine Ret.loopb (fun s => 0 ≤ s.2.1 ∧ s.2.1 ≤ (xs.length : Int) ∧ (s.1.length : Int) = s.2.1 ∧ p ≤ s.2.2 ∧ s.2.2 ≤ p + 2 * s.2.1) (fun s => ((xs.length : Int) - s.2.1).toNat) (fun o => p ≤ o.2 ∧ o.2 ≤ p + 12 ∧ o.1.length ≤ 6) ⟨by show (0 : Int) ≤ 0; omega, by show (0 : Int) ≤ _; omega, rfl, by show p ≤ p; omega, by show p ≤ p + 2 * 0; omega⟩ ?_ (fun o ho => ?_)
 ·rintro ⟨out, k, q⟩ ⟨a1, a2, a3, a4, a5⟩
  dsimp only at a1 a2 a3 a4 a5 ⊢
  refine Ret.ite (fun h => ?_) (fun h => Ret.pure ⟨a4, by show q ≤ p + 12; omega, by show out.length ≤ 6; omega⟩)
  have hk := of_decide_eq_true h
  refine Ret.bind (pick_ret hb (by omega) (by omega)) (fun r2 hr2 => ?_)
  refine Ret.bind (pick_ret hb (by omega) (by omega)) (fun r3 hr3 => ?_)
  rw [appO_le (by simp; omega), Option.bind_some, wr (x := k + 1) ⟨by omega, by omega⟩]
  exact Ret.pure ⟨⟨by show 0 ≤ k + 1; omega, by show k + 1 ≤ _; omega, by simp; omega, by show p ≤ r3.1; omega, by show r3.1 ≤ p + 2 * (k + 1); omega⟩, by show ((xs.length : Int) - (k + 1)).toNat < ((xs.length : Int) - k).toNat; omega⟩
 ·obtain ⟨out, q⟩ := o
  dsimp only
  rw [odd0, Option.bind_some, if_neg (by simp)]
  exact Ret.pure ho
theorem mid_ret {b : List Int} {q y : Int} {c : Bool} (hb : By b) (h0 : 0 ≤ q) (h1 : q ≤ 900000) {g : Int × Int → Int} : Ret (if c then ((spec_l20Rd__pickS b q 60).bind fun x67 => (some (x67.1, g x67))) else (some (q, y)) : Option (Int × Int)) (fun o => q ≤ o.1 ∧ o.1 ≤ q + 1) := by
 refine Ret.ite (fun h => ?_) (fun h => Ret.pure ⟨by show q ≤ q; omega, by show q ≤ q + 1; omega⟩)
 refine Ret.bind (pick_ret hb h0 (by omega)) (fun r2 hr2 => Ret.pure ⟨?_, ?_⟩)
 ·show q ≤ r2.1; omega
 ·show r2.1 ≤ q + 1; omega
theorem deed_ret {b : List Int} {p : Int} (hb : By b) (h0 : 0 ≤ p) (h1 : p ≤ 800000) (it : List HItem) (pr st : List Int) (cash : Int) (tb : List HTab) : Ret (spec_l20HouseDeedS b p it pr st cash tb) (fun r => p ≤ r.1 ∧ r.1 ≤ p + 10) := by
 unfold spec_l20HouseDeedS
 refine Ret.bind (pick_ret hb h0 (by omega)) (fun r1 hr1 => ?_)
 have h12 := hr1.2.2 (by omega)
 refine Ret.bind (geti_ret hr1.2.1 (by simp; omega)) (fun x19 hx => ?_)
 refine Ret.bind (pick_ret hb (by omega) (by omega)) (fun r2 hr2 => ?_)
 refine Ret.bind (pick_ret hb (by omega) (by omega)) (fun r3 hr3 => ?_)
 have e3 : r3.1 = p + 3 := by omega
 generalize IntKind.wrap .i64 (x19 + IntKind.wrap .i64 (IntKind.wrap .i64 (Int.tdiv r2.2 59) * 6)) = kd
 refine Ret.bind (Q := fun o => p ≤ o.1 ∧ o.1 ≤ p + 6) ?_ (fun o ho => ?_)
 ·refine Ret.ite (fun _ => ?_) (fun _ => ?_)
  ·exact Ret.bind (pick_ret hb (by omega) (by omega)) (fun r4 hr4 => Ret.pure ⟨by show p ≤ r4.1; omega, by show r4.1 ≤ p + 6; omega⟩)
  refine Ret.ite (fun _ => ?_) (fun _ => ?_)
  ·exact Ret.bind (pick_ret hb (by omega) (by omega)) (fun r4 hr4 => Ret.pure ⟨by show p ≤ r4.1; omega, by show r4.1 ≤ p + 6; omega⟩)
  refine Ret.ite (fun _ => ?_) (fun _ => ?_)
  ·refine Ret.bind (pick_ret hb (by omega) (by omega)) (fun r4 hr4 => ?_)
   exact Ret.bind (pick_ret hb (by omega) (by omega)) (fun r5 hr5 => Ret.pure ⟨by show p ≤ r5.1; omega, by show r5.1 ≤ p + 6; omega⟩)
  refine Ret.ite (fun _ => ?_) (fun _ => ?_)
  ·refine Ret.bind (pick_ret hb (by omega) (by omega)) (fun r4 hr4 => ?_)
   refine Ret.bind (pick_ret hb (by omega) (by omega)) (fun r5 hr5 => ?_)
   exact Ret.bind (pick_ret hb (by omega) (by omega)) (fun r6 hr6 => Ret.pure ⟨by show p ≤ r6.1; omega, by show r6.1 ≤ p + 6; omega⟩)
  refine Ret.ite (fun _ => Ret.pure ⟨by show p ≤ r3.1; omega, by show r3.1 ≤ p + 6; omega⟩) (fun _ => ?_)
  refine Ret.ite (fun _ => ?_) (fun _ => Ret.pure ⟨by show p ≤ r3.1; omega, by show r3.1 ≤ p + 6; omega⟩)
  exact Ret.bind (pick_ret hb (by omega) (by omega)) (fun r4 hr4 => Ret.pure ⟨by show p ≤ r4.1; omega, by show r4.1 ≤ p + 6; omega⟩)
 ·obtain ⟨j47, j48, j49, j50⟩ := o
  have ho1 : p ≤ j47 := ho.1
  have ho2 : j47 ≤ p + 6 := ho.2
  dsimp only
  refine Ret.bind (odd_ret hb (by omega) (by omega)) (fun ro hro => ?_)
  refine Ret.bind (mid_ret hb (by omega) (by omega)) (fun o ho => ?_)
  obtain ⟨j, z⟩ := o
  exact Ret.pure ⟨by show p ≤ j; have := ho.1; dsimp only at this; omega, by show j ≤ p + 10; have := ho.2; dsimp only at this; omega⟩
def SmallH (k : Nat) (h : HH) : Prop := HouseL h.1 h.2.1 h.2.2.1 h.2.2.2.2 ∧ h.1.length ≤ k ∧ h.2.1.length ≤ k ∧ h.2.2.1.length ≤ k ∧ h.2.2.2.2.length ≤ k
theorem doZ_true {it : List HItem} {pr st : List Int} {cash : Int} {tb : List HTab} {a b c d : Int} (h : (doZ it pr st cash tb a b c d).2 = true) : houseB (doZ it pr st cash tb a b c d).1.1 (doZ it pr st cash tb a b c d).1.2.1 (doZ it pr st cash tb a b c d).1.2.2.1 (doZ it pr st cash tb a b c d).1.2.2.2.1 (doZ it pr st cash tb a b c d).1.2.2.2.2 = true := by
 unfold doZ at h ⊢
 split at h
 ·rename_i hv
  rw [if_pos hv]
  split at h
  ·rename_i hn
   rw [if_pos hn]
   unfold finZ at h ⊢
   cases he : effZ it pr st cash tb a b c d with
   | none => rw [he] at h; cases h
   | some e =>
    rw [he] at h
    dsimp only at h ⊢
    split at h
    ·rename_i hB; rw [if_pos hB]; exact hB
    ·cases h
  ·cases h
 ·cases h
theorem small_do {h : HH} (hs : SmallH 50 h) (a b c d : Int) (ht : (doZ h.1 h.2.1 h.2.2.1 h.2.2.2.1 h.2.2.2.2 a b c d).2 = true) : SmallH 50 (doZ h.1 h.2.1 h.2.2.1 h.2.2.2.1 h.2.2.2.2 a b c d).1 := by
 have hL := doZ_L (cash := h.2.2.2.1) hs.1 a b c d
 have hB := doZ_true ht
 have e1 := itemsB_len (houseB_items hB)
 have e2 := (houseB_prices hB).1
 have e3 := (houseB_stock hB).1
 have e4 := (houseB_tables hB).1
 exact ⟨hL, by omega, by omega, by omega, by omega⟩
theorem itemsS_L {xs : List HItem} (h : ItemsS xs) : ItemsL xs := ⟨by have := h.1; omega, fun x hx => by have := h.2 x hx; unfold FewParts at this; omega⟩
theorem house_ret {b : List Int} {p n : Int} (hb : By b) (h0 : 0 ≤ p) (h1 : p ≤ 1000) : Ret (spec_l20HouseS b p n) (fun r => p ≤ r.1 ∧ r.1 ≤ p + 1000 ∧ SmallH 100 r.2) := by
 unfold spec_l20HouseS
 refine Ret.bind (items_ret hb h0 (by omega)) (fun r1 hr1 => ?_)
 obtain ⟨a1, a2, hI⟩ := hr1
 refine Ret.bind (prices_ret hb (by omega) (by omega) hI.1) (fun r2 hr2 => ?_)
 obtain ⟨b1, b2, hP⟩ := hr2
 refine Ret.bind (amounts_ret hb (by omega) (by omega) hI.1) (fun r3 hr3 => ?_)
 obtain ⟨c1, c2, hA⟩ := hr3
 refine Ret.bind (pick_ret hb (by omega) (by omega)) (fun r4 hr4 => ?_)
 refine Ret.bind (pick_ret hb (by omega) (by omega)) (fun r5 hr5 => ?_)
 refine Ret.bind (pick_ret hb (by omega) (by omega)) (fun r6 hr6 => ?_)
 have h24 := hr6.2.2 (by omega)
 refine Ret.loopb (fun s => 0 ≤ s.1 ∧ s.1 ≤ 24 ∧ p ≤ s.2.1 ∧ s.2.1 ≤ p + 200 + 10 * (24 - s.1) ∧ SmallH 50 s.2.2) (fun s => s.1.toNat) (fun o => p ≤ o.1 ∧ o.1 ≤ p + 500 ∧ SmallH 50 o.2) ⟨hr6.2.1, by show r6.2 ≤ 24; omega, by show p ≤ r6.1; omega, by show r6.1 ≤ p + 200 + 10 * (24 - r6.2); omega, ⟨itemsS_L hI, by show r2.2.length ≤ 1048576; omega, by show r3.2.length ≤ 1048576; omega, by simp, fun x hx => by cases hx⟩, by have := hI.1; show r1.2.length ≤ 50; omega, by show r2.2.length ≤ 50; omega, by show r3.2.length ≤ 50; omega, by simp⟩ ?_ (fun o ho => ?_)
 ·rintro ⟨k, q, it, pr, st, cash, tb⟩ ⟨d1, d2, d3, d4, d5⟩
  dsimp only at d1 d2 d3 d4 ⊢
  refine Ret.ite (fun h => ?_) (fun h => Ret.pure ⟨d3, by show q ≤ p + 500; omega, d5⟩)
  have hk := of_decide_eq_true h
  refine Ret.bind (deed_ret hb (by omega) (by omega) it pr st cash tb) (fun r7 hr7 => ?_)
  rw [specDo_eq d5.1, Option.bind_some, wr (x := k - 1) ⟨by omega, by omega⟩]
  refine Ret.ite (fun h => ?_) (fun h => ?_)
  ·refine Ret.pure ⟨⟨by show 0 ≤ k - 1; omega, by show k - 1 ≤ 24; omega, by have := hr7.1; show p ≤ r7.1; omega, by have := hr7.2; show r7.1 ≤ p + 200 + 10 * (24 - (k - 1)); omega, small_do d5 _ _ _ _ h⟩, by show (k - 1).toNat < k.toNat; omega⟩
  ·refine Ret.pure ⟨⟨by show 0 ≤ k - 1; omega, by show k - 1 ≤ 24; omega, by have := hr7.1; show p ≤ r7.1; omega, by have := hr7.2; show r7.1 ≤ p + 200 + 10 * (24 - (k - 1)); omega, d5⟩, by show (k - 1).toNat < k.toNat; omega⟩
 ·obtain ⟨q, it, pr, st, cash, tb⟩ := o
  obtain ⟨e1, e2, e3⟩ := ho
  have e1 : p ≤ q := e1
  have e2 : q ≤ p + 500 := e2
  obtain ⟨⟨f1, f2, f3, f4⟩, g1, g2, g3, g4⟩ := e3
  dsimp only at f1 f2 f3 f4 g1 g2 g3 g4 ⊢
  refine Ret.bind (odd_ret hb (by omega) (by omega)) (fun r8 hr8 => ?_)
  refine Ret.bind (Q := fun o => p ≤ o.1 ∧ o.1 ≤ p + 1000 ∧ o.2.1.length ≤ 100 ∧ TabsL o.2.2.2 ∧ o.2.2.2.length ≤ 100) ?_ (fun o ho => ?_)
  ·refine Ret.ite (fun h => ?_) (fun h => Ret.pure ⟨by show p ≤ r8.1; omega, by show r8.1 ≤ p + 1000; omega, by show st.length ≤ 100; omega, f4, by show tb.length ≤ 100; omega⟩)
   refine Ret.bind (pick_ret hb (by omega) (by omega)) (fun r9 hr9 => ?_)
   refine Ret.ite (fun h => ?_) (fun h => ?_)
   ·refine Ret.bind (pick_ret hb (by omega) (by omega)) (fun r10 hr10 => ?_)
    have h2 := hr10.2.2 (by omega)
    refine Ret.bind (geti_ret hr10.2.1 (by simp; omega)) (fun x hx => ?_)
    exact Ret.pure ⟨by show p ≤ r10.1; omega, by show r10.1 ≤ p + 1000; omega, by show st.length ≤ 100; omega, f4, by show tb.length ≤ 100; omega⟩
   refine Ret.ite (fun h => ?_) (fun h => ?_)
   ·rw [appO_le (by simp; omega), Option.bind_some]
    exact Ret.pure ⟨by show p ≤ r9.1; omega, by show r9.1 ≤ p + 1000; omega, by simp; omega, f4, by show tb.length ≤ 100; omega⟩
   have app : ∀ x : HTab, x.2.1.length ≤ 1 → x.2.2.length ≤ 1 → TabsL (tb ++ [x]) ∧ (tb ++ [x]).length ≤ 100 := by
    intro x h1 h2
    refine ⟨⟨by simp; omega, ?_⟩, by simp; omega⟩
    intro t ht
    rcases List.mem_append.1 ht with ht | ht
    ·exact f4.2 t ht
    ·rw [List.mem_singleton.1 ht]; omega
   refine Ret.ite (fun h => ?_) (fun h => ?_)
   ·rw [appO_le (by simp; omega), Option.bind_some]
    exact Ret.pure ⟨by show p ≤ r9.1; omega, by show r9.1 ≤ p + 1000; omega, by show st.length ≤ 100; omega, (app _ (by simp) (by simp)).1, (app _ (by simp) (by simp)).2⟩
   ·rw [appO_le (by simp; omega), Option.bind_some]
    exact Ret.pure ⟨by show p ≤ r9.1; omega, by show r9.1 ≤ p + 1000; omega, by show st.length ≤ 100; omega, (app _ (by simp) (by simp)).1, (app _ (by simp) (by simp)).2⟩
  ·obtain ⟨q2, st2, c2, tb2⟩ := o
   obtain ⟨k1, k2, k3, k4, k5⟩ := ho
   dsimp only at k1 k2 k3 k4 k5 ⊢
   exact Ret.pure ⟨k1, k2, ⟨f1, f2, by show st2.length ≤ 1048576; omega, k4⟩, by show it.length ≤ 100; omega, by show pr.length ≤ 100; omega, k3, k5⟩
end Go.Proofs.YtkhnponakhabdaaGreatDoor
set_option linter.unusedVariables false
namespace Go.Proofs.YtkhnponakhabdaaGreatDoor
open Go Go.RowKit
theorem tdo_fire0 {t : Tick} {j : Nat} (hj : j < t.length) (h : (tdo t (j : Int) 0).2 = true) : t[j].2 = 0 := by
 unfold tdo at h
 split at h
 ·rw [geti_lt' hj] at h
  dsimp only at h
  cases hn : nextS t[j].2 0 with
  | none => rw [hn] at h; cases h
  | some r =>
   unfold nextS at hn
   by_cases h0 : t[j].2 = 0
   ·exact h0
   ·simp [h0] at hn
 ·cases h
theorem putTo_ticks (tb : List HTab) (ks : List Tick) (hl : ks.length = tb.length) : ∀ k, k ≤ tb.length → ticksOf (putTo tb ks k) = ks.take k ++ (ticksOf tb).drop k
 | 0, _ => by simp [putTo]
 | k + 1, hk => by
  have ih := putTo_ticks tb ks hl k (by omega)
  have h1 : k < tb.length := by omega
  have h2 : k < ks.length := by omega
  unfold putTo
  rw [List.getElem?_eq_getElem h1, List.getElem?_eq_getElem h2]
  dsimp only
  have e : ticksOf ((putTo tb ks k).set k (tb[k].1, ks[k], tb[k].2.2)) = (ticksOf (putTo tb ks k)).set k ks[k] := by
   unfold ticksOf; rw [List.map_set]
  have hd : k < (ticksOf tb).length := by simp [ticksOf]; exact h1
  rw [e, ih, List.take_succ_eq_append_getElem h2, List.drop_eq_getElem_cons hd, List.set_append_right _ _ (by simp; omega), show k - (ks.take k).length = 0 by simp; omega, List.set_cons_zero, List.append_assoc]
  rfl
theorem putTo_all (tb : List HTab) (ks : List Tick) (hl : ks.length = tb.length) : ticksOf (putTo tb ks tb.length) = ks := by
 rw [putTo_ticks tb ks hl _ (Nat.le_refl _), List.take_of_length_le (by omega), List.drop_of_length_le (by simp [ticksOf])]; simp
def billT (pr : List Int) (t : HTab) : Int := billTo pr t t.2.1.length
end Go.Proofs.YtkhnponakhabdaaGreatDoor
set_option linter.unusedVariables false
namespace Go.Proofs.YtkhnponakhabdaaGreatDoor
open Go Go.RowKit
theorem firstOf_no {ρ : Type} {p : Nat → Option ρ} : ∀ {n k : Nat}, firstOf p k n = none → ∀ i, k ≤ i → i < k + n → p i = none
 | 0, k, _, i, h1, h2 => by omega
 | n + 1, k, h, i, h1, h2 => by
  unfold firstOf at h
  cases hp : p k with
  | some r => rw [hp] at h; cases h
  | none =>
   rw [hp] at h
   rcases Nat.lt_or_ge k i with h3 | h3
   ·exact firstOf_no h i (by omega) (by omega)
   ·obtain rfl : i = k := by omega
    exact hp
theorem kitF_no {ks : List Tick} {p : Int} (h : kitF ks p = none) {i j : Nat} (hi : i < ks.length) (hj : j < ks[i].length) : ks[i][j].2 ≠ p := fun e => by
 have h1 := firstOf_no h i (by omega) (by omega)
 unfold kitP at h1
 rw [List.getElem?_eq_getElem hi] at h1
 dsimp only at h1
 have h2 : rowF ks[i] p = none := by
  cases hr : rowF ks[i] p with
  | none => rfl
  | some q => rw [hr] at h1; cases h1
 have h3 := firstOf_no h2 j (by omega) (by omega)
 unfold rowP at h3
 rw [List.getElem?_eq_getElem hj] at h3
 dsimp only at h3
 rw [if_pos e] at h3
 cases h3
theorem mayTo_has {t : Tick} {k : Nat} (h : (tdo t (k : Int) 0).2 = true) : ∀ {n : Nat}, k < n → (k : Int) ∈ mayTo t n
 | n + 1, hn => by
  unfold mayTo
  rcases Nat.lt_or_ge k n with h1 | h1
  ·have := mayTo_has h h1
   split
   ·exact List.mem_append_left _ this
   ·exact this
  ·obtain rfl : k = n := by omega
   rw [if_pos h]; simp
theorem fire_yes {ks : List Tick} (hk : kitB ks = true) {i j : Nat} (hi : i < ks.length) (hj : j < ks[i].length) (h : (tdo ks[i] (j : Int) 0).2 = true) : ¬ (fireZ ks).1 < 0 := by
 have hm := mayTo_has h hj
 unfold fireZ
 rw [if_pos hk]
 cases hf : firstOf (fireP ks) 0 ks.length with
 | none =>
  have h1 := firstOf_no hf i (by omega) (by omega)
  unfold fireP at h1
  rw [List.getElem?_eq_getElem hi] at h1
  dsimp only at h1
  cases hl : mayTo ks[i] ks[i].length with
  | nil => rw [hl] at hm; cases hm
  | cons q l => rw [hl] at h1; cases h1
 | some r =>
  obtain ⟨k, _, h2, h3⟩ := firstOf_some hf
  rw [Nat.zero_add] at h2
  unfold fireP at h3
  rw [List.getElem?_eq_getElem h2] at h3
  dsimp only at h3
  cases hl : mayTo ks[k] ks[k].length with
  | nil => rw [hl] at h3; cases h3
  | cons q l =>
   rw [hl] at h3
   obtain rfl := Option.some.inj h3
   show ¬ ((k : Int) < 0)
   omega
theorem min_course {t : Tick} (hv : ticketB t = true) (h : ∃ o ∈ t, o.2 < 3) : ∃ j, ∃ hj : j < t.length, t[j].2 < 3 ∧ ∀ y ∈ t, y.2 < 3 → t[j].1 ≤ y.1 := by
 have hin := fun o ho => ticket_in hv (o := o) ho
 have pick : ∀ c : Int, (∃ o ∈ t, o.2 < 3 ∧ o.1 = c) → (∀ y ∈ t, y.2 < 3 → c ≤ y.1) → ∃ j, ∃ hj : j < t.length, t[j].2 < 3 ∧ ∀ y ∈ t, y.2 < 3 → t[j].1 ≤ y.1 := by
  rintro c ⟨o, ho, h1, h2⟩ hc
  obtain ⟨j, hj, rfl⟩ := List.mem_iff_getElem.1 ho
  exact ⟨j, hj, h1, fun y hy hy3 => by have := hc y hy hy3; omega⟩
 by_cases h0 : ∃ o ∈ t, o.2 < 3 ∧ o.1 = 0
 ·exact pick 0 h0 fun y hy _ => (hin y hy).1.1
 by_cases h1 : ∃ o ∈ t, o.2 < 3 ∧ o.1 = 1
 ·refine pick 1 h1 fun y hy h3 => ?_
  have := (hin y hy).1
  have : y.1 ≠ 0 := fun e => h0 ⟨y, hy, h3, e⟩
  omega
 ·obtain ⟨o, ho, h3⟩ := h
  have two : ∀ y ∈ t, y.2 < 3 → y.1 = 2 := fun y hy h3 => by
   have := (hin y hy).1
   have : y.1 ≠ 0 := fun e => h0 ⟨y, hy, h3, e⟩
   have : y.1 ≠ 1 := fun e => h1 ⟨y, hy, h3, e⟩
   omega
  exact pick 2 ⟨o, ho, h3, two o ho h3⟩ fun y hy h => by rw [two y hy h]; omega
theorem ticket_fire {t : Tick} (hv : ticketB t = true) (hno : ∀ o ∈ t, o.2 ≠ 1 ∧ o.2 ≠ 2) (h : ∃ o ∈ t, o.2 < 3) : ∃ j, j < t.length ∧ (tdo t (j : Int) 0).2 = true := by
 obtain ⟨j, hj, h3, hmin⟩ := min_course hv h
 refine ⟨j, hj, ?_⟩
 have hin := ticket_in hv (List.getElem_mem hj)
 have h12 := hno t[j] (List.getElem_mem hj)
 have h0 : t[j].2 = 0 := by omega
 have hnew : ticketB (t.set j (t[j].1, 1)) = true := by
  have hv' := hv
  unfold ticketB at hv' ⊢
  rw [Bool.and_eq_true, Bool.and_eq_true] at hv' ⊢
  obtain ⟨a1, a2, a3⟩ := hv'
  rw [List.all_eq_true] at a2 a3
  refine ⟨by rw [List.length_set]; exact a1, List.all_eq_true.2 fun x hx => ?_, List.all_eq_true.2 fun x hx => ?_⟩
  ·rcases List.mem_or_eq_of_mem_set hx with h | rfl
   ·exact a2 x h
   ·exact inB_true.2 ⟨hin.1, by simp only; omega⟩
  ·have ready : ∀ c, (∀ y ∈ t, y.2 < 3 → c ≤ y.1) → readyB (t.set j (t[j].1, 1)) c = true := fun c hc => by
    unfold readyB
    rw [List.all_eq_true]
    intro y hy
    simp only [Bool.not_eq_true', Bool.and_eq_false_iff, decide_eq_false_iff_not]
    rcases List.mem_or_eq_of_mem_set hy with h | rfl
    ·by_cases hy3 : y.2 < 3
     ·exact .inl (by have := hc y h hy3; omega)
     ·exact .inr hy3
    ·exact .inl (by have := hc t[j] (List.getElem_mem hj) h3; show ¬ t[j].1 < c; omega)
   unfold rdyB
   rw [Bool.or_eq_true]
   rcases List.mem_or_eq_of_mem_set hx with h | rfl
   ·by_cases hs : 1 ≤ x.2 ∧ x.2 ≤ 3
    ·right
     have hr := a3 x h
     unfold rdyB at hr
     rw [decide_eq_true hs, Bool.not_true, Bool.false_or] at hr
     unfold readyB at hr
     rw [List.all_eq_true] at hr
     refine ready x.1 fun y hy hy3 => ?_
     have := hr y hy
     simp only [Bool.not_eq_true', Bool.and_eq_false_iff, decide_eq_false_iff_not] at this
     omega
    ·left; rw [decide_eq_false hs]; rfl
   ·right; exact ready _ fun y hy hy3 => hmin y hy hy3
 unfold tdo
 rw [if_pos hv, geti_lt' hj]
 dsimp only
 rw [h0, show nextS 0 0 = some 1 from rfl]
 dsimp only
 rw [show ((j : Int)).toNat = j from rfl, if_pos hnew]
theorem leftN_pos : ∀ {t : Tick}, 0 < leftN t → ∃ o ∈ t, o.2 < 3
 | [], h => by simp [leftN] at h
 | o :: t, h => by
  by_cases h3 : o.2 < 3
  ·exact ⟨o, by simp, h3⟩
  ·have : leftO o = 0 := by unfold leftO; omega
   unfold leftN at h
   rw [this, Nat.zero_add] at h
   obtain ⟨x, hx, hx3⟩ := leftN_pos h
   exact ⟨x, by simp [hx], hx3⟩
theorem leftK_pos : ∀ {ks : List Tick}, 0 < leftK ks → ∃ t ∈ ks, ∃ o ∈ t, o.2 < 3
 | [], h => by simp [leftK] at h
 | t :: ks, h => by
  by_cases h0 : 0 < leftN t
  ·exact ⟨t, by simp, leftN_pos h0⟩
  ·unfold leftK at h
   obtain ⟨u, hu, x⟩ := leftK_pos (ks := ks) (by omega)
   exact ⟨u, by simp [hu], x⟩
theorem step_yes {ks : List Tick} (hk : kitB ks = true) (h : 0 < leftK ks) : (stepK ks).2 = true := by
 unfold stepK
 rw [if_pos hk]
 cases h2 : kitF ks 2 with
 | some p => obtain ⟨i, j⟩ := p; rfl
 | none =>
  dsimp only
  cases h1 : kitF ks 1 with
  | some p => obtain ⟨i, j⟩ := p; rfl
  | none =>
   dsimp only
   obtain ⟨t, ht, ho⟩ := leftK_pos h
   obtain ⟨i, hi, rfl⟩ := List.mem_iff_getElem.1 ht
   obtain ⟨j, hj, hd⟩ := ticket_fire (kitB_at hk ht) (fun o ho => by
    obtain ⟨j, hj, rfl⟩ := List.mem_iff_getElem.1 ho
    exact ⟨kitF_no h1 hi hj, kitF_no h2 hi hj⟩) ho
   rw [if_neg (fire_yes hk hi hj hd)]
theorem step_at {ks : List Tick} (h : (stepK ks).2 = true) : ∃ i j, ∃ hi : i < ks.length, ∃ hj : j < ks[i].length, (0 ≤ ks[i][j].2 ∧ ks[i][j].2 ≤ 2) ∧ (stepK ks).1 = setTk ks i j (ks[i][j].2 + 1) ∧ ticketB (ks[i].set j (ks[i][j].1, ks[i][j].2 + 1)) = true := by
 have hk := stepK_ok h
 unfold stepK at h ⊢
 rw [if_pos hk] at h ⊢
 cases h2 : kitF ks 2 with
 | some p =>
  obtain ⟨i, j⟩ := p
  obtain ⟨hi, hj, hs⟩ := kitF_some h2
  refine ⟨i, j, hi, hj, by omega, by rw [hs]; rfl, ?_⟩
  exact ticketB_step (kitB_at hk (List.getElem_mem hi)) hj rfl (.inr hs) rfl
 | none =>
  rw [h2] at h
  dsimp only at h ⊢
  cases h1 : kitF ks 1 with
  | some p =>
   obtain ⟨i, j⟩ := p
   obtain ⟨hi, hj, hs⟩ := kitF_some h1
   refine ⟨i, j, hi, hj, by omega, by rw [hs]; rfl, ?_⟩
   exact ticketB_step (kitB_at hk (List.getElem_mem hi)) hj rfl (.inl hs) rfl
  | none =>
   rw [h1] at h
   dsimp only at h ⊢
   by_cases hf : (fireZ ks).1 < 0
   ·rw [if_pos hf] at h; cases h
   ·rw [if_neg hf]
    obtain ⟨i, j, hi, hj, he, ht⟩ := fire_at hf
    have h0 := tdo_fire0 hj (by rw [ht])
    refine ⟨i, j, hi, hj, by omega, by rw [he, h0]; rfl, ?_⟩
    rw [h0]
    unfold tdo at ht
    rw [if_pos (kitB_at hk (List.getElem_mem hi)), geti_lt' hj] at ht
    dsimp only at ht
    rw [h0, show nextS 0 0 = some 1 from rfl] at ht
    dsimp only at ht
    rw [show ((j : Int)).toNat = j from rfl] at ht
    split at ht
    ·rename_i hb; exact hb
    ·exact absurd (congrArg Prod.snd ht) (by simp)
theorem split_at {α : Type} {l : List α} {j : Nat} (hj : j < l.length) : l = l.take j ++ l[j] :: l.drop (j + 1) := by rw [← List.drop_eq_getElem_cons hj, List.take_append_drop]
theorem set_split {α : Type} {l : List α} {j : Nat} (hj : j < l.length) (x : α) : l.set j x = l.take j ++ x :: l.drop (j + 1) := by
 rw [List.set_eq_take_append_cons_drop, if_pos hj]
theorem left_set {t : Tick} {j : Nat} (hj : j < t.length) (h : 0 ≤ t[j].2 ∧ t[j].2 ≤ 2) : leftN (t.set j (t[j].1, t[j].2 + 1)) + 1 = leftN t := by
 have e : leftN t = leftN (t.take j) + (leftO t[j] + leftN (t.drop (j + 1))) := by
  conv => lhs; rw [split_at hj]
  rw [leftN_app]; rfl
 rw [set_split hj, leftN_app, e]
 show leftN (t.take j) + (leftO (t[j].1, t[j].2 + 1) + leftN (t.drop (j + 1))) + 1 = _
 unfold leftO
 dsimp only
 omega
theorem step_left {ks : List Tick} (h : (stepK ks).2 = true) : leftK (stepK ks).1 + 1 = leftK ks ∧ kitB (stepK ks).1 = true := by
 obtain ⟨i, j, hi, hj, hs, he, ht⟩ := step_at h
 have hk := stepK_ok h
 rw [he, setTk_at hi hj]
 constructor
 ·have e : leftK ks = leftK (ks.take i) + (leftN ks[i] + leftK (ks.drop (i + 1))) := by
   conv => lhs; rw [split_at hi]
   rw [leftK_app]; rfl
  rw [set_split hi, leftK_app, e]
  show leftK (ks.take i) + (leftN (ks[i].set j (ks[i][j].1, ks[i][j].2 + 1)) + leftK (ks.drop (i + 1))) + 1 = _
  have := left_set hj hs
  omega
 ·unfold kitB at hk ⊢
  rw [Bool.and_eq_true, List.all_eq_true] at hk ⊢
  refine ⟨by rw [List.length_set]; exact hk.1, fun t hx => ?_⟩
  rcases List.mem_or_eq_of_mem_set hx with hx | rfl
  ·exact hk.2 t hx
  ·exact ht
theorem left_done {t : Tick} (hv : ticketB t = true) (h : leftN t = 0) : (∀ o ∈ t, 3 ≤ o.2) ∧ doneB t = true := by
 have h3 : ∀ o ∈ t, 3 ≤ o.2 := by
  intro o ho
  obtain ⟨j, hj, rfl⟩ := List.mem_iff_getElem.1 ho
  have e : leftN t = leftN (t.take j) + (leftO t[j] + leftN (t.drop (j + 1))) := by
   conv => lhs; rw [split_at hj]
   rw [leftN_app]; rfl
  have : leftO t[j] = 0 := by omega
  unfold leftO at this
  omega
 refine ⟨h3, ?_⟩
 have hc : ∀ k, courseTo t k = -1 := by
  intro k
  induction k with
  | zero => rfl
  | succ k ih =>
   unfold courseTo
   split
   ·exact ih
   ·rename_i o ho
    have := h3 o (List.mem_of_getElem? ho)
    rw [if_neg (by omega), ih]
 unfold doneB
 rw [hv, hc]; rfl
end Go.Proofs.YtkhnponakhabdaaGreatDoor
set_option linter.unusedVariables false
namespace Go.Proofs.YtkhnponakhabdaaGreatDoor
open Go Go.RowKit
noncomputable def stepZ (h : HH) (d : HDeed) : HH × Bool := doZ h.1 h.2.1 h.2.2.1 h.2.2.2.1 h.2.2.2.2 d.1 d.2.1 d.2.2.1 d.2.2.2
noncomputable def gstep (s : HH × Nat) (d : HDeed) : HH × Nat := ((stepZ s.1 d).1, if (stepZ s.1 d).2 then s.2 + 1 else s.2)
noncomputable def goZ (xs : List HDeed) (h : HH) : HH × Nat := xs.foldl gstep (h, 0)
def HL (h : HH) : Prop := HouseL h.1 h.2.1 h.2.2.1 h.2.2.2.2
noncomputable def hB (h : HH) : Bool := houseB h.1 h.2.1 h.2.2.1 h.2.2.2.1 h.2.2.2.2
theorem stepZ_L {h : HH} (hL : HL h) (d : HDeed) : HL (stepZ h d).1 := doZ_L hL _ _ _ _
theorem finZ_cases (it : List HItem) (pr st : List Int) (cash : Int) (tb : List HTab) (e : Option EE) (hv : houseB it pr st cash tb = true) : hB (finZ it pr st cash tb e).1 = true ∧ ((finZ it pr st cash tb e).2 = false → (finZ it pr st cash tb e).1 = (it, pr, st, cash, tb)) := by
 unfold finZ
 cases e with
 | none => exact ⟨hv, fun _ => rfl⟩
 | some e =>
  dsimp only
  by_cases h : houseB it pr e.1 e.2.1 e.2.2 = true
  ·rw [if_pos h]; exact ⟨h, fun h => by cases h⟩
  ·rw [if_neg h]; exact ⟨hv, fun _ => rfl⟩
theorem stepZ_cases {h : HH} (hv : hB h = true) (d : HDeed) : hB (stepZ h d).1 = true ∧ ((stepZ h d).2 = false → (stepZ h d).1 = h) := by
 have hv' : houseB h.1 h.2.1 h.2.2.1 h.2.2.2.1 h.2.2.2.2 = true := hv
 unfold stepZ doZ
 rw [if_pos hv']
 split
 ·exact finZ_cases _ _ _ _ _ _ hv'
 ·exact ⟨hv, fun _ => rfl⟩
theorem goZ_succ (xs : List HDeed) (h : HH) {k : Nat} (hk : k < xs.length) : goZ (xs.take (k + 1)) h = gstep (goZ (xs.take k) h) xs[k] := by
 unfold goZ
 rw [List.take_succ_eq_append_getElem hk, List.foldl_append]; rfl
theorem goZ_all {h : HH} (hL : HL h) (hv : hB h = true) (xs : List HDeed) : HL (goZ xs h).1 ∧ hB (goZ xs h).1 = true ∧ (goZ xs h).2 ≤ xs.length := by
 have key : ∀ (xs : List HDeed) (s : HH × Nat), HL s.1 → hB s.1 = true → HL (xs.foldl gstep s).1 ∧ hB (xs.foldl gstep s).1 = true ∧ (xs.foldl gstep s).2 ≤ s.2 + xs.length := by
  intro xs
  induction xs with
  | nil => intro s h1 h2; exact ⟨h1, h2, Nat.le_refl _⟩
  | cons d xs ih =>
   intro s h1 h2
   have := ih (gstep s d) (stepZ_L h1 d) (stepZ_cases h2 d).1
   refine ⟨this.1, this.2.1, Nat.le_trans this.2.2 ?_⟩
   show (if (stepZ s.1 d).2 then s.2 + 1 else s.2) + xs.length ≤ s.2 + (xs.length + 1)
   split <;> omega
 have := key xs (h, 0) hL hv
 simpa [goZ] using this
noncomputable def goR (h : HH) (xs : List HDeed) : HH × Int := if hB h = true then ((goZ xs h).1, ((goZ xs h).2 : Int)) else (([], [], [], 0, []), 0)
theorem goR_L {h : HH} (hL : HL h) (xs : List HDeed) : HL (goR h xs).1 := by
 unfold goR
 split
 ·rename_i hv; exact (goZ_all hL hv xs).1
 ·exact ⟨⟨by simp, fun x hx => by cases hx⟩, by simp, by simp, by simp, fun x hx => by cases hx⟩
theorem go_step {α : Type} {h : HH} (hL : HL h) (hv : hB h = true) {xs : List HDeed} (hx : xs.length ≤ 1048576) {k : Nat} (hk : k < xs.length) (F : Int → HH → α) : (if (stepZ (goZ (xs.take k) h).1 xs[k]).2 = true then F (IntKind.wrap .i64 (((goZ (xs.take k) h).2 : Int) + 1)) (stepZ (goZ (xs.take k) h).1 xs[k]).1 else F ((goZ (xs.take k) h).2 : Int) (stepZ (goZ (xs.take k) h).1 xs[k]).1) = F ((goZ (xs.take (k + 1)) h).2 : Int) (goZ (xs.take (k + 1)) h).1 := by
 have hn := (goZ_all hL hv (xs.take k)).2.2
 have hl : (xs.take k).length ≤ xs.length := by simp; omega
 rw [goZ_succ xs h hk]
 unfold gstep
 dsimp only
 by_cases hb : (stepZ (goZ (xs.take k) h).1 xs[k]).2 = true
 ·rw [if_pos hb, if_pos hb, wr ⟨by omega, by omega⟩]; rfl
 ·rw [if_neg hb, if_neg hb]
theorem goZ_app (xs ys : List HDeed) (h : HH) : goZ (xs ++ ys) h = ((goZ ys (goZ xs h).1).1, (goZ xs h).2 + (goZ ys (goZ xs h).1).2) := by
 have key : ∀ (ys : List HDeed) (s : HH) (n : Nat), ys.foldl gstep (s, n) = ((ys.foldl gstep (s, 0)).1, n + (ys.foldl gstep (s, 0)).2) := by
  intro ys
  induction ys with
  | nil => intro s n; rfl
  | cons d ys ih =>
   intro s n
   have e1 : (d :: ys).foldl gstep (s, n) = ys.foldl gstep ((stepZ s d).1, if (stepZ s d).2 then n + 1 else n) := rfl
   have e2 : (d :: ys).foldl gstep (s, 0) = ys.foldl gstep ((stepZ s d).1, if (stepZ s d).2 then 0 + 1 else 0) := rfl
   rw [e1, e2, ih, ih (stepZ s d).1 (if (stepZ s d).2 then 0 + 1 else 0)]
   refine Prod.ext rfl ?_
   show _ + _ = n + (_ + _)
   split <;> omega
 unfold goZ
 rw [List.foldl_append]
 exact key ys _ _
theorem goZ_cons_ok {d : HDeed} {ds : List HDeed} {h h' : HH} (e : stepZ h d = (h', true)) : goZ (d :: ds) h = ((goZ ds h').1, 1 + (goZ ds h').2) := by
 have := goZ_app [d] ds h
 have e1 : goZ [d] h = (h', 1) := by
  show ((stepZ h d).1, if (stepZ h d).2 then 0 + 1 else 0) = _
  rw [e]; rfl
 rw [e1] at this
 exact this
end Go.Proofs.YtkhnponakhabdaaGreatDoor
set_option linter.unusedVariables false
namespace Go.Proofs.YtkhnponakhabdaaGreatDoor
open Go Go.RowKit
theorem implRun_eq {h : HH} (hL : HL h) (xs : List HDeed) (hx : xs.length ≤ 1048576) : impl_HouseRunS h.1 h.2.1 h.2.2.1 h.2.2.2.1 h.2.2.2.2 xs = some (goR h xs) := by
 obtain ⟨it, pr, st, cash, tb⟩ := h
 have e0 : goZ (xs.take 0) (it, pr, st, cash, tb) = ((it, pr, st, cash, tb), 0) := rfl
 show impl_HouseRunS it pr st cash tb xs = _
 unfold impl_HouseRunS goR
 rw [implHouse_eq _ hL, Option.bind_some]
 by_cases hv : hB (it, pr, st, cash, tb) = true
 ·have hv' : houseB it pr st cash tb = true := hv
  rw [if_neg (by rw [hv']; simp), if_pos hv, implCopyH_id _ hL, Option.bind_some, loopDet (s := ((0 : Int), (0 : Int), it, pr, st, cash, tb)) (fun k => (((goZ (xs.take k) (it, pr, st, cash, tb)).2 : Int), (k : Int), (goZ (xs.take k) (it, pr, st, cash, tb)).1)) xs.length (((goZ xs (it, pr, st, cash, tb)).2 : Int), (goZ xs (it, pr, st, cash, tb)).1) (by rw [e0]; rfl)]
  ·rfl
  ·intro k hk
   have hk' := goZ_all hL hv (xs.take k)
   (try dsimp only)
   rw [if_pos (lt_dec hk), geti_lt' hk, Option.bind_some, implDo_eq hk'.1, Option.bind_some, wr_succ (n := xs.length) (by omega) hk]
   exact go_step hL hv hx hk (fun n s => (some (.inl (n, ((k + 1 : Nat) : Int), s)) : Option ((Int × Int × HH) ⊕ (Int × HH))))
  ·(try dsimp only)
   rw [if_neg (by simp), List.take_of_length_le (Nat.le_refl _)]
 ·have hv' : ¬ houseB it pr st cash tb = true := hv
  rw [if_pos (by simpa using hv'), if_neg hv]
theorem specRun_eq {h : HH} (hL : HL h) (xs : List HDeed) (hx : xs.length ≤ 1048576) : spec_HouseRunS h.1 h.2.1 h.2.2.1 h.2.2.2.1 h.2.2.2.2 xs = some (goR h xs) := by
 obtain ⟨it, pr, st, cash, tb⟩ := h
 have e0 : goZ (xs.take 0) (it, pr, st, cash, tb) = ((it, pr, st, cash, tb), 0) := rfl
 show spec_HouseRunS it pr st cash tb xs = _
 unfold spec_HouseRunS goR
 rw [specHouse_eq _ hL, Option.bind_some]
 by_cases hv : hB (it, pr, st, cash, tb) = true
 ·have hv' : houseB it pr st cash tb = true := hv
  rw [if_neg (by rw [hv']; simp), if_pos hv, specCopyH_id _ hL, Option.bind_some, loopDet (s := ((0 : Int), (0 : Int), it, pr, st, cash, tb)) (fun k => (((goZ (xs.take k) (it, pr, st, cash, tb)).2 : Int), (k : Int), (goZ (xs.take k) (it, pr, st, cash, tb)).1)) xs.length (((goZ xs (it, pr, st, cash, tb)).2 : Int), (goZ xs (it, pr, st, cash, tb)).1) (by rw [e0]; rfl)]
  ·rfl
  ·intro k hk
   have hk' := goZ_all hL hv (xs.take k)
   (try dsimp only)
   rw [if_pos (lt_dec hk), geti_lt' hk, Option.bind_some, specDo_eq hk'.1, Option.bind_some, wr_succ (n := xs.length) (by omega) hk]
   have := go_step hL hv hx hk (fun n s => (some (.inl (n, ((k + 1 : Nat) : Int), s)) : Option ((Int × Int × HH) ⊕ (Int × HH))))
   refine Eq.trans ?_ this
   by_cases hb : (stepZ (goZ (xs.take k) (it, pr, st, cash, tb)).1 xs[k]).2 = true
   ·rw [if_pos hb]; exact if_pos hb
   ·rw [if_neg hb, (stepZ_cases hk'.2.1 xs[k]).2 (by simpa using hb)]; exact if_neg hb
  ·(try dsimp only)
   rw [if_neg (by simp), List.take_of_length_le (Nat.le_refl _)]
 ·have hv' : ¬ houseB it pr st cash tb = true := hv
  rw [if_pos (by simpa using hv'), if_neg hv]
end Go.Proofs.YtkhnponakhabdaaGreatDoor
set_option linter.unusedVariables false
namespace Go.Proofs.YtkhnponakhabdaaGreatDoor
open Go Go.RowKit
def owedTo (pr : List Int) (t : HTab) : Nat → Int
 | 0 => 0
 | k + 1 => owedTo pr t k + (if stateAt t k != 4 then priceAt pr t k else 0)
def owedT (pr : List Int) (t : HTab) : Int := owedTo pr t t.2.2.length
def owedsOf (pr : List Int) : List HTab → Int
 | [] => 0
 | t :: ts => owedT pr t + owedsOf pr ts
def Same (t u : HTab) : Prop := u.1 = t.1 ∧ u.2.2 = t.2.2 ∧ u.2.1.length = t.2.1.length ∧ ∀ j, (stateAt u j == 4) = (stateAt t j == 4)
theorem owed_same {pr : List Int} {t u : HTab} (h : Same t u) : owedT pr u = owedT pr t := by
 obtain ⟨h1, h2, h3, h4⟩ := h
 have key : ∀ k, owedTo pr u k = owedTo pr t k := by
  intro k
  induction k with
  | zero => rfl
  | succ k ih =>
   have hp : priceAt pr u k = priceAt pr t k := by unfold priceAt; rw [h2]
   have hs : (stateAt u k != 4) = (stateAt t k != 4) := by unfold bne; rw [h4 k]
   unfold owedTo
   rw [ih, hp, hs]
 unfold owedT
 rw [h2, key]
theorem oweds_app (pr : List Int) : ∀ a b : List HTab, owedsOf pr (a ++ b) = owedsOf pr a + owedsOf pr b
 | [], b => by simp [owedsOf]
 | t :: a, b => by
  show owedT pr t + owedsOf pr (a ++ b) = owedT pr t + owedsOf pr a + owedsOf pr b
  rw [oweds_app pr a b]; omega
theorem putTo_at {tb : List HTab} {ks : List Tick} (hl : ks.length = tb.length) : ∀ {k : Nat}, k ≤ tb.length → ∀ i (h : i < k) (h1 : i < tb.length) (h2 : i < ks.length), (putTo tb ks k)[i]? = some (tb[i].1, ks[i], tb[i].2.2)
 | k + 1, hk, i, hi, h1, h2 => by
  rw [putTo_step (by omega) (by omega)]
  rcases Nat.lt_or_ge i k with h3 | h3
  ·rw [List.getElem?_set_ne (by omega)]; exact putTo_at hl (by omega) i h3 h1 h2
  ·obtain rfl : i = k := by omega
   rw [List.getElem?_set_self (by rw [putTo_len]; omega)]
theorem putTo_set {tb : List HTab} {i : Nat} (hi : i < tb.length) (u : Tick) : putTo tb ((ticksOf tb).set i u) tb.length = tb.set i (tb[i].1, u, tb[i].2.2) := by
 have hl : ((ticksOf tb).set i u).length = tb.length := by simp [ticksOf]
 refine List.ext_getElem (by rw [putTo_len, List.length_set]) fun q h1 h2 => ?_
 have hq : q < tb.length := by rw [putTo_len] at h1; exact h1
 have hg := putTo_at hl (Nat.le_refl _) q hq hq (by omega)
 rw [List.getElem?_eq_getElem h1] at hg
 rw [Option.some.inj hg, List.getElem_set, List.getElem_set]
 by_cases e : i = q
 ·subst e; rw [if_pos rfl, if_pos rfl]
 ·rw [if_neg e, if_neg e]; simp [ticksOf]
section
variable {it : List HItem} {pr st : List Int} {cash : Int} {tb : List HTab}
theorem work_eq (h : (stepK (ticksOf tb)).2 = true) : ∃ i j, ∃ hi : i < tb.length, ∃ hj : j < tb[i].2.1.length, (0 ≤ tb[i].2.1[j].2 ∧ tb[i].2.1[j].2 ≤ 2) ∧ ticketB (tb[i].2.1.set j (tb[i].2.1[j].1, tb[i].2.1[j].2 + 1)) = true ∧
  putTo tb (stepK (ticksOf tb)).1 tb.length = tb.set i (tb[i].1, tb[i].2.1.set j (tb[i].2.1[j].1, tb[i].2.1[j].2 + 1), tb[i].2.2) := by
 obtain ⟨i, j, hi, hj, hs, he, ht⟩ := step_at h
 have hi' : i < tb.length := by simpa [ticksOf] using hi
 have e : (ticksOf tb)[i] = tb[i].2.1 := by simp [ticksOf]
 have hset := setTk_at hi hj ((ticksOf tb)[i][j].2 + 1)
 revert hj
 rw [e]
 intro hj hs he ht hset
 refine ⟨i, j, hi', hj, hs, ht, ?_⟩
 rw [he, hset, putTo_set hi']
theorem table_step {t : HTab} (h : tableB it t = true) {u : Tick} (hu : ticketB u = true) (hl : u.length = t.2.1.length) : tableB it (t.1, u, t.2.2) = true := by
 obtain ⟨h1, h2, h3, h4⟩ := tableB_true.1 h
 exact tableB_true.2 ⟨h1, hu, by show t.2.2.length = u.length; omega, h4⟩
theorem houseB_put (hv : houseB it pr st cash tb = true) {cash' : Int} (hc : 0 ≤ cash' ∧ cash' ≤ 99999) {us : List HTab} (hl : us.length ≤ 4) (h : ∀ t ∈ us, tableB it t = true) : houseB it pr st cash' us = true := by
 unfold houseB at hv ⊢
 simp only [Bool.and_eq_true] at hv ⊢
 exact ⟨⟨hv.1.1, decide_eq_true hc⟩, decide_eq_true hl, List.all_eq_true.2 h⟩
theorem owed_step {t : HTab} {j : Nat} (hj : j < t.2.1.length) (hs : 0 ≤ t.2.1[j].2 ∧ t.2.1[j].2 ≤ 2) : owedT pr (t.1, t.2.1.set j (t.2.1[j].1, t.2.1[j].2 + 1), t.2.2) = owedT pr t := by
 refine owed_same ⟨rfl, rfl, by simp, fun q => ?_⟩
 unfold stateAt
 show ((match (t.2.1.set j (t.2.1[j].1, t.2.1[j].2 + 1))[q]? with | some o => o.2 | none => 0) == 4) = _
 rw [List.getElem?_set]
 by_cases e : j = q
 ·subst e
  rw [if_pos rfl, if_pos hj, List.getElem?_eq_getElem hj]
  dsimp only
  have h1 : (t.2.1[j].2 + 1 == 4) = false := by rw [beq_eq_false_iff_ne]; omega
  have h2 : (t.2.1[j].2 == 4) = false := by rw [beq_eq_false_iff_ne]; omega
  rw [h1, h2]
 ·rw [if_neg e]; rfl
theorem do_work (hv : houseB it pr st cash tb = true) (h : 0 < leftK (ticksOf tb)) : ∃ us, stepZ (it, pr, st, cash, tb) (4, 0, 0, 0) = ((it, pr, st, cash, us), true) ∧ houseB it pr st cash us = true ∧ leftK (ticksOf us) + 1 = leftK (ticksOf tb) ∧ owedsOf pr us = owedsOf pr tb ∧ us.length = tb.length := by
 have hy := step_yes (houseB_kit hv) h
 obtain ⟨h1, h2⟩ := step_left hy
 have hpa := putTo_all tb (stepK (ticksOf tb)).1 (by rw [stepK_len hy]; simp [ticksOf])
 obtain ⟨i, j, hi, hj, hs, ht, he⟩ := work_eq hy
 have htb := houseB_tables hv
 have hB : houseB it pr st cash (putTo tb (stepK (ticksOf tb)).1 tb.length) = true := by
  refine houseB_put hv (houseB_cash hv) (by rw [putTo_len]; exact htb.1) fun t hx => ?_
  rw [he] at hx
  rcases List.mem_or_eq_of_mem_set hx with hx | rfl
  ·exact htb.2 t hx
  ·exact table_step (htb.2 _ (List.getElem_mem hi)) ht (by simp)
 refine ⟨putTo tb (stepK (ticksOf tb)).1 tb.length, ?_, hB, by rw [hpa]; exact h1, ?_, putTo_len _ _ _⟩
 ·show doZ it pr st cash tb 4 0 0 0 = _
  unfold doZ
  rw [if_pos hv, if_pos (by decide)]
  have e : effZ it pr st cash tb 4 0 0 0 = some (st, cash, putTo tb (stepK (ticksOf tb)).1 tb.length) := by
   unfold effZ
   rw [if_neg (by decide), if_neg (by decide), if_neg (by decide), if_neg (by decide), if_pos rfl]
   unfold workE
   rw [if_pos hy]
  rw [e]
  unfold finZ
  dsimp only
  rw [if_pos hB]
 ·rw [he, set_split hi, oweds_app]
  conv => rhs; rw [split_at hi, oweds_app]
  show _ + (owedT pr _ + _) = _ + (owedT pr _ + _)
  rw [owed_step hj hs]
theorem do_works : ∀ (n : Nat) {tb : List HTab}, houseB it pr st cash tb = true → leftK (ticksOf tb) = n → ∃ us, goZ (List.replicate n (4, 0, 0, 0)) (it, pr, st, cash, tb) = ((it, pr, st, cash, us), n) ∧ houseB it pr st cash us = true ∧ leftK (ticksOf us) = 0 ∧ owedsOf pr us = owedsOf pr tb ∧ us.length = tb.length
 | 0, tb, hv, h => ⟨tb, rfl, hv, h, rfl, rfl⟩
 | n + 1, tb, hv, h => by
  obtain ⟨us, e1, e2, e3, e4, e5⟩ := do_work hv (by omega)
  obtain ⟨vs, f1, f2, f3, f4, f5⟩ := do_works n e2 (by omega)
  refine ⟨vs, ?_, f2, f3, by rw [f4, e4], by rw [f5, e5]⟩
  rw [List.replicate_succ, goZ_cons_ok e1, f1]
  refine Prod.ext rfl ?_
  show 1 + n = n + 1
  omega
theorem leftK_mem : ∀ {ks : List Tick}, leftK ks = 0 → ∀ t ∈ ks, leftN t = 0
 | t :: ks, h, u, hu => by
  unfold leftK at h
  rcases List.mem_cons.1 hu with rfl | hu
  ·omega
  ·exact leftK_mem (ks := ks) (by omega) u hu
theorem owed_bill {t : HTab} (hl : t.2.2.length = t.2.1.length) (hv : ticketB t.2.1 = true) (h : leftN t.2.1 = 0) : owedT pr t = billT pr t := by
 have h3 := (left_done hv h).1
 have key : ∀ k, k ≤ t.2.1.length → owedTo pr t k = billTo pr t k := by
  intro k
  induction k with
  | zero => intro _; rfl
  | succ k ih =>
   intro hk
   have hk' : k < t.2.1.length := by omega
   have h3' := h3 _ (List.getElem_mem hk')
   have h4 := (ticket_in hv (List.getElem_mem hk')).2
   have hs : (stateAt t k != 4) = (stateAt t k == 3) := by
    rw [stateAt_lt hk', Bool.eq_iff_iff, bne_iff_ne, beq_iff_eq]; omega
   unfold owedTo billTo
   rw [ih (by omega), hs]
 unfold owedT billT
 rw [hl, key _ (Nat.le_refl _)]
theorem do_closes : ∀ (tb : List HTab) {cash : Int}, houseB it pr st cash tb = true → leftK (ticksOf tb) = 0 → cash + owedsOf pr tb ≤ 99999 → goZ (List.replicate tb.length (5, 0, 0, 0)) (it, pr, st, cash, tb) = ((it, pr, st, cash + owedsOf pr tb, []), tb.length)
 | [], cash, hv, _, _ => by
  show ((it, pr, st, cash, []), 0) = _
  simp [owedsOf]
 | t :: ts, cash, hv, h0, hw => by
  have htb := houseB_tables hv
  have hts := tableB_true.1 (htb.2 t (by simp))
  have hlt : leftN t.2.1 = 0 := leftK_mem h0 _ (by simp [ticksOf])
  have hdone := (left_done hts.2.1 hlt).2
  have hob := owed_bill (pr := pr) hts.2.2.1 hts.2.1 hlt
  have h0' : 0 < (t :: ts).length := by simp
  have hbill : billZ it pr st cash (t :: ts) 0 = owedT pr t := by
   have e := billZ_at (k := 0) hv h0'
   rw [billOf_lt h0'] at e
   rw [hob]
   exact e
  have hb0 := (billOf_range hv 0)
  rw [← billZ_at (k := 0) hv h0', show ((0 : Nat) : Int) = 0 from rfl, hbill] at hb0
  have hrest : 0 ≤ owedsOf pr ts := by
   have hp := (houseB_prices hv).2
   have one : ∀ (t : HTab) (k : Nat), 0 ≤ owedTo pr t k := by
    intro t k
    induction k with
    | zero => exact Int.le_refl 0
    | succ k ih =>
     have : 0 ≤ priceAt pr t k := by
      unfold priceAt
      split
      ·exact (getD_range hp _).1
      ·decide
     unfold owedTo
     split <;> omega
   have all : ∀ ts : List HTab, 0 ≤ owedsOf pr ts := by
    intro ts
    induction ts with
    | nil => exact Int.le_refl 0
    | cons u us ih =>
     have := one u u.2.2.length
     show 0 ≤ owedT pr u + owedsOf pr us
     unfold owedT
     omega
   exact all ts
  have hw' : cash + (owedT pr t + owedsOf pr ts) ≤ 99999 := hw
  have hc := houseB_cash hv
  have hB : houseB it pr st (cash + owedT pr t) ts = true := houseB_put hv ⟨by omega, by omega⟩ (by have := htb.1; simp at this; omega) fun u hu => htb.2 u (by simp [hu])
  have e1 : stepZ (it, pr, st, cash, t :: ts) (5, 0, 0, 0) = ((it, pr, st, cash + owedT pr t, ts), true) := by
   show doZ it pr st cash (t :: ts) 5 0 0 0 = _
   unfold doZ
   rw [if_pos hv, if_pos (by decide)]
   have e : effZ it pr st cash (t :: ts) 5 0 0 0 = some (st, cash + owedT pr t, ts) := by
    unfold effZ
    rw [if_neg (by decide), if_neg (by decide), if_neg (by decide), if_neg (by decide), if_neg (by decide), if_pos rfl]
    unfold closeE
    rw [show geti (t :: ts) 0 = some t from rfl]
    dsimp only
    rw [if_pos hdone, hbill]; rfl
   rw [e]
   unfold finZ
   dsimp only
   rw [if_pos hB]
  have hl0 : leftK (ticksOf ts) = 0 := by
   have : leftK (t.2.1 :: ticksOf ts) = 0 := h0
   unfold leftK at this
   omega
  have ih := do_closes ts hB hl0 (by omega)
  show goZ (List.replicate (ts.length + 1) (5, 0, 0, 0)) _ = _
  rw [List.replicate_succ, goZ_cons_ok e1, ih]
  refine Prod.ext ?_ ?_
  ·show (it, pr, st, cash + owedT pr t + owedsOf pr ts, []) = (it, pr, st, cash + (owedT pr t + owedsOf pr ts), [])
   rw [Int.add_assoc]
  ·show 1 + ts.length = ts.length + 1
   omega
theorem end_run (hv : houseB it pr st cash tb = true) (hw : cash + owedsOf pr tb ≤ 99999) : goZ (endDeeds tb) (it, pr, st, cash, tb) = ((it, pr, st, cash + owedsOf pr tb, []), (endDeeds tb).length) := by
 obtain ⟨us, e1, e2, e3, e4, e5⟩ := do_works _ hv rfl
 unfold endDeeds
 rw [goZ_app, e1, ← e5, do_closes us e2 e3 (by rw [e4]; exact hw), e4]
 refine Prod.ext rfl ?_
 simp
end
end Go.Proofs.YtkhnponakhabdaaGreatDoor
