import Derived.Test.YtkhnponakhabdaaGreatDoorMPl
import Derived.Test.YtkhnponakhabdaaGreatDoorMHs
import Derived.Test.YtkhnponakhabdaaGreatDoorDraw
import Derived.Test.YtkhnponakhabdaaGreatDoorMDo
import Derived.Test.YtkhnponakhabdaaGreatDoorMWk
set_option linter.unusedVariables false
namespace Go.Proofs.YtkhnponakhabdaaGreatDoor
open Go Go.RowKit
theorem loopEq {α : Type} [DecidableEq α] (xs ys : List α) (hl : xs.length = ys.length) {step : Int → Option (Int ⊕ (Unit ⊕ Bool))}
  (h : ∀ k (hk : k < xs.length) (hy : k < ys.length), step (k : Int) = some (if xs[k] = ys[k] then .inl ((k + 1 : Nat) : Int) else .inr (.inr false))) (he : step (xs.length : Int) = some (.inr (.inl ()))) :
  loop (σ := Int) (ρ := Unit ⊕ Bool) step 0 = some (if xs = ys then .inl () else .inr false) := by
 rw [loopList xs (fun k x => decide (ys[k]? = some x))]
 ·have e : (allI xs fun k x => decide (ys[k]? = some x)) = decide (xs = ys) := by
   rw [Bool.eq_iff_iff, allI_true, decide_eq_true_eq]
   constructor
   ·intro h
    refine List.ext_getElem hl fun k h1 h2 => ?_
    have := of_decide_eq_true (h k h1)
    rw [List.getElem?_eq_getElem h2] at this
    exact (Option.some.inj this).symm
   ·rintro rfl k hk
    exact decide_eq_true (List.getElem?_eq_getElem hk)
  rw [e]
  by_cases hx : xs = ys
  ·rw [if_pos hx, if_pos (decide_eq_true hx)]
  ·rw [if_neg hx, if_neg (by simpa using hx)]
 ·intro k hk
  have hy : k < ys.length := by omega
  rw [h k hk hy, List.getElem?_eq_getElem hy]
  by_cases hx : xs[k] = ys[k]
  ·rw [if_pos hx, if_pos (decide_eq_true (by rw [hx]))]
  ·rw [if_neg hx, if_neg (by simpa using fun e => hx e.symm)]
 ·exact he
end Go.Proofs.YtkhnponakhabdaaGreatDoor
set_option linter.unusedVariables false
namespace Go.Proofs.YtkhnponakhabdaaGreatDoor
open Go Go.RowKit
theorem sameInts_eq (xs ys : List Int) (h : xs.length ≤ 4611686018427387904) : laws_sameIntsS xs ys = some (decide (xs = ys)) := by
 unfold laws_sameIntsS
 by_cases hl : xs.length = ys.length
 ·rw [if_neg (by simp; omega), loopEq xs ys hl]
  ·by_cases e : xs = ys
   ·rw [if_pos e, decide_eq_true e]; rfl
   ·rw [if_neg e, decide_eq_false e]; rfl
  ·intro k hk hy
   (try dsimp only)
   rw [if_pos (lt_dec hk), geti_lt' hk, Option.bind_some, geti_lt' hy, Option.bind_some, wr_succ h hk]
   by_cases e : xs[k] = ys[k]
   ·rw [if_neg (by simpa using e), if_pos e]
   ·rw [if_pos (by simpa using e), if_neg e]
  ·(try dsimp only)
   rw [if_neg (by simp)]
 ·rw [if_pos (by simp; omega), decide_eq_false (fun e => hl (by rw [e]))]
theorem sameTicket_eq (xs ys : List (Int × Int)) (h : xs.length ≤ 4611686018427387904) : laws_sameTicketS xs ys = some (decide (xs = ys)) := by
 unfold laws_sameTicketS
 by_cases hl : xs.length = ys.length
 ·rw [if_neg (by simp; omega), loopEq xs ys hl]
  ·by_cases e : xs = ys
   ·rw [if_pos e, decide_eq_true e]; rfl
   ·rw [if_neg e, decide_eq_false e]; rfl
  ·intro k hk hy
   (try dsimp only)
   rw [if_pos (lt_dec hk), geti_lt' hk, Option.bind_some, geti_lt' hy, Option.bind_some, wr_succ h hk]
   rw [show ((xs[k].1, xs[k].2) == (ys[k].1, ys[k].2)) = decide (xs[k] = ys[k]) from by rw [Bool.eq_iff_iff, beq_iff_eq, decide_eq_true_eq]]
   by_cases e : xs[k] = ys[k]
   ·rw [decide_eq_true e, if_neg (by simp), if_pos e]
   ·rw [decide_eq_false e, if_pos (by simp), if_neg e]
  ·(try dsimp only)
   rw [if_neg (by simp)]
 ·rw [if_pos (by simp; omega), decide_eq_false (fun e => hl (by rw [e]))]
theorem sameItem_eq (y : Int) (ps : List (Int × Int)) (m y' : Int) (ps' : List (Int × Int)) (m' : Int) (h : ps.length ≤ 4611686018427387904) : laws_sameItemS y ps m y' ps' m' = some (decide ((y, ps, m) = (y', ps', m'))) := by
 unfold laws_sameItemS
 by_cases h1 : y = y' ∧ m = m' ∧ ps.length = ps'.length
 ·obtain ⟨rfl, rfl, hl⟩ := h1
  rw [if_neg (by simp; omega), loopEq ps ps' hl]
  ·by_cases e : ps = ps'
   ·rw [if_pos e, decide_eq_true (by rw [e])]; rfl
   ·rw [if_neg e, decide_eq_false (fun e' => e (Prod.mk.inj (Prod.mk.inj e').2).1)]; rfl
  ·intro k hk hy
   (try dsimp only)
   rw [if_pos (lt_dec hk), geti_lt' hk, Option.bind_some, geti_lt' hy, Option.bind_some, wr_succ h hk]
   rw [show ((ps[k].1, ps[k].2) == (ps'[k].1, ps'[k].2)) = decide (ps[k] = ps'[k]) from by rw [Bool.eq_iff_iff, beq_iff_eq, decide_eq_true_eq]]
   by_cases e : ps[k] = ps'[k]
   ·rw [decide_eq_true e, if_neg (by simp), if_pos e]
   ·rw [decide_eq_false e, if_pos (by simp), if_neg e]
  ·(try dsimp only)
   rw [if_neg (by simp)]
 ·have hb : (((y != y') || (m != m')) || ((ps.length : Int) != (ps'.length : Int))) = true := by
   rw [Bool.or_eq_true, Bool.or_eq_true, bne_iff_ne, bne_iff_ne, bne_iff_ne]
   by_cases a : y = y'
   ·by_cases b : m = m'
    ·exact .inr (fun c => h1 ⟨a, b, by omega⟩)
    ·exact .inl (.inr b)
   ·exact .inl (.inl a)
  rw [if_pos hb, decide_eq_false (fun e => h1 ⟨(Prod.mk.inj e).1, (Prod.mk.inj (Prod.mk.inj e).2).2, by rw [(Prod.mk.inj (Prod.mk.inj e).2).1]⟩)]
def sameHB (it : List HItem) (pr st : List Int) (cash : Int) (tb : List HTab) (it' : List HItem) (pr' st' : List Int) (cash' : Int) (tb' : List HTab) : Bool := decide (it = it') && (decide (pr = pr') && (decide (st = st') && (decide (cash = cash') && decide (tb = tb'))))
theorem sameHB_true {it it' : List HItem} {pr st pr' st' : List Int} {cash cash' : Int} {tb tb' : List HTab} : sameHB it pr st cash tb it' pr' st' cash' tb' = true ↔ it = it' ∧ pr = pr' ∧ st = st' ∧ cash = cash' ∧ tb = tb' := by
 unfold sameHB
 simp only [Bool.and_eq_true, decide_eq_true_eq]
theorem sameHouse_eq {it it' : List HItem} {pr st pr' st' : List Int} {cash cash' : Int} {tb tb' : List HTab} (h : HouseL it pr st tb) : laws_sameHouseS it pr st cash tb it' pr' st' cash' tb' = some (sameHB it pr st cash tb it' pr' st' cash' tb') := by
 obtain ⟨hi, hp, hs, ht⟩ := h
 have hil := hi.1
 have htl := ht.1
 unfold laws_sameHouseS sameHB
 by_cases h1 : it.length = it'.length
 rotate_left
 ·rw [if_pos (by simp; omega), decide_eq_false (fun e => h1 (by rw [e]) : ¬ it = it')]; rfl
 rw [if_neg (by simp; omega), sameInts_eq pr pr' (by omega), Option.bind_some, Option.bind_some]
 by_cases h2 : pr = pr'
 rotate_left
 ·rw [decide_eq_false h2, Bool.false_and, Bool.and_false]; rfl
 rw [decide_eq_true h2, Bool.not_true, if_neg (by simp), sameInts_eq st st' (by omega), Option.bind_some, Option.bind_some]
 by_cases h3 : st = st'
 rotate_left
 ·rw [decide_eq_false h3, Bool.false_and, Bool.and_false, Bool.and_false]; rfl
 rw [decide_eq_true h3, Bool.not_true, Bool.false_or]
 by_cases h4 : cash = cash'
 rotate_left
 ·rw [if_pos (by simp [h4]), decide_eq_false h4, Bool.false_and, Bool.and_false, Bool.and_false, Bool.and_false]
 by_cases h5 : tb.length = tb'.length
 rotate_left
 ·rw [if_pos (by simp; omega), decide_eq_false (fun e => h5 (by rw [e]) : ¬ tb = tb'), Bool.and_false, Bool.and_false, Bool.and_false, Bool.and_false]
 rw [if_neg (by simp [h4]; omega), loopEq it it' h1]
 ·by_cases h6 : it = it'
  rotate_left
  ·rw [if_neg h6, decide_eq_false h6, Bool.false_and]; rfl
  rw [if_pos h6, Option.bind_some]
  dsimp only
  rw [loopEq tb tb' h5]
  ·by_cases h7 : tb = tb'
   rotate_left
   ·rw [if_neg h7, decide_eq_false h7, Bool.and_false, Bool.and_false, Bool.and_false, Bool.and_false]; rfl
   rw [if_pos h7, decide_eq_true h4, decide_eq_true h6, decide_eq_true h7]; rfl
  ·intro k hk hy
   have hx := ht.2 _ (List.getElem_mem hk)
   (try dsimp only)
   rw [if_pos (lt_dec hk), geti_lt' hk, Option.bind_some, geti_lt' hy, Option.bind_some, wr_succ (n := tb.length) (by omega) hk]
   by_cases a : tb[k].1 = tb'[k].1
   rotate_left
   ·rw [if_pos (by simpa using a), if_neg (show ¬ tb[k] = tb'[k] from fun e => a (by rw [e]))]; rfl
   rw [if_neg (by simpa using a), Option.bind_some, Option.bind_some, sameTicket_eq _ _ (by omega), Option.bind_some, Option.bind_some]
   by_cases b : tb[k].2.1 = tb'[k].2.1
   rotate_left
   ·rw [decide_eq_false b, if_neg (show ¬ tb[k] = tb'[k] from fun e => b (by rw [e]))]; rfl
   rw [decide_eq_true b, Bool.not_true, if_neg (by simp), Option.bind_some, Option.bind_some, sameInts_eq _ _ (by omega), Option.bind_some, Option.bind_some]
   by_cases c : tb[k].2.2 = tb'[k].2.2
   rotate_left
   ·rw [decide_eq_false c, if_neg (show ¬ tb[k] = tb'[k] from fun e => c (by rw [e]))]; rfl
   rw [decide_eq_true c, if_pos (Prod.ext a (Prod.ext b c))]; rfl
  ·(try dsimp only)
   rw [if_neg (by simp)]
 ·intro k hk hy
  have hx := hi.2 _ (List.getElem_mem hk)
  (try dsimp only)
  rw [if_pos (lt_dec hk), geti_lt' hk, Option.bind_some, geti_lt' hy, Option.bind_some, sameItem_eq _ _ _ _ _ _ (by omega), Option.bind_some, wr_succ (n := it.length) (by omega) hk]
  by_cases e : it[k] = it'[k]
  ·rw [if_pos e, decide_eq_true (by rw [e]), if_neg (by simp)]
  ·rw [if_neg e, decide_eq_false (fun e' => e e'), if_pos (by simp)]
 ·(try dsimp only)
  rw [if_neg (by simp)]
end Go.Proofs.YtkhnponakhabdaaGreatDoor
set_option linter.unusedVariables false
namespace Go.Proofs.YtkhnponakhabdaaGreatDoor
open Go Go.RowKit
theorem odd0 (b : List Int) (p : Int) : spec_l20Rd__oddS b p 0 = some (p, false) := by
 unfold spec_l20Rd__oddS
 rw [if_neg (by simp)]; rfl
def FewParts (x : HItem) : Prop := x.2.1.length ≤ 3
theorem item_ret {b : List Int} {p i : Int} (hb : By b) (h0 : 0 ≤ p) (h1 : p ≤ 900000) (hi : 0 ≤ i) (hi2 : i ≤ 6) : Ret (spec_l20ItemS b p i 0) (fun r => p ≤ r.1 ∧ r.1 ≤ p + 16 ∧ FewParts r.2) := by
 unfold spec_l20ItemS
 refine Ret.bind (pick_ret hb h0 (by omega)) (fun r hr => ?_)
 refine Ret.bind (pick_ret hb (by omega) (by omega)) (fun r2 hr2 => ?_)
 refine Ret.bind (Q := fun o => p ≤ o.1 ∧ o.1 ≤ p + 3 ∧ (o.2 = true → 0 < i)) ?_ (fun o ho => ?_)
 ·refine Ret.ite (fun h => ?_) (fun h => Ret.pure ⟨by omega, by omega, fun h => by cases h⟩)
  have hi1 := of_decide_eq_true h
  refine Ret.bind (pick_ret hb (by omega) (by omega)) (fun r3 hr3 => Ret.pure ⟨?_, ?_, fun _ => hi1⟩)
  ·show p ≤ r3.1; omega
  ·show r3.1 ≤ p + 3; omega
 obtain ⟨g, bb⟩ := o
 obtain ⟨hg1, hg2, hbb⟩ := ho
 have hg1 : p ≤ g := hg1
 have hg2 : g ≤ p + 3 := hg2
 dsimp only
 refine Ret.bind (Q := fun o => p ≤ o.1 ∧ o.1 ≤ p + 16 ∧ o.2.2.length ≤ 3) ?_ (fun o ho => ?_)
 ·refine Ret.ite (fun h => ?_) (fun h => Ret.pure ⟨hg1, by show g ≤ p + 16; omega, by simp⟩)
  have hi1 := hbb h
  refine Ret.bind (pick_ret hb (by omega) (by omega)) (fun r4 hr4 => ?_)
  refine Ret.loopb (fun s => 0 ≤ s.1 ∧ s.1 ≤ i ∧ g + 1 ≤ s.2.1 ∧ s.2.1 ≤ g + 1 + 2 * s.1 ∧ s.2.2.length ≤ 3) (fun s => (i - s.1).toNat) (fun r => g + 1 ≤ r.1 ∧ r.1 ≤ g + 1 + 2 * i ∧ r.2.length ≤ 3) ⟨by show (0 : Int) ≤ 0; omega, by show (0 : Int) ≤ i; omega, by show g + 1 ≤ r4.1; omega, by show r4.1 ≤ g + 1 + 2 * 0; omega, by simp⟩ ?_ (fun r hr => ?_)
  ·rintro ⟨j, q, ps⟩ ⟨a1, a2, a3, a4, a5⟩
   dsimp only at a1 a2 a3 a4 a5 ⊢
   refine Ret.ite (fun h => ?_) (fun h => Ret.pure ⟨a3, by show q ≤ _; omega, a5⟩)
   rw [Bool.and_eq_true] at h
   have hj := of_decide_eq_true h.1
   have hl := of_decide_eq_true h.2
   have hw : IntKind.wrap .i64 (j + 1) = j + 1 := wr ⟨by omega, by omega⟩
   refine Ret.bind (pick_ret hb (by omega) (by omega)) (fun r5 hr5 => ?_)
   refine Ret.ite (fun h => ?_) (fun h => ?_)
   ·refine Ret.bind (pick_ret hb (by omega) (by omega)) (fun r6 hr6 => ?_)
    rw [appO_le (by simp; omega), Option.bind_some, hw]
    refine Ret.pure ⟨⟨by show 0 ≤ j + 1; omega, by show j + 1 ≤ i; omega, by show g + 1 ≤ r6.1; omega, by show r6.1 ≤ g + 1 + 2 * (j + 1); omega, by simp; omega⟩, by show (i - (j + 1)).toNat < (i - j).toNat; omega⟩
   ·rw [hw]
    refine Ret.pure ⟨⟨by show 0 ≤ j + 1; omega, by show j + 1 ≤ i; omega, by show g + 1 ≤ r5.1; omega, by show r5.1 ≤ g + 1 + 2 * (j + 1); omega, a5⟩, by show (i - (j + 1)).toNat < (i - j).toNat; omega⟩
  ·obtain ⟨q, ps⟩ := r
   exact Ret.pure ⟨by have := hr.1; show p ≤ q; have : g + 1 ≤ q := hr.1; omega, by have : q ≤ g + 1 + 2 * i := hr.2.1; show q ≤ p + 16; omega, hr.2.2⟩
 obtain ⟨g2, y, ps⟩ := o
 dsimp only
 rw [odd0, Option.bind_some]
 dsimp only
 rw [if_neg (by simp), Option.bind_some]
 exact Ret.pure ho
def ItemsS (xs : List HItem) : Prop := xs.length ≤ 6 ∧ ∀ x ∈ xs, FewParts x
theorem items_ret {b : List Int} {p : Int} (hb : By b) (h0 : 0 ≤ p) (h1 : p ≤ 800000) : Ret (spec_l20ItemsS b p 0) (fun r => p ≤ r.1 ∧ r.1 ≤ p + 100 ∧ ItemsS r.2) := by
 unfold spec_l20ItemsS
 refine Ret.bind (pick_ret hb h0 (by omega)) (fun r hr => ?_)
 have hr7 := hr.2.2 (by omega)
 refine Ret.loopb (fun s => 0 ≤ s.2.1 ∧ (s.1.length : Int) + s.2.1 ≤ 6 ∧ p + 1 ≤ s.2.2 ∧ s.2.2 ≤ p + 1 + 16 * s.1.length ∧ ∀ x ∈ s.1, FewParts x) (fun s => s.2.1.toNat) (fun o => p ≤ o.2 ∧ o.2 ≤ p + 100 ∧ ItemsS o.1) ⟨hr.2.1, by show ((0 : Nat) : Int) + r.2 ≤ 6; omega, by show p + 1 ≤ r.1; omega, by show r.1 ≤ p + 1 + 16 * ((0 : Nat) : Int); omega, by intro x hx; cases hx⟩ ?_ (fun o ho => ?_)
 ·rintro ⟨xs, k, q⟩ ⟨a1, a2, a3, a4, a5⟩
  dsimp only at a1 a2 a3 a4 a5 ⊢
  refine Ret.ite (fun h => ?_) (fun h => Ret.pure ⟨by show p ≤ q; omega, by show q ≤ p + 100; omega, by show xs.length ≤ 6; omega, a5⟩)
  have hk := of_decide_eq_true h
  refine Ret.bind (item_ret hb (by omega) (by omega) (i := (xs.length : Int)) (by omega) (by omega)) (fun r2 hr2 => ?_)
  rw [appO_le (by simp; omega), Option.bind_some, wr (x := k - 1) ⟨by omega, by omega⟩]
  refine Ret.pure ⟨⟨by show 0 ≤ k - 1; omega, by simp; omega, by show p + 1 ≤ r2.1; have := hr2.1; omega, by show r2.1 ≤ p + 1 + 16 * ((xs ++ [_]).length : Int); have := hr2.2.1; simp; omega, ?_⟩, by show (k - 1).toNat < k.toNat; omega⟩
  intro x hx
  rcases List.mem_append.1 hx with hx | hx
  ·exact a5 x hx
  ·rw [List.mem_singleton.1 hx]; exact hr2.2.2
 ·obtain ⟨xs, q⟩ := o
  dsimp only
  rw [odd0, Option.bind_some, if_neg (by simp)]
  exact Ret.pure ho
theorem prices_ret {b : List Int} {p : Int} (hb : By b) (h0 : 0 ≤ p) (h1 : p ≤ 800000) {xs : List HItem} (hx : xs.length ≤ 6) : Ret (spec_l20PricesS b p xs 0) (fun r => p ≤ r.1 ∧ r.1 ≤ p + 6 ∧ r.2.length ≤ 6) := by
 unfold spec_l20PricesS
 refine Ret.loopb (fun s => 0 ≤ s.2.1 ∧ s.2.1 ≤ (xs.length : Int) ∧ (s.1.length : Int) = s.2.1 ∧ p ≤ s.2.2 ∧ s.2.2 ≤ p + s.2.1) (fun s => ((xs.length : Int) - s.2.1).toNat) (fun o => p ≤ o.2 ∧ o.2 ≤ p + 6 ∧ o.1.length ≤ 6) ⟨by show (0 : Int) ≤ 0; omega, by show (0 : Int) ≤ _; omega, rfl, by show p ≤ p; omega, by show p ≤ p + 0; omega⟩ ?_ (fun o ho => ?_)
 ·rintro ⟨out, k, q⟩ ⟨a1, a2, a3, a4, a5⟩
  dsimp only at a1 a2 a3 a4 a5 ⊢
  refine Ret.ite (fun h => ?_) (fun h => Ret.pure ⟨a4, by show q ≤ p + 6; omega, by show out.length ≤ 6; omega⟩)
  have hk := of_decide_eq_true h
  refine Ret.bind (pick_ret hb (by omega) (by omega)) (fun r2 hr2 => ?_)
  rw [appO_le (by simp; omega), Option.bind_some, wr (x := k + 1) ⟨by omega, by omega⟩]
  exact Ret.pure ⟨⟨by show 0 ≤ k + 1; omega, by show k + 1 ≤ _; omega, by simp; omega, by show p ≤ r2.1; omega, by show r2.1 ≤ p + (k + 1); omega⟩, by show ((xs.length : Int) - (k + 1)).toNat < ((xs.length : Int) - k).toNat; omega⟩
 ·obtain ⟨out, q⟩ := o
  dsimp only
  rw [odd0, Option.bind_some, if_neg (by simp)]
  exact Ret.pure ho
theorem amounts_ret {b : List Int} {p : Int} (hb : By b) (h0 : 0 ≤ p) (h1 : p ≤ 800000) {xs : List HItem} (hx : xs.length ≤ 6) : Ret (spec_l20AmountsS b p xs 0) (fun r => p ≤ r.1 ∧ r.1 ≤ p + 12 ∧ r.2.length ≤ 6) := by
 unfold spec_l20AmountsS
 refine Ret.loopb (fun s => 0 ≤ s.2.1 ∧ s.2.1 ≤ (xs.length : Int) ∧ (s.1.length : Int) = s.2.1 ∧ p ≤ s.2.2 ∧ s.2.2 ≤ p + 2 * s.2.1) (fun s => ((xs.length : Int) - s.2.1).toNat) (fun o => p ≤ o.2 ∧ o.2 ≤ p + 12 ∧ o.1.length ≤ 6) ⟨by show (0 : Int) ≤ 0; omega, by show (0 : Int) ≤ _; omega, rfl, by show p ≤ p; omega, by show p ≤ p + 2 * 0; omega⟩ ?_ (fun o ho => ?_)
 ·rintro ⟨out, k, q⟩ ⟨a1, a2, a3, a4, a5⟩
  dsimp only at a1 a2 a3 a4 a5 ⊢
  refine Ret.ite (fun h => ?_) (fun h => Ret.pure ⟨a4, by show q ≤ p + 12; omega, by show out.length ≤ 6; omega⟩)
  have hk := of_decide_eq_true h
  refine Ret.bind (pick_ret hb (by omega) (by omega)) (fun r2 hr2 => ?_)
  refine Ret.bind (pick_ret hb (by omega) (by omega)) (fun r3 hr3 => ?_)
  rw [appO_le (by simp; omega), Option.bind_some, wr (x := k + 1) ⟨by omega, by omega⟩]
  exact Ret.pure ⟨⟨by show 0 ≤ k + 1; omega, by show k + 1 ≤ _; omega, by simp; omega, by show p ≤ r3.1; omega, by show r3.1 ≤ p + 2 * (k + 1); omega⟩, by show ((xs.length : Int) - (k + 1)).toNat < ((xs.length : Int) - k).toNat; omega⟩
 ·obtain ⟨out, q⟩ := o
  dsimp only
  rw [odd0, Option.bind_some, if_neg (by simp)]
  exact Ret.pure ho
theorem mid_ret {b : List Int} {q y : Int} {c : Bool} (hb : By b) (h0 : 0 ≤ q) (h1 : q ≤ 900000) {g : Int × Int → Int} : Ret (if c then ((spec_l20Rd__pickS b q 60).bind fun x67 => (some (x67.1, g x67))) else (some (q, y)) : Option (Int × Int)) (fun o => q ≤ o.1 ∧ o.1 ≤ q + 1) := by
 refine Ret.ite (fun h => ?_) (fun h => Ret.pure ⟨by show q ≤ q; omega, by show q ≤ q + 1; omega⟩)
 refine Ret.bind (pick_ret hb h0 (by omega)) (fun r2 hr2 => Ret.pure ⟨?_, ?_⟩)
 ·show q ≤ r2.1; omega
 ·show r2.1 ≤ q + 1; omega
theorem deed_ret {b : List Int} {p : Int} (hb : By b) (h0 : 0 ≤ p) (h1 : p ≤ 800000) (it : List HItem) (pr st : List Int) (cash : Int) (tb : List HTab) : Ret (spec_l20HouseDeedS b p it pr st cash tb) (fun r => p ≤ r.1 ∧ r.1 ≤ p + 10) := by
 unfold spec_l20HouseDeedS
 refine Ret.bind (pick_ret hb h0 (by omega)) (fun r1 hr1 => ?_)
 have h12 := hr1.2.2 (by omega)
 refine Ret.bind (geti_ret hr1.2.1 (by simp; omega)) (fun x19 hx => ?_)
 refine Ret.bind (pick_ret hb (by omega) (by omega)) (fun r2 hr2 => ?_)
 refine Ret.bind (pick_ret hb (by omega) (by omega)) (fun r3 hr3 => ?_)
 have e3 : r3.1 = p + 3 := by omega
 generalize IntKind.wrap .i64 (x19 + IntKind.wrap .i64 (IntKind.wrap .i64 (Int.tdiv r2.2 59) * 6)) = kd
 refine Ret.bind (Q := fun o => p ≤ o.1 ∧ o.1 ≤ p + 6) ?_ (fun o ho => ?_)
 ·refine Ret.ite (fun _ => ?_) (fun _ => ?_)
  ·exact Ret.bind (pick_ret hb (by omega) (by omega)) (fun r4 hr4 => Ret.pure ⟨by show p ≤ r4.1; omega, by show r4.1 ≤ p + 6; omega⟩)
  refine Ret.ite (fun _ => ?_) (fun _ => ?_)
  ·exact Ret.bind (pick_ret hb (by omega) (by omega)) (fun r4 hr4 => Ret.pure ⟨by show p ≤ r4.1; omega, by show r4.1 ≤ p + 6; omega⟩)
  refine Ret.ite (fun _ => ?_) (fun _ => ?_)
  ·refine Ret.bind (pick_ret hb (by omega) (by omega)) (fun r4 hr4 => ?_)
   exact Ret.bind (pick_ret hb (by omega) (by omega)) (fun r5 hr5 => Ret.pure ⟨by show p ≤ r5.1; omega, by show r5.1 ≤ p + 6; omega⟩)
  refine Ret.ite (fun _ => ?_) (fun _ => ?_)
  ·refine Ret.bind (pick_ret hb (by omega) (by omega)) (fun r4 hr4 => ?_)
   refine Ret.bind (pick_ret hb (by omega) (by omega)) (fun r5 hr5 => ?_)
   exact Ret.bind (pick_ret hb (by omega) (by omega)) (fun r6 hr6 => Ret.pure ⟨by show p ≤ r6.1; omega, by show r6.1 ≤ p + 6; omega⟩)
  refine Ret.ite (fun _ => Ret.pure ⟨by show p ≤ r3.1; omega, by show r3.1 ≤ p + 6; omega⟩) (fun _ => ?_)
  refine Ret.ite (fun _ => ?_) (fun _ => Ret.pure ⟨by show p ≤ r3.1; omega, by show r3.1 ≤ p + 6; omega⟩)
  exact Ret.bind (pick_ret hb (by omega) (by omega)) (fun r4 hr4 => Ret.pure ⟨by show p ≤ r4.1; omega, by show r4.1 ≤ p + 6; omega⟩)
 ·obtain ⟨j47, j48, j49, j50⟩ := o
  have ho1 : p ≤ j47 := ho.1
  have ho2 : j47 ≤ p + 6 := ho.2
  dsimp only
  refine Ret.bind (odd_ret hb (by omega) (by omega)) (fun ro hro => ?_)
  refine Ret.bind (mid_ret hb (by omega) (by omega)) (fun o ho => ?_)
  obtain ⟨j, z⟩ := o
  exact Ret.pure ⟨by show p ≤ j; have := ho.1; dsimp only at this; omega, by show j ≤ p + 10; have := ho.2; dsimp only at this; omega⟩
def SmallH (k : Nat) (h : HH) : Prop := HouseL h.1 h.2.1 h.2.2.1 h.2.2.2.2 ∧ h.1.length ≤ k ∧ h.2.1.length ≤ k ∧ h.2.2.1.length ≤ k ∧ h.2.2.2.2.length ≤ k
theorem doZ_true {it : List HItem} {pr st : List Int} {cash : Int} {tb : List HTab} {a b c d : Int} (h : (doZ it pr st cash tb a b c d).2 = true) : houseB (doZ it pr st cash tb a b c d).1.1 (doZ it pr st cash tb a b c d).1.2.1 (doZ it pr st cash tb a b c d).1.2.2.1 (doZ it pr st cash tb a b c d).1.2.2.2.1 (doZ it pr st cash tb a b c d).1.2.2.2.2 = true := by
 unfold doZ at h ⊢
 split at h
 ·rename_i hv
  rw [if_pos hv]
  split at h
  ·rename_i hn
   rw [if_pos hn]
   unfold finZ at h ⊢
   cases he : effZ it pr st cash tb a b c d with
   | none => rw [he] at h; cases h
   | some e =>
    rw [he] at h
    dsimp only at h ⊢
    split at h
    ·rename_i hB; rw [if_pos hB]; exact hB
    ·cases h
  ·cases h
 ·cases h
theorem small_do {h : HH} (hs : SmallH 50 h) (a b c d : Int) (ht : (doZ h.1 h.2.1 h.2.2.1 h.2.2.2.1 h.2.2.2.2 a b c d).2 = true) : SmallH 50 (doZ h.1 h.2.1 h.2.2.1 h.2.2.2.1 h.2.2.2.2 a b c d).1 := by
 have hL := doZ_L (cash := h.2.2.2.1) hs.1 a b c d
 have hB := doZ_true ht
 have e1 := itemsB_len (houseB_items hB)
 have e2 := (houseB_prices hB).1
 have e3 := (houseB_stock hB).1
 have e4 := (houseB_tables hB).1
 exact ⟨hL, by omega, by omega, by omega, by omega⟩
theorem itemsS_L {xs : List HItem} (h : ItemsS xs) : ItemsL xs := ⟨by have := h.1; omega, fun x hx => by have := h.2 x hx; unfold FewParts at this; omega⟩
theorem house_ret {b : List Int} {p n : Int} (hb : By b) (h0 : 0 ≤ p) (h1 : p ≤ 1000) : Ret (spec_l20HouseS b p n) (fun r => p ≤ r.1 ∧ r.1 ≤ p + 1000 ∧ SmallH 100 r.2) := by
 unfold spec_l20HouseS
 refine Ret.bind (items_ret hb h0 (by omega)) (fun r1 hr1 => ?_)
 obtain ⟨a1, a2, hI⟩ := hr1
 refine Ret.bind (prices_ret hb (by omega) (by omega) hI.1) (fun r2 hr2 => ?_)
 obtain ⟨b1, b2, hP⟩ := hr2
 refine Ret.bind (amounts_ret hb (by omega) (by omega) hI.1) (fun r3 hr3 => ?_)
 obtain ⟨c1, c2, hA⟩ := hr3
 refine Ret.bind (pick_ret hb (by omega) (by omega)) (fun r4 hr4 => ?_)
 refine Ret.bind (pick_ret hb (by omega) (by omega)) (fun r5 hr5 => ?_)
 refine Ret.bind (pick_ret hb (by omega) (by omega)) (fun r6 hr6 => ?_)
 have h24 := hr6.2.2 (by omega)
 refine Ret.loopb (fun s => 0 ≤ s.1 ∧ s.1 ≤ 24 ∧ p ≤ s.2.1 ∧ s.2.1 ≤ p + 200 + 10 * (24 - s.1) ∧ SmallH 50 s.2.2) (fun s => s.1.toNat) (fun o => p ≤ o.1 ∧ o.1 ≤ p + 500 ∧ SmallH 50 o.2) ⟨hr6.2.1, by show r6.2 ≤ 24; omega, by show p ≤ r6.1; omega, by show r6.1 ≤ p + 200 + 10 * (24 - r6.2); omega, ⟨itemsS_L hI, by show r2.2.length ≤ 1048576; omega, by show r3.2.length ≤ 1048576; omega, by simp, fun x hx => by cases hx⟩, by have := hI.1; show r1.2.length ≤ 50; omega, by show r2.2.length ≤ 50; omega, by show r3.2.length ≤ 50; omega, by simp⟩ ?_ (fun o ho => ?_)
 ·rintro ⟨k, q, it, pr, st, cash, tb⟩ ⟨d1, d2, d3, d4, d5⟩
  dsimp only at d1 d2 d3 d4 ⊢
  refine Ret.ite (fun h => ?_) (fun h => Ret.pure ⟨d3, by show q ≤ p + 500; omega, d5⟩)
  have hk := of_decide_eq_true h
  refine Ret.bind (deed_ret hb (by omega) (by omega) it pr st cash tb) (fun r7 hr7 => ?_)
  rw [specDo_eq d5.1, Option.bind_some, wr (x := k - 1) ⟨by omega, by omega⟩]
  refine Ret.ite (fun h => ?_) (fun h => ?_)
  ·refine Ret.pure ⟨⟨by show 0 ≤ k - 1; omega, by show k - 1 ≤ 24; omega, by have := hr7.1; show p ≤ r7.1; omega, by have := hr7.2; show r7.1 ≤ p + 200 + 10 * (24 - (k - 1)); omega, small_do d5 _ _ _ _ h⟩, by show (k - 1).toNat < k.toNat; omega⟩
  ·refine Ret.pure ⟨⟨by show 0 ≤ k - 1; omega, by show k - 1 ≤ 24; omega, by have := hr7.1; show p ≤ r7.1; omega, by have := hr7.2; show r7.1 ≤ p + 200 + 10 * (24 - (k - 1)); omega, d5⟩, by show (k - 1).toNat < k.toNat; omega⟩
 ·obtain ⟨q, it, pr, st, cash, tb⟩ := o
  obtain ⟨e1, e2, e3⟩ := ho
  have e1 : p ≤ q := e1
  have e2 : q ≤ p + 500 := e2
  obtain ⟨⟨f1, f2, f3, f4⟩, g1, g2, g3, g4⟩ := e3
  dsimp only at f1 f2 f3 f4 g1 g2 g3 g4 ⊢
  refine Ret.bind (odd_ret hb (by omega) (by omega)) (fun r8 hr8 => ?_)
  refine Ret.bind (Q := fun o => p ≤ o.1 ∧ o.1 ≤ p + 1000 ∧ o.2.1.length ≤ 100 ∧ TabsL o.2.2.2 ∧ o.2.2.2.length ≤ 100) ?_ (fun o ho => ?_)
  ·refine Ret.ite (fun h => ?_) (fun h => Ret.pure ⟨by show p ≤ r8.1; omega, by show r8.1 ≤ p + 1000; omega, by show st.length ≤ 100; omega, f4, by show tb.length ≤ 100; omega⟩)
   refine Ret.bind (pick_ret hb (by omega) (by omega)) (fun r9 hr9 => ?_)
   refine Ret.ite (fun h => ?_) (fun h => ?_)
   ·refine Ret.bind (pick_ret hb (by omega) (by omega)) (fun r10 hr10 => ?_)
    have h2 := hr10.2.2 (by omega)
    refine Ret.bind (geti_ret hr10.2.1 (by simp; omega)) (fun x hx => ?_)
    exact Ret.pure ⟨by show p ≤ r10.1; omega, by show r10.1 ≤ p + 1000; omega, by show st.length ≤ 100; omega, f4, by show tb.length ≤ 100; omega⟩
   refine Ret.ite (fun h => ?_) (fun h => ?_)
   ·rw [appO_le (by simp; omega), Option.bind_some]
    exact Ret.pure ⟨by show p ≤ r9.1; omega, by show r9.1 ≤ p + 1000; omega, by simp; omega, f4, by show tb.length ≤ 100; omega⟩
   have app : ∀ x : HTab, x.2.1.length ≤ 1 → x.2.2.length ≤ 1 → TabsL (tb ++ [x]) ∧ (tb ++ [x]).length ≤ 100 := by
    intro x h1 h2
    refine ⟨⟨by simp; omega, ?_⟩, by simp; omega⟩
    intro t ht
    rcases List.mem_append.1 ht with ht | ht
    ·exact f4.2 t ht
    ·rw [List.mem_singleton.1 ht]; omega
   refine Ret.ite (fun h => ?_) (fun h => ?_)
   ·rw [appO_le (by simp; omega), Option.bind_some]
    exact Ret.pure ⟨by show p ≤ r9.1; omega, by show r9.1 ≤ p + 1000; omega, by show st.length ≤ 100; omega, (app _ (by simp) (by simp)).1, (app _ (by simp) (by simp)).2⟩
   ·rw [appO_le (by simp; omega), Option.bind_some]
    exact Ret.pure ⟨by show p ≤ r9.1; omega, by show r9.1 ≤ p + 1000; omega, by show st.length ≤ 100; omega, (app _ (by simp) (by simp)).1, (app _ (by simp) (by simp)).2⟩
  ·obtain ⟨q2, st2, c2, tb2⟩ := o
   obtain ⟨k1, k2, k3, k4, k5⟩ := ho
   dsimp only at k1 k2 k3 k4 k5 ⊢
   exact Ret.pure ⟨k1, k2, ⟨f1, f2, by show st2.length ≤ 1048576; omega, k4⟩, by show it.length ≤ 100; omega, by show pr.length ≤ 100; omega, k3, k5⟩
end Go.Proofs.YtkhnponakhabdaaGreatDoor
set_option linter.unusedVariables false
namespace Go.Proofs.YtkhnponakhabdaaGreatDoor
open Go Go.RowKit
def Rng (n : Nat) (l : List Int) : Prop := l.length = n ∧ ∀ x ∈ l, 0 ≤ x ∧ x ≤ 400
theorem Rng.set {n : Nat} {l : List Int} (h : Rng n l) {i : Nat} {v : Int} (hv : 0 ≤ v ∧ v ≤ 400) : Rng n (l.set i v) := ⟨by rw [List.length_set]; exact h.1, fun x hx => by
 rcases List.mem_or_eq_of_mem_set hx with hx | rfl
 ·exact h.2 x hx
 ·exact hv⟩
theorem Rng.at {n : Nat} {l : List Int} (h : Rng n l) {i : Nat} (hi : i < n) : 0 ≤ l.getD i 0 ∧ l.getD i 0 ≤ 400 := by
 rw [getD_lt (by rw [h.1]; exact hi)]; exact h.2 _ (List.getElem_mem _)
end Go.Proofs.YtkhnponakhabdaaGreatDoor
set_option linter.unusedVariables false
namespace Go.Proofs.YtkhnponakhabdaaGreatDoor
open Go Go.RowKit
noncomputable def stepZ (h : HH) (d : HDeed) : HH × Bool := doZ h.1 h.2.1 h.2.2.1 h.2.2.2.1 h.2.2.2.2 d.1 d.2.1 d.2.2.1 d.2.2.2
noncomputable def gstep (s : HH × Nat) (d : HDeed) : HH × Nat := ((stepZ s.1 d).1, if (stepZ s.1 d).2 then s.2 + 1 else s.2)
noncomputable def goZ (xs : List HDeed) (h : HH) : HH × Nat := xs.foldl gstep (h, 0)
def HL (h : HH) : Prop := HouseL h.1 h.2.1 h.2.2.1 h.2.2.2.2
noncomputable def hB (h : HH) : Bool := houseB h.1 h.2.1 h.2.2.1 h.2.2.2.1 h.2.2.2.2
theorem stepZ_L {h : HH} (hL : HL h) (d : HDeed) : HL (stepZ h d).1 := doZ_L hL _ _ _ _
theorem finZ_cases (it : List HItem) (pr st : List Int) (cash : Int) (tb : List HTab) (e : Option EE) (hv : houseB it pr st cash tb = true) : hB (finZ it pr st cash tb e).1 = true ∧ ((finZ it pr st cash tb e).2 = false → (finZ it pr st cash tb e).1 = (it, pr, st, cash, tb)) := by
 unfold finZ
 cases e with
 | none => exact ⟨hv, fun _ => rfl⟩
 | some e =>
  dsimp only
  by_cases h : houseB it pr e.1 e.2.1 e.2.2 = true
  ·rw [if_pos h]; exact ⟨h, fun h => by cases h⟩
  ·rw [if_neg h]; exact ⟨hv, fun _ => rfl⟩
theorem stepZ_cases {h : HH} (hv : hB h = true) (d : HDeed) : hB (stepZ h d).1 = true ∧ ((stepZ h d).2 = false → (stepZ h d).1 = h) := by
 have hv' : houseB h.1 h.2.1 h.2.2.1 h.2.2.2.1 h.2.2.2.2 = true := hv
 unfold stepZ doZ
 rw [if_pos hv']
 split
 ·exact finZ_cases _ _ _ _ _ _ hv'
 ·exact ⟨hv, fun _ => rfl⟩
theorem goZ_succ (xs : List HDeed) (h : HH) {k : Nat} (hk : k < xs.length) : goZ (xs.take (k + 1)) h = gstep (goZ (xs.take k) h) xs[k] := by
 unfold goZ
 rw [List.take_succ_eq_append_getElem hk, List.foldl_append]; rfl
theorem goZ_all {h : HH} (hL : HL h) (hv : hB h = true) (xs : List HDeed) : HL (goZ xs h).1 ∧ hB (goZ xs h).1 = true ∧ (goZ xs h).2 ≤ xs.length := by
 have key : ∀ (xs : List HDeed) (s : HH × Nat), HL s.1 → hB s.1 = true → HL (xs.foldl gstep s).1 ∧ hB (xs.foldl gstep s).1 = true ∧ (xs.foldl gstep s).2 ≤ s.2 + xs.length := by
  intro xs
  induction xs with
  | nil => intro s h1 h2; exact ⟨h1, h2, Nat.le_refl _⟩
  | cons d xs ih =>
   intro s h1 h2
   have := ih (gstep s d) (stepZ_L h1 d) (stepZ_cases h2 d).1
   refine ⟨this.1, this.2.1, Nat.le_trans this.2.2 ?_⟩
   show (if (stepZ s.1 d).2 then s.2 + 1 else s.2) + xs.length ≤ s.2 + (xs.length + 1)
   split <;> omega
 have := key xs (h, 0) hL hv
 simpa [goZ] using this
noncomputable def goR (h : HH) (xs : List HDeed) : HH × Int := if hB h = true then ((goZ xs h).1, ((goZ xs h).2 : Int)) else (([], [], [], 0, []), 0)
theorem go_step {α : Type} {h : HH} (hL : HL h) (hv : hB h = true) {xs : List HDeed} (hx : xs.length ≤ 1048576) {k : Nat} (hk : k < xs.length) (F : Int → HH → α) : (if (stepZ (goZ (xs.take k) h).1 xs[k]).2 = true then F (IntKind.wrap .i64 (((goZ (xs.take k) h).2 : Int) + 1)) (stepZ (goZ (xs.take k) h).1 xs[k]).1 else F ((goZ (xs.take k) h).2 : Int) (stepZ (goZ (xs.take k) h).1 xs[k]).1) = F ((goZ (xs.take (k + 1)) h).2 : Int) (goZ (xs.take (k + 1)) h).1 := by
 have hn := (goZ_all hL hv (xs.take k)).2.2
 have hl : (xs.take k).length ≤ xs.length := by simp; omega
 rw [goZ_succ xs h hk]
 unfold gstep
 dsimp only
 by_cases hb : (stepZ (goZ (xs.take k) h).1 xs[k]).2 = true
 ·rw [if_pos hb, if_pos hb, wr ⟨by omega, by omega⟩]; rfl
 ·rw [if_neg hb, if_neg hb]
end Go.Proofs.YtkhnponakhabdaaGreatDoor
set_option linter.unusedVariables false
namespace Go.Proofs.YtkhnponakhabdaaGreatDoor
open Go Go.RowKit
theorem implRun_eq {h : HH} (hL : HL h) (xs : List HDeed) (hx : xs.length ≤ 1048576) : impl_HouseRunS h.1 h.2.1 h.2.2.1 h.2.2.2.1 h.2.2.2.2 xs = some (goR h xs) := by
 obtain ⟨it, pr, st, cash, tb⟩ := h
 have e0 : goZ (xs.take 0) (it, pr, st, cash, tb) = ((it, pr, st, cash, tb), 0) := rfl
 show impl_HouseRunS it pr st cash tb xs = _
 unfold impl_HouseRunS goR
 rw [implHouse_eq _ hL, Option.bind_some]
 by_cases hv : hB (it, pr, st, cash, tb) = true
 ·have hv' : houseB it pr st cash tb = true := hv
  rw [if_neg (by rw [hv']; simp), if_pos hv, implCopyH_id _ hL, Option.bind_some, loopDet (s := ((0 : Int), (0 : Int), it, pr, st, cash, tb)) (fun k => (((goZ (xs.take k) (it, pr, st, cash, tb)).2 : Int), (k : Int), (goZ (xs.take k) (it, pr, st, cash, tb)).1)) xs.length (((goZ xs (it, pr, st, cash, tb)).2 : Int), (goZ xs (it, pr, st, cash, tb)).1) (by rw [e0]; rfl)]
  ·rfl
  ·intro k hk
   have hk' := goZ_all hL hv (xs.take k)
   (try dsimp only)
   rw [if_pos (lt_dec hk), geti_lt' hk, Option.bind_some, implDo_eq hk'.1, Option.bind_some, wr_succ (n := xs.length) (by omega) hk]
   exact go_step hL hv hx hk (fun n s => (some (.inl (n, ((k + 1 : Nat) : Int), s)) : Option ((Int × Int × HH) ⊕ (Int × HH))))
  ·(try dsimp only)
   rw [if_neg (by simp), List.take_of_length_le (Nat.le_refl _)]
 ·have hv' : ¬ houseB it pr st cash tb = true := hv
  rw [if_pos (by simpa using hv'), if_neg hv]
end Go.Proofs.YtkhnponakhabdaaGreatDoor
