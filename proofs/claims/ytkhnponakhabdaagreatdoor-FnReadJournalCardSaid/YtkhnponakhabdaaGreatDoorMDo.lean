import Derived.Test.YtkhnponakhabdaaGreatDoorMWk
set_option linter.unusedVariables false
namespace Go.Proofs.YtkhnponakhabdaaGreatDoor
open Go Go.RowKit
abbrev HH := List HItem × List Int × List Int × Int × List HTab
theorem specCopyH_id {it : List HItem} {pr st : List Int} (cash : Int) {tb : List HTab} (h : HouseL it pr st tb) : spec_l7CopyS it pr st cash tb = some (it, pr, st, cash, tb) := by
 obtain ⟨hi, hp, hs, ht⟩ := h
 have hil := hi.1
 have htl := ht.1
 unfold spec_l7CopyS
 rw [loopDet (s := (([] : List HItem), (0 : Int))) (fun k => (it.take k, (k : Int))) it.length it (by simp)]
 ·rw [Option.bind_some, appO_le (by simp; omega), Option.bind_some, appO_le (by simp; omega), Option.bind_some, loopDet (s := ((0 : Int), ([] : List HTab))) (fun k => ((k : Int), tb.take k)) tb.length tb (by simp)]
  ·rfl
  ·intro k hk
   have h1 := ht.2 _ (List.getElem_mem hk)
   (try dsimp only)
   rw [if_pos (lt_dec hk), geti_lt' hk, Option.bind_some, appO_le (by simp; omega), Option.bind_some, appO_le (by simp; omega), Option.bind_some, appO_le (by simp; omega), Option.bind_some, wr_succ (n := tb.length) (by omega) hk, List.take_succ_eq_append_getElem hk]
   rfl
  ·(try dsimp only)
   rw [if_neg (by simp), List.take_length]
 ·intro k hk
  have h1 := hi.2 _ (List.getElem_mem hk)
  (try dsimp only)
  rw [if_pos (lt_dec hk), geti_lt' hk, Option.bind_some, Option.bind_some, appO_le (by simp; omega), Option.bind_some, Option.bind_some, appO_le (by simp; omega), Option.bind_some, wr_succ (n := it.length) (by omega) hk, List.take_succ_eq_append_getElem hk]
  rfl
 ·(try dsimp only)
  rw [if_neg (by simp), List.take_length]
theorem copyItem_id (m : Int) (ps : List (Int × Int)) (g : Int) (h : ps.length ≤ 1048576) : impl_copyItemS m ps g = some (m, ps, g) := by
 unfold impl_copyItemS
 by_cases h0 : ps = []
 ·subst h0; rfl
 ·have hp : 0 < ps.length := List.length_pos_iff.2 h0
  simp [h0, hp, mkO_nat _ (show ps.length ≤ 1099511627776 by omega)]
theorem implCopyH_id {it : List HItem} {pr st : List Int} (cash : Int) {tb : List HTab} (h : HouseL it pr st tb) : impl_copyHouseS it pr st cash tb = some (it, pr, st, cash, tb) := by
 obtain ⟨hi, hp, hs, ht⟩ := h
 have hil := hi.1
 have htl := ht.1
 unfold impl_copyHouseS
 rw [copyInts_id _ hp, Option.bind_some, copyInts_id _ hs, Option.bind_some, loopDet (s := ((0 : Int), ([] : List HItem))) (fun k => ((k : Int), it.take k)) it.length it (by simp)]
 ·rw [Option.bind_some, loopDet (s := ((0 : Int), ([] : List HTab))) (fun k => ((k : Int), tb.take k)) tb.length tb (by simp)]
  ·rfl
  ·intro k hk
   have h1 := ht.2 _ (List.getElem_mem hk)
   (try dsimp only)
   rw [if_pos (lt_dec hk), geti_lt' hk, Option.bind_some, copyTick_id _ h1.1, Option.bind_some, copyInts_id _ h1.2, Option.bind_some, appO_le (by simp; omega), Option.bind_some, wr_succ (n := tb.length) (by omega) hk, List.take_succ_eq_append_getElem hk]
  ·(try dsimp only)
   rw [if_neg (by simp), List.take_length]
 ·intro k hk
  have h1 := hi.2 _ (List.getElem_mem hk)
  (try dsimp only)
  rw [if_pos (lt_dec hk), geti_lt' hk, Option.bind_some, copyItem_id _ _ _ h1, Option.bind_some, appO_le (by simp; omega), Option.bind_some, wr_succ (n := it.length) (by omega) hk, List.take_succ_eq_append_getElem hk]
 ·(try dsimp only)
  rw [if_neg (by simp), List.take_length]
def namedB (a b c d : Int) : Bool := decide (0 ≤ a ∧ a ≤ 5) && !(((((a != 3) && (d != 0)) || ((decide (a ≥ 4)) && (c != 0))) || ((a == 4) && (b != 0))) || ((a == 2) && (c != 0)))
theorem zeros_eq (xs : List Int) (h : xs.length ≤ 1048576) : ((loop (σ := Int) (ρ := (Unit) ⊕ (Bool)) (fun (s : Int) => match s with | s30 => (if (decide (s30 < (List.length xs : Int))) then ((geti xs s30).bind fun x32 => (if (x32 != 0) then (some (.inr (.inr false))) else (some (.inl (IntKind.wrap .i64 (s30 + 1)))))) else (some (.inr (.inl ()))))) 0).bind fun o => match o with | .inl _ => (some true) | .inr p42 => (some p42)) = some (xs.all (fun x => x == 0)) := by
 rw [loopList xs (fun _ x => x == 0)]
 ·rw [Option.bind_some, allI_all]
  cases xs.all (fun x => x == 0) <;> rfl
 ·intro k hk
  (try dsimp only)
  rw [if_pos (lt_dec hk), geti_lt' hk, Option.bind_some, wr_succ (n := xs.length) (by omega) hk]
  by_cases hx : xs[k] = 0
  ·rw [if_neg (by simpa using hx), if_pos (by simpa using hx)]
  ·rw [if_pos (by simpa using hx), if_neg (by simpa using hx)]
 ·(try dsimp only)
  rw [if_neg (by simp)]
theorem onlyNamed_eq (a b c d : Int) : impl_onlyNamedS a b c d = some (namedB a b c d) := by
 unfold impl_onlyNamedS namedB
 by_cases ha : 0 ≤ a ∧ a ≤ 5
 ·rw [if_neg (by simp; omega), decide_eq_true ha]
  have h6 : a = 0 ∨ a = 1 ∨ a = 2 ∨ a = 3 ∨ a = 4 ∨ a = 5 := by omega
  have key : ∀ (n : Int) (ys : List Int), geti deedNumbers a = some n → subO [b, c, d] n 3 = some ys → ys.length ≤ 3 → ((geti deedNumbers a).bind fun x19 => ((subO ([b, c, d] : List Int) x19 (List.length ([b, c, d] : List Int) : Int)).bind fun x28 => ((loop (σ := Int) (ρ := (Unit) ⊕ (Bool)) (fun (s : Int) => match s with | s30 => (if (decide (s30 < (List.length x28 : Int))) then ((geti x28 s30).bind fun x32 => (if (x32 != 0) then (some (.inr (.inr false))) else (some (.inl (IntKind.wrap .i64 (s30 + 1)))))) else (some (.inr (.inl ()))))) 0).bind fun o => match o with | .inl _ => (some true) | .inr p42 => (some p42)))) = some (ys.all (fun x => x == 0)) := by
   intro n ys h1 h2 h3
   rw [h1, Option.bind_some, show ((List.length ([b, c, d] : List Int) : Nat) : Int) = 3 from rfl, h2, Option.bind_some]
   exact zeros_eq ys (by omega)
  rcases h6 with rfl | rfl | rfl | rfl | rfl | rfl
  ·refine (key 2 [d] rfl rfl (by simp)).trans ?_
   simp [bne]
  ·refine (key 2 [d] rfl rfl (by simp)).trans ?_
   simp [bne]
  ·refine (key 1 [c, d] rfl rfl (by simp)).trans ?_
   simp only [List.all_cons, List.all_nil, bne]
   cases (c == 0) <;> cases (d == 0) <;> rfl
  ·refine (key 3 [] rfl rfl (by simp)).trans ?_
   simp
  ·refine (key 0 [b, c, d] rfl rfl (by simp)).trans ?_
   simp only [List.all_cons, List.all_nil, bne]
   cases (b == 0) <;> cases (c == 0) <;> cases (d == 0) <;> rfl
  ·refine (key 1 [c, d] rfl rfl (by simp)).trans ?_
   simp only [List.all_cons, List.all_nil, bne]
   cases (c == 0) <;> cases (d == 0) <;> rfl
 ·rw [if_pos (by simp; omega), decide_eq_false ha, Bool.false_and]
end Go.Proofs.YtkhnponakhabdaaGreatDoor
set_option linter.unusedVariables false
namespace Go.Proofs.YtkhnponakhabdaaGreatDoor
open Go Go.RowKit
abbrev EE := List Int × Int × List HTab
section
variable {it : List HItem} {pr st : List Int} {cash : Int} {tb : List HTab}
theorem houseB_stock (h : houseB it pr st cash tb = true) : st.length = it.length ∧ ∀ x ∈ st, 0 ≤ x ∧ x ≤ 50 := by
 unfold houseB at h
 simp only [Bool.and_eq_true] at h
 exact amounts_len h.1.1.2
theorem houseB_big {x : Int} (hx : x ∈ st) (h : 50 < x) : houseB it pr st cash tb = false := by
 rw [Bool.eq_false_iff]
 intro hv
 have := (houseB_stock hv).2 x hx
 omega
theorem houseB_poor (h : ¬(0 ≤ cash ∧ cash ≤ 99999)) : houseB it pr st cash tb = false := by
 rw [Bool.eq_false_iff]
 intro hv
 exact h (houseB_cash hv)
theorem geti_some {α : Type} {xs : List α} {b : Int} (h : 0 ≤ b ∧ b < (xs.length : Int)) : ∃ k : Nat, ∃ hk : k < xs.length, b = (k : Int) ∧ geti xs b = some xs[k] := by
 obtain ⟨k, rfl, hk⟩ := in_nat h
 exact ⟨k, hk, rfl, geti_lt' hk⟩
theorem mul_small {c p : Int} (hc : 1 ≤ c ∧ c ≤ 50) (hp : 0 ≤ p ∧ p ≤ 20) : 0 ≤ c * p ∧ c * p ≤ 1000 := by
 refine ⟨Int.mul_nonneg (by omega) hp.1, ?_⟩
 have h1 : c * p ≤ 50 * p := Int.mul_le_mul_of_nonneg_right hc.2 hp.1
 omega
def SpecOk (it : List HItem) (pr st : List Int) (cash : Int) (tb : List HTab) (e : Option EE) (x : HH × Bool) : Prop :=
 (∃ f, e = some f ∧ x = ((it, pr, f.1, f.2.1, f.2.2), true)) ∨ (x.2 = false ∧ ∀ f, e = some f → houseB it pr f.1 f.2.1 f.2.2 = false)
def buyE (it : List HItem) (pr st : List Int) (cash : Int) (tb : List HTab) (b c : Int) : Option EE := match geti it b, geti st b, geti pr b with
 | some i, some s, some p => if ¬ i.1 > 0 ∧ 1 ≤ c ∧ c ≤ 50 then some (st.set b.toNat (s + c), cash - c * p, tb) else none
 | _, _, _ => none
theorem isItem_eq (it : List HItem) (pr st : List Int) (cash : Int) (tb : List HTab) (b : Int) (m : Bool) : impl_isItemS it pr st cash tb b m = some (match geti it b with | some i => decide (i.1 > 0) == m | none => false) := by
 unfold impl_isItemS
 by_cases hb : 0 ≤ b ∧ b < (it.length : Int)
 ·obtain ⟨k, hk, rfl, hg⟩ := geti_some hb
  rw [if_pos (by simpa using hb), hg]; rfl
 ·rw [if_neg (by simpa using hb), geti_out hb]; rfl
theorem implBuy_eq (hv : houseB it pr st cash tb = true) (b c : Int) : impl_doBuyS it pr st cash tb b c = some (match buyE it pr st cash tb b c with | some e => (e.1, e.2.1, true) | none => (st, cash, false)) := by
 obtain ⟨hs, hsr⟩ := houseB_stock hv
 obtain ⟨hp, hpr⟩ := houseB_prices hv
 have hcash := houseB_cash hv
 unfold impl_doBuyS buyE
 rw [isItem_eq, Option.bind_some]
 by_cases hb : 0 ≤ b ∧ b < (it.length : Int)
 ·obtain ⟨k, rfl, hk⟩ := in_nat hb
  have hks : k < st.length := by omega
  have hkp : k < pr.length := by omega
  rw [geti_lt' hk, geti_lt' hks, geti_lt' hkp]
  dsimp only
  by_cases hi : it[k].1 > 0
  ·rw [if_pos (by simp [hi]), if_neg (by omega)]
  ·by_cases hc : 1 ≤ c ∧ c ≤ 50
   ·have h1 := hsr _ (List.getElem_mem hks)
    have h2 := hpr _ (List.getElem_mem hkp)
    have h3 := mul_small hc h2
    rw [if_neg (by simp [hi]; omega), if_pos ⟨hi, hc⟩]
    simp only [Option.bind_some]
    rw [wr ⟨by omega, by omega⟩, wr (x := c * pr[k]) ⟨by omega, by omega⟩, wr ⟨by omega, by omega⟩]
   ·rw [if_pos (by simp [hi]; omega), if_neg (by omega)]
 ·rw [geti_out hb]
  rfl
theorem specBuy_eq (hv : houseB it pr st cash tb = true) (b c : Int) : ∃ x, spec_l7BuyS it pr st cash tb b c = some x ∧ SpecOk it pr st cash tb (buyE it pr st cash tb b c) x := by
 obtain ⟨hs, hsr⟩ := houseB_stock hv
 obtain ⟨hp, hpr⟩ := houseB_prices hv
 have hcash := houseB_cash hv
 have hn := itemsB_len (houseB_items hv)
 unfold spec_l7BuyS buyE
 rw [l1In_idx b it.length (by omega), Option.bind_some]
 by_cases hb : 0 ≤ b ∧ b < (it.length : Int)
 ·obtain ⟨k, rfl, hk⟩ := in_nat hb
  have hks : k < st.length := by omega
  have hkp : k < pr.length := by omega
  rw [geti_lt' hk, geti_lt' hks, geti_lt' hkp, decide_eq_true hb]
  simp only [Option.bind_some, Bool.not_true, Bool.false_eq_true, if_false]
  by_cases hi : it[k].1 > 0
  ·rw [decide_eq_true hi, if_pos rfl, Option.bind_some, if_pos rfl, Option.bind_some, if_pos rfl, Option.bind_some, if_pos rfl, if_neg (by omega)]
   exact ⟨_, rfl, .inr ⟨rfl, fun f hf => by cases hf⟩⟩
  ·rw [decide_eq_false hi, if_neg (by simp), l1In_eq, Option.bind_some, Option.bind_some]
   by_cases hc : 1 ≤ c ∧ c ≤ 50
   ·have h1 := hsr _ (List.getElem_mem hks)
    have h2 := hpr _ (List.getElem_mem hkp)
    have h3 := mul_small hc h2
    rw [decide_eq_true hc]
    simp only [Bool.not_true, Bool.false_eq_true, if_false, Option.bind_some]
    rw [if_pos (show ¬ it[k].1 > 0 ∧ 1 ≤ c ∧ c ≤ 50 from ⟨hi, hc⟩), wr (x := st[k] + c) ⟨by omega, by omega⟩, wr (x := c * pr[k]) ⟨by omega, by omega⟩, wr (x := cash - c * pr[k]) ⟨by omega, by omega⟩]
    by_cases hst : st[k] + c > 50
    ·rw [decide_eq_true hst, if_pos rfl, Option.bind_some, if_pos rfl]
     refine ⟨_, rfl, .inr ⟨rfl, fun f hf => ?_⟩⟩
     obtain rfl := Option.some.inj hf
     exact houseB_big (x := st[k] + c) (List.mem_of_getElem? (i := k) (by simp [hks])) hst
    ·rw [decide_eq_false hst, if_neg (by simp), Option.bind_some]
     by_cases hca : c * pr[k] > cash
     ·rw [decide_eq_true hca, if_pos rfl]
      refine ⟨_, rfl, .inr ⟨rfl, fun f hf => ?_⟩⟩
      obtain rfl := Option.some.inj hf
      exact houseB_poor (cash := cash - c * pr[k]) (by omega)
     ·rw [decide_eq_false hca, if_neg (by simp)]
      exact ⟨_, rfl, .inl ⟨_, rfl, rfl⟩⟩
   ·rw [decide_eq_false hc, Bool.not_false, if_pos rfl, Option.bind_some, if_pos rfl, Option.bind_some, if_pos rfl, if_neg (by omega)]
    exact ⟨_, rfl, .inr ⟨rfl, fun f hf => by cases hf⟩⟩
 ·rw [decide_eq_false hb, geti_out hb]
  simp only [Option.bind_some, Bool.not_false, if_true]
  exact ⟨_, rfl, .inr ⟨rfl, fun f hf => by cases hf⟩⟩
noncomputable def runZ (it : List HItem) (st : List Int) (b c : Int) : List Int × Bool := (spec_MakeRunS it st ((List.replicate it.length (0 : Int)).set b.toNat c) []).getD ([], false)
noncomputable def makeE (it : List HItem) (pr st : List Int) (cash : Int) (tb : List HTab) (b c : Int) : Option EE := match geti it b with
 | some i => if i.1 > 0 ∧ 1 ≤ c ∧ c ≤ 50 then (if (runZ it st b c).2 = true then some ((runZ it st b c).1, cash, tb) else none) else none
 | none => none
theorem run_eq (h : ItemsL it) (hv : houseB it pr st cash tb = true) {k : Nat} (hk : k < it.length) {c : Int} (hc : 1 ≤ c ∧ c ≤ 50) :
  spec_MakeRunS it st ((List.replicate it.length (0 : Int)).set k c) [] = some (runZ it st (k : Int) c) ∧ impl_MakeRunS it st ((List.replicate it.length (0 : Int)).set k c) [] = some (runZ it st (k : Int) c) ∧ ((runZ it st (k : Int) c).2 = true → (runZ it st (k : Int) c).1.length = it.length) := by
 obtain ⟨hs, hsr⟩ := houseB_stock hv
 obtain ⟨r, h1, h2, h3⟩ := makeRun_eq (st := st) (plan := (List.replicate it.length (0 : Int)).set k c) h (houseB_items hv) (amounts_of hs hsr) (amounts_of (by simp) fun x hx => by
  rcases List.mem_or_eq_of_mem_set hx with h | rfl
  ·rw [List.mem_replicate] at h; omega
  ·omega)
 have he : runZ it st (k : Int) c = r := by unfold runZ; rw [show Int.toNat (k : Int) = k from rfl, h1]; rfl
 rw [he]
 exact ⟨h1, h2, h3⟩
theorem implMake_eq (h : ItemsL it) (hv : houseB it pr st cash tb = true) (b c : Int) : impl_doMakeS it pr st cash tb b c = some (match makeE it pr st cash tb b c with | some e => (e.1, true) | none => (st, false)) := by
 have hn := itemsB_len (houseB_items hv)
 unfold impl_doMakeS makeE
 rw [isItem_eq, Option.bind_some]
 by_cases hb : 0 ≤ b ∧ b < (it.length : Int)
 ·obtain ⟨k, rfl, hk⟩ := in_nat hb
  rw [geti_lt' hk]
  dsimp only
  by_cases hi : it[k].1 > 0
  ·by_cases hc : 1 ≤ c ∧ c ≤ 50
   ·obtain ⟨h1, h2, h3⟩ := run_eq h hv hk hc
    rw [if_neg (by simp [hi]; omega), if_pos ⟨hi, hc⟩, mkO_nat _ (by omega), Option.bind_some, geti_lt' (show k < (List.replicate it.length (0 : Int)).length by simpa using hk), Option.bind_some, show Int.toNat (k : Int) = k from rfl, h2, Option.bind_some]
    cases (runZ it st (k : Int) c).2 <;> rfl
   ·rw [if_pos (by simp [hi]; omega), if_neg (by omega)]
  ·rw [if_pos (by simp [hi]), if_neg (by omega)]
 ·rw [geti_out hb]
  rfl
theorem specMake_eq (h : ItemsL it) (hv : houseB it pr st cash tb = true) (b c : Int) : ∃ x, spec_l7MakeS it pr st cash tb b c = some x ∧ SpecOk it pr st cash tb (makeE it pr st cash tb b c) x := by
 have hn := itemsB_len (houseB_items hv)
 unfold spec_l7MakeS makeE
 rw [l1In_idx b it.length (by omega), Option.bind_some]
 by_cases hb : 0 ≤ b ∧ b < (it.length : Int)
 ·obtain ⟨k, rfl, hk⟩ := in_nat hb
  have hmin : 0 ≤ it[k].1 := by
   have := itemsB_at (houseB_items hv) hk
   unfold itemB at this
   simp only [Bool.and_eq_true, decide_eq_true_eq] at this
   exact this.1.1.1.1.1
  rw [geti_lt' hk, decide_eq_true hb]
  simp only [Option.bind_some, Bool.not_true, Bool.false_eq_true, if_false]
  by_cases hi : it[k].1 > 0
  ·rw [if_neg (by simp; omega), l1In_eq, Option.bind_some, Option.bind_some]
   by_cases hc : 1 ≤ c ∧ c ≤ 50
   ·obtain ⟨h1, h2, h3⟩ := run_eq h hv hk hc
    rw [decide_eq_true hc, if_neg (by simp), if_pos ⟨hi, hc⟩, mkO_nat _ (by omega), Option.bind_some, geti_lt' (show k < (List.replicate it.length (0 : Int)).length by simpa using hk), Option.bind_some, show Int.toNat (k : Int) = k from rfl, h1, Option.bind_some]
    cases hr : (runZ it st (k : Int) c).2 with
    | false =>
     simp only [Bool.not_false, if_true, Option.bind_some, Bool.false_eq_true, if_false]
     exact ⟨_, rfl, .inr ⟨rfl, fun f hf => by cases hf⟩⟩
    | true =>
     have hl := h3 hr
     have hkr : k < (runZ it st (k : Int) c).1.length := by omega
     simp only [Bool.not_true, Bool.false_eq_true, if_false, if_true]
     rw [geti_lt' hkr, Option.bind_some, Option.bind_some]
     by_cases hx : (runZ it st (k : Int) c).1[k] > 50
     ·rw [decide_eq_true hx, if_pos rfl]
      refine ⟨_, rfl, .inr ⟨rfl, fun f hf => ?_⟩⟩
      obtain rfl := Option.some.inj hf
      exact houseB_big (List.getElem_mem hkr) hx
     ·rw [decide_eq_false hx, if_neg (by simp)]
      exact ⟨_, rfl, .inl ⟨_, rfl, rfl⟩⟩
   ·rw [decide_eq_false hc, Bool.not_false, if_pos rfl, if_neg (by omega)]
    exact ⟨_, rfl, .inr ⟨rfl, fun f hf => by cases hf⟩⟩
  ·rw [if_pos (by simp; omega), Option.bind_some, if_pos rfl, if_neg (by omega)]
   exact ⟨_, rfl, .inr ⟨rfl, fun f hf => by cases hf⟩⟩
 ·rw [decide_eq_false hb, geti_out hb]
  simp only [Option.bind_some, Bool.not_false, if_true]
  exact ⟨_, rfl, .inr ⟨rfl, fun f hf => by cases hf⟩⟩
def orderE (it : List HItem) (pr st : List Int) (cash : Int) (tb : List HTab) (b c d : Int) : Option EE := match geti tb b, geti st c with
 | some t, some s => if c ∈ free it t.1 ∧ 1 ≤ s then some (st.set c.toNat (s - 1), cash, tb.set b.toNat (t.1, t.2.1 ++ [(d, 0)], t.2.2 ++ [c])) else none
 | _, _ => none
theorem free_idx {a c : Int} (h : c ∈ free it a) : 0 ≤ c ∧ c < (it.length : Int) := by
 obtain ⟨_, _, k, hk, rfl, _⟩ := mem_free h
 omega
theorem implOrder_eq (h : HouseL it pr st tb) (hv : houseB it pr st cash tb = true) (b c d : Int) : impl_doOrderS it pr st cash tb b c d = some (match orderE it pr st cash tb b c d with | some e => (e.1, e.2.2, true) | none => (st, tb, false)) := by
 obtain ⟨hs, hsr⟩ := houseB_stock hv
 have hn := itemsB_len (houseB_items hv)
 unfold impl_doOrderS orderE
 by_cases hb : 0 ≤ b ∧ b < (tb.length : Int)
 ·obtain ⟨k, rfl, hk⟩ := in_nat hb
  have hlt := h.2.2.2.2 _ (List.getElem_mem hk)
  rw [if_neg (by simp; omega), geti_lt' hk, Option.bind_some, implFree_eq h.1, Option.bind_some, contains_eq _ _ (by have := free_len it tb[k].1; omega), Option.bind_some]
  by_cases hf : c ∈ free it tb[k].1
  ·obtain ⟨q, rfl, hq⟩ := in_nat (free_idx hf)
   have hqs : q < st.length := by omega
   have hsq := hsr _ (List.getElem_mem hqs)
   rw [decide_eq_true hf, geti_lt' hqs]
   simp only [Bool.not_true, Bool.false_eq_true, if_false, Option.bind_some]
   by_cases h1 : 1 ≤ st[q]
   ·rw [if_neg (by simp; omega), if_pos ⟨hf, h1⟩, appO_le (by simp; omega), Option.bind_some, appO_le (by simp; omega), Option.bind_some, wr ⟨by omega, by omega⟩, List.set_set]
   ·rw [if_pos (by simp; omega), if_neg (by omega)]
  ·rw [decide_eq_false hf]
   simp only [Bool.not_false, if_true, Option.bind_some]
   cases geti st c with
   | none => rfl
   | some s => dsimp only; rw [if_neg (fun h => hf h.1)]
 ·rw [if_pos (by simp; omega), geti_out hb]
theorem ticket_false {t : HTab} (ht : t ∈ tb) (h : ticketB t.2.1 = false) : houseB it pr st cash tb = false := by
 rw [Bool.eq_false_iff]
 intro hv
 have := (tableB_true.1 ((houseB_tables hv).2 t ht)).2.1
 rw [h] at this; cases this
theorem specOrder_eq (h : HouseL it pr st tb) (hv : houseB it pr st cash tb = true) (b c d : Int) : ∃ x, spec_l7OrderS it pr st cash tb b c d = some x ∧ SpecOk it pr st cash tb (orderE it pr st cash tb b c d) x := by
 obtain ⟨hs, hsr⟩ := houseB_stock hv
 have hn := itemsB_len (houseB_items hv)
 have htl := (houseB_tables hv).1
 unfold spec_l7OrderS orderE
 rw [l1In_idx b tb.length (by omega), l1In_idx c it.length (by omega), Option.bind_some]
 by_cases hb : 0 ≤ b ∧ b < (tb.length : Int)
 ·obtain ⟨k, rfl, hk⟩ := in_nat hb
  have hlt := h.2.2.2.2 _ (List.getElem_mem hk)
  rw [decide_eq_true hb, geti_lt' hk]
  simp only [Bool.not_true, Bool.false_eq_true, if_false, Option.bind_some]
  by_cases hc : 0 ≤ c ∧ c < (it.length : Int)
  ·obtain ⟨q, rfl, hq⟩ := in_nat hc
   have hqs : q < st.length := by omega
   have hsq := hsr _ (List.getElem_mem hqs)
   rw [decide_eq_true hc, geti_lt' hqs]
   simp only [Bool.not_true, Bool.false_eq_true, if_false, Option.bind_some]
   by_cases h1 : 1 ≤ st[q]
   ·rw [decide_eq_false (show ¬ st[q] < 1 by omega)]
    simp only [Bool.false_eq_true, if_false]
    rw [specFree_eq h.1, Option.bind_some, specHas_eq _ _ (by have := free_len it tb[k].1; omega), Option.bind_some, Option.bind_some]
    by_cases hf : (q : Int) ∈ free it tb[k].1
    ·rw [decide_eq_true hf, if_neg (by simp), if_pos ⟨hf, h1⟩, appO_le (by simp; omega), Option.bind_some, List.nil_append, appO_le (by simp; omega), Option.bind_some, appO_le (by simp; omega), Option.bind_some, List.nil_append, appO_le (by simp; omega), Option.bind_some, specTicket_eq _ (by simp; omega), Option.bind_some]
     cases hT : ticketB (tb[k].2.1 ++ [(d, 0)]) with
     | false =>
      simp only [Bool.not_false, if_true]
      refine ⟨_, rfl, .inr ⟨rfl, fun f hf' => ?_⟩⟩
      obtain rfl := Option.some.inj hf'
      exact ticket_false (t := (tb[k].1, tb[k].2.1 ++ [(d, 0)], tb[k].2.2 ++ [(q : Int)])) (List.mem_of_getElem? (i := k) (by simp [hk])) hT
     | true =>
      simp only [Bool.not_true, Bool.false_eq_true, if_false]
      rw [wr ⟨by omega, by omega⟩]
      exact ⟨_, rfl, .inl ⟨_, rfl, rfl⟩⟩
    ·rw [decide_eq_false hf, if_pos (by simp), if_neg (fun h => hf h.1)]
     exact ⟨_, rfl, .inr ⟨rfl, fun f hf => by cases hf⟩⟩
   ·rw [decide_eq_true (show st[q] < 1 by omega)]
    simp only [if_true, Option.bind_some]
    rw [if_neg (by omega)]
    exact ⟨_, rfl, .inr ⟨rfl, fun f hf => by cases hf⟩⟩
  ·rw [decide_eq_false hc]
   simp only [Bool.not_false, if_true, Option.bind_some]
   refine ⟨_, rfl, .inr ⟨rfl, fun f hf => ?_⟩⟩
   cases hg : geti st c with
   | none => rw [hg] at hf; cases hf
   | some s =>
    rw [hg] at hf
    dsimp only at hf
    rw [if_neg (fun h => hc (free_idx h.1))] at hf
    cases hf
 ·rw [decide_eq_false hb, geti_out hb]
  simp only [Option.bind_some, Bool.not_false, if_true]
  exact ⟨_, rfl, .inr ⟨rfl, fun f hf => by cases hf⟩⟩
def putTo (tb : List HTab) (ks : List Tick) : Nat → List HTab
 | 0 => tb
 | k + 1 => match tb[k]?, ks[k]? with
  | some t, some u => (putTo tb ks k).set k (t.1, u, t.2.2)
  | _, _ => putTo tb ks k
theorem putTo_len (tb : List HTab) (ks : List Tick) : ∀ k, (putTo tb ks k).length = tb.length
 | 0 => rfl
 | k + 1 => by
  unfold putTo
  split
  ·rw [List.length_set, putTo_len tb ks k]
  ·exact putTo_len tb ks k
theorem putTo_get (tb : List HTab) (ks : List Tick) : ∀ k j, k ≤ j → (putTo tb ks k)[j]? = tb[j]?
 | 0, j, _ => rfl
 | k + 1, j, hj => by
  unfold putTo
  split
  ·rw [List.getElem?_set_ne (by omega), putTo_get tb ks k j (by omega)]
  ·exact putTo_get tb ks k j (by omega)
theorem putTo_step {tb : List HTab} {ks : List Tick} {k : Nat} (h1 : k < tb.length) (h2 : k < ks.length) : putTo tb ks (k + 1) = (putTo tb ks k).set k (tb[k].1, ks[k], tb[k].2.2) := by
 simp only [putTo, List.getElem?_eq_getElem h1, List.getElem?_eq_getElem h2]
theorem geti_put {tb : List HTab} {ks : List Tick} {k : Nat} (h1 : k < tb.length) : geti (putTo tb ks k) (k : Int) = some tb[k] := by
 rw [geti_nat, putTo_get tb ks k k (Nat.le_refl _), List.getElem?_eq_getElem h1]
theorem putTo_L {tb : List HTab} {ks : List Tick} (h : TabsL tb) (hk : SmallK ks) : ∀ k, TabsL (putTo tb ks k)
 | 0 => h
 | k + 1 => by
  have ih := putTo_L h hk k
  unfold putTo
  split
  ·rename_i t u h1 h2
   refine ⟨by rw [List.length_set]; exact ih.1, fun x hx => ?_⟩
   rcases List.mem_or_eq_of_mem_set hx with h3 | rfl
   ·exact ih.2 x h3
   ·exact ⟨hk.2 u (List.mem_of_getElem? h2), (h.2 t (List.mem_of_getElem? h1)).2⟩
  ·exact ih
def workE (pr st : List Int) (cash : Int) (tb : List HTab) : Option EE := if (stepK (ticksOf tb)).2 = true then some (st, cash, putTo tb (stepK (ticksOf tb)).1 tb.length) else none
theorem implWork_eq (h : HouseL it pr st tb) : impl_doWorkS it pr st cash tb = some (match workE pr st cash tb with | some e => (e.2.2, true) | none => (tb, false)) := by
 have ht := h.2.2.2
 have htl := ht.1
 unfold impl_doWorkS workE
 rw [implTicks_eq cash ht, Option.bind_some, implStep_eq ht.ticks, Option.bind_some]
 cases hk : (stepK (ticksOf tb)).2 with
 | false => rfl
 | true =>
  have hkl : (stepK (ticksOf tb)).1.length = tb.length := by rw [stepK_len hk]; simp [ticksOf]
  simp only [Bool.not_true, Bool.false_eq_true, if_false, if_true]
  rw [loopDet (s := ((0 : Int), tb)) (fun k => ((k : Int), putTo tb (stepK (ticksOf tb)).1 k)) tb.length (putTo tb (stepK (ticksOf tb)).1 tb.length) rfl]
  ·rfl
  ·intro k hk
   have hks : k < (stepK (ticksOf tb)).1.length := by omega
   (try dsimp only)
   rw [hkl, if_pos (lt_dec hk), geti_lt' hks, Option.bind_some, geti_put hk, Option.bind_some, wr_succ (n := tb.length) (by omega) hk, putTo_step hk hks]
   rfl
  ·(try dsimp only)
   rw [hkl, if_neg (by simp)]
theorem specWork_eq (h : HouseL it pr st tb) : ∃ x, spec_l7WorkS it pr st cash tb = some x ∧ SpecOk it pr st cash tb (workE pr st cash tb) x := by
 have ht := h.2.2.2
 have htl := ht.1
 unfold spec_l7WorkS workE
 rw [specTicks_eq cash ht, Option.bind_some, specStep_eq ht.ticks, Option.bind_some]
 cases hk : (stepK (ticksOf tb)).2 with
 | false => exact ⟨_, rfl, .inr ⟨rfl, fun f hf => by cases hf⟩⟩
 | true =>
  have hkl : (stepK (ticksOf tb)).1.length = tb.length := by rw [stepK_len hk]; simp [ticksOf]
  simp only [Bool.not_true, Bool.false_eq_true, if_false, if_true]
  rw [loopDet (s := ((0 : Int), tb)) (fun k => ((k : Int), putTo tb (stepK (ticksOf tb)).1 k)) tb.length (putTo tb (stepK (ticksOf tb)).1 tb.length) rfl]
  ·exact ⟨_, rfl, .inl ⟨_, rfl, rfl⟩⟩
  ·intro k hk
   have hks : k < (stepK (ticksOf tb)).1.length := by omega
   (try dsimp only)
   rw [putTo_len, if_pos (lt_dec hk), geti_lt' hks, Option.bind_some, geti_put hk, Option.bind_some, wr_succ (n := tb.length) (by omega) hk, putTo_step hk hks]
   rfl
  ·(try dsimp only)
   rw [putTo_len, if_neg (by simp)]
def closeE (it : List HItem) (pr st : List Int) (cash : Int) (tb : List HTab) (b : Int) : Option EE := match geti tb b with
 | some t => if doneB t.2.1 = true then some (st, cash + billZ it pr st cash tb b, tb.take b.toNat ++ tb.drop (b.toNat + 1)) else none
 | none => none
theorem bill_small (hv : houseB it pr st cash tb = true) {k : Nat} (hk : k < tb.length) : 0 ≤ billZ it pr st cash tb (k : Int) ∧ billZ it pr st cash tb (k : Int) ≤ 120 := by
 rw [billZ_at hv hk]; exact billOf_range hv k
theorem implClose_eq (h : HouseL it pr st tb) (hv : houseB it pr st cash tb = true) (b : Int) : impl_doCloseS it pr st cash tb b = some (match closeE it pr st cash tb b with | some e => (e.2.1, e.2.2, true) | none => (cash, tb, false)) := by
 have hcash := houseB_cash hv
 have htl := (houseB_tables hv).1
 unfold impl_doCloseS closeE
 by_cases hb : 0 ≤ b ∧ b < (tb.length : Int)
 ·obtain ⟨k, rfl, hk⟩ := in_nat hb
  have hlt := h.2.2.2.2 _ (List.getElem_mem hk)
  have hbill := bill_small hv hk
  rw [if_neg (by simp; omega), geti_lt' hk, Option.bind_some, implDone_eq _ hlt.1, Option.bind_some, Option.bind_some]
  dsimp only
  cases hd : doneB tb[k].2.1 with
  | false => rfl
  | true =>
   simp only [Bool.not_true, Bool.false_eq_true, if_false, if_true]
   unfold impl_TableS
   rw [implBill_eq cash h, Option.bind_some, wr_succ (n := tb.length) (by omega) hk, if_pos (by omega), Option.bind_some, wr ⟨by omega, by omega⟩]
 ·rw [if_pos (by simp; omega), geti_out hb]; rfl
theorem specClose_eq (h : HouseL it pr st tb) (hv : houseB it pr st cash tb = true) (b : Int) : ∃ x, spec_l7CloseS it pr st cash tb b = some x ∧ SpecOk it pr st cash tb (closeE it pr st cash tb b) x := by
 have hcash := houseB_cash hv
 have htl := (houseB_tables hv).1
 unfold spec_l7CloseS closeE
 rw [l1In_idx b tb.length (by omega), Option.bind_some]
 by_cases hb : 0 ≤ b ∧ b < (tb.length : Int)
 ·obtain ⟨k, rfl, hk⟩ := in_nat hb
  have hlt := h.2.2.2.2 _ (List.getElem_mem hk)
  have hbill := bill_small hv hk
  rw [decide_eq_true hb, geti_lt' hk]
  simp only [Bool.not_true, Bool.false_eq_true, if_false, Option.bind_some]
  rw [specDone_eq _ hlt.1, Option.bind_some, Option.bind_some]
  cases hd : doneB tb[k].2.1 with
  | false =>
   simp only [Bool.not_false, if_true, Option.bind_some, Bool.false_eq_true, if_false]
   exact ⟨_, rfl, .inr ⟨rfl, fun f hf => by cases hf⟩⟩
  | true =>
   simp only [Bool.not_true, Bool.false_eq_true, if_false, if_true]
   rw [specBill_eq cash h, Option.bind_some, Option.bind_some, wr (x := cash + _) ⟨by omega, by omega⟩]
   by_cases hca : cash + billZ it pr st cash tb (k : Int) > 99999
   ·rw [decide_eq_true hca, if_pos rfl]
    refine ⟨_, rfl, .inr ⟨rfl, fun f hf => ?_⟩⟩
    obtain rfl := Option.some.inj hf
    exact houseB_poor (cash := cash + billZ it pr st cash tb (k : Int)) (by omega)
   ·have e1 : subO tb 0 (k : Int) = some (tb.take k) := by
     unfold subO; rw [if_pos (by simp; omega)]; simp
    have e2 : subO tb (((k + 1 : Nat) : Int)) (tb.length : Int) = some (tb.drop (k + 1)) := by
     unfold subO; rw [if_pos (by simp; omega)]; simp
    rw [decide_eq_false hca, if_neg (by simp), Option.bind_some, e1, Option.bind_some, appO_le (by simp; omega), Option.bind_some, wr_succ (n := tb.length) (by omega) hk, e2, Option.bind_some, appO_le (by simp; omega), Option.bind_some, List.nil_append, wr (x := cash + billZ it pr st cash tb (k : Int)) ⟨by omega, by omega⟩]
    exact ⟨_, rfl, .inl ⟨_, rfl, rfl⟩⟩
 ·rw [decide_eq_false hb, geti_out hb]
  simp only [Option.bind_some, Bool.not_false, if_true]
  exact ⟨_, rfl, .inr ⟨rfl, fun f hf => by cases hf⟩⟩
end
end Go.Proofs.YtkhnponakhabdaaGreatDoor
set_option linter.unusedVariables false
namespace Go.Proofs.YtkhnponakhabdaaGreatDoor
open Go Go.RowKit
section
variable {it : List HItem} {pr st : List Int} {cash : Int} {tb : List HTab}
noncomputable def effZ (it : List HItem) (pr st : List Int) (cash : Int) (tb : List HTab) (a b c d : Int) : Option EE :=
 if a = 0 then buyE it pr st cash tb b c else if a = 1 then makeE it pr st cash tb b c else if a = 2 then some (st, cash, tb ++ [(b, [], [])]) else if a = 3 then orderE it pr st cash tb b c d else if a = 4 then workE pr st cash tb else if a = 5 then closeE it pr st cash tb b else none
noncomputable def finZ (it : List HItem) (pr st : List Int) (cash : Int) (tb : List HTab) (e : Option EE) : HH × Bool := match e with
 | some e => if houseB it pr e.1 e.2.1 e.2.2 = true then ((it, pr, e.1, e.2.1, e.2.2), true) else ((it, pr, st, cash, tb), false)
 | none => ((it, pr, st, cash, tb), false)
noncomputable def doZ (it : List HItem) (pr st : List Int) (cash : Int) (tb : List HTab) (a b c d : Int) : HH × Bool :=
 if houseB it pr st cash tb = true then (if namedB a b c d = true then finZ it pr st cash tb (effZ it pr st cash tb a b c d) else ((it, pr, st, cash, tb), false)) else (([], [], [], 0, []), false)
theorem buyE_some {b c : Int} {e : EE} (h : buyE it pr st cash tb b c = some e) : e.2.2 = tb ∧ ∃ k x, e.1 = st.set k x := by
 unfold buyE at h
 split at h
 ·split at h
  ·obtain rfl := Option.some.inj h; exact ⟨rfl, _, _, rfl⟩
  ·cases h
 ·cases h
theorem makeE_some {b c : Int} {e : EE} (h : makeE it pr st cash tb b c = some e) : e.2.1 = cash ∧ e.2.2 = tb ∧ (0 ≤ b ∧ b < (it.length : Int)) ∧ (1 ≤ c ∧ c ≤ 50) ∧ (runZ it st b c).2 = true ∧ e.1 = (runZ it st b c).1 := by
 unfold makeE at h
 by_cases hb : 0 ≤ b ∧ b < (it.length : Int)
 ·split at h
  ·split at h
   ·rename_i h1
    split at h
    ·rename_i h2
     obtain rfl := Option.some.inj h; exact ⟨rfl, rfl, hb, h1.2, h2, rfl⟩
    ·cases h
   ·cases h
  ·cases h
 ·rw [geti_out hb] at h; cases h
theorem orderE_some {b c d : Int} {e : EE} (h : orderE it pr st cash tb b c d = some e) : e.2.1 = cash ∧ (∃ k x, e.1 = st.set k x) ∧ ∃ t ∈ tb, ∃ k, e.2.2 = tb.set k (t.1, t.2.1 ++ [(d, 0)], t.2.2 ++ [c]) := by
 unfold orderE at h
 split at h
 ·rename_i t s ht hs
  split at h
  ·obtain rfl := Option.some.inj h
   refine ⟨rfl, ⟨_, _, rfl⟩, t, ?_, _, rfl⟩
   unfold geti at ht
   split at ht
   ·exact List.mem_of_getElem? ht
   ·cases ht
  ·cases h
 ·cases h
theorem workE_some {e : EE} (h : workE pr st cash tb = some e) : e = (st, cash, putTo tb (stepK (ticksOf tb)).1 tb.length) := by
 unfold workE at h
 split at h
 ·exact (Option.some.inj h).symm
 ·cases h
theorem closeE_some {b : Int} {e : EE} (h : closeE it pr st cash tb b = some e) : e.1 = st ∧ e.2.2 = tb.take b.toNat ++ tb.drop (b.toNat + 1) := by
 unfold closeE at h
 split at h
 ·split at h
  ·obtain rfl := Option.some.inj h; exact ⟨rfl, rfl⟩
  ·cases h
 ·cases h
theorem effZ_L (h : HouseL it pr st tb) (hv : houseB it pr st cash tb = true) {a b c d : Int} {e : EE} (he : effZ it pr st cash tb a b c d = some e) : HouseL it pr e.1 e.2.2 := by
 obtain ⟨h1, h2, h3, h4⟩ := h
 have hn := itemsB_len (houseB_items hv)
 have htl := (houseB_tables hv).1
 have htk := (houseB_tables hv).2
 unfold effZ at he
 split at he
 ·obtain ⟨e1, k, x, e2⟩ := buyE_some he
  exact ⟨h1, h2, by rw [e2, List.length_set]; exact h3, by rw [e1]; exact h4⟩
 ·split at he
  ·obtain ⟨_, e1, hb, hc, hr, e2⟩ := makeE_some he
   obtain ⟨k, rfl, hk⟩ := in_nat hb
   exact ⟨h1, h2, by rw [e2, (run_eq h1 hv hk hc).2.2 hr]; omega, by rw [e1]; exact h4⟩
  ·split at he
   ·obtain rfl := Option.some.inj he
    refine ⟨h1, h2, h3, by simp; omega, fun t ht => ?_⟩
    rcases List.mem_append.1 ht with ht | ht
    ·exact h4.2 t ht
    ·simp at ht; subst ht; simp
   ·split at he
    ·obtain ⟨_, ⟨k, x, e2⟩, t, ht, q, e3⟩ := orderE_some he
     have hT := tableB_true.1 (htk t ht)
     have hl := ticket_len hT.2.1
     refine ⟨h1, h2, by rw [e2, List.length_set]; exact h3, ?_⟩
     rw [e3]
     refine ⟨by rw [List.length_set]; exact h4.1, fun y hy => ?_⟩
     rcases List.mem_or_eq_of_mem_set hy with hy | rfl
     ·exact h4.2 y hy
     ·have := hT.2.2.1
      simp; omega
    ·split at he
     ·obtain rfl := workE_some he
      exact ⟨h1, h2, h3, putTo_L h4 (stepK_small h4.ticks) _⟩
     ·split at he
      ·obtain ⟨e1, e2⟩ := closeE_some he
       refine ⟨h1, h2, by rw [e1]; exact h3, ?_⟩
       rw [e2]
       refine ⟨by simp; omega, fun y hy => ?_⟩
       rcases List.mem_append.1 hy with hy | hy
       ·exact h4.2 y (List.mem_of_mem_take hy)
       ·exact h4.2 y (List.mem_of_mem_drop hy)
      ·cases he
theorem doZ_L (h : HouseL it pr st tb) (a b c d : Int) : HouseL (doZ it pr st cash tb a b c d).1.1 (doZ it pr st cash tb a b c d).1.2.1 (doZ it pr st cash tb a b c d).1.2.2.1 (doZ it pr st cash tb a b c d).1.2.2.2.2 := by
 have h0 : HouseL [] [] [] [] := ⟨⟨by simp, fun x hx => by cases hx⟩, by simp, by simp, by simp, fun x hx => by cases hx⟩
 unfold doZ
 split
 ·rename_i hv
  split
  ·unfold finZ
   cases he : effZ it pr st cash tb a b c d with
   | none => exact h
   | some e =>
    dsimp only
    split
    ·exact effZ_L h hv he
    ·exact h
  ·exact h
 ·exact h0
theorem impl_fin (h : HouseL it pr st tb) (e : EE) (hL : HouseL it pr e.1 e.2.2) : ((if (!true) = true then some true else ((impl_HouseValidS it pr e.1 e.2.1 e.2.2).bind fun x => some (!x))).bind fun bb => if bb = true then ((impl_copyHouseS it pr st cash tb).bind fun x => (some ((x.1, x.2.1, x.2.2.1, x.2.2.2.1, x.2.2.2.2), false) : Option (HH × Bool))) else some ((it, pr, e.1, e.2.1, e.2.2), true)) = some (finZ it pr st cash tb (some e)) := by
 rw [implHouse_eq e.2.1 hL, implCopyH_id cash h]
 unfold finZ
 dsimp only
 cases houseB it pr e.1 e.2.1 e.2.2 <;> rfl
theorem implDo_eq (h : HouseL it pr st tb) (a b c d : Int) : impl_HouseDoS it pr st cash tb a b c d = some (doZ it pr st cash tb a b c d) := by
 unfold impl_HouseDoS doZ
 rw [implHouse_eq cash h, Option.bind_some]
 by_cases hv : houseB it pr st cash tb = true
 ·rw [if_neg (by rw [hv]; simp), if_pos hv, onlyNamed_eq, Option.bind_some]
  by_cases hn : namedB a b c d = true
  ·rw [if_neg (by rw [hn]; simp), if_pos hn]
   have hEL := fun e (he : effZ it pr st cash tb a b c d = some e) => effZ_L (a := a) (b := b) (c := c) (d := d) h hv he
   have hl4 := (houseB_tables hv).1
   rw [show impl_copyHouseS it pr st cash tb = some (it, pr, st, cash, tb) from implCopyH_id cash h, Option.bind_some]
   dsimp only
   unfold effZ at hEL ⊢
   by_cases a0 : a = 0
   ·rw [if_pos (by simpa using a0), if_pos a0]
    rw [if_pos a0] at hEL
    rw [implBuy_eq hv, Option.bind_some]
    cases he : buyE it pr st cash tb b c with
    | none => rfl
    | some e =>
     obtain ⟨e1, _⟩ := buyE_some he
     have := impl_fin (cash := cash) h e (hEL e he)
     rw [e1] at this
     rw [implCopyH_id cash h] at this
     exact this
   ·rw [if_neg (by simpa using a0), if_neg a0]
    rw [if_neg a0] at hEL
    by_cases a1 : a = 1
    ·rw [if_pos (by simpa using a1), if_pos a1]
     rw [if_pos a1] at hEL
     rw [implMake_eq h.1 hv, Option.bind_some]
     cases he : makeE it pr st cash tb b c with
     | none => rfl
     | some e =>
      obtain ⟨e1, e2, _⟩ := makeE_some he
      have := impl_fin (cash := cash) h e (hEL e he)
      rw [e1, e2] at this
      rw [implCopyH_id cash h] at this
      exact this
    ·rw [if_neg (by simpa using a1), if_neg a1]
     rw [if_neg a1] at hEL
     by_cases a2 : a = 2
     ·rw [if_pos (by simpa using a2), if_pos a2]
      rw [if_pos a2] at hEL
      rw [appO_le (by simp; omega), Option.bind_some]
      have := impl_fin (cash := cash) h (st, cash, tb ++ [(b, [], [])]) (hEL _ rfl)
      rw [implCopyH_id cash h] at this
      exact this
     ·rw [if_neg (by simpa using a2), if_neg a2]
      rw [if_neg a2] at hEL
      by_cases a3 : a = 3
      ·rw [if_pos (by simpa using a3), if_pos a3]
       rw [if_pos a3] at hEL
       rw [implOrder_eq h hv, Option.bind_some]
       cases he : orderE it pr st cash tb b c d with
       | none => rfl
       | some e =>
        obtain ⟨e1, _⟩ := orderE_some he
        have := impl_fin (cash := cash) h e (hEL e he)
        rw [e1] at this
        rw [implCopyH_id cash h] at this
        exact this
      ·rw [if_neg (by simpa using a3), if_neg a3]
       rw [if_neg a3] at hEL
       by_cases a4 : a = 4
       ·rw [if_pos (by simpa using a4), if_pos a4]
        rw [if_pos a4] at hEL
        rw [implWork_eq h, Option.bind_some]
        cases he : workE pr st cash tb with
        | none => rfl
        | some e =>
         have hee := workE_some he
         have := impl_fin (cash := cash) h e (hEL e he)
         rw [implCopyH_id cash h] at this
         subst hee
         exact this
       ·rw [if_neg (by simpa using a4), if_neg a4]
        rw [if_neg a4] at hEL
        by_cases a5 : a = 5
        ·rw [if_pos (by simpa using a5), if_pos a5]
         rw [if_pos a5] at hEL
         rw [implClose_eq h hv, Option.bind_some]
         cases he : closeE it pr st cash tb b with
         | none => rfl
         | some e =>
          obtain ⟨e1, _⟩ := closeE_some he
          have := impl_fin (cash := cash) h e (hEL e he)
          rw [e1] at this
          rw [implCopyH_id cash h] at this
          exact this
        ·rw [if_neg (by simpa using a5), if_neg a5]
         rfl
  ·rw [if_pos (by simpa using hn), if_neg hn, implCopyH_id cash h]; rfl
 ·rw [if_pos (by simpa using hv), if_neg hv]
theorem spec_fin (h : HouseL it pr st tb) {e : Option EE} {x : HH × Bool} (hx : SpecOk it pr st cash tb e x) (hL : ∀ f, e = some f → HouseL it pr f.1 f.2.2) : ((if (!x.2) = true then some true else ((spec_HouseValidS x.1.1 x.1.2.1 x.1.2.2.1 x.1.2.2.2.1 x.1.2.2.2.2).bind fun v => some (!v))).bind fun bb => if bb = true then ((spec_l7CopyS it pr st cash tb).bind fun x => (some ((x.1, x.2.1, x.2.2.1, x.2.2.2.1, x.2.2.2.2), false) : Option (HH × Bool))) else some ((x.1.1, x.1.2.1, x.1.2.2.1, x.1.2.2.2.1, x.1.2.2.2.2), true)) = some (finZ it pr st cash tb e) := by
 rw [specCopyH_id cash h]
 rcases hx with ⟨f, rfl, rfl⟩ | ⟨h1, h2⟩
 ·dsimp only
  rw [specHouse_eq f.2.1 (hL f rfl)]
  unfold finZ
  dsimp only
  cases houseB it pr f.1 f.2.1 f.2.2 <;> rfl
 ·rw [h1]
  unfold finZ
  cases e with
  | none => rfl
  | some f => dsimp only; rw [h2 f rfl]; rfl
theorem specDo_eq (h : HouseL it pr st tb) (a b c d : Int) : spec_HouseDoS it pr st cash tb a b c d = some (doZ it pr st cash tb a b c d) := by
 unfold spec_HouseDoS doZ
 rw [specHouse_eq cash h, Option.bind_some]
 by_cases hv : houseB it pr st cash tb = true
 ·rw [if_neg (by rw [hv]; simp), if_pos hv]
  have hEL := fun e (he : effZ it pr st cash tb a b c d = some e) => effZ_L (a := a) (b := b) (c := c) (d := d) h hv he
  have hl4 := (houseB_tables hv).1
  have hfin := fun (e : Option EE) (x : HH × Bool) (hx : SpecOk it pr st cash tb e x) (hL : ∀ f, e = some f → HouseL it pr f.1 f.2.2) => spec_fin h hx hL
  rw [specCopyH_id cash h] at hfin ⊢
  rw [Option.bind_some]
  dsimp only at hfin ⊢
  have hname : namedB a b c d = (decide (0 ≤ a ∧ a ≤ 5) && !(((((a != 3) && (d != 0)) || ((decide (a ≥ 4)) && (c != 0))) || ((a == 4) && (b != 0))) || ((a == 2) && (c != 0)))) := rfl
  generalize (((((a != 3) && (d != 0)) || ((decide (a ≥ 4)) && (c != 0))) || ((a == 4) && (b != 0))) || ((a == 2) && (c != 0))) = bad at hname ⊢
  cases bad with
  | true => rw [if_pos rfl, hname]; simp
  | false =>
   rw [if_neg (by simp)]
   rw [Bool.not_false, Bool.and_true] at hname
   by_cases ha : 0 ≤ a ∧ a ≤ 5
   ·rw [hname, decide_eq_true ha, if_pos (show true = true from rfl)]
    unfold effZ at hEL ⊢
    by_cases a0 : a = 0
    ·rw [if_pos (by simpa using a0), if_pos a0]
     rw [if_pos a0] at hEL
     obtain ⟨x, h1, h2⟩ := specBuy_eq hv b c
     rw [h1, Option.bind_some]
     exact hfin _ x h2 hEL
    ·rw [if_neg (by simpa using a0), if_neg a0]
     rw [if_neg a0] at hEL
     by_cases a1 : a = 1
     ·rw [if_pos (by simpa using a1), if_pos a1]
      rw [if_pos a1] at hEL
      obtain ⟨x, h1, h2⟩ := specMake_eq h.1 hv b c
      rw [h1, Option.bind_some]
      exact hfin _ x h2 hEL
     ·rw [if_neg (by simpa using a1), if_neg a1]
      rw [if_neg a1] at hEL
      by_cases a2 : a = 2
      ·rw [if_pos (by simpa using a2), if_pos a2]
       rw [if_pos a2] at hEL
       rw [appO_le (by simp; omega), Option.bind_some]
       exact hfin _ ((it, pr, st, cash, tb ++ [(b, [], [])]), true) (.inl ⟨_, rfl, rfl⟩) hEL
      ·rw [if_neg (by simpa using a2), if_neg a2]
       rw [if_neg a2] at hEL
       by_cases a3 : a = 3
       ·rw [if_pos (by simpa using a3), if_pos a3]
        rw [if_pos a3] at hEL
        obtain ⟨x, h1, h2⟩ := specOrder_eq h hv b c d
        rw [h1, Option.bind_some]
        exact hfin _ x h2 hEL
       ·rw [if_neg (by simpa using a3), if_neg a3]
        rw [if_neg a3] at hEL
        by_cases a4 : a = 4
        ·rw [if_pos (by simpa using a4), if_pos a4]
         rw [if_pos a4] at hEL
         obtain ⟨x, h1, h2⟩ := specWork_eq (cash := cash) h
         rw [h1, Option.bind_some]
         exact hfin _ x h2 hEL
        ·rw [if_neg (by simpa using a4), if_neg a4]
         rw [if_neg a4] at hEL
         have a5 : a = 5 := by omega
         rw [if_pos (by simpa using a5), if_pos a5]
         rw [if_pos a5] at hEL
         obtain ⟨x, h1, h2⟩ := specClose_eq h hv b
         rw [h1, Option.bind_some]
         exact hfin _ x h2 hEL
   ·rw [hname, decide_eq_false ha, if_neg (show ¬ (false = true) by decide)]
    have b0 : ¬ a = 0 := by omega
    have b1 : ¬ a = 1 := by omega
    have b2 : ¬ a = 2 := by omega
    have b3 : ¬ a = 3 := by omega
    have b4 : ¬ a = 4 := by omega
    have b5 : ¬ a = 5 := by omega
    simp [b0, b1, b2, b3, b4, b5]
 ·rw [if_pos (by simpa using hv), if_neg hv]
end
end Go.Proofs.YtkhnponakhabdaaGreatDoor
