/- FnHouseRun: whatever is done, the stock is what was there, was bought and was made, less what was used. Own work; no program in sight. -/
import Derived.Test.YtpabogkcmbkffaaGreatDoorGoEq
import Derived.Test.YtpabogkcmbkffaaGreatDoorDrawH
import Derived.Test.YtpabogkcmbkffaaGreatDoorSameH
set_option linter.unusedVariables false
namespace Go.Proofs.YtpabogkcmbkffaaGreatDoor
open Go Go.RowKit
theorem doZ_case {it : List HItem} {pr st : List Int} {cash : Int} {tb : List HTab} (hv : houseB it pr st cash tb = true) (a b c d : Int) : doZ it pr st cash tb a b c d = ((it, pr, st, cash, tb), false) ∨ ∃ e, effZ it pr st cash tb a b c d = some e ∧ houseB it pr e.1 e.2.1 e.2.2 = true ∧ doZ it pr st cash tb a b c d = ((it, pr, e.1, e.2.1, e.2.2), true) := by
  unfold doZ
  rw [if_pos hv]
  by_cases hn : namedB a b c d = true
  · rw [if_pos hn]
    unfold finZ
    cases he : effZ it pr st cash tb a b c d with
    | none => exact .inl rfl
    | some e =>
      dsimp only
      by_cases hB : houseB it pr e.1 e.2.1 e.2.2 = true
      · rw [if_pos hB]; exact .inr ⟨e, rfl, hB, rfl⟩
      · rw [if_neg hB]; exact .inl rfl
  · rw [if_neg hn]; exact .inl rfl
theorem same_me {it : List HItem} {pr st : List Int} {cash : Int} {tb : List HTab} (h : HouseL it pr st tb) : laws_sameHouseS it pr st cash tb it pr st cash tb = some true := by
  rw [sameHouse_eq h, sameHB_true.2 ⟨rfl, rfl, rfl, rfl, rfl⟩]
theorem deedsR_ret {b : List Int} {p : Int} (hb : By b) (h0 : 0 ≤ p) (h1 : p ≤ 10000) {it : List HItem} {pr st : List Int} {cash : Int} {tb : List HTab} (hL : HouseL it pr st tb) : Ret (spec_l20HouseDeedsS b p it pr st cash tb) (fun r => r.2.length ≤ 14) := by
  unfold spec_l20HouseDeedsS
  refine Ret.bind (pick_ret hb h0 (by omega)) (fun r hr => ?_)
  have h14 := hr.2.2 (by omega)
  refine Ret.loopb (fun s => 0 ≤ s.2.1 ∧ s.2.1 ≤ 14 ∧ (s.1.length : Int) + s.2.1 ≤ 14 ∧ p + 1 ≤ s.2.2.1 ∧ s.2.2.1 ≤ p + 1 + 10 * (14 - s.2.1) ∧ HouseL s.2.2.2.1 s.2.2.2.2.1 s.2.2.2.2.2.1 s.2.2.2.2.2.2.2) (fun s => s.2.1.toNat) (fun o => o.1.length ≤ 14) ⟨hr.2.1, by show r.2 ≤ 14; omega, by show ((0 : Nat) : Int) + r.2 ≤ 14; omega, by show p + 1 ≤ r.1; omega, by show r.1 ≤ p + 1 + 10 * (14 - r.2); omega, hL⟩ ?_ (fun o ho => ?_)
  · rintro ⟨out, k, q, it, pr, st, cash, tb⟩ ⟨d1, d2, d3, d4, d5, d6⟩
    dsimp only at d1 d2 d3 d4 d5 d6 ⊢
    refine Ret.ite (fun h => ?_) (fun h => Ret.pure (by show out.length ≤ 14; omega))
    have hk := of_decide_eq_true h
    refine Ret.bind (deed_ret hb (by omega) (by omega) it pr st cash tb) (fun r7 hr7 => ?_)
    have hDL := doZ_L (cash := cash) d6 r7.2.1 r7.2.2.1 r7.2.2.2.1 r7.2.2.2.2
    rw [specDo_eq d6, Option.bind_some, wr (x := k - 1) ⟨by omega, by omega⟩]
    refine Ret.bind (Q := fun h : HH => HouseL h.1 h.2.1 h.2.2.1 h.2.2.2.2) ?_ (fun h hh => ?_)
    · exact Ret.ite (fun _ => Ret.pure hDL) (fun _ => Ret.pure d6)
    · obtain ⟨it2, pr2, st2, c2, tb2⟩ := h
      dsimp only
      rw [appO_le (by simp; omega), Option.bind_some]
      exact Ret.pure ⟨⟨by show 0 ≤ k - 1; omega, by show k - 1 ≤ 14; omega, by simp; omega, by have := hr7.1; show p + 1 ≤ r7.1; omega, by have := hr7.2; show r7.1 ≤ p + 1 + 10 * (14 - (k - 1)); omega, hh⟩, by show (k - 1).toNat < k.toNat; omega⟩
  · obtain ⟨out, q, it, pr, st, cash, tb⟩ := o
    exact Ret.pure ho
theorem subP_bound {c : Int} (hc : 1 ≤ c ∧ c ≤ 50) : ∀ (ps : List (Int × Int)) (l : List Int) (B : Int), 0 ≤ B → (∀ p ∈ ps, 1 ≤ p.2 ∧ p.2 ≤ 6) → (∀ x ∈ l, -B ≤ x ∧ x ≤ B) → ∀ x ∈ subP c ps l, -(B + 300 * ps.length) ≤ x ∧ x ≤ B + 300 * ps.length
  | [], l, B, h0, hp, h => fun x hx => by have := h x hx; simp; omega
  | p :: ps, l, B, h0, hp, h => fun x hx => by
    have h1 : ∀ x ∈ l.set p.1.toNat (l.getD p.1.toNat 0 - c * p.2), -(B + 300) ≤ x ∧ x ≤ B + 300 := by
      intro y hy
      rcases List.mem_or_eq_of_mem_set hy with hy | rfl
      · have := h y hy; omega
      · have hm := hp p (by simp)
        have h2 : 0 ≤ c * p.2 := Int.mul_nonneg (by omega) (by omega)
        have h3 : c * p.2 ≤ 50 * 6 := Int.mul_le_mul hc.2 hm.2 (by omega) (by omega)
        have h4 : -B ≤ l.getD p.1.toNat 0 ∧ l.getD p.1.toNat 0 ≤ B := by
          by_cases hlt : p.1.toNat < l.length
          · rw [getD_lt hlt]; exact h _ (List.getElem_mem hlt)
          · rw [List.getD_eq_getElem?_getD, List.getElem?_eq_none (by omega)]; simp; omega
        omega
    have := subP_bound hc ps _ (B + 300) (by omega) (fun q hq => hp q (by simp [hq])) h1 x hx
    simp only [List.length_cons]
    omega
theorem items_part {it : List HItem} (hI : itemsB it = true) {k : Nat} (hk : k < it.length) : (0 ≤ it[k].1 ∧ it[k].1 ≤ 6) ∧ it[k].2.1.length ≤ 3 ∧ ∀ x ∈ it[k].2.1, 1 ≤ x.2 ∧ x.2 ≤ 6 := by
  have h1 := itemsB_at hI hk
  unfold itemB at h1
  simp only [Bool.and_eq_true, decide_eq_true_eq] at h1
  refine ⟨h1.1.1.1.1, by have := h1.1.1.1.2; omega, fun x hx => ?_⟩
  obtain ⟨j, hj, rfl⟩ := List.mem_iff_getElem.1 hx
  exact (partP_true.1 (allI_true.1 h1.2 j hj)).2.1
theorem stepZ_same {h : HH} (hv : hB h = true) (d : HDeed) : (stepZ h d).1.1 = h.1 ∧ (stepZ h d).1.2.1 = h.2.1 := by
  obtain ⟨it, pr, st, cash, tb⟩ := h
  rcases doZ_case (show houseB it pr st cash tb = true from hv) d.1 d.2.1 d.2.2.1 d.2.2.2 with hz | ⟨e, he, hB, hz⟩ <;>
  · show (doZ it pr st cash tb d.1 d.2.1 d.2.2.1 d.2.2.2).1.1 = it ∧ (doZ it pr st cash tb d.1 d.2.1 d.2.2.1 d.2.2.2).1.2.1 = pr
    rw [hz]
    exact ⟨rfl, rfl⟩
theorem goZ_same {h : HH} (hL : HL h) (hv : hB h = true) (xs : List HDeed) : ∀ k, k ≤ xs.length → (goZ (xs.take k) h).1.1 = h.1 ∧ (goZ (xs.take k) h).1.2.1 = h.2.1
  | 0, _ => ⟨rfl, rfl⟩
  | k + 1, hk => by
    have ih := goZ_same hL hv xs k (by omega)
    rw [goZ_succ xs h (by omega)]
    have h2 := stepZ_same (goZ_all hL hv (xs.take k)).2.1 xs[k]
    exact ⟨h2.1.trans ih.1, h2.2.trans ih.2⟩
theorem goR_in {h : HH} (hv : hB h = true) (xs : List HDeed) : goR h xs = ((goZ xs h).1, ((goZ xs h).2 : Int)) := by unfold goR; rw [if_pos hv]
set_option maxHeartbeats 1000000 in
theorem pl_FnHouseRun (x : List Int) (hw : ∀ n ∈ x, InK .u8 n) : laws_FnHouseRunS x = some true := by
  unfold laws_FnHouseRunS
  by_cases hl : (x.length : Int) > 1048576
  · rw [if_pos (by simp; omega)]
  rw [if_neg (by simp; omega)]
  obtain ⟨⟨h, xs⟩, hd, hs, hxs⟩ : ∃ r : HH × List HDeed, spec_DrawHouseRunS x = some r ∧ SmallH 100 r.1 ∧ r.2.length ≤ 14 := by
    unfold spec_DrawHouseRunS
    refine Ret.bind (open_spec x (u8_of hw)) (fun r hr => ?_)
    refine Ret.bind (house_ret hr.1 (by omega) (by omega)) (fun h hh => ?_)
    exact Ret.bind (deedsR_ret hr.1 (by omega) (by omega) hh.2.2.1) (fun e he => Ret.pure ⟨hh.2.2, he⟩)
  obtain ⟨it, pr, st, cash, tb⟩ := h
  obtain ⟨hL, -⟩ := hs
  replace hL : HL (it, pr, st, cash, tb) := hL
  replace hxs : xs.length ≤ 14 := hxs
  have hR := goR_L hL xs
  rw [hd, Option.bind_some]
  dsimp only
  have e1 := implRun_eq hL xs (by omega)
  have e2 := specRun_eq hL xs (by omega)
  dsimp only at e1 e2
  rw [e1, Option.bind_some, e2, Option.bind_some, same_me hR, Option.bind_some, if_neg (by simp)]
  rw [specHouse_eq cash hL, Option.bind_some]
  by_cases hv : houseB it pr st cash tb = true
  · have hv' : hB (it, pr, st, cash, tb) = true := hv
    have hI := houseB_items hv
    obtain ⟨hsl, hsr⟩ := houseB_stock hv
    have hil := itemsB_len hI
    rw [if_neg (by rw [hv]; simp), appO_le (by simp; omega), List.nil_append, Option.bind_some]
    have hall := fun k => goZ_all hL hv' (xs.take k)
    rw [loopDet (s := ((0 : Int), it, pr, st, cash, tb, st)) (fun k => ((k : Int), (goZ (xs.take k) (it, pr, st, cash, tb)).1.1, (goZ (xs.take k) (it, pr, st, cash, tb)).1.2.1, (goZ (xs.take k) (it, pr, st, cash, tb)).1.2.2.1, (goZ (xs.take k) (it, pr, st, cash, tb)).1.2.2.2.1, (goZ (xs.take k) (it, pr, st, cash, tb)).1.2.2.2.2, (goZ (xs.take k) (it, pr, st, cash, tb)).1.2.2.1)) xs.length
      (.inl ((goZ xs (it, pr, st, cash, tb)).1.1, (goZ xs (it, pr, st, cash, tb)).1.2.1, (goZ xs (it, pr, st, cash, tb)).1.2.2.1, (goZ xs (it, pr, st, cash, tb)).1.2.2.2.1, (goZ xs (it, pr, st, cash, tb)).1.2.2.2.2, (goZ xs (it, pr, st, cash, tb)).1.2.2.1)) rfl]
    · rw [Option.bind_some]
      (try dsimp only)
      have hh : IntKind.wrap .i64 (Int.tdiv (xs.length : Int) 2) = ((xs.length / 2 : Nat) : Int) := by
        rw [show Int.tdiv (xs.length : Int) 2 = ((xs.length / 2 : Nat) : Int) from by rw [Int.tdiv_eq_ediv_of_nonneg (by omega)]; rfl]
        exact wr ⟨by omega, by omega⟩
      have hs1 : subO xs 0 ((xs.length / 2 : Nat) : Int) = some (xs.take (xs.length / 2)) := by
        unfold subO
        rw [if_pos (by simp; omega)]; rfl
      have hs2 : subO xs ((xs.length / 2 : Nat) : Int) (xs.length : Int) = some (xs.drop (xs.length / 2)) := by
        unfold subO
        rw [if_pos (by simp; omega)]
        show some ((xs.take xs.length).drop (xs.length / 2)) = _
        rw [List.take_of_length_le (Nat.le_refl _)]
      have ha := goZ_all hL hv' (xs.take (xs.length / 2))
      have e3 := implRun_eq hL (xs.take (xs.length / 2)) (by simp; omega)
      have e4 := implRun_eq ha.1 (xs.drop (xs.length / 2)) (by simp; omega)
      rw [goR_in hv'] at e3
      rw [goR_in ha.2.1] at e4
      have happ := goZ_app (xs.take (xs.length / 2)) (xs.drop (xs.length / 2)) (it, pr, st, cash, tb)
      rw [List.take_append_drop] at happ
      have hn := (goZ_all hL hv' xs).2.2
      have hV := (goZ_all hL hv' xs).2.1
      have hLx := (goZ_all hL hv' xs).1
      dsimp only at e3
      rw [hh, hs1, Option.bind_some, e3, Option.bind_some, hs2, Option.bind_some]
      dsimp only
      rw [e4, Option.bind_some, goR_in hv' xs]
      dsimp only
      rw [implHouse_eq _ hLx, Option.bind_some, show houseB _ _ _ _ _ = true from hV, if_pos rfl]
      have hx1 : (goZ (xs.drop (xs.length / 2)) (goZ (xs.take (xs.length / 2)) (it, pr, st, cash, tb)).1).1 = (goZ xs (it, pr, st, cash, tb)).1 := by rw [happ]
      have hx2 : ((goZ (xs.take (xs.length / 2)) (it, pr, st, cash, tb)).2 : Int) + ((goZ (xs.drop (xs.length / 2)) (goZ (xs.take (xs.length / 2)) (it, pr, st, cash, tb)).1).2 : Int) = ((goZ xs (it, pr, st, cash, tb)).2 : Int) := by rw [happ]; exact (Int.natCast_add _ _).symm
      rw [hx1, hx2, wr (x := ((goZ xs (it, pr, st, cash, tb)).2 : Int)) ⟨by omega, by omega⟩, same_me hLx, Option.bind_some, Option.bind_some, if_pos rfl, Option.bind_some, if_pos (by simp), sameInts_eq _ _ (by have := hLx.2.2.1; omega)]
      simp
    · intro k hk
      have hG := goZ_same hL hv' xs k (by omega)
      have hS : (goZ (xs.take (k + 1)) (it, pr, st, cash, tb)).1 = (stepZ (goZ (xs.take k) (it, pr, st, cash, tb)).1 xs[k]).1 := by rw [goZ_succ xs _ hk]; rfl
      have hk1 := hall k
      (try dsimp only)
      rw [hS]
      generalize (goZ (xs.take k) (it, pr, st, cash, tb)) = g0 at hG hk1 ⊢
      obtain ⟨⟨it', pr', st', cash', tb'⟩, n0⟩ := g0
      obtain ⟨h1, h2⟩ := hG
      dsimp only at h1 h2 hk1 ⊢
      subst h1; subst h2
      have hL2 : HouseL it' pr' st' tb' := hk1.1
      have hv2 : houseB it' pr' st' cash' tb' = true := hk1.2.1
      rw [if_pos (lt_dec hk), geti_lt' hk]
      rcases hd : xs[k] with ⟨a, b, c, dd⟩
      have hstep : stepZ (it', pr', st', cash', tb') (a, b, c, dd) = doZ it' pr' st' cash' tb' a b c dd := rfl
      rw [hstep]
      have hj : (if (a == 3) = true then (some c) else (some b) : Option Int) = some (if a = 3 then c else b) := by
        by_cases h : a = 3 <;> simp [h]
      simp only [Option.bind_some]
      rw [implDo_eq hL2, Option.bind_some, wr_succ (n := xs.length) (by omega) hk]
      rcases doZ_case hv2 a b c dd with hz | ⟨e, he, hB, hz⟩
      · rw [hz]
        simp only [Bool.false_eq_true, if_false, Option.bind_some, Bool.false_and]
        rw [hj]; rfl
      · obtain ⟨q1, q2, q3, q4, q5⟩ := eff_stock hL2 hv2 he
        obtain ⟨hsl', hsr'⟩ := houseB_stock hv2
        rw [hz]
        simp only [if_true, Option.bind_some]
        rw [hj, Option.bind_some]
        obtain ⟨hel, her⟩ := houseB_stock hB
        unfold stockOf at q1
        rcases q4 with rfl | rfl | rfl | rfl | rfl | rfl
        · obtain ⟨i, rfl, hi⟩ := in_nat (q2 (by omega))
          have his : i < st'.length := by omega
          rw [if_pos rfl, show ((i : Int)).toNat = i from rfl, getD_lt his] at q1
          have hin : st'[i] + c ∈ e.1 := by
            rw [q1]
            exact List.mem_iff_getElem.2 ⟨i, by simpa using his, by simp⟩
          have hr := her _ hin
          simp only [Int.reduceLE, Int.reduceBEq, Int.reduceEq, decide_true, decide_false, if_true, if_false, Option.bind_some, Bool.true_and, Bool.false_and, Bool.false_eq_true, reduceIte]
          rw [if_neg (by simp <;> omega), geti_lt' his, Option.bind_some, Option.bind_some, Option.bind_some, q1, wr ⟨by omega, by omega⟩]; rfl
        · obtain ⟨i, rfl, hi⟩ := in_nat (q2 (by omega))
          have his : i < st'.length := by omega
          obtain ⟨hy, hpl, hpm⟩ := items_part hI hi
          have hpi := itemsB_part hI hi
          have hc := q5 rfl
          rw [if_neg (by omega), if_pos rfl, show ((i : Int)).toNat = i from rfl, List.getElem?_eq_getElem hi] at q1
          dsimp only at q1
          have hsi := hsr' _ (List.getElem_mem his)
          have h2 : 0 ≤ c * it'[i].1 := Int.mul_nonneg (by omega) (by omega)
          have h3 : c * it'[i].1 ≤ 50 * 6 := Int.mul_le_mul hc.2 hy.2 (by omega) (by omega)
          simp only [Int.reduceLE, Int.reduceBEq, Int.reduceEq, decide_true, decide_false, if_true, if_false, Option.bind_some, Bool.true_and, Bool.false_and, Bool.false_eq_true, reduceIte]
          rw [if_neg (by simp <;> omega), geti_lt' his, geti_lt' hi]
          simp only [Option.bind_some]
          rw [wr (x := c * it'[i].1) ⟨by omega, by omega⟩, wr (x := st'[i] + c * it'[i].1) ⟨by omega, by omega⟩, show ((i : Int)).toNat = i from rfl]
          have hl0 : (st'.set i (st'[i] + c * it'[i].1)).length = it'.length := by rw [List.length_set]; exact hsl'
          have hr0 : ∀ x ∈ st'.set i (st'[i] + c * it'[i].1), -1000 ≤ x ∧ x ≤ 1000 := by
            intro y hy'
            rcases List.mem_or_eq_of_mem_set hy' with hy' | rfl
            · have := hsr' y hy'; omega
            · omega
          rw [getD_lt his] at q1
          generalize st'.set i (st'[i] + c * it'[i].1) = l at hl0 hr0 q1 ⊢
          rw [loopDet (s := ((0 : Int), l)) (fun j => ((j : Int), subP c (it'[i].2.1.take j) l)) it'[i].2.1.length (subP c it'[i].2.1 l) rfl]
          · rw [q1]; rfl
          · intro j hj
            have hp := List.getElem_mem hj
            have h0 := hpi _ hp
            have hm := hpm _ hp
            have hlt : it'[i].2.1[j].1.toNat < (subP c (it'[i].2.1.take j) l).length := by rw [subP_len, hl0]; omega
            have hb := subP_bound hc (it'[i].2.1.take j) l 1000 (by omega) (fun p hp => hpm p (List.mem_of_mem_take hp)) hr0 _ (List.getElem_mem hlt)
            have hjl : ((it'[i].2.1.take j).length : Int) ≤ 3 := by simp; omega
            have h2 : 0 ≤ c * it'[i].2.1[j].2 := Int.mul_nonneg (by omega) (by omega)
            have h3 : c * it'[i].2.1[j].2 ≤ 50 * 6 := Int.mul_le_mul hc.2 hm.2 (by omega) (by omega)
            have hq : geti (subP c (it'[i].2.1.take j) l) it'[i].2.1[j].1 = some (subP c (it'[i].2.1.take j) l)[it'[i].2.1[j].1.toNat] := by
              have := geti_lt' hlt
              rwa [show ((it'[i].2.1[j].1.toNat : Nat) : Int) = it'[i].2.1[j].1 by omega] at this
            (try dsimp only)
            rw [if_pos (lt_dec hj), geti_lt' hj, Option.bind_some, hq, Option.bind_some, Option.bind_some, wr_succ (n := it'[i].2.1.length) (by omega) hj, wr (x := c * it'[i].2.1[j].2) ⟨by omega, by omega⟩, wr (x := _ - c * it'[i].2.1[j].2) ⟨by omega, by omega⟩, subP_snoc c _ hj, getD_lt hlt]
          · (try dsimp only)
            rw [if_neg (by simp), List.take_of_length_le (Nat.le_refl _)]
        · simp only [Int.reduceLE, Int.reduceBEq, Int.reduceEq, decide_true, decide_false, if_true, if_false, Option.bind_some, Bool.true_and, Bool.false_and, Bool.false_eq_true, reduceIte]
          rw [if_neg (by omega), if_neg (by omega), if_neg (by omega)] at q1
          rw [q1]
        · obtain ⟨i, rfl, hi⟩ := in_nat (q3 rfl)
          have his : i < st'.length := by omega
          have hsi := hsr' _ (List.getElem_mem his)
          rw [if_neg (by omega), if_neg (by omega), if_pos rfl, show ((i : Int)).toNat = i from rfl, getD_lt his] at q1
          simp only [Int.reduceLE, Int.reduceBEq, Int.reduceEq, decide_true, decide_false, if_true, if_false, Option.bind_some, Bool.true_and, Bool.false_and, Bool.false_eq_true, reduceIte]
          rw [if_neg (by simp <;> omega), geti_lt' his, Option.bind_some, Option.bind_some, Option.bind_some, wr ⟨by omega, by omega⟩, q1]; rfl
        · simp only [Int.reduceLE, Int.reduceBEq, Int.reduceEq, decide_true, decide_false, if_true, if_false, Option.bind_some, Bool.true_and, Bool.false_and, Bool.false_eq_true, reduceIte]
          rw [if_neg (by omega), if_neg (by omega), if_neg (by omega)] at q1
          rw [q1]
        · simp only [Int.reduceLE, Int.reduceBEq, Int.reduceEq, decide_true, decide_false, if_true, if_false, Option.bind_some, Bool.true_and, Bool.false_and, Bool.false_eq_true, reduceIte]
          rw [if_neg (by omega), if_neg (by omega), if_neg (by omega)] at q1
          rw [q1]
    · (try dsimp only)
      rw [if_neg (by simp), List.take_of_length_le (Nat.le_refl _)]
  · have hv' : ¬ hB (it, pr, st, cash, tb) = true := hv
    have hg : goR (it, pr, st, cash, tb) xs = (([], [], [], 0, []), 0) := by unfold goR; rw [if_neg hv']
    rw [Bool.not_eq_true] at hv
    rw [hg, hv]
    have h0 : HouseL [] [] [] [] := ⟨⟨by simp, fun x hx => by cases hx⟩, by simp, by simp, by simp, fun x hx => by cases hx⟩
    rw [if_pos (by simp), if_pos (by simp)]
    unfold laws_noHouseS
    rw [same_me h0]; rfl
end Go.Proofs.YtpabogkcmbkffaaGreatDoor
